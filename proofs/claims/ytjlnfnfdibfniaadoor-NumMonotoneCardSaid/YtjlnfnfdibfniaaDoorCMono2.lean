/- Words and walked functions of the proof (part 2). -/
import Derived.Test.YtjlnfnfdibfniaaDoorCMono1
import Derived.Laws.Bits64
import Derived.Laws.BitsLemmas
import Ieee.Arith
import GoSem.Core.Float
import Derived.Below
import Derived.Laws.Strings
-- Written by a program of this session (wip/vprint.py): Lean checks it.
namespace Go.Proofs.YtjlnfnfdibfniaaDoor.F
open Go.RowKit Go.Proofs.YtjlnfnfdibfniaaDoorW.PrintWords Go.Proofs.YtjlnfnfdibfniaaDoorW.PrintLast Go.Proofs.YtjlnfnfdibfniaaDoorW.PrintMore
attribute [local go_sem] max2_int min2_int max_two min_two max_three min_three max_four min_four   -- for this text's walks alone
set_option linter.unusedVariables false
set_option linter.unusedSimpArgs false

/-! ### num_nat_plus: function 48 -/
mutual
def num_nat_plus.l0 : Nat → List Int → List Int → List Int → Int → List Int → Int → Int → Option (List Int)
 | 0, _, _, _, _, _, _, _ => none
 | k + 1, x0, x1, x5, x6, x20, x21, x22 => if x22 < x21 then (if 0 ≤ x22 then (if x22 < (x20.length : Int) then (if x22 < (x1.length : Int) then (if x22 < (x5.length : Int) then (num_nat_plus.l0 k x0 x1 (x5.set (x22 : Int).toNat ((IntKind.u64.wrap ((IntKind.u64.wrap (x6 + (IntKind.u64.wrap (rd x20 x22)))) + (IntKind.u64.wrap (rd x1 x22)))) % 4294967296)) ((IntKind.u64.wrap ((IntKind.u64.wrap (x6 + (IntKind.u64.wrap (rd x20 x22)))) + (IntKind.u64.wrap (rd x1 x22)))) / 4294967296) x20 x21 (wrap64 (x22 + 1))) else (none)) else (if x22 < (x5.length : Int) then (num_nat_plus.l0 k x0 x1 (x5.set (x22 : Int).toNat ((IntKind.u64.wrap (x6 + (IntKind.u64.wrap (rd x20 x22)))) % 4294967296)) ((IntKind.u64.wrap (x6 + (IntKind.u64.wrap (rd x20 x22)))) / 4294967296) x20 x21 (wrap64 (x22 + 1))) else (none))) else (none)) else (none)) else (if 0 ≤ (x0.length : Int) then (if (x0.length : Int) < (x5.length : Int) then ((num_nat_trim.f k (x5.set ((x0.length : Int) : Int).toNat ((x6) % 4294967296))).bind fun t152 => (some t152)) else (none)) else (none))
def num_nat_plus.l101 : Nat → List Int → List Int → List Int → Int → List Int → Int → Int → Option (List Int)
 | 0, _, _, _, _, _, _, _ => none
 | k + 1, x0, x1, x5, x6, x20, x21, x22 => if x22 < x21 then (if 0 ≤ x22 then (if x22 < (x20.length : Int) then (if x22 < (x1.length : Int) then (if x22 < (x5.length : Int) then (num_nat_plus.l101 k x0 x1 (x5.set (x22 : Int).toNat ((IntKind.u64.wrap ((IntKind.u64.wrap (x6 + (IntKind.u64.wrap (rd x20 x22)))) + (IntKind.u64.wrap (rd x1 x22)))) % 4294967296)) ((IntKind.u64.wrap ((IntKind.u64.wrap (x6 + (IntKind.u64.wrap (rd x20 x22)))) + (IntKind.u64.wrap (rd x1 x22)))) / 4294967296) x20 x21 (wrap64 (x22 + 1))) else (none)) else (if x22 < (x5.length : Int) then (num_nat_plus.l101 k x0 x1 (x5.set (x22 : Int).toNat ((IntKind.u64.wrap (x6 + (IntKind.u64.wrap (rd x20 x22)))) % 4294967296)) ((IntKind.u64.wrap (x6 + (IntKind.u64.wrap (rd x20 x22)))) / 4294967296) x20 x21 (wrap64 (x22 + 1))) else (none))) else (none)) else (none)) else (if 0 ≤ (x0.length : Int) then (if (x0.length : Int) < (x5.length : Int) then ((num_nat_trim.f k (x5.set ((x0.length : Int) : Int).toNat ((x6) % 4294967296))).bind fun t163 => (some t163)) else (none)) else (none))
end
def num_nat_plus.f (k : Nat) (l0 : List Int) (l1 : List Int) : Option (List Int) := if (l0.length : Int) < (l1.length : Int) then (if 0 ≤ (wrap64 ((l1.length : Int) + 1)) then (if (wrap64 ((l1.length : Int) + 1) : Int).toNat ≤ 70368744177664 then (num_nat_plus.l0 k l1 l0 (List.replicate (wrap64 ((l1.length : Int) + 1) : Int).toNat 0) 0 l1 (l1.length : Int) 0) else (none)) else (none)) else (if 0 ≤ (wrap64 ((l0.length : Int) + 1)) then (if (wrap64 ((l0.length : Int) + 1) : Int).toNat ≤ 70368744177664 then (num_nat_plus.l101 k l0 l1 (List.replicate (wrap64 ((l0.length : Int) + 1) : Int).toNat 0) 0 l0 (l0.length : Int) 0) else (none)) else (none))
theorem num_nat_plus.mono_l : ∀ k, (∀ y0 y1 y2 y3 y4 y5 y6, LeO (num_nat_plus.l0 k y0 y1 y2 y3 y4 y5 y6) (num_nat_plus.l0 (k + 1) y0 y1 y2 y3 y4 y5 y6)) ∧ (∀ y0 y1 y2 y3 y4 y5 y6, LeO (num_nat_plus.l101 k y0 y1 y2 y3 y4 y5 y6) (num_nat_plus.l101 (k + 1) y0 y1 y2 y3 y4 y5 y6))
 | 0 => ⟨fun _ _ _ _ _ _ _ r h => by simp [num_nat_plus.l0] at h, fun _ _ _ _ _ _ _ r h => by simp [num_nat_plus.l101] at h⟩
 | k + 1 => by
  obtain ⟨ih0, ih1⟩ := num_nat_plus.mono_l k
  refine ⟨?_, ?_⟩
  ·
   intro y0 y1 y2 y3 y4 y5 y6
   unfold num_nat_plus.l0
   repeat' first | (with_reducible exact ih0 _ _ _ _ _ _ _) | (with_reducible exact ih1 _ _ _ _ _ _ _) | (with_reducible exact num_nat_trim.mono _ _) | (with_reducible exact LeO.refl _) | (with_reducible exact LeO.none _) | (with_reducible refine LeO.ite ?_ ?_) | (with_reducible refine LeO.bind ?_ (fun _ => ?_))
  ·
   intro y0 y1 y2 y3 y4 y5 y6
   unfold num_nat_plus.l101
   repeat' first | (with_reducible exact ih0 _ _ _ _ _ _ _) | (with_reducible exact ih1 _ _ _ _ _ _ _) | (with_reducible exact num_nat_trim.mono _ _) | (with_reducible exact LeO.refl _) | (with_reducible exact LeO.none _) | (with_reducible refine LeO.ite ?_ ?_) | (with_reducible refine LeO.bind ?_ (fun _ => ?_))
theorem num_nat_plus.mono : ∀ a0 a1 k, LeO (num_nat_plus.f k a0 a1) (num_nat_plus.f (k + 1) a0 a1) := by
 intro a0 a1 k
 obtain ⟨ih0, ih1⟩ := num_nat_plus.mono_l k
 unfold num_nat_plus.f
 repeat' first | (with_reducible exact ih0 _ _ _ _ _ _ _) | (with_reducible exact ih1 _ _ _ _ _ _ _) | (with_reducible exact num_nat_trim.mono _ _) | (with_reducible exact LeO.refl _) | (with_reducible exact LeO.none _) | (with_reducible refine LeO.ite ?_ ?_) | (with_reducible refine LeO.bind ?_ (fun _ => ?_))
set_option maxHeartbeats 8000000 in
set_option maxRecDepth 100000 in
theorem num_nat_plus.calls (k : Nat) (A0 : Option Addr) (c0 : Nat) (l0 : List Int) (A1 : Option Addr) (c1 : Nat) (l1 : List Int) (r : List Int) (w : World) (hr0 : Kd.C (Kd.int .u32) w A0 l0.length l0) (hc0 : l0.length ≤ c0) (hr1 : Kd.C (Kd.int .u32) w A1 l1.length l1) (hc1 : l1.length ≤ c1) (h : num_nat_plus.f k l0 l1 = some r) :
  Calls Tryd.prog 48 #[.slice A0 l0.length c0, .slice A1 l1.length c1] w fun e w' => ∃ v0_ : Value, e = .returned (v0_) ∧ Kd.V (Kd.int .u32) 102 w' w.heap.size (fun k_ => (w.heap.size ≤ k_)) v0_ r ∧ Below w.heap.size w w' := by
 have HR0 := Aside0.mk hr0
 have HC0 := Aside0.mk hc0
 clear hr0 hc0
 have HR1 := Aside0.mk hr1
 have HC1 := Aside0.mk hc1
 clear hr1 hc1
 have HB := Aside0.mk (Below.refl w.heap.size w)
 have H : (if (l0.length : Int) < (l1.length : Int) then (if 0 ≤ (wrap64 ((l1.length : Int) + 1)) then (if (wrap64 ((l1.length : Int) + 1) : Int).toNat ≤ 70368744177664 then (num_nat_plus.l0 k l1 l0 (List.replicate (wrap64 ((l1.length : Int) + 1) : Int).toNat 0) 0 l1 (l1.length : Int) 0) else (none)) else (none)) else (if 0 ≤ (wrap64 ((l0.length : Int) + 1)) then (if (wrap64 ((l0.length : Int) + 1) : Int).toNat ≤ 70368744177664 then (num_nat_plus.l101 k l0 l1 (List.replicate (wrap64 ((l0.length : Int) + 1) : Int).toNat 0) 0 l0 (l0.length : Int) 0) else (none)) else (none))) = some r := h
 clear h
 by_cases c3 : (l0.length : Int) < (l1.length : Int)
 ·
  rw [if_pos c3] at H
  have c3b0 : decide ((l0.length : Int) < (l1.length : Int)) = true := decide_eq_true c3
  have c3b1 : decide (l0.length < l1.length) = true := decide_eq_true (Int.ofNat_lt.mp c3)
  clear c3
  obtain ⟨ji4, hji4⟩ : ∃ j_ : Int, (wrap64 ((l1.length : Int) + 1)) = j_ := ⟨_, rfl⟩
  replace H : (if 0 ≤ (ji4) then (if (ji4 : Int).toNat ≤ 70368744177664 then (num_nat_plus.l0 k l1 l0 (List.replicate (ji4 : Int).toNat 0) 0 l1 (l1.length : Int) 0) else (none)) else (none)) = some r := by first | (rw [hji4] at H; exact H) | (simp only [hji4] at H ⊢; exact H)
  have hji4w : (IntKind.i64.wrap ((l1.length : Int) + 1)) = ji4 := (i64_w _).trans hji4
  by_cases c5 : 0 ≤ (ji4)
  ·
   rw [if_pos c5] at H
   have c5b0 := eq_true c5
   have c5b1 : decide (0 ≤ (ji4)) = true := decide_eq_true c5
   clear c5
   by_cases c6 : (ji4 : Int).toNat ≤ 70368744177664
   ·
    rw [if_pos c6] at H
    have c6b0 := eq_true c6
    have c6b1 : decide ((ji4 : Int).toNat ≤ 70368744177664) = true := decide_eq_true c6
    clear c6
    obtain ⟨y144, hy144⟩ : ∃ y_ : List Int, y_ = (List.replicate (ji4 : Int).toNat 0) := ⟨_, rfl⟩
    replace H : (num_nat_plus.l0 k l1 l0 y144 0 l1 (l1.length : Int) 0) = some r := by first | (rw [hy144]; with_reducible exact H) | (have H2_ := (Option.bind_some _ _).symm.trans H; rw [hy144]; with_reducible exact H2_) | (have H2_ := (Option.bind_some _ _).symm.trans H; with_reducible exact H2_) | with_reducible exact H | (rw [hy144]; exact H) | exact H
    have Ny144 := Aside0.mk hy144
    clear hy144
    have H' := Aside0.mk H
    clear H
    go_enter Tryd.func48, Tryd.ntmps48
    go_wp2_with (first | ((with_reducible refine gate_dst (N := 19) rfl ?_); refine Kd.R_make (Kd.int .u32) _ 102 rfl (N := 19) rfl 56 _ _ rfl ji4 rfl rfl Tryd.underlying56 (.int .u32 0) 4 info102 rfl (by decide) (by omega) 0 (ok := fun _ => True) (okp := fun _ => True) rfl (fun _ hk => hk) trivial (of_decide_eq_true (by first | (with_reducible assumption) | assumption)) (Nat.le_trans (Nat.mul_le_mul_right _ (of_decide_eq_true (by first | (with_reducible assumption) | assumption) : ji4.toNat ≤ 70368744177664)) (by omega)) (Below.refl _ _) (Nat.le_refl _) ?_; intro v145 w7 ho8 hb hg_ hnew_; clear hg_ hnew_; (first | rw [← Ny144.out] at ho8 | (simp only [Int.reduceToNat] at ho8; rw [← Ny144.out] at ho8)); have HO146 := Aside0.mk (Kd.R_lower (Kd.R_newM (M := fun k_ => (w.heap.size ≤ k_)) ho8 (below_size (lk HB)) (fun k_ h_ => h_)) (below_size (lk HB))); replace HB := lb HB hb; clear hb ho8))
    go_loopg [6, 22] k (fun kq v6 v22 w' => ∃ (x5_1 : List Int) (x6_1 : Int) (x22_1 : Int), v6 = .int .u64 x6_1 ∧ v22 = .int .i64 x22_1 ∧ Aside0 (num_nat_plus.l0 kq l1 l0 x5_1 x6_1 l1 (l1.length : Int) x22_1 = some r) ∧ Aside0 (kq ≤ k) ∧ Aside0 (Kd.R (Kd.int .u32) 102 w' w.heap.size (fun k_ => (w.heap.size ≤ k_)) v145 x5_1) ∧ Aside0 (Below w.heap.size w w'))
    case atStart => exact ⟨(y144), (0), (0), (by first | rfl | (simp; done) | (simp [*]; done)), (by first | rfl | (simp; done) | (simp [*]; done)), H', ⟨Nat.le_refl _⟩, ⟨by (with_reducible repeat (first | apply Kd.R_alloc | apply Kd.R_drewN | apply Kd.R_drew)); exact Kd.R_mono HO146.out (fun _ hk => hk.1)⟩, ⟨lk HB⟩⟩
    case round =>
     clear H'
     try clear c1
     try clear p2
     try clear c3
     try clear c3b0
     try clear c3b1
     try clear c4
     try clear c5
     try clear c5b0
     try clear c5b1
     try clear c6
     try clear c6b0
     try clear c6b1
     try clear p6
     obtain ⟨x5_1, x6_1, x22_1, rfl, rfl, HA, HK1, HO_5, HB⟩ := hrel
     cases gk with
     | zero => exact absurd HA.out (by simp [num_nat_plus.l0])
     | succ k1 =>
      have H := HA.out
      clear HA
      simp only [num_nat_plus.l0] at H
      by_cases c9 : x22_1 < (l1.length : Int)
      ·
       rw [if_pos c9] at H
       have c9b0 : decide (x22_1 < (l1.length : Int)) = true := decide_eq_true c9
       clear c9
       by_cases c10 : 0 ≤ x22_1
       ·
        rw [if_pos c10] at H
        have c10b0 : decide (0 ≤ x22_1) = true := decide_eq_true c10
        clear c10
        by_cases c11 : x22_1 < (l1.length : Int)
        ·
         rw [if_pos c11] at H
         have c11b0 : decide (x22_1 < (l1.length : Int)) = true := decide_eq_true c11
         clear c11
         by_cases c12 : x22_1 < (l0.length : Int)
         ·
          rw [if_pos c12] at H
          have c12b0 : decide (x22_1 < (l0.length : Int)) = true := decide_eq_true c12
          clear c12
          by_cases c13 : x22_1 < (x5_1.length : Int)
          ·
           rw [if_pos c13] at H
           have c13b0 : decide (x22_1 < (x5_1.length : Int)) = true := decide_eq_true c13
           clear c13
           obtain ⟨y149, hy149⟩ : ∃ y_ : List Int, y_ = (x5_1.set (x22_1 : Int).toNat ((IntKind.u64.wrap ((IntKind.u64.wrap (x6_1 + (IntKind.u64.wrap (rd l1 x22_1)))) + (IntKind.u64.wrap (rd l0 x22_1)))) % 4294967296)) := ⟨_, rfl⟩
           replace H : (num_nat_plus.l0 k1 l1 l0 y149 ((IntKind.u64.wrap ((IntKind.u64.wrap (x6_1 + (IntKind.u64.wrap (rd l1 x22_1)))) + (IntKind.u64.wrap (rd l0 x22_1)))) / 4294967296) l1 (l1.length : Int) (wrap64 (x22_1 + 1))) = some r := by first | (rw [hy149]; with_reducible exact H) | (have H2_ := (Option.bind_some _ _).symm.trans H; rw [hy149]; with_reducible exact H2_) | (have H2_ := (Option.bind_some _ _).symm.trans H; with_reducible exact H2_) | with_reducible exact H | (rw [hy149]; exact H) | exact H
           have Ny149 := Aside0.mk hy149
           clear hy149
           have H' := Aside0.mk H
           clear H
           have p147 : 0 ≤ (x22_1 : Int) := of_decide_eq_true (by first | (with_reducible assumption) | assumption)
           have q147 : x22_1 < (l1.length : Int) := of_decide_eq_true (by first | (with_reducible assumption) | assumption)
           obtain ⟨ad147, e147, hx147_0⟩ := Kd.at_int HR1.out x22_1 p147 q147
           cases e147
           replace hx147_0 := (HB.out.cell (World.block_lt_of_cell? w _ hx147_0)).trans hx147_0
           replace p147 := eq_true p147
           replace q147 := eq_true q147
           have p148 : 0 ≤ (x22_1 : Int) := of_decide_eq_true (by first | (with_reducible assumption) | assumption)
           have q148 : x22_1 < (l0.length : Int) := of_decide_eq_true (by first | (with_reducible assumption) | assumption)
           obtain ⟨ad148, e148, hx148_0⟩ := Kd.at_int HR0.out x22_1 p148 q148
           cases e148
           replace hx148_0 := (HB.out.cell (World.block_lt_of_cell? w _ hx148_0)).trans hx148_0
           replace p148 := eq_true p148
           replace q148 := eq_true q148
           have p14 : 0 ≤ (x22_1 : Int) := of_decide_eq_true (by first | (with_reducible assumption) | assumption)
           have q14 : (x22_1 : Int) < ((x5_1.length : Int) : Int) := of_decide_eq_true (by first | (with_reducible assumption) | assumption)
           obtain ⟨go14, co14, eo14, gb14, gl14, cl14, HG14⟩ := Kd.R_form HO_5.out (by omega)
           (first | cases eo14 | (injection eo14 with ea_ en_ ec_; (first | subst ea_ | (injection ea_ with ea_; subst ea_)); subst ec_; clear en_))
           have GB14 := Aside0.mk gb14
           have GG14 := Aside0.mk HG14
           clear gb14 gl14 HG14
           obtain ⟨hx14_0, hf14_0⟩ := Kd.R_celln 0 HO_5.out (x22_1 : Int) p14 q14
           replace p14 := eq_true p14
           replace q14 := eq_true q14
           have HP15 := Kd.R_putg HO_5.out (x22_1 : Int) ((IntKind.u64.wrap ((IntKind.u64.wrap (x6_1 + (IntKind.u64.wrap (rd l1 x22_1)))) + (IntKind.u64.wrap (rd l0 x22_1)))) % 4294967296)
           go_wp2_with (first | ((with_reducible refine gate_store (t := 102) (p := 46) rfl ?_); refine store_event (t := 102) (p := 46) (v := ?vo_w16) (w1 := (wr.setCell ⟨go14, (x22_1 : Int).toNat, none⟩ (.int .u32 ((IntKind.u64.wrap ((IntKind.u64.wrap (x6_1 + (IntKind.u64.wrap (rd l1 x22_1)))) + (IntKind.u64.wrap (rd l0 x22_1)))) % 4294967296)))) ?hg ?ho ?hn ?hr ?_; (case ho => rfl); (case hg => rfl); (case hn => rfl); (case hr => first | (go_simp; done) | (go_simp; rfl)); intro w16 hw; have hg : wr.grownBy w16 (some go14) := (by rw [hw]; exact HP15.2); have hp_ : Kd.R (Kd.int .u32) 102 w16 w.heap.size (fun k_ => (w.heap.size ≤ k_)) (.slice (some ⟨go14, 0, none⟩) x5_1.length co14) y149 := (by rw [hw, Ny149.out]; exact HP15.1); clear HP15; replace HO_5 := Aside0.mk (hp_); replace HB := Aside0.mk ((by rw [hw]; exact below_set (HB.out) GB14.out : Below w.heap.size w w16)); clear hg hw hp_))
           go_roundg k1
           case measure => have := HK1.out; omega
           case rel => exact ⟨(y149), ((IntKind.u64.wrap ((IntKind.u64.wrap (x6_1 + (IntKind.u64.wrap (rd l1 x22_1)))) + (IntKind.u64.wrap (rd l0 x22_1)))) / 4294967296), (wrap64 (x22_1 + 1)), (by first | rfl | (simp; done) | (simp [*]; done)), (by first | rfl | (simp; done) | (simp [*]; done)), H', ⟨by have := HK1.out; omega⟩, ⟨by (with_reducible repeat (first | apply Kd.R_alloc | apply Kd.R_drewN | apply Kd.R_drew)); exact HO_5.out⟩, ⟨lk HB⟩⟩
          ·
           rw [if_neg c13] at H
           exact absurd H (by simp)
         ·
          rw [if_neg c12] at H
          have c12b0 : decide (x22_1 < (l0.length : Int)) = false := decide_eq_false c12
          clear c12
          by_cases c17 : x22_1 < (x5_1.length : Int)
          ·
           rw [if_pos c17] at H
           have c17b0 : decide (x22_1 < (x5_1.length : Int)) = true := decide_eq_true c17
           clear c17
           obtain ⟨y150, hy150⟩ : ∃ y_ : List Int, y_ = (x5_1.set (x22_1 : Int).toNat ((IntKind.u64.wrap (x6_1 + (IntKind.u64.wrap (rd l1 x22_1)))) % 4294967296)) := ⟨_, rfl⟩
           replace H : (num_nat_plus.l0 k1 l1 l0 y150 ((IntKind.u64.wrap (x6_1 + (IntKind.u64.wrap (rd l1 x22_1)))) / 4294967296) l1 (l1.length : Int) (wrap64 (x22_1 + 1))) = some r := by first | (rw [hy150]; with_reducible exact H) | (have H2_ := (Option.bind_some _ _).symm.trans H; rw [hy150]; with_reducible exact H2_) | (have H2_ := (Option.bind_some _ _).symm.trans H; with_reducible exact H2_) | with_reducible exact H | (rw [hy150]; exact H) | exact H
           have Ny150 := Aside0.mk hy150
           clear hy150
           have H' := Aside0.mk H
           clear H
           have p147 : 0 ≤ (x22_1 : Int) := of_decide_eq_true (by first | (with_reducible assumption) | assumption)
           have q147 : x22_1 < (l1.length : Int) := of_decide_eq_true (by first | (with_reducible assumption) | assumption)
           obtain ⟨ad147, e147, hx147_0⟩ := Kd.at_int HR1.out x22_1 p147 q147
           cases e147
           replace hx147_0 := (HB.out.cell (World.block_lt_of_cell? w _ hx147_0)).trans hx147_0
           replace p147 := eq_true p147
           replace q147 := eq_true q147
           have p18 : 0 ≤ (x22_1 : Int) := of_decide_eq_true (by first | (with_reducible assumption) | assumption)
           have q18 : (x22_1 : Int) < ((x5_1.length : Int) : Int) := of_decide_eq_true (by first | (with_reducible assumption) | assumption)
           obtain ⟨go18, co18, eo18, gb18, gl18, cl18, HG18⟩ := Kd.R_form HO_5.out (by omega)
           (first | cases eo18 | (injection eo18 with ea_ en_ ec_; (first | subst ea_ | (injection ea_ with ea_; subst ea_)); subst ec_; clear en_))
           have GB18 := Aside0.mk gb18
           have GG18 := Aside0.mk HG18
           clear gb18 gl18 HG18
           obtain ⟨hx18_0, hf18_0⟩ := Kd.R_celln 0 HO_5.out (x22_1 : Int) p18 q18
           replace p18 := eq_true p18
           replace q18 := eq_true q18
           have HP19 := Kd.R_putg HO_5.out (x22_1 : Int) ((IntKind.u64.wrap (x6_1 + (IntKind.u64.wrap (rd l1 x22_1)))) % 4294967296)
           go_wp2_with (first | ((with_reducible refine gate_store (t := 102) (p := 46) rfl ?_); refine store_event (t := 102) (p := 46) (v := ?vo_w20) (w1 := (wr.setCell ⟨go18, (x22_1 : Int).toNat, none⟩ (.int .u32 ((IntKind.u64.wrap (x6_1 + (IntKind.u64.wrap (rd l1 x22_1)))) % 4294967296)))) ?hg ?ho ?hn ?hr ?_; (case ho => rfl); (case hg => rfl); (case hn => rfl); (case hr => first | (go_simp; done) | (go_simp; rfl)); intro w20 hw; have hg : wr.grownBy w20 (some go18) := (by rw [hw]; exact HP19.2); have hp_ : Kd.R (Kd.int .u32) 102 w20 w.heap.size (fun k_ => (w.heap.size ≤ k_)) (.slice (some ⟨go18, 0, none⟩) x5_1.length co18) y150 := (by rw [hw, Ny150.out]; exact HP19.1); clear HP19; replace HO_5 := Aside0.mk (hp_); replace HB := Aside0.mk ((by rw [hw]; exact below_set (HB.out) GB18.out : Below w.heap.size w w20)); clear hg hw hp_))
           go_roundg k1
           case measure => have := HK1.out; omega
           case rel => exact ⟨(y150), ((IntKind.u64.wrap (x6_1 + (IntKind.u64.wrap (rd l1 x22_1)))) / 4294967296), (wrap64 (x22_1 + 1)), (by first | rfl | (simp; done) | (simp [*]; done)), (by first | rfl | (simp; done) | (simp [*]; done)), H', ⟨by have := HK1.out; omega⟩, ⟨by (with_reducible repeat (first | apply Kd.R_alloc | apply Kd.R_drewN | apply Kd.R_drew)); exact HO_5.out⟩, ⟨lk HB⟩⟩
          ·
           rw [if_neg c17] at H
           exact absurd H (by simp)
        ·
         rw [if_neg c11] at H
         exact absurd H (by simp)
       ·
        rw [if_neg c10] at H
        exact absurd H (by simp)
      ·
       rw [if_neg c9] at H
       have c9b0 : decide (x22_1 < (l1.length : Int)) = false := decide_eq_false c9
       clear c9
       by_cases c21 : 0 ≤ (l1.length : Int)
       ·
        rw [if_pos c21] at H
        have c21b0 : decide (0 ≤ (l1.length : Int)) = true := decide_eq_true c21
        have c21b1 : decide (0 ≤ l1.length) = true := decide_eq_true (by omega)
        clear c21
        by_cases c22 : (l1.length : Int) < (x5_1.length : Int)
        ·
         rw [if_pos c22] at H
         have c22b0 : decide ((l1.length : Int) < (x5_1.length : Int)) = true := decide_eq_true c22
         have c22b1 : decide (l1.length < x5_1.length) = true := decide_eq_true (Int.ofNat_lt.mp c22)
         clear c22
         obtain ⟨y151, hy151⟩ : ∃ y_ : List Int, y_ = (x5_1.set ((l1.length : Int) : Int).toNat ((x6_1) % 4294967296)) := ⟨_, rfl⟩
         replace H : ((num_nat_trim.f k1 y151).bind fun t152 => (some t152)) = some r := by first | (rw [hy151]; with_reducible exact H) | (have H2_ := (Option.bind_some _ _).symm.trans H; rw [hy151]; with_reducible exact H2_) | (have H2_ := (Option.bind_some _ _).symm.trans H; with_reducible exact H2_) | with_reducible exact H | (rw [hy151]; exact H) | exact H
         have Ny151 := Aside0.mk hy151
         clear hy151
         replace H := Option.bind_eq_some_iff.mp H
         obtain ⟨t152, A240, H⟩ := H
         replace H : (some t152) = some r := H
         have A24 := Aside0.mk A240
         clear A240
         obtain rfl := Option.some.inj H
         have p23 : 0 ≤ ((l1.length : Int) : Int) := of_decide_eq_true (by first | (with_reducible assumption) | assumption)
         have q23 : ((l1.length : Int) : Int) < ((x5_1.length : Int) : Int) := of_decide_eq_true (by first | (with_reducible assumption) | assumption)
         obtain ⟨go23, co23, eo23, gb23, gl23, cl23, HG23⟩ := Kd.R_form HO_5.out (by omega)
         (first | cases eo23 | (injection eo23 with ea_ en_ ec_; (first | subst ea_ | (injection ea_ with ea_; subst ea_)); subst ec_; clear en_))
         have GB23 := Aside0.mk gb23
         have GG23 := Aside0.mk HG23
         clear gb23 gl23 HG23
         obtain ⟨hx23_0, hf23_0⟩ := Kd.R_celln 0 HO_5.out ((l1.length : Int) : Int) p23 q23
         (try simp only [Int.toNat_natCast] at hx23_0 hf23_0)
         replace p23 := eq_true p23
         replace q23 := eq_true q23
         have HP25 := Kd.R_putg HO_5.out ((l1.length : Int) : Int) ((x6_1) % 4294967296)
         go_wp2_with (first | ((with_reducible refine gate_store (t := 102) (p := 55) rfl ?_); refine store_event (t := 102) (p := 55) (v := ?vo_w26) (w1 := (wr.setCell ⟨go23, ((l1.length : Int) : Int).toNat, none⟩ (.int .u32 ((x6_1) % 4294967296)))) ?hg ?ho ?hn ?hr ?_; (case ho => rfl); (case hg => rfl); (case hn => rfl); (case hr => first | (go_simp; done) | (go_simp; rfl)); intro w26 hw; have hg : wr.grownBy w26 (some go23) := (by rw [hw]; exact HP25.2); have hp_ : Kd.R (Kd.int .u32) 102 w26 w.heap.size (fun k_ => (w.heap.size ≤ k_)) (.slice (some ⟨go23, 0, none⟩) x5_1.length co23) y151 := (by rw [hw, Ny151.out]; exact HP25.1); clear HP25; replace HO_5 := Aside0.mk (hp_); replace HB := Aside0.mk ((by rw [hw]; exact below_set (HB.out) GB23.out : Below w.heap.size w w26)); clear hg hw hp_) | ((with_reducible refine gate_callee (f := 82) rfl ?_); refine goesL_ (some 57) rfl rfl Tryd.func82 (by kernel_rfl) rfl #[.slice (some ⟨go23, 0, none⟩) y151.length co23] rfl (by (try simp only [List.map_toArray, List.map_cons, List.map_nil]); first | done | (rw [show y151.length = x5_1.length from (Kd.R_reads' HO_5.out).1.symm] <;> rfl) | rfl | (simp only [List.length_drop, List.length_take]; rfl)) ?_; (with_reducible refine (num_nat_trim.calls k1 (fun k_ => some k_ = (.slice (some ⟨go23, 0, none⟩) x5_1.length co23 : Value).ownBlock) _ _ y151 t152 _ ?side1 A24.out).mono ?_); (case side1 => rw [show y151.length = x5_1.length from (Kd.R_reads' HO_5.out).1.symm]; exact Kd.R_V (Kd.R_tight rfl (HO_5.out))); rintro e w27 ⟨v153, rfl, ho0, hb⟩; refine ⟨_, rfl, ?_⟩; have HO154 := Aside0.mk (Kd.V_lower (Kd.V_mono (ok' := fun k_ => (w.heap.size ≤ k_)) ho0 (fun k_ hk_ => Or.elim hk_ (fun hs_ => ((HO_5.out).1 k_ hs_.symm)) (fun hn_ => (Nat.le_trans (below_size (lk HB)) hn_)))) (below_size (lk HB))); replace HO_5 := Aside0.mk (Kd.R_below (rk HO_5) hb); replace HB := lb HB hb; (try clear hb); (try clear hb2); (try clear hk); (try clear hi); (try clear ho0)))
         go_ret
         exact ⟨_, by first | rfl | (simp [errW_none, errW_some] <;> rfl) | (simp only [← hji4]; first | rfl | (simp [errW_none, errW_some] <;> rfl)) | (simp [*, errW_none, errW_some] <;> rfl), by (with_reducible repeat (first | apply Kd.V_alloc | apply Kd.V_drewN | apply Kd.V_drew)); exact HO154.out, lk HB⟩
        ·
         rw [if_neg c22] at H
         exact absurd H (by simp)
       ·
        rw [if_neg c21] at H
        exact absurd H (by simp)
   ·
    rw [if_neg c6] at H
    exact absurd H (by simp)
  ·
   rw [if_neg c5] at H
   exact absurd H (by simp)
 ·
  rw [if_neg c3] at H
  have c3b0 : decide ((l0.length : Int) < (l1.length : Int)) = false := decide_eq_false c3
  have c3b1 : decide (l0.length < l1.length) = false := decide_eq_false (fun h => c3 (Int.ofNat_lt.mpr h))
  clear c3
  obtain ⟨ji28, hji28⟩ : ∃ j_ : Int, (wrap64 ((l0.length : Int) + 1)) = j_ := ⟨_, rfl⟩
  replace H : (if 0 ≤ (ji28) then (if (ji28 : Int).toNat ≤ 70368744177664 then (num_nat_plus.l101 k l0 l1 (List.replicate (ji28 : Int).toNat 0) 0 l0 (l0.length : Int) 0) else (none)) else (none)) = some r := by first | (rw [hji28] at H; exact H) | (simp only [hji28] at H ⊢; exact H)
  have hji28w : (IntKind.i64.wrap ((l0.length : Int) + 1)) = ji28 := (i64_w _).trans hji28
  by_cases c29 : 0 ≤ (ji28)
  ·
   rw [if_pos c29] at H
   have c29b0 := eq_true c29
   have c29b1 : decide (0 ≤ (ji28)) = true := decide_eq_true c29
   clear c29
   by_cases c30 : (ji28 : Int).toNat ≤ 70368744177664
   ·
    rw [if_pos c30] at H
    have c30b0 := eq_true c30
    have c30b1 : decide ((ji28 : Int).toNat ≤ 70368744177664) = true := decide_eq_true c30
    clear c30
    obtain ⟨y155, hy155⟩ : ∃ y_ : List Int, y_ = (List.replicate (ji28 : Int).toNat 0) := ⟨_, rfl⟩
    replace H : (num_nat_plus.l101 k l0 l1 y155 0 l0 (l0.length : Int) 0) = some r := by first | (rw [hy155]; with_reducible exact H) | (have H2_ := (Option.bind_some _ _).symm.trans H; rw [hy155]; with_reducible exact H2_) | (have H2_ := (Option.bind_some _ _).symm.trans H; with_reducible exact H2_) | with_reducible exact H | (rw [hy155]; exact H) | exact H
    have Ny155 := Aside0.mk hy155
    clear hy155
    have H' := Aside0.mk H
    clear H
    go_enter Tryd.func48, Tryd.ntmps48
    go_wp2_with (first | ((with_reducible refine gate_dst (N := 19) rfl ?_); refine Kd.R_make (Kd.int .u32) _ 102 rfl (N := 19) rfl 56 _ _ rfl ji28 rfl rfl Tryd.underlying56 (.int .u32 0) 4 info102 rfl (by decide) (by omega) 0 (ok := fun _ => True) (okp := fun _ => True) rfl (fun _ hk => hk) trivial (of_decide_eq_true (by first | (with_reducible assumption) | assumption)) (Nat.le_trans (Nat.mul_le_mul_right _ (of_decide_eq_true (by first | (with_reducible assumption) | assumption) : ji28.toNat ≤ 70368744177664)) (by omega)) (Below.refl _ _) (Nat.le_refl _) ?_; intro v156 w31 ho32 hb hg_ hnew_; clear hg_ hnew_; (first | rw [← Ny155.out] at ho32 | (simp only [Int.reduceToNat] at ho32; rw [← Ny155.out] at ho32)); have HO157 := Aside0.mk (Kd.R_lower (Kd.R_newM (M := fun k_ => (w.heap.size ≤ k_)) ho32 (below_size (lk HB)) (fun k_ h_ => h_)) (below_size (lk HB))); replace HB := lb HB hb; clear hb ho32))
    go_loopg [6, 22] k (fun kq v6 v22 w' => ∃ (x5_1 : List Int) (x6_1 : Int) (x22_1 : Int), v6 = .int .u64 x6_1 ∧ v22 = .int .i64 x22_1 ∧ Aside0 (num_nat_plus.l101 kq l0 l1 x5_1 x6_1 l0 (l0.length : Int) x22_1 = some r) ∧ Aside0 (kq ≤ k) ∧ Aside0 (Kd.R (Kd.int .u32) 102 w' w.heap.size (fun k_ => (w.heap.size ≤ k_)) v156 x5_1) ∧ Aside0 (Below w.heap.size w w'))
    case atStart => exact ⟨(y155), (0), (0), (by first | rfl | (simp; done) | (simp [*]; done)), (by first | rfl | (simp; done) | (simp [*]; done)), H', ⟨Nat.le_refl _⟩, ⟨by (with_reducible repeat (first | apply Kd.R_alloc | apply Kd.R_drewN | apply Kd.R_drew)); exact Kd.R_mono HO157.out (fun _ hk => hk.1)⟩, ⟨lk HB⟩⟩
    case round =>
     clear H'
     try clear c1
     try clear p1
     try clear q1
     try clear hx1
     try clear c2
     try clear p2
     try clear q2
     try clear hx2
     try clear hf2
     try clear c3
     try clear c3b0
     try clear c3b1
     try clear c4
     try clear c5
     try clear c5b0
     try clear c5b1
     try clear c6
     try clear c6b0
     try clear c6b1
     try clear p6
     try clear c8
     try clear c9
     try clear c9b0
     try clear c10
     try clear c10b0
     try clear c11
     try clear c11b0
     try clear c12
     try clear c12b0
     try clear c13
     try clear c13b0
     try clear p14
     try clear q14
     try clear hx14
     try clear hf14
     try clear c17
     try clear c17b0
     try clear p18
     try clear q18
     try clear hx18
     try clear hf18
     try clear c21
     try clear c21b0
     try clear c21b1
     try clear c22
     try clear c22b0
     try clear c22b1
     try clear p23
     try clear q23
     try clear hx23
     try clear hf23
     try clear c29
     try clear c29b0
     try clear c29b1
     try clear c30
     try clear c30b0
     try clear c30b1
     try clear hx147_0
     try clear hx148_0
     try clear hx14_0
     try clear hx18_0
     try clear hx23_0
     try clear p14
     try clear p147
     try clear p148
     try clear p18
     try clear p2
     try clear p23
     try clear p6
     try clear q14
     try clear q147
     try clear q148
     try clear q18
     try clear q23
     obtain ⟨x5_1, x6_1, x22_1, rfl, rfl, HA, HK1, HO_5, HB⟩ := hrel
     cases gk with
     | zero => exact absurd HA.out (by simp [num_nat_plus.l101])
     | succ k1 =>
      have H := HA.out
      clear HA
      simp only [num_nat_plus.l101] at H
      by_cases c33 : x22_1 < (l0.length : Int)
      ·
       rw [if_pos c33] at H
       have c33b0 : decide (x22_1 < (l0.length : Int)) = true := decide_eq_true c33
       clear c33
       by_cases c34 : 0 ≤ x22_1
       ·
        rw [if_pos c34] at H
        have c34b0 : decide (0 ≤ x22_1) = true := decide_eq_true c34
        clear c34
        by_cases c35 : x22_1 < (l0.length : Int)
        ·
         rw [if_pos c35] at H
         have c35b0 : decide (x22_1 < (l0.length : Int)) = true := decide_eq_true c35
         clear c35
         by_cases c36 : x22_1 < (l1.length : Int)
         ·
          rw [if_pos c36] at H
          have c36b0 : decide (x22_1 < (l1.length : Int)) = true := decide_eq_true c36
          clear c36
          by_cases c37 : x22_1 < (x5_1.length : Int)
          ·
           rw [if_pos c37] at H
           have c37b0 : decide (x22_1 < (x5_1.length : Int)) = true := decide_eq_true c37
           clear c37
           obtain ⟨y160, hy160⟩ : ∃ y_ : List Int, y_ = (x5_1.set (x22_1 : Int).toNat ((IntKind.u64.wrap ((IntKind.u64.wrap (x6_1 + (IntKind.u64.wrap (rd l0 x22_1)))) + (IntKind.u64.wrap (rd l1 x22_1)))) % 4294967296)) := ⟨_, rfl⟩
           replace H : (num_nat_plus.l101 k1 l0 l1 y160 ((IntKind.u64.wrap ((IntKind.u64.wrap (x6_1 + (IntKind.u64.wrap (rd l0 x22_1)))) + (IntKind.u64.wrap (rd l1 x22_1)))) / 4294967296) l0 (l0.length : Int) (wrap64 (x22_1 + 1))) = some r := by first | (rw [hy160]; with_reducible exact H) | (have H2_ := (Option.bind_some _ _).symm.trans H; rw [hy160]; with_reducible exact H2_) | (have H2_ := (Option.bind_some _ _).symm.trans H; with_reducible exact H2_) | with_reducible exact H | (rw [hy160]; exact H) | exact H
           have Ny160 := Aside0.mk hy160
           clear hy160
           have H' := Aside0.mk H
           clear H
           have p158 : 0 ≤ (x22_1 : Int) := of_decide_eq_true (by first | (with_reducible assumption) | assumption)
           have q158 : x22_1 < (l0.length : Int) := of_decide_eq_true (by first | (with_reducible assumption) | assumption)
           obtain ⟨ad158, e158, hx158_0⟩ := Kd.at_int HR0.out x22_1 p158 q158
           cases e158
           replace hx158_0 := (HB.out.cell (World.block_lt_of_cell? w _ hx158_0)).trans hx158_0
           replace p158 := eq_true p158
           replace q158 := eq_true q158
           have p159 : 0 ≤ (x22_1 : Int) := of_decide_eq_true (by first | (with_reducible assumption) | assumption)
           have q159 : x22_1 < (l1.length : Int) := of_decide_eq_true (by first | (with_reducible assumption) | assumption)
           obtain ⟨ad159, e159, hx159_0⟩ := Kd.at_int HR1.out x22_1 p159 q159
           cases e159
           replace hx159_0 := (HB.out.cell (World.block_lt_of_cell? w _ hx159_0)).trans hx159_0
           replace p159 := eq_true p159
           replace q159 := eq_true q159
           have p38 : 0 ≤ (x22_1 : Int) := of_decide_eq_true (by first | (with_reducible assumption) | assumption)
           have q38 : (x22_1 : Int) < ((x5_1.length : Int) : Int) := of_decide_eq_true (by first | (with_reducible assumption) | assumption)
           obtain ⟨go38, co38, eo38, gb38, gl38, cl38, HG38⟩ := Kd.R_form HO_5.out (by omega)
           (first | cases eo38 | (injection eo38 with ea_ en_ ec_; (first | subst ea_ | (injection ea_ with ea_; subst ea_)); subst ec_; clear en_))
           have GB38 := Aside0.mk gb38
           have GG38 := Aside0.mk HG38
           clear gb38 gl38 HG38
           obtain ⟨hx38_0, hf38_0⟩ := Kd.R_celln 0 HO_5.out (x22_1 : Int) p38 q38
           replace p38 := eq_true p38
           replace q38 := eq_true q38
           have HP39 := Kd.R_putg HO_5.out (x22_1 : Int) ((IntKind.u64.wrap ((IntKind.u64.wrap (x6_1 + (IntKind.u64.wrap (rd l0 x22_1)))) + (IntKind.u64.wrap (rd l1 x22_1)))) % 4294967296)
           go_wp2_with (first | ((with_reducible refine gate_store (t := 102) (p := 46) rfl ?_); refine store_event (t := 102) (p := 46) (v := ?vo_w40) (w1 := (wr.setCell ⟨go38, (x22_1 : Int).toNat, none⟩ (.int .u32 ((IntKind.u64.wrap ((IntKind.u64.wrap (x6_1 + (IntKind.u64.wrap (rd l0 x22_1)))) + (IntKind.u64.wrap (rd l1 x22_1)))) % 4294967296)))) ?hg ?ho ?hn ?hr ?_; (case ho => rfl); (case hg => rfl); (case hn => rfl); (case hr => first | (go_simp; done) | (go_simp; rfl)); intro w40 hw; have hg : wr.grownBy w40 (some go38) := (by rw [hw]; exact HP39.2); have hp_ : Kd.R (Kd.int .u32) 102 w40 w.heap.size (fun k_ => (w.heap.size ≤ k_)) (.slice (some ⟨go38, 0, none⟩) x5_1.length co38) y160 := (by rw [hw, Ny160.out]; exact HP39.1); clear HP39; replace HO_5 := Aside0.mk (hp_); replace HB := Aside0.mk ((by rw [hw]; exact below_set (HB.out) GB38.out : Below w.heap.size w w40)); clear hg hw hp_))
           go_roundg k1
           case measure => have := HK1.out; omega
           case rel => exact ⟨(y160), ((IntKind.u64.wrap ((IntKind.u64.wrap (x6_1 + (IntKind.u64.wrap (rd l0 x22_1)))) + (IntKind.u64.wrap (rd l1 x22_1)))) / 4294967296), (wrap64 (x22_1 + 1)), (by first | rfl | (simp; done) | (simp [*]; done)), (by first | rfl | (simp; done) | (simp [*]; done)), H', ⟨by have := HK1.out; omega⟩, ⟨by (with_reducible repeat (first | apply Kd.R_alloc | apply Kd.R_drewN | apply Kd.R_drew)); exact HO_5.out⟩, ⟨lk HB⟩⟩
          ·
           rw [if_neg c37] at H
           exact absurd H (by simp)
         ·
          rw [if_neg c36] at H
          have c36b0 : decide (x22_1 < (l1.length : Int)) = false := decide_eq_false c36
          clear c36
          by_cases c41 : x22_1 < (x5_1.length : Int)
          ·
           rw [if_pos c41] at H
           have c41b0 : decide (x22_1 < (x5_1.length : Int)) = true := decide_eq_true c41
           clear c41
           obtain ⟨y161, hy161⟩ : ∃ y_ : List Int, y_ = (x5_1.set (x22_1 : Int).toNat ((IntKind.u64.wrap (x6_1 + (IntKind.u64.wrap (rd l0 x22_1)))) % 4294967296)) := ⟨_, rfl⟩
           replace H : (num_nat_plus.l101 k1 l0 l1 y161 ((IntKind.u64.wrap (x6_1 + (IntKind.u64.wrap (rd l0 x22_1)))) / 4294967296) l0 (l0.length : Int) (wrap64 (x22_1 + 1))) = some r := by first | (rw [hy161]; with_reducible exact H) | (have H2_ := (Option.bind_some _ _).symm.trans H; rw [hy161]; with_reducible exact H2_) | (have H2_ := (Option.bind_some _ _).symm.trans H; with_reducible exact H2_) | with_reducible exact H | (rw [hy161]; exact H) | exact H
           have Ny161 := Aside0.mk hy161
           clear hy161
           have H' := Aside0.mk H
           clear H
           have p158 : 0 ≤ (x22_1 : Int) := of_decide_eq_true (by first | (with_reducible assumption) | assumption)
           have q158 : x22_1 < (l0.length : Int) := of_decide_eq_true (by first | (with_reducible assumption) | assumption)
           obtain ⟨ad158, e158, hx158_0⟩ := Kd.at_int HR0.out x22_1 p158 q158
           cases e158
           replace hx158_0 := (HB.out.cell (World.block_lt_of_cell? w _ hx158_0)).trans hx158_0
           replace p158 := eq_true p158
           replace q158 := eq_true q158
           have p42 : 0 ≤ (x22_1 : Int) := of_decide_eq_true (by first | (with_reducible assumption) | assumption)
           have q42 : (x22_1 : Int) < ((x5_1.length : Int) : Int) := of_decide_eq_true (by first | (with_reducible assumption) | assumption)
           obtain ⟨go42, co42, eo42, gb42, gl42, cl42, HG42⟩ := Kd.R_form HO_5.out (by omega)
           (first | cases eo42 | (injection eo42 with ea_ en_ ec_; (first | subst ea_ | (injection ea_ with ea_; subst ea_)); subst ec_; clear en_))
           have GB42 := Aside0.mk gb42
           have GG42 := Aside0.mk HG42
           clear gb42 gl42 HG42
           obtain ⟨hx42_0, hf42_0⟩ := Kd.R_celln 0 HO_5.out (x22_1 : Int) p42 q42
           replace p42 := eq_true p42
           replace q42 := eq_true q42
           have HP43 := Kd.R_putg HO_5.out (x22_1 : Int) ((IntKind.u64.wrap (x6_1 + (IntKind.u64.wrap (rd l0 x22_1)))) % 4294967296)
           go_wp2_with (first | ((with_reducible refine gate_store (t := 102) (p := 46) rfl ?_); refine store_event (t := 102) (p := 46) (v := ?vo_w44) (w1 := (wr.setCell ⟨go42, (x22_1 : Int).toNat, none⟩ (.int .u32 ((IntKind.u64.wrap (x6_1 + (IntKind.u64.wrap (rd l0 x22_1)))) % 4294967296)))) ?hg ?ho ?hn ?hr ?_; (case ho => rfl); (case hg => rfl); (case hn => rfl); (case hr => first | (go_simp; done) | (go_simp; rfl)); intro w44 hw; have hg : wr.grownBy w44 (some go42) := (by rw [hw]; exact HP43.2); have hp_ : Kd.R (Kd.int .u32) 102 w44 w.heap.size (fun k_ => (w.heap.size ≤ k_)) (.slice (some ⟨go42, 0, none⟩) x5_1.length co42) y161 := (by rw [hw, Ny161.out]; exact HP43.1); clear HP43; replace HO_5 := Aside0.mk (hp_); replace HB := Aside0.mk ((by rw [hw]; exact below_set (HB.out) GB42.out : Below w.heap.size w w44)); clear hg hw hp_))
           go_roundg k1
           case measure => have := HK1.out; omega
           case rel => exact ⟨(y161), ((IntKind.u64.wrap (x6_1 + (IntKind.u64.wrap (rd l0 x22_1)))) / 4294967296), (wrap64 (x22_1 + 1)), (by first | rfl | (simp; done) | (simp [*]; done)), (by first | rfl | (simp; done) | (simp [*]; done)), H', ⟨by have := HK1.out; omega⟩, ⟨by (with_reducible repeat (first | apply Kd.R_alloc | apply Kd.R_drewN | apply Kd.R_drew)); exact HO_5.out⟩, ⟨lk HB⟩⟩
          ·
           rw [if_neg c41] at H
           exact absurd H (by simp)
        ·
         rw [if_neg c35] at H
         exact absurd H (by simp)
       ·
        rw [if_neg c34] at H
        exact absurd H (by simp)
      ·
       rw [if_neg c33] at H
       have c33b0 : decide (x22_1 < (l0.length : Int)) = false := decide_eq_false c33
       clear c33
       by_cases c45 : 0 ≤ (l0.length : Int)
       ·
        rw [if_pos c45] at H
        have c45b0 : decide (0 ≤ (l0.length : Int)) = true := decide_eq_true c45
        have c45b1 : decide (0 ≤ l0.length) = true := decide_eq_true (by omega)
        clear c45
        by_cases c46 : (l0.length : Int) < (x5_1.length : Int)
        ·
         rw [if_pos c46] at H
         have c46b0 : decide ((l0.length : Int) < (x5_1.length : Int)) = true := decide_eq_true c46
         have c46b1 : decide (l0.length < x5_1.length) = true := decide_eq_true (Int.ofNat_lt.mp c46)
         clear c46
         obtain ⟨y162, hy162⟩ : ∃ y_ : List Int, y_ = (x5_1.set ((l0.length : Int) : Int).toNat ((x6_1) % 4294967296)) := ⟨_, rfl⟩
         replace H : ((num_nat_trim.f k1 y162).bind fun t163 => (some t163)) = some r := by first | (rw [hy162]; with_reducible exact H) | (have H2_ := (Option.bind_some _ _).symm.trans H; rw [hy162]; with_reducible exact H2_) | (have H2_ := (Option.bind_some _ _).symm.trans H; with_reducible exact H2_) | with_reducible exact H | (rw [hy162]; exact H) | exact H
         have Ny162 := Aside0.mk hy162
         clear hy162
         replace H := Option.bind_eq_some_iff.mp H
         obtain ⟨t163, A480, H⟩ := H
         replace H : (some t163) = some r := H
         have A48 := Aside0.mk A480
         clear A480
         obtain rfl := Option.some.inj H
         have p47 : 0 ≤ ((l0.length : Int) : Int) := of_decide_eq_true (by first | (with_reducible assumption) | assumption)
         have q47 : ((l0.length : Int) : Int) < ((x5_1.length : Int) : Int) := of_decide_eq_true (by first | (with_reducible assumption) | assumption)
         obtain ⟨go47, co47, eo47, gb47, gl47, cl47, HG47⟩ := Kd.R_form HO_5.out (by omega)
         (first | cases eo47 | (injection eo47 with ea_ en_ ec_; (first | subst ea_ | (injection ea_ with ea_; subst ea_)); subst ec_; clear en_))
         have GB47 := Aside0.mk gb47
         have GG47 := Aside0.mk HG47
         clear gb47 gl47 HG47
         obtain ⟨hx47_0, hf47_0⟩ := Kd.R_celln 0 HO_5.out ((l0.length : Int) : Int) p47 q47
         (try simp only [Int.toNat_natCast] at hx47_0 hf47_0)
         replace p47 := eq_true p47
         replace q47 := eq_true q47
         have HP49 := Kd.R_putg HO_5.out ((l0.length : Int) : Int) ((x6_1) % 4294967296)
         go_wp2_with (first | ((with_reducible refine gate_store (t := 102) (p := 55) rfl ?_); refine store_event (t := 102) (p := 55) (v := ?vo_w50) (w1 := (wr.setCell ⟨go47, ((l0.length : Int) : Int).toNat, none⟩ (.int .u32 ((x6_1) % 4294967296)))) ?hg ?ho ?hn ?hr ?_; (case ho => rfl); (case hg => rfl); (case hn => rfl); (case hr => first | (go_simp; done) | (go_simp; rfl)); intro w50 hw; have hg : wr.grownBy w50 (some go47) := (by rw [hw]; exact HP49.2); have hp_ : Kd.R (Kd.int .u32) 102 w50 w.heap.size (fun k_ => (w.heap.size ≤ k_)) (.slice (some ⟨go47, 0, none⟩) x5_1.length co47) y162 := (by rw [hw, Ny162.out]; exact HP49.1); clear HP49; replace HO_5 := Aside0.mk (hp_); replace HB := Aside0.mk ((by rw [hw]; exact below_set (HB.out) GB47.out : Below w.heap.size w w50)); clear hg hw hp_) | ((with_reducible refine gate_callee (f := 82) rfl ?_); refine goesL_ (some 57) rfl rfl Tryd.func82 (by kernel_rfl) rfl #[.slice (some ⟨go47, 0, none⟩) y162.length co47] rfl (by (try simp only [List.map_toArray, List.map_cons, List.map_nil]); first | done | (rw [show y162.length = x5_1.length from (Kd.R_reads' HO_5.out).1.symm] <;> rfl) | rfl | (simp only [List.length_drop, List.length_take]; rfl)) ?_; (with_reducible refine (num_nat_trim.calls k1 (fun k_ => some k_ = (.slice (some ⟨go47, 0, none⟩) x5_1.length co47 : Value).ownBlock) _ _ y162 t163 _ ?side1 A48.out).mono ?_); (case side1 => rw [show y162.length = x5_1.length from (Kd.R_reads' HO_5.out).1.symm]; exact Kd.R_V (Kd.R_tight rfl (HO_5.out))); rintro e w51 ⟨v164, rfl, ho0, hb⟩; refine ⟨_, rfl, ?_⟩; have HO165 := Aside0.mk (Kd.V_lower (Kd.V_mono (ok' := fun k_ => (w.heap.size ≤ k_)) ho0 (fun k_ hk_ => Or.elim hk_ (fun hs_ => ((HO_5.out).1 k_ hs_.symm)) (fun hn_ => (Nat.le_trans (below_size (lk HB)) hn_)))) (below_size (lk HB))); replace HO_5 := Aside0.mk (Kd.R_below (rk HO_5) hb); replace HB := lb HB hb; (try clear hb); (try clear hb2); (try clear hk); (try clear hi); (try clear ho0)))
         go_ret
         exact ⟨_, by first | rfl | (simp [errW_none, errW_some] <;> rfl) | (simp only [← hji28]; first | rfl | (simp [errW_none, errW_some] <;> rfl)) | (simp [*, errW_none, errW_some] <;> rfl), by (with_reducible repeat (first | apply Kd.V_alloc | apply Kd.V_drewN | apply Kd.V_drew)); exact HO165.out, lk HB⟩
        ·
         rw [if_neg c46] at H
         exact absurd H (by simp)
       ·
        rw [if_neg c45] at H
        exact absurd H (by simp)
   ·
    rw [if_neg c30] at H
    exact absurd H (by simp)
  ·
   rw [if_neg c29] at H
   exact absurd H (by simp)


/-! ### num_nat_less: function 87 -/
def num_nat_less.l0 : Nat → List Int → List Int → Int → List Int → Int → Int → Option (List Int)
 | 0, _, _, _, _, _, _ => none
 | k + 1, x1, x5, x6, x13, x14, x15 => if x15 < x14 then (if 0 ≤ x15 then (if x15 < (x13.length : Int) then (if x15 < (x1.length : Int) then (if x15 < (x5.length : Int) then (num_nat_less.l0 k x1 (x5.set (x15 : Int).toNat ((IntKind.u64.wrap ((IntKind.u64.wrap ((IntKind.u64.wrap (rd x13 x15)) - x6)) - (IntKind.u64.wrap (rd x1 x15)))) % 4294967296)) ((IntKind.u64.wrap ((IntKind.u64.wrap ((IntKind.u64.wrap (rd x13 x15)) - x6)) - (IntKind.u64.wrap (rd x1 x15)))) / 9223372036854775808) x13 x14 (wrap64 (x15 + 1))) else (none)) else (if x15 < (x5.length : Int) then (num_nat_less.l0 k x1 (x5.set (x15 : Int).toNat ((IntKind.u64.wrap ((IntKind.u64.wrap (rd x13 x15)) - x6)) % 4294967296)) ((IntKind.u64.wrap ((IntKind.u64.wrap (rd x13 x15)) - x6)) / 9223372036854775808) x13 x14 (wrap64 (x15 + 1))) else (none))) else (none)) else (none)) else ((num_nat_trim.f k x5).bind fun t177 => (some t177))
def num_nat_less.f (k : Nat) (l0 : List Int) (l1 : List Int) : Option (List Int) := if 0 ≤ (l0.length : Int) then (if ((l0.length : Int) : Int).toNat ≤ 70368744177664 then (num_nat_less.l0 k l1 (List.replicate ((l0.length : Int) : Int).toNat 0) 0 l0 (l0.length : Int) 0) else (none)) else (none)
theorem num_nat_less.mono_l : ∀ k, (∀ y0 y1 y2 y3 y4 y5, LeO (num_nat_less.l0 k y0 y1 y2 y3 y4 y5) (num_nat_less.l0 (k + 1) y0 y1 y2 y3 y4 y5))
 | 0 => fun _ _ _ _ _ _ r h => by simp [num_nat_less.l0] at h
 | k + 1 => by
  have ih0 := num_nat_less.mono_l k
  ·
   intro y0 y1 y2 y3 y4 y5
   unfold num_nat_less.l0
   repeat' first | (with_reducible exact ih0 _ _ _ _ _ _) | (with_reducible exact num_nat_trim.mono _ _) | (with_reducible exact LeO.refl _) | (with_reducible exact LeO.none _) | (with_reducible refine LeO.ite ?_ ?_) | (with_reducible refine LeO.bind ?_ (fun _ => ?_))
theorem num_nat_less.mono : ∀ a0 a1 k, LeO (num_nat_less.f k a0 a1) (num_nat_less.f (k + 1) a0 a1) := by
 intro a0 a1 k
 have ih0 := num_nat_less.mono_l k
 unfold num_nat_less.f
 repeat' first | (with_reducible exact ih0 _ _ _ _ _ _) | (with_reducible exact num_nat_trim.mono _ _) | (with_reducible exact LeO.refl _) | (with_reducible exact LeO.none _) | (with_reducible refine LeO.ite ?_ ?_) | (with_reducible refine LeO.bind ?_ (fun _ => ?_))
set_option maxHeartbeats 8000000 in
set_option maxRecDepth 100000 in
theorem num_nat_less.calls (k : Nat) (A0 : Option Addr) (c0 : Nat) (l0 : List Int) (A1 : Option Addr) (c1 : Nat) (l1 : List Int) (r : List Int) (w : World) (hr0 : Kd.C (Kd.int .u32) w A0 l0.length l0) (hc0 : l0.length ≤ c0) (hr1 : Kd.C (Kd.int .u32) w A1 l1.length l1) (hc1 : l1.length ≤ c1) (h : num_nat_less.f k l0 l1 = some r) :
  Calls Tryd.prog 87 #[.slice A0 l0.length c0, .slice A1 l1.length c1] w fun e w' => ∃ v0_ : Value, e = .returned (v0_) ∧ Kd.V (Kd.int .u32) 102 w' w.heap.size (fun k_ => (w.heap.size ≤ k_)) v0_ r ∧ Below w.heap.size w w' := by
 have HR0 := Aside0.mk hr0
 have HC0 := Aside0.mk hc0
 clear hr0 hc0
 have HR1 := Aside0.mk hr1
 have HC1 := Aside0.mk hc1
 clear hr1 hc1
 have HB := Aside0.mk (Below.refl w.heap.size w)
 have H : (if 0 ≤ (l0.length : Int) then (if ((l0.length : Int) : Int).toNat ≤ 70368744177664 then (num_nat_less.l0 k l1 (List.replicate ((l0.length : Int) : Int).toNat 0) 0 l0 (l0.length : Int) 0) else (none)) else (none)) = some r := h
 clear h
 by_cases c3 : 0 ≤ (l0.length : Int)
 ·
  rw [if_pos c3] at H
  have c3b0 := eq_true c3
  have c3b1 : decide (0 ≤ (l0.length : Int)) = true := decide_eq_true c3
  clear c3
  by_cases c4 : ((l0.length : Int) : Int).toNat ≤ 70368744177664
  ·
   rw [if_pos c4] at H
   have c4b0 := eq_true c4
   have c4b1 : decide (((l0.length : Int) : Int).toNat ≤ 70368744177664) = true := decide_eq_true c4
   clear c4
   obtain ⟨y170, hy170⟩ : ∃ y_ : List Int, y_ = (List.replicate ((l0.length : Int) : Int).toNat 0) := ⟨_, rfl⟩
   replace H : (num_nat_less.l0 k l1 y170 0 l0 (l0.length : Int) 0) = some r := by first | (rw [hy170]; with_reducible exact H) | (have H2_ := (Option.bind_some _ _).symm.trans H; rw [hy170]; with_reducible exact H2_) | (have H2_ := (Option.bind_some _ _).symm.trans H; with_reducible exact H2_) | with_reducible exact H | (rw [hy170]; exact H) | exact H
   have Ny170 := Aside0.mk hy170
   clear hy170
   have H' := Aside0.mk H
   clear H
   go_enter Tryd.func87, Tryd.ntmps87
   go_wp2_with (first | ((with_reducible refine gate_dst (N := 12) rfl ?_); refine Kd.R_make (Kd.int .u32) _ 102 rfl (N := 12) rfl 56 _ _ rfl (l0.length : Int) rfl rfl Tryd.underlying56 (.int .u32 0) 4 info102 rfl (by decide) (by omega) 0 (ok := fun _ => True) (okp := fun _ => True) rfl (fun _ hk => hk) trivial (of_decide_eq_true (by first | (with_reducible assumption) | assumption)) (Nat.le_trans (Nat.mul_le_mul_right _ (of_decide_eq_true (by first | (with_reducible assumption) | assumption) : (l0.length : Int).toNat ≤ 70368744177664)) (by omega)) (Below.refl _ _) (Nat.le_refl _) ?_; intro v171 w5 ho6 hb hg_ hnew_; clear hg_ hnew_; (first | rw [← Ny170.out] at ho6 | (simp only [Int.reduceToNat] at ho6; rw [← Ny170.out] at ho6)); have HO172 := Aside0.mk (Kd.R_lower (Kd.R_newM (M := fun k_ => (w.heap.size ≤ k_)) ho6 (below_size (lk HB)) (fun k_ h_ => h_)) (below_size (lk HB))); replace HB := lb HB hb; clear hb ho6))
   go_loopg [6, 15] k (fun kq v6 v15 w' => ∃ (x5_1 : List Int) (x6_1 : Int) (x15_1 : Int), v6 = .int .u64 x6_1 ∧ v15 = .int .i64 x15_1 ∧ Aside0 (num_nat_less.l0 kq l1 x5_1 x6_1 l0 (l0.length : Int) x15_1 = some r) ∧ Aside0 (kq ≤ k) ∧ Aside0 (Kd.R (Kd.int .u32) 102 w' w.heap.size (fun k_ => (w.heap.size ≤ k_)) v171 x5_1) ∧ Aside0 (Below w.heap.size w w'))
   case atStart => exact ⟨(y170), (0), (0), (by first | rfl | (simp; done) | (simp [*]; done)), (by first | rfl | (simp; done) | (simp [*]; done)), H', ⟨Nat.le_refl _⟩, ⟨by (with_reducible repeat (first | apply Kd.R_alloc | apply Kd.R_drewN | apply Kd.R_drew)); exact Kd.R_mono HO172.out (fun _ hk => hk.1)⟩, ⟨lk HB⟩⟩
   case round =>
    clear H'
    try clear c1
    try clear p2
    try clear c3
    try clear c3b0
    try clear c3b1
    try clear c4
    try clear c4b0
    try clear c4b1
    obtain ⟨x5_1, x6_1, x15_1, rfl, rfl, HA, HK1, HO_5, HB⟩ := hrel
    cases gk with
    | zero => exact absurd HA.out (by simp [num_nat_less.l0])
    | succ k1 =>
     have H := HA.out
     clear HA
     simp only [num_nat_less.l0] at H
     by_cases c7 : x15_1 < (l0.length : Int)
     ·
      rw [if_pos c7] at H
      have c7b0 : decide (x15_1 < (l0.length : Int)) = true := decide_eq_true c7
      clear c7
      by_cases c8 : 0 ≤ x15_1
      ·
       rw [if_pos c8] at H
       have c8b0 : decide (0 ≤ x15_1) = true := decide_eq_true c8
       clear c8
       by_cases c9 : x15_1 < (l0.length : Int)
       ·
        rw [if_pos c9] at H
        have c9b0 : decide (x15_1 < (l0.length : Int)) = true := decide_eq_true c9
        clear c9
        by_cases c10 : x15_1 < (l1.length : Int)
        ·
         rw [if_pos c10] at H
         have c10b0 : decide (x15_1 < (l1.length : Int)) = true := decide_eq_true c10
         clear c10
         by_cases c11 : x15_1 < (x5_1.length : Int)
         ·
          rw [if_pos c11] at H
          have c11b0 : decide (x15_1 < (x5_1.length : Int)) = true := decide_eq_true c11
          clear c11
          obtain ⟨y175, hy175⟩ : ∃ y_ : List Int, y_ = (x5_1.set (x15_1 : Int).toNat ((IntKind.u64.wrap ((IntKind.u64.wrap ((IntKind.u64.wrap (rd l0 x15_1)) - x6_1)) - (IntKind.u64.wrap (rd l1 x15_1)))) % 4294967296)) := ⟨_, rfl⟩
          replace H : (num_nat_less.l0 k1 l1 y175 ((IntKind.u64.wrap ((IntKind.u64.wrap ((IntKind.u64.wrap (rd l0 x15_1)) - x6_1)) - (IntKind.u64.wrap (rd l1 x15_1)))) / 9223372036854775808) l0 (l0.length : Int) (wrap64 (x15_1 + 1))) = some r := by first | (rw [hy175]; with_reducible exact H) | (have H2_ := (Option.bind_some _ _).symm.trans H; rw [hy175]; with_reducible exact H2_) | (have H2_ := (Option.bind_some _ _).symm.trans H; with_reducible exact H2_) | with_reducible exact H | (rw [hy175]; exact H) | exact H
          have Ny175 := Aside0.mk hy175
          clear hy175
          have H' := Aside0.mk H
          clear H
          have p173 : 0 ≤ (x15_1 : Int) := of_decide_eq_true (by first | (with_reducible assumption) | assumption)
          have q173 : x15_1 < (l0.length : Int) := of_decide_eq_true (by first | (with_reducible assumption) | assumption)
          obtain ⟨ad173, e173, hx173_0⟩ := Kd.at_int HR0.out x15_1 p173 q173
          cases e173
          replace hx173_0 := (HB.out.cell (World.block_lt_of_cell? w _ hx173_0)).trans hx173_0
          replace p173 := eq_true p173
          replace q173 := eq_true q173
          have p174 : 0 ≤ (x15_1 : Int) := of_decide_eq_true (by first | (with_reducible assumption) | assumption)
          have q174 : x15_1 < (l1.length : Int) := of_decide_eq_true (by first | (with_reducible assumption) | assumption)
          obtain ⟨ad174, e174, hx174_0⟩ := Kd.at_int HR1.out x15_1 p174 q174
          cases e174
          replace hx174_0 := (HB.out.cell (World.block_lt_of_cell? w _ hx174_0)).trans hx174_0
          replace p174 := eq_true p174
          replace q174 := eq_true q174
          have p12 : 0 ≤ (x15_1 : Int) := of_decide_eq_true (by first | (with_reducible assumption) | assumption)
          have q12 : (x15_1 : Int) < ((x5_1.length : Int) : Int) := of_decide_eq_true (by first | (with_reducible assumption) | assumption)
          obtain ⟨go12, co12, eo12, gb12, gl12, cl12, HG12⟩ := Kd.R_form HO_5.out (by omega)
          (first | cases eo12 | (injection eo12 with ea_ en_ ec_; (first | subst ea_ | (injection ea_ with ea_; subst ea_)); subst ec_; clear en_))
          have GB12 := Aside0.mk gb12
          have GG12 := Aside0.mk HG12
          clear gb12 gl12 HG12
          obtain ⟨hx12_0, hf12_0⟩ := Kd.R_celln 0 HO_5.out (x15_1 : Int) p12 q12
          replace p12 := eq_true p12
          replace q12 := eq_true q12
          have HP13 := Kd.R_putg HO_5.out (x15_1 : Int) ((IntKind.u64.wrap ((IntKind.u64.wrap ((IntKind.u64.wrap (rd l0 x15_1)) - x6_1)) - (IntKind.u64.wrap (rd l1 x15_1)))) % 4294967296)
          go_wp2_with (first | ((with_reducible refine gate_store (t := 102) (p := 39) rfl ?_); refine store_event (t := 102) (p := 39) (v := ?vo_w14) (w1 := (wr.setCell ⟨go12, (x15_1 : Int).toNat, none⟩ (.int .u32 ((IntKind.u64.wrap ((IntKind.u64.wrap ((IntKind.u64.wrap (rd l0 x15_1)) - x6_1)) - (IntKind.u64.wrap (rd l1 x15_1)))) % 4294967296)))) ?hg ?ho ?hn ?hr ?_; (case ho => rfl); (case hg => rfl); (case hn => rfl); (case hr => first | (go_simp; done) | (go_simp; rfl)); intro w14 hw; have hg : wr.grownBy w14 (some go12) := (by rw [hw]; exact HP13.2); have hp_ : Kd.R (Kd.int .u32) 102 w14 w.heap.size (fun k_ => (w.heap.size ≤ k_)) (.slice (some ⟨go12, 0, none⟩) x5_1.length co12) y175 := (by rw [hw, Ny175.out]; exact HP13.1); clear HP13; replace HO_5 := Aside0.mk (hp_); replace HB := Aside0.mk ((by rw [hw]; exact below_set (HB.out) GB12.out : Below w.heap.size w w14)); clear hg hw hp_))
          go_roundg k1
          case measure => have := HK1.out; omega
          case rel => exact ⟨(y175), ((IntKind.u64.wrap ((IntKind.u64.wrap ((IntKind.u64.wrap (rd l0 x15_1)) - x6_1)) - (IntKind.u64.wrap (rd l1 x15_1)))) / 9223372036854775808), (wrap64 (x15_1 + 1)), (by first | rfl | (simp; done) | (simp [*]; done)), (by first | rfl | (simp; done) | (simp [*]; done)), H', ⟨by have := HK1.out; omega⟩, ⟨by (with_reducible repeat (first | apply Kd.R_alloc | apply Kd.R_drewN | apply Kd.R_drew)); exact HO_5.out⟩, ⟨lk HB⟩⟩
         ·
          rw [if_neg c11] at H
          exact absurd H (by simp)
        ·
         rw [if_neg c10] at H
         have c10b0 : decide (x15_1 < (l1.length : Int)) = false := decide_eq_false c10
         clear c10
         by_cases c15 : x15_1 < (x5_1.length : Int)
         ·
          rw [if_pos c15] at H
          have c15b0 : decide (x15_1 < (x5_1.length : Int)) = true := decide_eq_true c15
          clear c15
          obtain ⟨y176, hy176⟩ : ∃ y_ : List Int, y_ = (x5_1.set (x15_1 : Int).toNat ((IntKind.u64.wrap ((IntKind.u64.wrap (rd l0 x15_1)) - x6_1)) % 4294967296)) := ⟨_, rfl⟩
          replace H : (num_nat_less.l0 k1 l1 y176 ((IntKind.u64.wrap ((IntKind.u64.wrap (rd l0 x15_1)) - x6_1)) / 9223372036854775808) l0 (l0.length : Int) (wrap64 (x15_1 + 1))) = some r := by first | (rw [hy176]; with_reducible exact H) | (have H2_ := (Option.bind_some _ _).symm.trans H; rw [hy176]; with_reducible exact H2_) | (have H2_ := (Option.bind_some _ _).symm.trans H; with_reducible exact H2_) | with_reducible exact H | (rw [hy176]; exact H) | exact H
          have Ny176 := Aside0.mk hy176
          clear hy176
          have H' := Aside0.mk H
          clear H
          have p173 : 0 ≤ (x15_1 : Int) := of_decide_eq_true (by first | (with_reducible assumption) | assumption)
          have q173 : x15_1 < (l0.length : Int) := of_decide_eq_true (by first | (with_reducible assumption) | assumption)
          obtain ⟨ad173, e173, hx173_0⟩ := Kd.at_int HR0.out x15_1 p173 q173
          cases e173
          replace hx173_0 := (HB.out.cell (World.block_lt_of_cell? w _ hx173_0)).trans hx173_0
          replace p173 := eq_true p173
          replace q173 := eq_true q173
          have p16 : 0 ≤ (x15_1 : Int) := of_decide_eq_true (by first | (with_reducible assumption) | assumption)
          have q16 : (x15_1 : Int) < ((x5_1.length : Int) : Int) := of_decide_eq_true (by first | (with_reducible assumption) | assumption)
          obtain ⟨go16, co16, eo16, gb16, gl16, cl16, HG16⟩ := Kd.R_form HO_5.out (by omega)
          (first | cases eo16 | (injection eo16 with ea_ en_ ec_; (first | subst ea_ | (injection ea_ with ea_; subst ea_)); subst ec_; clear en_))
          have GB16 := Aside0.mk gb16
          have GG16 := Aside0.mk HG16
          clear gb16 gl16 HG16
          obtain ⟨hx16_0, hf16_0⟩ := Kd.R_celln 0 HO_5.out (x15_1 : Int) p16 q16
          replace p16 := eq_true p16
          replace q16 := eq_true q16
          have HP17 := Kd.R_putg HO_5.out (x15_1 : Int) ((IntKind.u64.wrap ((IntKind.u64.wrap (rd l0 x15_1)) - x6_1)) % 4294967296)
          go_wp2_with (first | ((with_reducible refine gate_store (t := 102) (p := 39) rfl ?_); refine store_event (t := 102) (p := 39) (v := ?vo_w18) (w1 := (wr.setCell ⟨go16, (x15_1 : Int).toNat, none⟩ (.int .u32 ((IntKind.u64.wrap ((IntKind.u64.wrap (rd l0 x15_1)) - x6_1)) % 4294967296)))) ?hg ?ho ?hn ?hr ?_; (case ho => rfl); (case hg => rfl); (case hn => rfl); (case hr => first | (go_simp; done) | (go_simp; rfl)); intro w18 hw; have hg : wr.grownBy w18 (some go16) := (by rw [hw]; exact HP17.2); have hp_ : Kd.R (Kd.int .u32) 102 w18 w.heap.size (fun k_ => (w.heap.size ≤ k_)) (.slice (some ⟨go16, 0, none⟩) x5_1.length co16) y176 := (by rw [hw, Ny176.out]; exact HP17.1); clear HP17; replace HO_5 := Aside0.mk (hp_); replace HB := Aside0.mk ((by rw [hw]; exact below_set (HB.out) GB16.out : Below w.heap.size w w18)); clear hg hw hp_))
          go_roundg k1
          case measure => have := HK1.out; omega
          case rel => exact ⟨(y176), ((IntKind.u64.wrap ((IntKind.u64.wrap (rd l0 x15_1)) - x6_1)) / 9223372036854775808), (wrap64 (x15_1 + 1)), (by first | rfl | (simp; done) | (simp [*]; done)), (by first | rfl | (simp; done) | (simp [*]; done)), H', ⟨by have := HK1.out; omega⟩, ⟨by (with_reducible repeat (first | apply Kd.R_alloc | apply Kd.R_drewN | apply Kd.R_drew)); exact HO_5.out⟩, ⟨lk HB⟩⟩
         ·
          rw [if_neg c15] at H
          exact absurd H (by simp)
       ·
        rw [if_neg c9] at H
        exact absurd H (by simp)
      ·
       rw [if_neg c8] at H
       exact absurd H (by simp)
     ·
      rw [if_neg c7] at H
      have c7b0 : decide (x15_1 < (l0.length : Int)) = false := decide_eq_false c7
      clear c7
      replace H := Option.bind_eq_some_iff.mp H
      obtain ⟨t177, A190, H⟩ := H
      replace H : (some t177) = some r := H
      have A19 := Aside0.mk A190
      clear A190
      obtain rfl := Option.some.inj H
      obtain ⟨Ao20, co20, eo20⟩ := Kd.R_slice HO_5.out
      subst eo20
      go_wp2_with (first | ((with_reducible refine gate_callee (f := 82) rfl ?_); refine gL (some 44) Tryd.func82 #[.slice Ao20 x5_1.length co20] ?_; (with_reducible refine (num_nat_trim.calls k1 (fun k_ => some k_ = (.slice Ao20 x5_1.length co20 : Value).ownBlock) _ _ x5_1 t177 _ ?side1 A19.out).mono ?_); (case side1 => exact Kd.R_V (Kd.R_tight rfl (HO_5.out))); rintro e w21 ⟨v178, rfl, ho0, hb⟩; refine ⟨_, rfl, ?_⟩; have HO179 := Aside0.mk (Kd.V_lower (Kd.V_mono (ok' := fun k_ => (w.heap.size ≤ k_)) ho0 (fun k_ hk_ => Or.elim hk_ (fun hs_ => ((HO_5.out).1 k_ hs_.symm)) (fun hn_ => (Nat.le_trans (below_size (lk HB)) hn_)))) (below_size (lk HB))); replace HO_5 := Aside0.mk (Kd.R_below (rk HO_5) hb); replace HB := lb HB hb; (try clear hb); (try clear hb2); (try clear hk); (try clear hi); (try clear ho0)))
      go_ret
      exact ⟨_, by first | rfl | (simp [errW_none, errW_some] <;> rfl) | (simp [*, errW_none, errW_some] <;> rfl), by (with_reducible repeat (first | apply Kd.V_alloc | apply Kd.V_drewN | apply Kd.V_drew)); exact HO179.out, lk HB⟩
  ·
   rw [if_neg c4] at H
   exact absurd H (by simp)
 ·
  rw [if_neg c3] at H
  exact absurd H (by simp)


/-! ### num_nat_against: function 49 -/
def num_nat_against.l0 : Nat → List Int → List Int → Int → Option (Int)
 | 0, _, _, _ => none
 | k + 1, x0, x1, x5 => if x5 ≥ 0 then (if 0 ≤ x5 then (if x5 < (x0.length : Int) then (if x5 < (x1.length : Int) then (if (rd x0 x5) < (rd x1 x5) then (some (-1)) else (if (rd x0 x5) > (rd x1 x5) then (some 1) else (num_nat_against.l0 k x0 x1 (wrap64 (x5 - 1))))) else (none)) else (none)) else (none)) else (some 0)
def num_nat_against.f (k : Nat) (l0 : List Int) (l1 : List Int) : Option (Int) := if (l0.length : Int) < (l1.length : Int) then (some (-1)) else (if (l0.length : Int) > (l1.length : Int) then (some 1) else (num_nat_against.l0 k l0 l1 (wrap64 ((l0.length : Int) - 1))))
theorem num_nat_against.mono_l : ∀ k, (∀ y0 y1 y2, LeO (num_nat_against.l0 k y0 y1 y2) (num_nat_against.l0 (k + 1) y0 y1 y2))
 | 0 => fun _ _ _ r h => by simp [num_nat_against.l0] at h
 | k + 1 => by
  have ih0 := num_nat_against.mono_l k
  ·
   intro y0 y1 y2
   unfold num_nat_against.l0
   repeat' first | (with_reducible exact ih0 _ _ _) | (with_reducible exact LeO.refl _) | (with_reducible exact LeO.none _) | (with_reducible refine LeO.ite ?_ ?_) | (with_reducible refine LeO.bind ?_ (fun _ => ?_))
theorem num_nat_against.mono : ∀ a0 a1 k, LeO (num_nat_against.f k a0 a1) (num_nat_against.f (k + 1) a0 a1) := by
 intro a0 a1 k
 have ih0 := num_nat_against.mono_l k
 unfold num_nat_against.f
 repeat' first | (with_reducible exact ih0 _ _ _) | (with_reducible exact LeO.refl _) | (with_reducible exact LeO.none _) | (with_reducible refine LeO.ite ?_ ?_) | (with_reducible refine LeO.bind ?_ (fun _ => ?_))
set_option maxHeartbeats 8000000 in
set_option maxRecDepth 100000 in
theorem num_nat_against.calls (k : Nat) (A0 : Option Addr) (c0 : Nat) (l0 : List Int) (A1 : Option Addr) (c1 : Nat) (l1 : List Int) (r : Int) (w : World) (hr0 : Kd.C (Kd.int .u32) w A0 l0.length l0) (hc0 : l0.length ≤ c0) (hr1 : Kd.C (Kd.int .u32) w A1 l1.length l1) (hc1 : l1.length ≤ c1) (h : num_nat_against.f k l0 l1 = some r) :
  Calls Tryd.prog 49 #[.slice A0 l0.length c0, .slice A1 l1.length c1] w fun e w' => e = .returned (.int .i64 r) ∧ Drawn0 w w' := by
 have HR0 := Aside0.mk hr0
 have HC0 := Aside0.mk hc0
 clear hr0 hc0
 have HR1 := Aside0.mk hr1
 have HC1 := Aside0.mk hc1
 clear hr1 hc1
 have H : (if (l0.length : Int) < (l1.length : Int) then (some (-1)) else (if (l0.length : Int) > (l1.length : Int) then (some 1) else (num_nat_against.l0 k l0 l1 (wrap64 ((l0.length : Int) - 1))))) = some r := h
 clear h
 by_cases c3 : (l0.length : Int) < (l1.length : Int)
 ·
  rw [if_pos c3] at H
  have c3b0 : decide ((l0.length : Int) < (l1.length : Int)) = true := decide_eq_true c3
  have c3b1 : decide (l0.length < l1.length) = true := decide_eq_true (Int.ofNat_lt.mp c3)
  clear c3
  obtain rfl := Option.some.inj H
  go_enter Tryd.func49, Tryd.ntmps49
  go_wp2
  repeat (go_quiet (fail); try go_wp2)
  go_ret
  exact ⟨by first | rfl | (simp; done) | (simp [*]; done), by repeat (first | exact Drawn0.refl _ | apply Drawn0.step)⟩
 ·
  rw [if_neg c3] at H
  have c3b0 : decide ((l0.length : Int) < (l1.length : Int)) = false := decide_eq_false c3
  have c3b1 : decide (l0.length < l1.length) = false := decide_eq_false (fun h => c3 (Int.ofNat_lt.mpr h))
  clear c3
  by_cases c4 : (l0.length : Int) > (l1.length : Int)
  ·
   rw [if_pos c4] at H
   have c4b0 : decide ((l1.length : Int) < (l0.length : Int)) = true := decide_eq_true c4
   have c4b1 : decide (l1.length < l0.length) = true := decide_eq_true (Int.ofNat_lt.mp c4)
   clear c4
   obtain rfl := Option.some.inj H
   go_enter Tryd.func49, Tryd.ntmps49
   go_wp2
   repeat (go_quiet (fail); try go_wp2)
   go_ret
   exact ⟨by first | rfl | (simp; done) | (simp [*]; done), by repeat (first | exact Drawn0.refl _ | apply Drawn0.step)⟩
  ·
   rw [if_neg c4] at H
   have c4b0 : decide ((l1.length : Int) < (l0.length : Int)) = false := decide_eq_false c4
   have c4b1 : decide (l1.length < l0.length) = false := decide_eq_false (fun h => c4 (Int.ofNat_lt.mpr h))
   clear c4
   have H' := Aside0.mk H
   clear H
   go_enter Tryd.func49, Tryd.ntmps49
   go_wp2
   repeat (go_quiet (fail); try go_wp2)
   go_loopg [5] k (fun kq v5 w' => ∃ (x5_1 : Int), v5 = .int .i64 x5_1 ∧ Aside0 (num_nat_against.l0 kq l0 l1 x5_1 = some r) ∧ Aside0 (kq ≤ k) ∧ Drawn0 w w')
   case atStart => exact ⟨(wrap64 ((l0.length : Int) - 1)), (by first | rfl | (simp; done) | (simp [*]; done)), H', ⟨Nat.le_refl _⟩, by repeat (first | exact Drawn0.refl _ | apply Drawn0.step)⟩
   case round =>
    clear H'
    try clear c1
    try clear p2
    try clear c3
    try clear c3b0
    try clear c3b1
    try clear c4
    try clear c4b0
    try clear c4b1
    obtain ⟨x5_1, rfl, HA, HK1, ⟨m1, rfl⟩⟩ := hrel
    cases gk with
    | zero => exact absurd HA.out (by simp [num_nat_against.l0])
    | succ k1 =>
     have H := HA.out
     clear HA
     simp only [num_nat_against.l0] at H
     by_cases c5 : x5_1 ≥ 0
     ·
      rw [if_pos c5] at H
      have c5b0 : decide (0 ≤ x5_1) = true := decide_eq_true c5
      clear c5
      by_cases c6 : 0 ≤ x5_1
      ·
       rw [if_pos c6] at H
       have c6b0 : decide (0 ≤ x5_1) = true := decide_eq_true c6
       clear c6
       by_cases c7 : x5_1 < (l0.length : Int)
       ·
        rw [if_pos c7] at H
        have c7b0 : decide (x5_1 < (l0.length : Int)) = true := decide_eq_true c7
        clear c7
        by_cases c8 : x5_1 < (l1.length : Int)
        ·
         rw [if_pos c8] at H
         have c8b0 : decide (x5_1 < (l1.length : Int)) = true := decide_eq_true c8
         clear c8
         by_cases c9 : (rd l0 x5_1) < (rd l1 x5_1)
         ·
          rw [if_pos c9] at H
          have c9b0 : decide ((rd l0 x5_1) < (rd l1 x5_1)) = true := decide_eq_true c9
          clear c9
          obtain rfl := Option.some.inj H
          have p166 : 0 ≤ (x5_1 : Int) := of_decide_eq_true (by first | (with_reducible assumption) | assumption)
          have q166 : x5_1 < (l0.length : Int) := of_decide_eq_true (by first | (with_reducible assumption) | assumption)
          obtain ⟨ad166, e166, hx166_0⟩ := Kd.at_int HR0.out x5_1 p166 q166
          cases e166
          replace p166 := eq_true p166
          replace q166 := eq_true q166
          have p167 : 0 ≤ (x5_1 : Int) := of_decide_eq_true (by first | (with_reducible assumption) | assumption)
          have q167 : x5_1 < (l1.length : Int) := of_decide_eq_true (by first | (with_reducible assumption) | assumption)
          obtain ⟨ad167, e167, hx167_0⟩ := Kd.at_int HR1.out x5_1 p167 q167
          cases e167
          replace p167 := eq_true p167
          replace q167 := eq_true q167
          go_wp2
          repeat (go_quiet (fail); try go_wp2)
          go_ret
          exact ⟨by first | rfl | (simp; done) | (simp [*]; done), by repeat (first | exact Drawn0.refl _ | apply Drawn0.step)⟩
         ·
          rw [if_neg c9] at H
          have c9b0 : decide ((rd l0 x5_1) < (rd l1 x5_1)) = false := decide_eq_false c9
          clear c9
          by_cases c10 : (rd l0 x5_1) > (rd l1 x5_1)
          ·
           rw [if_pos c10] at H
           have c10b0 : decide ((rd l1 x5_1) < (rd l0 x5_1)) = true := decide_eq_true c10
           clear c10
           obtain rfl := Option.some.inj H
           have p166 : 0 ≤ (x5_1 : Int) := of_decide_eq_true (by first | (with_reducible assumption) | assumption)
           have q166 : x5_1 < (l0.length : Int) := of_decide_eq_true (by first | (with_reducible assumption) | assumption)
           obtain ⟨ad166, e166, hx166_0⟩ := Kd.at_int HR0.out x5_1 p166 q166
           cases e166
           replace p166 := eq_true p166
           replace q166 := eq_true q166
           have p167 : 0 ≤ (x5_1 : Int) := of_decide_eq_true (by first | (with_reducible assumption) | assumption)
           have q167 : x5_1 < (l1.length : Int) := of_decide_eq_true (by first | (with_reducible assumption) | assumption)
           obtain ⟨ad167, e167, hx167_0⟩ := Kd.at_int HR1.out x5_1 p167 q167
           cases e167
           replace p167 := eq_true p167
           replace q167 := eq_true q167
           have p168 : 0 ≤ (x5_1 : Int) := of_decide_eq_true (by first | (with_reducible assumption) | assumption)
           have q168 : x5_1 < (l0.length : Int) := of_decide_eq_true (by first | (with_reducible assumption) | assumption)
           obtain ⟨ad168, e168, hx168_0⟩ := Kd.at_int HR0.out x5_1 p168 q168
           obtain rfl : ad166 = ad168 := (by injection e168)
           replace p168 := eq_true p168
           replace q168 := eq_true q168
           have p169 : 0 ≤ (x5_1 : Int) := of_decide_eq_true (by first | (with_reducible assumption) | assumption)
           have q169 : x5_1 < (l1.length : Int) := of_decide_eq_true (by first | (with_reducible assumption) | assumption)
           obtain ⟨ad169, e169, hx169_0⟩ := Kd.at_int HR1.out x5_1 p169 q169
           obtain rfl : ad167 = ad169 := (by injection e169)
           replace p169 := eq_true p169
           replace q169 := eq_true q169
           go_wp2
           repeat (go_quiet (fail); try go_wp2)
           go_ret
           exact ⟨by first | rfl | (simp; done) | (simp [*]; done), by repeat (first | exact Drawn0.refl _ | apply Drawn0.step)⟩
          ·
           rw [if_neg c10] at H
           have c10b0 : decide ((rd l1 x5_1) < (rd l0 x5_1)) = false := decide_eq_false c10
           clear c10
           have H' := Aside0.mk H
           clear H
           have p166 : 0 ≤ (x5_1 : Int) := of_decide_eq_true (by first | (with_reducible assumption) | assumption)
           have q166 : x5_1 < (l0.length : Int) := of_decide_eq_true (by first | (with_reducible assumption) | assumption)
           obtain ⟨ad166, e166, hx166_0⟩ := Kd.at_int HR0.out x5_1 p166 q166
           cases e166
           replace p166 := eq_true p166
           replace q166 := eq_true q166
           have p167 : 0 ≤ (x5_1 : Int) := of_decide_eq_true (by first | (with_reducible assumption) | assumption)
           have q167 : x5_1 < (l1.length : Int) := of_decide_eq_true (by first | (with_reducible assumption) | assumption)
           obtain ⟨ad167, e167, hx167_0⟩ := Kd.at_int HR1.out x5_1 p167 q167
           cases e167
           replace p167 := eq_true p167
           replace q167 := eq_true q167
           have p168 : 0 ≤ (x5_1 : Int) := of_decide_eq_true (by first | (with_reducible assumption) | assumption)
           have q168 : x5_1 < (l0.length : Int) := of_decide_eq_true (by first | (with_reducible assumption) | assumption)
           obtain ⟨ad168, e168, hx168_0⟩ := Kd.at_int HR0.out x5_1 p168 q168
           obtain rfl : ad166 = ad168 := (by injection e168)
           replace p168 := eq_true p168
           replace q168 := eq_true q168
           have p169 : 0 ≤ (x5_1 : Int) := of_decide_eq_true (by first | (with_reducible assumption) | assumption)
           have q169 : x5_1 < (l1.length : Int) := of_decide_eq_true (by first | (with_reducible assumption) | assumption)
           obtain ⟨ad169, e169, hx169_0⟩ := Kd.at_int HR1.out x5_1 p169 q169
           obtain rfl : ad167 = ad169 := (by injection e169)
           replace p169 := eq_true p169
           replace q169 := eq_true q169
           go_wp2
           repeat (go_quiet (fail); try go_wp2)
           go_roundg k1
           case measure => have := HK1.out; omega
           case rel => exact ⟨(wrap64 (x5_1 - 1)), (by first | rfl | (simp; done) | (simp [*]; done)), H', ⟨by have := HK1.out; omega⟩, by repeat (first | exact Drawn0.refl _ | apply Drawn0.step)⟩
        ·
         rw [if_neg c8] at H
         exact absurd H (by simp)
       ·
        rw [if_neg c7] at H
        exact absurd H (by simp)
      ·
       rw [if_neg c6] at H
       exact absurd H (by simp)
     ·
      rw [if_neg c5] at H
      have c5b0 : decide (0 ≤ x5_1) = false := decide_eq_false c5
      clear c5
      obtain rfl := Option.some.inj H
      go_wp2
      repeat (go_quiet (fail); try go_wp2)
      go_ret
      exact ⟨by first | rfl | (simp; done) | (simp [*]; done), by repeat (first | exact Drawn0.refl _ | apply Drawn0.step)⟩

end Go.Proofs.YtjlnfnfdibfniaaDoor.F

/- num's whole numbers: what each of its functions comes to, in numbers. -/
namespace Go.Proofs.YtjlnfnfdibfniaaDoor.Pl
open F Hd Go.RowKit Go.Proofs.YtjlnfnfdibfniaaDoorW.PrintWords Go.Proofs.YtjlnfnfdibfniaaDoorW.PrintMore
theorem w64 {n : Int} (h0 : -9223372036854775808 ≤ n) (h1 : n ≤ 9223372036854775807) : wrap64 n = n := by unfold wrap64; omega
theorem u64w {n : Int} (h0 : 0 ≤ n) (h1 : n < 18446744073709551616) : IntKind.u64.wrap n = n := by rw [IntKind.wrap_u64]; omega
theorem rd_get (l : List Int) (i : Nat) (h : i < l.length) : rd l (i : Int) = l[i] := by
  unfold rd
  rw [Int.toNat_natCast, List.getD_eq_getElem?_getD, List.getElem?_eq_getElem h]; rfl
/-- A number as num has it. -/
def L (n : Nat) : List Int := lim 4294967296 n
theorem L_zero : L 0 = [] := lim_zero _
theorem L_nv (n : Nat) : nv 4294967296 (L n) = n := nv_lim (by decide) n
theorem L_wf (n : Nat) : Wf 4294967296 (L n) := wf_lim (by decide) n
theorem L_nil {n : Nat} (h : L n = []) : n = 0 := by have := L_nv n; rw [h] at this; simpa [nv] using this.symm
/-- The number is not so large that a list of its digits were too long. -/
def Few (n : Nat) : Prop := (L n).length ≤ 1000000
theorem few_of {n s : Nat} (h : n < 4294967296 ^ s) (hs : s ≤ 1000000) : Few n := Nat.le_trans (lim_len (by decide) s n h) hs

theorem trim_runs (l : List Int) (hw : Wf 4294967296 l) (hl : l.length ≤ 10000000) : Runs (fun k => num_nat_trim.l0 k l) (L (nv 4294967296 l)) := by
  generalize hn : l.length = n at hl
  induction n generalizing l with
  | zero =>
    have : l = [] := List.length_eq_zero_iff.1 hn
    subst this
    refine Runs.suc ?_
    simp only [num_nat_trim.l0]
    refine Runs.no (by simp) ?_
    exact (Runs.pure _).of (by rw [nv, L_zero])
  | succ n ih =>
    obtain ⟨m, x, rfl⟩ : ∃ m x, l = m ++ [x] := by
      rcases snoc_cases l with h | h
      · rw [h] at hn; simp at hn
      · exact h
    have hlen : m.length = n := by simpa using hn
    have hll : (m ++ [x]).length = m.length + 1 := by simp
    have hwr : wrap64 (((m ++ [x]).length : Int) - 1) = (m.length : Int) := by rw [hll, w64 (by omega) (by omega)]; omega
    have hrd : rd (m ++ [x]) (m.length : Int) = x := by
      rw [rd_get _ _ (by rw [hll]; omega)]; simp
    refine Runs.suc ?_
    simp only [num_nat_trim.l0]
    rw [hwr, hrd]
    refine Runs.yes (by rw [hll]; omega) (Runs.yes (by omega) (Runs.yes (by rw [hll]; omega) ?_))
    have hx := hw x (by simp)
    by_cases h0 : x = 0
    · refine Runs.yes h0 (Runs.yes (by rw [hll]; omega) ?_)
      rw [h0, nv_snoc_zero, Int.toNat_natCast, List.take_left']
      · exact ih m hw.left hlen (by omega)
      · rfl
    · refine Runs.no h0 ?_
      refine (Runs.pure _).of ?_
      exact (lim_snoc (by decide) hw.left (by omega) hx.2).symm
theorem trim_f (l : List Int) (hw : Wf 4294967296 l) (hl : l.length ≤ 10000000) : Runs (fun k => num_nat_trim.f k l) (L (nv 4294967296 l)) := trim_runs l hw hl
theorem of_f (n : Nat) (h : n < 18446744073709551616) : Runs (fun k => num_of.f k (n : Int)) (L n) := by
  simp only [num_of.f]
  refine Runs.bind (trim_f _ ?_ (by simp)) ?_
  · intro x hx
    simp only [List.mem_cons, List.not_mem_nil, or_false] at hx
    omega
  · refine (Runs.pure _).of ?_
    congr 1
    simp only [nv]
    omega
theorem times_loop (l : List Int) (hw : Wf 4294967296 l) (hlen : l.length ≤ 1000000) (m : Nat) (hm : m < 4294967296) :
    ∀ (d i : Nat), i + d = l.length → ∀ (out : List Int) (c : Nat), out.length = l.length + 1 → Wf 4294967296 (out.take i) → c < 4294967296 →
    Runs (fun k => num_nat_times.l0 k l (m : Int) out (c : Int) l (l.length : Int) (i : Int)) (L (nv 4294967296 (out.take i) + 4294967296 ^ i * (c + m * nv 4294967296 (l.drop i)))) := by
  intro d
  induction d with
  | zero =>
    intro i hi out c ho hwo hc
    obtain rfl : i = l.length := by omega
    refine Runs.suc ?_
    simp only [num_nat_times.l0]
    refine Runs.no (by omega) (Runs.yes (by omega) (Runs.yes (by omega) ?_))
    rw [show ((c : Int) % 4294967296) = (c : Int) by omega, Int.toNat_natCast]
    have hset : out.set l.length (c : Int) = out.take l.length ++ [(c : Int)] := by
      have := take_set_succ out l.length (c : Int) (by omega)
      rw [← this, List.take_of_length_le (by rw [List.length_set]; omega)]
    rw [hset]
    refine Runs.bind (trim_f _ (hwo.append (Wf.one (by omega) (by omega))) (by simp; omega)) ((Runs.pure _).of ?_)
    rw [nv_append, nv_one, List.length_take, Nat.min_eq_left (by omega), List.drop_of_length_le (Nat.le_refl _)]
    simp [nv]
  | succ d ih =>
    intro i hi out c ho hwo hc
    have hil : i < l.length := by omega
    have hx := hw.get hil
    obtain ⟨y, hy⟩ := Int.eq_ofNat_of_zero_le hx.1
    have hy1 : y < 4294967296 := by omega
    have hym : y * m ≤ 4294967295 * 4294967295 := Nat.mul_le_mul (by omega) (by omega)
    refine Runs.suc ?_
    simp only [num_nat_times.l0]
    rw [rd_get l i hil, hy, u64w (n := (y : Int)) (by omega) (by omega), u64w (n := (m : Int)) (by omega) (by omega)]
    have e1 : (y : Int) * (m : Int) = ((y * m : Nat) : Int) := by simp
    rw [e1, u64w (n := ((y * m : Nat) : Int)) (by omega) (by omega), u64w (n := (c : Int) + ((y * m : Nat) : Int)) (by omega) (by omega)]
    have e2 : ((c : Int) + ((y * m : Nat) : Int)) % 4294967296 = (((c + y * m) % 4294967296 : Nat) : Int) := by omega
    have e3 : ((c : Int) + ((y * m : Nat) : Int)) / 4294967296 = (((c + y * m) / 4294967296 : Nat) : Int) := by omega
    rw [e2, e3, w64 (by omega) (by omega), Int.toNat_natCast]
    refine Runs.yes (by omega) (Runs.yes (by omega) (Runs.yes (by omega) (Runs.yes (by omega) ?_)))
    have hq : (c + y * m) % 4294967296 + 4294967296 * ((c + y * m) / 4294967296) = c + y * m := Nat.mod_add_div ..
    have hr : (c + y * m) % 4294967296 < 4294967296 := Nat.mod_lt _ (by decide)
    have hq2 : (c + y * m) / 4294967296 < 4294967296 := by omega
    generalize (c + y * m) % 4294967296 = r at *
    generalize (c + y * m) / 4294967296 = q at *
    have ht := take_set_succ out i (r : Int) (by omega)
    have := ih (i + 1) (by omega) (out.set i (r : Int)) q (by rw [List.length_set]; exact ho) (by rw [ht]; exact hwo.append (Wf.one (by omega) (by omega))) hq2
    refine Runs.of this ?_
    congr 1
    rw [ht, nv_append, nv_one, List.length_take, Nat.min_eq_left (by omega), nv_drop _ l i hil, hy, Int.toNat_natCast]
    simp only [Int.toNat_natCast]
    generalize nv 4294967296 (List.take i out) = N
    generalize nv 4294967296 (l.drop (i + 1)) = D
    rw [Nat.pow_succ]
    generalize 4294967296 ^ i = p
    grind
theorem times_f (a m p : Nat) (ha : Few a) (hm : m < 4294967296) (hp : p < 4294967296) : Runs (fun k => num_nat_times.f k (L a) (m : Int) (p : Int)) (L (a * m + p)) := by
  have ha' := ha
  unfold Few at ha'
  simp only [num_nat_times.f]
  rw [w64 (by omega) (by omega), u64w (n := (p : Int)) (by omega) (by omega)]
  have e : ((L a).length + 1 : Int).toNat = (L a).length + 1 := by omega
  rw [e]
  refine Runs.yes (by omega) (Runs.yes (by omega) ?_)
  refine Runs.of (times_loop (L a) (L_wf a) ha' m hm (L a).length 0 (by omega) _ p (by simp) (by rw [List.take_zero]; exact Wf.nil _) hp) ?_
  congr 1
  rw [List.take_zero, List.drop_zero, L_nv, nv]
  grind
theorem few_mono {a b : Nat} (h : a ≤ b) (hb : Few b) : Few a := by
  refine few_of (s := (L b).length) (Nat.lt_of_le_of_lt h ?_) hb
  exact lim_le (by decide) b
theorem tens_l1 (n : Nat) : ∀ (a : Nat), Few (a * 10 ^ n) → n ≤ 1000000 → Runs (fun k => num_nat_tens.l1 k (L a) (n : Int)) (L (a * 10 ^ n)) := by
  induction n with
  | zero =>
    intro a ha _
    refine Runs.suc ?_
    simp only [num_nat_tens.l1]
    exact Runs.no (by omega) ((Runs.pure _).of (by simp))
  | succ n ih =>
    intro a ha hn
    refine Runs.suc ?_
    simp only [num_nat_tens.l1]
    have hp : 0 < 10 ^ (n + 1) := Nat.pow_pos (by decide)
    refine Runs.yes (by omega) (Runs.bind (times_f a 10 0 (few_mono (Nat.le_mul_of_pos_right a hp) ha) (by decide) (by decide)) ?_)
    rw [w64 (by omega) (by omega), show ((n + 1 : Nat) : Int) - 1 = (n : Int) by omega]
    have e : a * 10 ^ (n + 1) = (a * 10 + 0) * 10 ^ n := by rw [Nat.pow_succ]; grind
    rw [e]
    exact ih (a * 10 + 0) (by rw [← e]; exact ha) (by omega)
theorem tens_l0 (q : Nat) : ∀ (a n : Nat), n / 9 = q → Few (a * 10 ^ n) → n ≤ 1000000 → Runs (fun k => num_nat_tens.l0 k (L a) (n : Int)) (L (a * 10 ^ n)) := by
  induction q with
  | zero =>
    intro a n hq ha hn
    refine Runs.suc ?_
    simp only [num_nat_tens.l0]
    exact Runs.no (by omega) (tens_l1 n a ha hn)
  | succ q ih =>
    intro a n hq ha hn
    refine Runs.suc ?_
    simp only [num_nat_tens.l0]
    obtain ⟨m, rfl⟩ : ∃ m, n = m + 9 := ⟨n - 9, by omega⟩
    have hp : 0 < 10 ^ (m + 9) := Nat.pow_pos (by decide)
    refine Runs.yes (by omega) (Runs.bind (times_f a 1000000000 0 (few_mono (Nat.le_mul_of_pos_right a hp) ha) (by decide) (by decide)) ?_)
    rw [w64 (by omega) (by omega), show ((m + 9 : Nat) : Int) - 9 = (m : Int) by omega]
    have e : a * 10 ^ (m + 9) = (a * 1000000000 + 0) * 10 ^ m := by rw [Nat.pow_add]; grind
    rw [e]
    exact ih _ m (by omega) (by rw [← e]; exact ha) (by omega)
theorem tens_f (a n : Nat) (h : Few (a * 10 ^ n)) (hn : n ≤ 1000000) : Runs (fun k => num_nat_tens.f k (L a) (n : Int)) (L (a * 10 ^ n)) := tens_l0 _ a n rfl h hn
theorem tens_neg (a : Nat) (n : Int) (hn : n ≤ 0) : Runs (fun k => num_nat_tens.f k (L a) n) (L a) := by
  simp only [num_nat_tens.f]
  refine Runs.suc (Runs.suc ?_)
  simp only [num_nat_tens.l0, num_nat_tens.l1]
  exact Runs.no (by omega) (Runs.no (by omega) (Runs.pure _))
end Go.Proofs.YtjlnfnfdibfniaaDoor.Pl

/- num's whole numbers: shifted, added, taken off, compared. -/
namespace Go.Proofs.YtjlnfnfdibfniaaDoor.Pl
open F Hd Go.RowKit Go.Proofs.YtjlnfnfdibfniaaDoorW.PrintWords Go.Proofs.YtjlnfnfdibfniaaDoorW.PrintMore
theorem bitLen_spec : ∀ (f x : Nat), x < 2 ^ f → x < 2 ^ Lib.bitLenAux f x ∧ (0 < x → 0 < Lib.bitLenAux f x ∧ 2 ^ (Lib.bitLenAux f x - 1) ≤ x) := by
  intro f
  induction f with
  | zero => intro x h; have : x = 0 := by simpa using h
            subst this; simp [Lib.bitLenAux]
  | succ f ih =>
    intro x h
    rw [Lib.bitLenAux]
    by_cases h0 : x = 0
    · subst h0; simp
    · rw [if_neg h0]
      have h2 : x / 2 < 2 ^ f := by rw [Nat.pow_succ] at h; omega
      obtain ⟨g1, g2⟩ := ih (x / 2) h2
      have hz : x / 2 = 0 → Lib.bitLenAux f (x / 2) = 0 := by
        intro h3
        rw [h3]
        cases f with
        | zero => rfl
        | succ f => rw [Lib.bitLenAux, if_pos rfl]
      generalize Lib.bitLenAux f (x / 2) = s at *
      refine ⟨?_, fun _ => ⟨by omega, ?_⟩⟩
      · rw [Nat.add_comm 1 s, Nat.pow_succ]; omega
      · rw [show 1 + s - 1 = s by omega]
        rcases Nat.eq_zero_or_pos (x / 2) with h3 | h3
        · rw [hz h3]; simp; omega
        · obtain ⟨g3, g4⟩ := g2 h3
          obtain ⟨t, rfl⟩ : ∃ t, s = t + 1 := ⟨s - 1, by omega⟩
          rw [Nat.add_sub_cancel] at g4
          rw [Nat.pow_succ]; omega
theorem size_f (n : Nat) (h : Few n) : ∃ s : Nat, (∀ r, num_nat_size.f (L n) = some r ↔ r = (s : Int)) ∧ n < 2 ^ s ∧ (0 < n → 0 < s ∧ 2 ^ (s - 1) ≤ n) ∧ s ≤ 32000000 := by
  unfold Few at h
  rcases Nat.eq_zero_or_pos n with h0 | h0
  · refine ⟨0, ?_, by rw [h0]; simp, fun h => by omega, by omega⟩
    intro r
    rw [h0, L_zero]
    unfold num_nat_size.f
    rw [if_pos (by simp)]
    constructor
    · intro e; injection e with e; rw [← e]; rfl
    · intro e; rw [e]; rfl
  · obtain ⟨l, x, e, hx0, hx1⟩ := lim_last (B := 4294967296) (by decide) n h0
    have e' : L n = l ++ [x] := e
    rw [e'] at h
    have hll : (l ++ [x]).length = l.length + 1 := by simp
    obtain ⟨y, rfl⟩ := Int.eq_ofNat_of_zero_le (Int.le_of_lt hx0)
    have hv : n = nv 4294967296 l + 4294967296 ^ l.length * y := by
      have := L_nv n
      rw [e', nv_append, nv_one, Int.toNat_natCast] at this
      exact this.symm
    have hl : nv 4294967296 l < 4294967296 ^ l.length := nv_lt (by decide) (by have := L_wf n; rw [e'] at this; exact this.left)
    have hp : 4294967296 ^ l.length = 2 ^ (32 * l.length) := by rw [Nat.pow_mul]
    rw [hp] at hv hl
    have hy0 : 0 < y := by omega
    have hy : y < 4294967296 := by omega
    obtain ⟨g1, g2⟩ := bitLen_spec 64 y (by omega)
    obtain ⟨g2, g3⟩ := g2 hy0
    have g4 : Lib.bitLenAux 64 y ≤ 32 := by
      rcases Nat.lt_or_ge 32 (Lib.bitLenAux 64 y) with h5 | h5
      · have := Nat.pow_le_pow_right (n := 2) (by decide) (show 32 ≤ Lib.bitLenAux 64 y - 1 by omega)
        have e32 : 2 ^ 32 = 4294967296 := by decide
        omega
      · exact h5
    refine ⟨32 * l.length + Lib.bitLenAux 64 y, ?_, ?_, fun _ => ⟨by omega, ?_⟩, by omega⟩
    · intro r
      rw [e']
      unfold num_nat_size.f
      rw [w64 (n := ((l ++ [(y : Int)]).length : Int) - 1) (by omega) (by omega), show ((l ++ [(y : Int)]).length : Int) - 1 = (l.length : Int) by omega]
      rw [if_neg (by omega), if_pos (by omega), if_pos (by omega), rd_get _ _ (by omega)]
      rw [List.getElem_append_right (Nat.le_refl _)]
      simp only [Nat.sub_self, List.getElem_cons_zero]
      unfold bits_Len32.f
      rw [if_pos (by omega), Option.bind_some, Int.toNat_natCast, w64 (n := 32 * (l.length : Int)) (by omega) (by omega)]
      show some (wrap64 (32 * (l.length : Int) + (Lib.bitLenAux 64 y : Int))) = some r ↔ _
      rw [w64 (by omega) (by omega)]
      constructor
      · intro e; injection e with e; omega
      · intro e; rw [e]; congr 1
    · rw [Nat.pow_add, hv]
      generalize 2 ^ (32 * l.length) = p at *
      have : p * (y + 1) ≤ p * 2 ^ Lib.bitLenAux 64 y := Nat.mul_le_mul_left p g1
      rw [Nat.mul_add] at this
      omega
    · rw [show 32 * l.length + Lib.bitLenAux 64 y - 1 = 32 * l.length + (Lib.bitLenAux 64 y - 1) by omega, Nat.pow_add, hv]
      generalize 2 ^ (32 * l.length) = p at *
      have : p * 2 ^ (Lib.bitLenAux 64 y - 1) ≤ p * y := Nat.mul_le_mul_left p g3
      omega
theorem wraps_u32 (n : Int) (h0 : 0 ≤ n) (h1 : n < 2 ^ 32) : IntKind.u32.wrap n = n := by rw [IntKind.wrap_u32]; omega
/-- Two parts of a word that do not meet, joined. -/
theorem join32 (s w c : Nat) (hs : s < 32) (hc : c < 2 ^ s) : Go.bits .or .u32 (((w * 2 ^ s : Nat) : Int) % 4294967296) (c : Int) = ((w * 2 ^ s % 4294967296 + c : Nat) : Int) := by
  have h2 : (2 : Int) ^ 32 = 4294967296 := by decide
  have h3 : 2 ^ 32 = 2 ^ (32 - s) * 2 ^ s := by rw [← Nat.pow_add]; congr 1; omega
  have hle : 2 ^ s ≤ 2 ^ 31 := Nat.pow_le_pow_right (by decide) (by omega)
  have hm : w * 2 ^ s % 4294967296 = (w % 2 ^ (32 - s)) * 2 ^ s := by
    rw [show (4294967296 : Nat) = 2 ^ (32 - s) * 2 ^ s by rw [← h3], Nat.mul_mod_mul_right]
  have e : ((w * 2 ^ s : Nat) : Int) % 4294967296 = (((w % 2 ^ (32 - s)) * 2 ^ s : Nat) : Int) := by rw [← hm]; omega
  have hlt : (w % 2 ^ (32 - s)) * 2 ^ s < 4294967296 := by rw [← hm]; exact Nat.mod_lt _ (by decide)
  have hdv : (((w % 2 ^ (32 - s)) * 2 ^ s : Nat) : Int) % 2 ^ s = 0 := by
    have : ((2 : Int) ^ s) = ((2 ^ s : Nat) : Int) := by simp
    rw [this, ← Int.natCast_emod, Nat.mul_mod_left]; rfl
  have hcc : (c : Int) < 2 ^ s := by exact_mod_cast hc
  rw [e, bits_join .u32 32 (by decide) wraps_u32 s _ _ (by omega) hdv (by rw [h2]; omega) (by omega) hcc (by rw [h2]; omega), hm]
  omega
theorem up_loop (l : List Int) (hw : Wf 4294967296 l) (hlen : l.length ≤ 1000000) (n : Nat) :
    ∀ (d i : Nat), i + d = l.length → ∀ (out : List Int) (c : Nat), out.length ≤ 8000000 + i → Wf 4294967296 out → c < 2 ^ (n % 32) →
    Runs (fun k => num_nat_up.l0 k (n : Int) out (c : Int) l (l.length : Int) (i : Int)) (L (nv 4294967296 out + 4294967296 ^ out.length * (c + 2 ^ (n % 32) * nv 4294967296 (l.drop i)))) := by
  have hs : n % 32 < 32 := Nat.mod_lt _ (by decide)
  have hpl : 2 ^ (n % 32) ≤ 2 ^ 31 := Nat.pow_le_pow_right (by decide) (by omega)
  have ht : Int.tmod (n : Int) 32 = ((n % 32 : Nat) : Int) := by rw [Int.tmod_eq_emod_of_nonneg (by omega)]; omega
  generalize n % 32 = s at *
  intro d
  induction d with
  | zero =>
    intro i hi out c ho hwo hc
    obtain rfl : i = l.length := by omega
    refine Runs.suc ?_
    simp only [num_nat_up.l0]
    refine Runs.no (by omega) (Runs.yes (by omega) ?_)
    refine Runs.bind (trim_f _ (hwo.append (Wf.one (by omega) (by omega))) (by simp; omega)) ((Runs.pure _).of ?_)
    rw [nv_append, nv_one, List.drop_of_length_le (Nat.le_refl _)]
    simp [nv]
  | succ d ih =>
    intro i hi out c ho hwo hc
    have hil : i < l.length := by omega
    have hx := hw.get hil
    obtain ⟨y, hy⟩ := Int.eq_ofNat_of_zero_le hx.1
    have hy1 : y < 4294967296 := by omega
    have hyp : y * 2 ^ s < 4294967296 * 2 ^ s := Nat.mul_lt_mul_of_pos_right hy1 (Nat.two_pow_pos _)
    refine Runs.suc ?_
    simp only [num_nat_up.l0]
    have hsh : shl .u64 (y : Int) (s : Int) = ((y * 2 ^ s : Nat) : Int) := by
      unfold shl
      have e : min (s : Int).toNat IntKind.u64.bits = s := by rw [Int.toNat_natCast]; show min s 64 = s; omega
      rw [e]
      have e2 : (y : Int) * 2 ^ s = ((y * 2 ^ s : Nat) : Int) := by simp
      rw [e2]
      exact u64w (by omega) (by omega)
    rw [rd_get l i hil, hy, u64w (n := (y : Int)) (by omega) (by omega), ht, hsh, join32 s y c hs hc]
    have hq : y * 2 ^ s % 4294967296 + 4294967296 * (y * 2 ^ s / 4294967296) = y * 2 ^ s := Nat.mod_add_div ..
    have h3 : 4294967296 = 2 ^ (32 - s) * 2 ^ s := by rw [← Nat.pow_add, show 32 - s + s = 32 by omega]
    have hr : y * 2 ^ s % 4294967296 + c < 4294967296 := by
      have h4 : y * 2 ^ s % (2 ^ (32 - s) * 2 ^ s) = (y % 2 ^ (32 - s)) * 2 ^ s := Nat.mul_mod_mul_right ..
      rw [← h3] at h4
      have h5 : (y % 2 ^ (32 - s) + 1) * 2 ^ s ≤ 2 ^ (32 - s) * 2 ^ s := Nat.mul_le_mul_right _ (Nat.mod_lt _ (Nat.two_pow_pos _))
      rw [← h3, Nat.add_mul, Nat.one_mul] at h5
      omega
    have hq2 : y * 2 ^ s / 4294967296 < 2 ^ s := Nat.div_lt_of_lt_mul hyp
    have e3 : ((y * 2 ^ s : Nat) : Int) / 4294967296 % 4294967296 = ((y * 2 ^ s / 4294967296 : Nat) : Int) := by omega
    rw [e3, w64 (by omega) (by omega)]
    refine Runs.yes (by omega) (Runs.yes (by omega) (Runs.yes (by omega) (Runs.yes (by omega) (Runs.yes (by omega) ?_))))
    have := ih (i + 1) (by omega) (out ++ [((y * 2 ^ s % 4294967296 + c : Nat) : Int)]) (y * 2 ^ s / 4294967296) (by simp; omega) (hwo.append (Wf.one (by omega) (by omega))) hq2
    refine Runs.of this ?_
    congr 1
    rw [nv_append, nv_one, List.length_append, List.length_singleton, nv_drop _ l i hil, hy, Int.toNat_natCast]
    simp only [Int.toNat_natCast]
    generalize y * 2 ^ s / 4294967296 = q at *
    generalize y * 2 ^ s % 4294967296 = r at *
    generalize nv 4294967296 out = N
    generalize nv 4294967296 (l.drop (i + 1)) = D
    rw [Nat.pow_succ]
    generalize 4294967296 ^ out.length = p
    generalize 2 ^ s = t at *
    grind
theorem up_f (a n : Nat) (ha : Few a) (hn : n ≤ 100000000) : Runs (fun k => num_nat_up.f k (L a) (n : Int)) (L (a * 2 ^ n)) := by
  have ha' := ha
  unfold Few at ha'
  simp only [num_nat_up.f]
  have e1 : Int.tdiv (n : Int) 32 = ((n / 32 : Nat) : Int) := by rw [Int.tdiv_eq_ediv_of_nonneg (by omega)]; omega
  rw [e1, w64 (n := ((n / 32 : Nat) : Int)) (by omega) (by omega), w64 (n := ((n / 32 : Nat) : Int) + _) (by omega) (by omega), w64 (by omega) (by omega)]
  refine Runs.yes (by omega) (Runs.yes (by omega) (Runs.yes (by omega) ?_))
  rw [Int.toNat_natCast]
  refine Runs.of (up_loop (L a) (L_wf a) ha' n (L a).length 0 (by omega) _ 0 (by simp; omega) (Wf.zeros (by decide) _) (Nat.two_pow_pos _)) ?_
  congr 1
  rw [nv_zeros, List.length_replicate, List.drop_zero, L_nv]
  have : 2 ^ n = 4294967296 ^ (n / 32) * 2 ^ (n % 32) := by
    rw [show (4294967296 : Nat) = 2 ^ 32 by decide, ← Nat.pow_mul, ← Nat.pow_add]
    congr 1; omega
  rw [this]
  grind
/-- How two numbers stand. -/
def cmpN (a b : Nat) : Int := if a < b then -1 else if b < a then 1 else 0
theorem against_loop (a b : List Int) (ha : Wf 4294967296 a) (hb : Wf 4294967296 b) (hlen : a.length = b.length) (hl : a.length ≤ 1000000) :
    ∀ j, j ≤ a.length → Runs (fun k => num_nat_against.l0 k a b ((j : Int) - 1)) (cmpN (nv 4294967296 (a.take j)) (nv 4294967296 (b.take j))) := by
  intro j
  induction j with
  | zero =>
    intro _
    refine Runs.suc ?_
    simp only [num_nat_against.l0]
    exact Runs.no (by omega) ((Runs.pure _).of (by simp [nv, cmpN]))
  | succ j ih =>
    intro hj
    have h1 : j < a.length := by omega
    have h2 : j < b.length := by omega
    refine Runs.suc ?_
    simp only [num_nat_against.l0]
    rw [show ((j + 1 : Nat) : Int) - 1 = (j : Int) by omega, rd_get a j h1, rd_get b j h2, w64 (by omega) (by omega)]
    refine Runs.yes (by omega) (Runs.yes (by omega) (Runs.yes (by omega) (Runs.yes (by omega) ?_)))
    obtain ⟨x, hx⟩ := Int.eq_ofNat_of_zero_le (ha.get h1).1
    obtain ⟨y, hy⟩ := Int.eq_ofNat_of_zero_le (hb.get h2).1
    have g1 := nv_lt (B := 4294967296) (by decide) (l := a.take j) (fun z hz => ha z (List.mem_of_mem_take hz))
    have g2 := nv_lt (B := 4294967296) (by decide) (l := b.take j) (fun z hz => hb z (List.mem_of_mem_take hz))
    rw [List.length_take, Nat.min_eq_left (by omega)] at g1 g2
    rw [nv_take_succ _ a j h1, nv_take_succ _ b j h2, hx, hy, Int.toNat_natCast, Int.toNat_natCast]
    have ih := ih (by omega)
    generalize nv 4294967296 (a.take j) = N at *
    generalize nv 4294967296 (b.take j) = M at *
    generalize 4294967296 ^ j = p at *
    by_cases c1 : x < y
    · refine Runs.yes (by omega) ((Runs.pure _).of ?_)
      have : p * (x + 1) ≤ p * y := Nat.mul_le_mul_left p c1
      rw [Nat.mul_add] at this
      unfold cmpN
      rw [if_pos (by omega)]
    · refine Runs.no (by omega) ?_
      by_cases c2 : y < x
      · refine Runs.yes (by omega) ((Runs.pure _).of ?_)
        have : p * (y + 1) ≤ p * x := Nat.mul_le_mul_left p c2
        rw [Nat.mul_add] at this
        unfold cmpN
        rw [if_neg (by omega), if_pos (by omega)]
      · refine Runs.no (by omega) ?_
        have : x = y := by omega
        subst this
        refine ih.of ?_
        unfold cmpN
        generalize p * x = z
        by_cases c3 : N < M
        · rw [if_pos c3, if_pos (by omega)]
        · rw [if_neg c3, if_neg (show ¬ N + z < M + z by omega)]
          by_cases c4 : M < N
          · rw [if_pos c4, if_pos (by omega)]
          · rw [if_neg c4, if_neg (by omega)]
theorem lim_lt {B : Nat} (hB : 2 ≤ B) {a b : Nat} (h : (lim B a).length < (lim B b).length) : a < b := by
  rcases Nat.lt_or_ge a b with h1 | h1
  · exact h1
  · have := lim_len hB (lim B a).length b (Nat.lt_of_le_of_lt h1 (lim_le hB a))
    omega
theorem against_f (a b : Nat) (ha : Few a) : Runs (fun k => num_nat_against.f k (L a) (L b)) (cmpN a b) := by
  unfold Few at ha
  simp only [num_nat_against.f]
  by_cases h1 : (L a).length < (L b).length
  · refine Runs.yes (by omega) ((Runs.pure _).of ?_)
    have := lim_lt (by decide) h1
    unfold cmpN; rw [if_pos this]
  · refine Runs.no (by omega) ?_
    by_cases h2 : (L b).length < (L a).length
    · refine Runs.yes (by omega) ((Runs.pure _).of ?_)
      have := lim_lt (by decide) h2
      unfold cmpN; rw [if_neg (by omega), if_pos this]
    · refine Runs.no (by omega) ?_
      have he : (L a).length = (L b).length := by omega
      have := against_loop (L a) (L b) (L_wf a) (L_wf b) he ha (L a).length (Nat.le_refl _)
      rw [w64 (by omega) (by omega)]
      refine this.of ?_
      have e1 : (L a).take (L a).length = L a := List.take_length
      have e2 : (L b).take (L a).length = L b := by rw [he]; exact List.take_length
      rw [e1, e2, L_nv, L_nv]
theorem plus_l0 (l s : List Int) (hw : Wf 4294967296 l) (hws : Wf 4294967296 s) (hlen : l.length ≤ 1000001) (hsl : s.length ≤ l.length) :
    ∀ (d i : Nat), i + d = l.length → ∀ (out : List Int) (c : Nat), out.length = l.length + 1 → Wf 4294967296 (out.take i) → c < 2 →
    Runs (fun k => num_nat_plus.l0 k l s out (c : Int) l (l.length : Int) (i : Int)) (L (nv 4294967296 (out.take i) + 4294967296 ^ i * (c + nv 4294967296 (l.drop i) + nv 4294967296 (s.drop i)))) := by
  intro d
  induction d with
  | zero =>
    intro i hi out c ho hwo hc
    obtain rfl : i = l.length := by omega
    refine Runs.suc ?_
    simp only [num_nat_plus.l0]
    refine Runs.no (by omega) (Runs.yes (by omega) (Runs.yes (by omega) ?_))
    rw [show ((c : Int) % 4294967296) = (c : Int) by omega, Int.toNat_natCast]
    have hset : out.set l.length (c : Int) = out.take l.length ++ [(c : Int)] := by
      have := take_set_succ out l.length (c : Int) (by omega)
      rw [← this, List.take_of_length_le (by rw [List.length_set]; omega)]
    rw [hset]
    refine Runs.bind (trim_f _ (hwo.append (Wf.one (by omega) (by omega))) (by simp; omega)) ((Runs.pure _).of ?_)
    rw [nv_append, nv_one, List.length_take, Nat.min_eq_left (by omega), List.drop_of_length_le (Nat.le_refl _), List.drop_of_length_le hsl]
    simp [nv]
  | succ d ih =>
    intro i hi out c ho hwo hc
    have hil : i < l.length := by omega
    obtain ⟨y, hy⟩ := Int.eq_ofNat_of_zero_le (hw.get hil).1
    have hy1 : y < 4294967296 := by have := (hw.get hil).2; omega
    refine Runs.suc ?_
    simp only [num_nat_plus.l0]
    rw [rd_get l i hil, hy, u64w (n := (y : Int)) (by omega) (by omega), u64w (n := (c : Int) + (y : Int)) (by omega) (by omega), w64 (by omega) (by omega), Int.toNat_natCast]
    refine Runs.yes (by omega) (Runs.yes (by omega) (Runs.yes (by omega) ?_))
    by_cases his : i < s.length
    · obtain ⟨z, hz⟩ := Int.eq_ofNat_of_zero_le (hws.get his).1
      have hz1 : z < 4294967296 := by have := (hws.get his).2; omega
      rw [rd_get s i his, hz, u64w (n := (z : Int)) (by omega) (by omega), u64w (n := (c : Int) + (y : Int) + (z : Int)) (by omega) (by omega)]
      refine Runs.yes (by omega) (Runs.yes (by omega) ?_)
      have e2 : ((c : Int) + (y : Int) + (z : Int)) % 4294967296 = (((c + y + z) % 4294967296 : Nat) : Int) := by omega
      have e3 : ((c : Int) + (y : Int) + (z : Int)) / 4294967296 = (((c + y + z) / 4294967296 : Nat) : Int) := by omega
      rw [e2, e3]
      have hq : (c + y + z) % 4294967296 + 4294967296 * ((c + y + z) / 4294967296) = c + y + z := Nat.mod_add_div ..
      have hr : (c + y + z) % 4294967296 < 4294967296 := Nat.mod_lt _ (by decide)
      have hq2 : (c + y + z) / 4294967296 < 2 := by omega
      generalize (c + y + z) % 4294967296 = r at *
      generalize (c + y + z) / 4294967296 = q at *
      have ht := take_set_succ out i (r : Int) (by omega)
      have := ih (i + 1) (by omega) (out.set i (r : Int)) q (by rw [List.length_set]; exact ho) (by rw [ht]; exact hwo.append (Wf.one (by omega) (by omega))) hq2
      refine Runs.of this ?_
      congr 1
      rw [ht, nv_append, nv_one, List.length_take, Nat.min_eq_left (by omega), nv_drop _ l i hil, nv_drop _ s i his, hy, hz]
      simp only [Int.toNat_natCast]
      generalize nv 4294967296 (List.take i out) = N
      generalize nv 4294967296 (l.drop (i + 1)) = D
      generalize nv 4294967296 (s.drop (i + 1)) = E
      rw [Nat.pow_succ]
      generalize 4294967296 ^ i = p
      grind
    · refine Runs.no (by omega) (Runs.yes (by omega) ?_)
      have e2 : ((c : Int) + (y : Int)) % 4294967296 = (((c + y) % 4294967296 : Nat) : Int) := by omega
      have e3 : ((c : Int) + (y : Int)) / 4294967296 = (((c + y) / 4294967296 : Nat) : Int) := by omega
      rw [e2, e3]
      have hq : (c + y) % 4294967296 + 4294967296 * ((c + y) / 4294967296) = c + y := Nat.mod_add_div ..
      have hr : (c + y) % 4294967296 < 4294967296 := Nat.mod_lt _ (by decide)
      have hq2 : (c + y) / 4294967296 < 2 := by omega
      generalize (c + y) % 4294967296 = r at *
      generalize (c + y) / 4294967296 = q at *
      have ht := take_set_succ out i (r : Int) (by omega)
      have := ih (i + 1) (by omega) (out.set i (r : Int)) q (by rw [List.length_set]; exact ho) (by rw [ht]; exact hwo.append (Wf.one (by omega) (by omega))) hq2
      refine Runs.of this ?_
      congr 1
      rw [ht, nv_append, nv_one, List.length_take, Nat.min_eq_left (by omega), nv_drop _ l i hil, hy, List.drop_of_length_le (show s.length ≤ i + 1 by omega), List.drop_of_length_le (show s.length ≤ i by omega)]
      simp only [Int.toNat_natCast, nv]
      generalize nv 4294967296 (List.take i out) = N
      generalize nv 4294967296 (l.drop (i + 1)) = D
      rw [Nat.pow_succ]
      generalize 4294967296 ^ i = p
      grind
theorem plus_l101 (l s : List Int) (hw : Wf 4294967296 l) (hws : Wf 4294967296 s) (hlen : l.length ≤ 1000001) (hsl : s.length ≤ l.length) :
    ∀ (d i : Nat), i + d = l.length → ∀ (out : List Int) (c : Nat), out.length = l.length + 1 → Wf 4294967296 (out.take i) → c < 2 →
    Runs (fun k => num_nat_plus.l101 k l s out (c : Int) l (l.length : Int) (i : Int)) (L (nv 4294967296 (out.take i) + 4294967296 ^ i * (c + nv 4294967296 (l.drop i) + nv 4294967296 (s.drop i)))) := by
  intro d
  induction d with
  | zero =>
    intro i hi out c ho hwo hc
    obtain rfl : i = l.length := by omega
    refine Runs.suc ?_
    simp only [num_nat_plus.l101]
    refine Runs.no (by omega) (Runs.yes (by omega) (Runs.yes (by omega) ?_))
    rw [show ((c : Int) % 4294967296) = (c : Int) by omega, Int.toNat_natCast]
    have hset : out.set l.length (c : Int) = out.take l.length ++ [(c : Int)] := by
      have := take_set_succ out l.length (c : Int) (by omega)
      rw [← this, List.take_of_length_le (by rw [List.length_set]; omega)]
    rw [hset]
    refine Runs.bind (trim_f _ (hwo.append (Wf.one (by omega) (by omega))) (by simp; omega)) ((Runs.pure _).of ?_)
    rw [nv_append, nv_one, List.length_take, Nat.min_eq_left (by omega), List.drop_of_length_le (Nat.le_refl _), List.drop_of_length_le hsl]
    simp [nv]
  | succ d ih =>
    intro i hi out c ho hwo hc
    have hil : i < l.length := by omega
    obtain ⟨y, hy⟩ := Int.eq_ofNat_of_zero_le (hw.get hil).1
    have hy1 : y < 4294967296 := by have := (hw.get hil).2; omega
    refine Runs.suc ?_
    simp only [num_nat_plus.l101]
    rw [rd_get l i hil, hy, u64w (n := (y : Int)) (by omega) (by omega), u64w (n := (c : Int) + (y : Int)) (by omega) (by omega), w64 (by omega) (by omega), Int.toNat_natCast]
    refine Runs.yes (by omega) (Runs.yes (by omega) (Runs.yes (by omega) ?_))
    by_cases his : i < s.length
    · obtain ⟨z, hz⟩ := Int.eq_ofNat_of_zero_le (hws.get his).1
      have hz1 : z < 4294967296 := by have := (hws.get his).2; omega
      rw [rd_get s i his, hz, u64w (n := (z : Int)) (by omega) (by omega), u64w (n := (c : Int) + (y : Int) + (z : Int)) (by omega) (by omega)]
      refine Runs.yes (by omega) (Runs.yes (by omega) ?_)
      have e2 : ((c : Int) + (y : Int) + (z : Int)) % 4294967296 = (((c + y + z) % 4294967296 : Nat) : Int) := by omega
      have e3 : ((c : Int) + (y : Int) + (z : Int)) / 4294967296 = (((c + y + z) / 4294967296 : Nat) : Int) := by omega
      rw [e2, e3]
      have hq : (c + y + z) % 4294967296 + 4294967296 * ((c + y + z) / 4294967296) = c + y + z := Nat.mod_add_div ..
      have hr : (c + y + z) % 4294967296 < 4294967296 := Nat.mod_lt _ (by decide)
      have hq2 : (c + y + z) / 4294967296 < 2 := by omega
      generalize (c + y + z) % 4294967296 = r at *
      generalize (c + y + z) / 4294967296 = q at *
      have ht := take_set_succ out i (r : Int) (by omega)
      have := ih (i + 1) (by omega) (out.set i (r : Int)) q (by rw [List.length_set]; exact ho) (by rw [ht]; exact hwo.append (Wf.one (by omega) (by omega))) hq2
      refine Runs.of this ?_
      congr 1
      rw [ht, nv_append, nv_one, List.length_take, Nat.min_eq_left (by omega), nv_drop _ l i hil, nv_drop _ s i his, hy, hz]
      simp only [Int.toNat_natCast]
      generalize nv 4294967296 (List.take i out) = N
      generalize nv 4294967296 (l.drop (i + 1)) = D
      generalize nv 4294967296 (s.drop (i + 1)) = E
      rw [Nat.pow_succ]
      generalize 4294967296 ^ i = p
      grind
    · refine Runs.no (by omega) (Runs.yes (by omega) ?_)
      have e2 : ((c : Int) + (y : Int)) % 4294967296 = (((c + y) % 4294967296 : Nat) : Int) := by omega
      have e3 : ((c : Int) + (y : Int)) / 4294967296 = (((c + y) / 4294967296 : Nat) : Int) := by omega
      rw [e2, e3]
      have hq : (c + y) % 4294967296 + 4294967296 * ((c + y) / 4294967296) = c + y := Nat.mod_add_div ..
      have hr : (c + y) % 4294967296 < 4294967296 := Nat.mod_lt _ (by decide)
      have hq2 : (c + y) / 4294967296 < 2 := by omega
      generalize (c + y) % 4294967296 = r at *
      generalize (c + y) / 4294967296 = q at *
      have ht := take_set_succ out i (r : Int) (by omega)
      have := ih (i + 1) (by omega) (out.set i (r : Int)) q (by rw [List.length_set]; exact ho) (by rw [ht]; exact hwo.append (Wf.one (by omega) (by omega))) hq2
      refine Runs.of this ?_
      congr 1
      rw [ht, nv_append, nv_one, List.length_take, Nat.min_eq_left (by omega), nv_drop _ l i hil, hy, List.drop_of_length_le (show s.length ≤ i + 1 by omega), List.drop_of_length_le (show s.length ≤ i by omega)]
      simp only [Int.toNat_natCast, nv]
      generalize nv 4294967296 (List.take i out) = N
      generalize nv 4294967296 (l.drop (i + 1)) = D
      rw [Nat.pow_succ]
      generalize 4294967296 ^ i = p
      grind
theorem plus_f (a b : Nat) (ha : Few a) (hb : Few b) : Runs (fun k => num_nat_plus.f k (L a) (L b)) (L (a + b)) := by
  unfold Few at ha hb
  simp only [num_nat_plus.f]
  rw [w64 (n := ((L b).length : Int) + 1) (by omega) (by omega), w64 (n := ((L a).length : Int) + 1) (by omega) (by omega)]
  rw [show (((L b).length : Int) + 1).toNat = (L b).length + 1 by omega, show (((L a).length : Int) + 1).toNat = (L a).length + 1 by omega]
  by_cases h : (L a).length < (L b).length
  · refine Runs.yes (by omega) (Runs.yes (by omega) (Runs.yes (by omega) ?_))
    refine (plus_l0 (L b) (L a) (L_wf b) (L_wf a) (by omega) (by omega) (L b).length 0 (by omega) _ 0 (by simp) (by rw [List.take_zero]; exact Wf.nil _) (by omega)).of ?_
    congr 1
    rw [List.take_zero, List.drop_zero, List.drop_zero, L_nv, L_nv, nv]; grind
  · refine Runs.no (by omega) (Runs.yes (by omega) (Runs.yes (by omega) ?_))
    refine (plus_l101 (L a) (L b) (L_wf a) (L_wf b) (by omega) (by omega) (L a).length 0 (by omega) _ 0 (by simp) (by rw [List.take_zero]; exact Wf.nil _) (by omega)).of ?_
    congr 1
    rw [List.take_zero, List.drop_zero, List.drop_zero, L_nv, L_nv, nv]; grind
theorem less_digit (w b y : Nat) (hw : w < 4294967296) (hb : b < 2) (hy : y < 4294967296) :
    ∃ d q : Nat, IntKind.u64.wrap (IntKind.u64.wrap ((w : Int) - b) - y) % 4294967296 = (d : Int) ∧ IntKind.u64.wrap (IntKind.u64.wrap ((w : Int) - b) - y) / 9223372036854775808 = (q : Int) ∧ d < 4294967296 ∧ q < 2 ∧ w + 4294967296 * q = d + b + y := by
  rw [IntKind.wrap_u64, IntKind.wrap_u64]
  by_cases h : b + y ≤ w
  · exact ⟨w - b - y, 0, by omega, by omega, by omega, by omega, by omega⟩
  · exact ⟨w + 4294967296 - b - y, 1, by omega, by omega, by omega, by omega, by omega⟩
theorem less_digit0 (w b : Nat) (hw : w < 4294967296) (hb : b < 2) :
    ∃ d q : Nat, IntKind.u64.wrap ((w : Int) - b) % 4294967296 = (d : Int) ∧ IntKind.u64.wrap ((w : Int) - b) / 9223372036854775808 = (q : Int) ∧ d < 4294967296 ∧ q < 2 ∧ w + 4294967296 * q = d + b := by
  rw [IntKind.wrap_u64]
  by_cases h : b ≤ w
  · exact ⟨w - b, 0, by omega, by omega, by omega, by omega, by omega⟩
  · exact ⟨w + 4294967296 - b, 1, by omega, by omega, by omega, by omega, by omega⟩
theorem less_loop (l s : List Int) (hw : Wf 4294967296 l) (hws : Wf 4294967296 s) (hlen : l.length ≤ 1000000) :
    ∀ (d i : Nat), i + d = l.length → ∀ (out : List Int) (c : Nat), out.length = l.length → Wf 4294967296 (out.take i) → c < 2 → c + nv 4294967296 (s.drop i) ≤ nv 4294967296 (l.drop i) →
    Runs (fun k => num_nat_less.l0 k s out (c : Int) l (l.length : Int) (i : Int)) (L (nv 4294967296 (out.take i) + 4294967296 ^ i * (nv 4294967296 (l.drop i) - (c + nv 4294967296 (s.drop i))))) := by
  intro d
  induction d with
  | zero =>
    intro i hi out c ho hwo hc hle
    obtain rfl : i = l.length := by omega
    rw [List.drop_of_length_le (Nat.le_refl _)] at hle ⊢
    rw [nv] at hle ⊢
    refine Runs.suc ?_
    simp only [num_nat_less.l0]
    refine Runs.no (by omega) ?_
    have : out.take l.length = out := List.take_of_length_le (by omega)
    rw [this] at hwo ⊢
    exact Runs.bind (trim_f _ hwo (by omega)) ((Runs.pure _).of (by simp))
  | succ d ih =>
    intro i hi out c ho hwo hc hle
    have hil : i < l.length := by omega
    obtain ⟨w, hy⟩ := Int.eq_ofNat_of_zero_le (hw.get hil).1
    have hw1 : w < 4294967296 := by have := (hw.get hil).2; omega
    refine Runs.suc ?_
    simp only [num_nat_less.l0]
    rw [rd_get l i hil, hy, u64w (n := (w : Int)) (by omega) (by omega), w64 (by omega) (by omega), Int.toNat_natCast]
    refine Runs.yes (by omega) (Runs.yes (by omega) (Runs.yes (by omega) ?_))
    rw [nv_drop _ l i hil, hy, Int.toNat_natCast] at hle ⊢
    by_cases his : i < s.length
    · obtain ⟨y, hz⟩ := Int.eq_ofNat_of_zero_le (hws.get his).1
      have hz1 : y < 4294967296 := by have := (hws.get his).2; omega
      rw [rd_get s i his, hz, u64w (n := (y : Int)) (by omega) (by omega)]
      obtain ⟨r, q, e2, e3, hr, hq2, hq⟩ := less_digit w c y hw1 hc hz1
      rw [e2, e3]
      refine Runs.yes (by omega) (Runs.yes (by omega) ?_)
      have ht := take_set_succ out i (r : Int) (by omega)
      rw [nv_drop _ s i his, hz, Int.toNat_natCast] at hle ⊢
      have := ih (i + 1) (by omega) (out.set i (r : Int)) q (by rw [List.length_set]; exact ho) (by rw [ht]; exact hwo.append (Wf.one (by omega) (by omega))) hq2 (by omega)
      refine Runs.of this ?_
      congr 1
      rw [ht, nv_append, nv_one, List.length_take, Nat.min_eq_left (by omega)]
      simp only [Int.toNat_natCast]
      generalize nv 4294967296 (List.take i out) = N
      generalize nv 4294967296 (l.drop (i + 1)) = D at *
      generalize nv 4294967296 (s.drop (i + 1)) = E at *
      rw [Nat.pow_succ]
      generalize 4294967296 ^ i = p
      obtain ⟨X, hX⟩ : ∃ X, D = X + (q + E) := ⟨D - (q + E), by omega⟩
      rw [show D - (q + E) = X by omega, show w + 4294967296 * D - (c + (y + 4294967296 * E)) = r + 4294967296 * X by omega]
      grind
    · refine Runs.no (by omega) ?_
      obtain ⟨r, q, e2, e3, hr, hq2, hq⟩ := less_digit0 w c hw1 hc
      rw [e2, e3]
      refine Runs.yes (by omega) ?_
      have ht := take_set_succ out i (r : Int) (by omega)
      have hs1 : s.drop (i + 1) = [] := List.drop_of_length_le (by omega)
      rw [List.drop_of_length_le (show s.length ≤ i by omega), nv] at hle ⊢
      have := ih (i + 1) (by omega) (out.set i (r : Int)) q (by rw [List.length_set]; exact ho) (by rw [ht]; exact hwo.append (Wf.one (by omega) (by omega))) hq2 (by rw [hs1, nv]; omega)
      refine Runs.of this ?_
      congr 1
      rw [ht, nv_append, nv_one, List.length_take, Nat.min_eq_left (by omega), hs1, nv]
      simp only [Int.toNat_natCast]
      generalize nv 4294967296 (List.take i out) = N
      generalize nv 4294967296 (l.drop (i + 1)) = D at *
      rw [Nat.pow_succ]
      generalize 4294967296 ^ i = p
      obtain ⟨X, hX⟩ : ∃ X, D = X + q := ⟨D - q, by omega⟩
      rw [show D - (q + 0) = X by omega, show w + 4294967296 * D - (c + 0) = r + 4294967296 * X by omega]
      grind
theorem less_f (a b : Nat) (ha : Few a) (h : b ≤ a) : Runs (fun k => num_nat_less.f k (L a) (L b)) (L (a - b)) := by
  unfold Few at ha
  simp only [num_nat_less.f]
  rw [Int.toNat_natCast]
  refine Runs.yes (by omega) (Runs.yes (by omega) ?_)
  refine (less_loop (L a) (L b) (L_wf a) (L_wf b) ha (L a).length 0 (by omega) _ 0 (by simp) (by rw [List.take_zero]; exact Wf.nil _) (by omega) (by rw [List.drop_zero, List.drop_zero, L_nv, L_nv]; omega)).of ?_
  congr 1
  rw [List.take_zero, List.drop_zero, List.drop_zero, L_nv, L_nv, nv]
  simp
end Go.Proofs.YtjlnfnfdibfniaaDoor.Pl

/- How two float64 stand to each other, told by their rungs. -/
namespace Go.Proofs.YtjlnfnfdibfniaaDoor.Pl
open Ieee

/-- The number of a rung, in units of the least place. -/
def rungVal (r : Nat) : Nat := if r < 2 ^ 52 then r else (2 ^ 52 + r % 2 ^ 52) * 2 ^ (r / 2 ^ 52 - 1)
theorem rungVal_succ (r : Nat) : rungVal r < rungVal (r + 1) := by
  unfold rungVal
  by_cases h1 : r + 1 < 2 ^ 52
  · rw [if_pos h1, if_pos (by omega)]; omega
  · rw [if_neg h1]
    by_cases h2 : r < 2 ^ 52
    · rw [if_pos h2]
      have : r + 1 = 2 ^ 52 := by omega
      rw [this]; omega
    · rw [if_neg h2]
      obtain ⟨q, hq⟩ : ∃ q, q = r / 2 ^ 52 := ⟨_, rfl⟩
      obtain ⟨s, hs⟩ : ∃ s, s = r % 2 ^ 52 := ⟨_, rfl⟩
      have hd : r = 2 ^ 52 * q + s := by rw [hq, hs]; exact (Nat.div_add_mod r (2 ^ 52)).symm
      have hs' : s < 2 ^ 52 := by rw [hs]; exact Nat.mod_lt _ (by decide)
      have hq' : 1 ≤ q := by omega
      rw [← hq, ← hs]
      by_cases h3 : s + 1 < 2 ^ 52
      · have e1 : (r + 1) / 2 ^ 52 = q := by omega
        have e2 : (r + 1) % 2 ^ 52 = s + 1 := by omega
        rw [e1, e2]
        exact Nat.mul_lt_mul_of_pos_right (by omega) (Nat.two_pow_pos _)
      · have e1 : (r + 1) / 2 ^ 52 = q + 1 := by omega
        have e2 : (r + 1) % 2 ^ 52 = 0 := by omega
        rw [e1, e2]
        have e3 : q + 1 - 1 = (q - 1) + 1 := by omega
        rw [e3, Nat.pow_succ]
        have hp := Nat.two_pow_pos (q - 1)
        calc (2 ^ 52 + s) * 2 ^ (q - 1) < (2 ^ 52 * 2) * 2 ^ (q - 1) := Nat.mul_lt_mul_of_pos_right (by omega) hp
          _ = (2 ^ 52 + 0) * (2 ^ (q - 1) * 2) := by rw [Nat.add_zero, Nat.mul_assoc, Nat.mul_comm 2]
theorem rungVal_lt {r t : Nat} (h : r < t) : rungVal r < rungVal t := by
  induction h with
  | refl => exact rungVal_succ r
  | step _ ih => exact Nat.lt_trans ih (rungVal_succ _)
theorem rungVal_lt_iff {r t : Nat} : rungVal r < rungVal t ↔ r < t := by
  constructor
  · intro h
    rcases Nat.lt_trichotomy r t with h1 | h1 | h1
    · exact h1
    · subst h1; omega
    · have := rungVal_lt h1; omega
  · exact rungVal_lt
/-- A float's place in the row of all: its rung, with its sign. -/
def srung (x : Nat) : Int := if x / 2 ^ 63 % 2 == 1 then -((x % 2 ^ 63 : Nat) : Int) else ((x % 2 ^ 63 : Nat) : Int)
def isNum (x : Nat) : Prop := x % 2 ^ 63 ≤ 2047 * 2 ^ 52
theorem weight : double.signWeight = 2 ^ 63 := rfl
theorem infR : double.infRung = 2047 * 2 ^ 52 := rfl
theorem bin : double.binade = 2 ^ 52 := rfl
theorem read_nan {y : Nat} (h : ¬ isNum y) : double.read y = .nan (y / 2 ^ 63 % 2 == 1) (y % 2 ^ 63 - 2047 * 2 ^ 52) := by
  unfold isNum at h
  have h1 : ¬ y % double.signWeight < double.binade := by rw [weight, bin]; omega
  have h2 : ¬ y % double.signWeight < double.infRung := by rw [weight, infR]; omega
  have h3 : ¬ y % double.signWeight = double.infRung := by rw [weight, infR]; omega
  unfold Format.read
  simp only []
  rw [if_neg h1, if_neg h2, if_neg h3, weight, infR]
theorem order_nan_left {x y : Nat} (h : ¬ isNum x) : double.order x y = none := by
  unfold Format.order
  rw [read_nan h]
  rfl
theorem order_nan_right {x y : Nat} (h : ¬ isNum y) : double.order x y = none := by
  unfold Format.order
  rw [read_nan h]
  cases double.read x <;> rfl
/-- The number that a word's finite rung stands for. -/
theorem read_num {x : Nat} (h : x % 2 ^ 63 < 2047 * 2 ^ 52) : ∃ m e : Nat, double.read x = .number (x / 2 ^ 63 % 2 == 1) m (double.leastPlace + (e : Int)) ∧ m * 2 ^ e = rungVal (x % 2 ^ 63) := by
  unfold rungVal
  by_cases h1 : x % 2 ^ 63 < 2 ^ 52
  · have g1 : x % double.signWeight < double.binade := by rw [weight, bin]; exact h1
    refine ⟨x % 2 ^ 63, 0, ?_, by rw [if_pos h1]; omega⟩
    unfold Format.read
    simp only []
    rw [if_pos g1, weight, Int.natCast_zero, Int.add_zero]
  · have g1 : ¬ x % double.signWeight < double.binade := by rw [weight, bin]; exact h1
    have g2 : x % double.signWeight < double.infRung := by rw [weight, infR]; exact h
    refine ⟨2 ^ 52 + x % 2 ^ 63 % 2 ^ 52, x % 2 ^ 63 / 2 ^ 52 - 1, ?_, by rw [if_neg h1]⟩
    unfold Format.read
    simp only []
    rw [if_neg g1, if_pos g2, weight, bin]
theorem read_inf {x : Nat} (h : x % 2 ^ 63 = 2047 * 2 ^ 52) : double.read x = .infinity (x / 2 ^ 63 % 2 == 1) := by
  have h1 : ¬ x % double.signWeight < double.binade := by rw [weight, bin]; omega
  have h2 : ¬ x % double.signWeight < double.infRung := by rw [weight, infR]; omega
  have h3 : x % double.signWeight = double.infRung := by rw [weight, infR]; omega
  unfold Format.read
  simp only []
  rw [if_neg h1, if_neg h2, if_pos h3, weight]
theorem compare_congr {a b c d : Int} (h1 : a < b ↔ c < d) (h2 : b < a ↔ d < c) : compare a b = compare c d := by
  simp only [compare, compareOfLessAndEq]
  by_cases e1 : a < b
  · rw [if_pos e1, if_pos (h1.1 e1)]
  · rw [if_neg e1, if_neg (fun h => e1 (h1.2 h))]
    by_cases e2 : b < a
    · rw [if_neg (show ¬ a = b by omega), if_neg (show ¬ c = d by have := h2.1 e2; omega)]
    · have h3 : ¬ d < c := fun h => e2 (h2.2 h)
      have h4 : ¬ c < d := fun h => e1 (h1.2 h)
      rw [if_pos (show a = b by omega), if_pos (show c = d by omega)]
theorem cmp_lt {a b : Int} (h : a < b) : compare a b = .lt := by simp only [compare, compareOfLessAndEq]; rw [if_pos h]
theorem cmp_gt {a b : Int} (h : b < a) : compare a b = .gt := by simp only [compare, compareOfLessAndEq]; rw [if_neg (by omega), if_neg (by omega)]
theorem cmp_eq {a b : Int} (h : a = b) : compare a b = .eq := by simp only [compare, compareOfLessAndEq]; rw [if_neg (by omega), if_pos h]
theorem cmp_lt_iff {a b : Int} : compare a b = .lt ↔ a < b := by
  rcases Int.lt_trichotomy a b with h | h | h
  · simp [cmp_lt h, h]
  · simp only [cmp_eq h]; constructor <;> intro h' <;> first | cases h' | omega
  · simp only [cmp_gt h]; constructor <;> intro h' <;> first | cases h' | omega
theorem cmp_gt_iff {a b : Int} : compare a b = .gt ↔ b < a := by
  rcases Int.lt_trichotomy a b with h | h | h
  · simp only [cmp_lt h]; constructor <;> intro h' <;> first | cases h' | omega
  · simp only [cmp_eq h]; constructor <;> intro h' <;> first | cases h' | omega
  · simp [cmp_gt h, h]
theorem cmp_eq_iff {a b : Int} : compare a b = .eq ↔ a = b := by
  rcases Int.lt_trichotomy a b with h | h | h
  · rw [cmp_lt h]; exact ⟨(fun h' => nomatch h'), (fun h' => by omega)⟩
  · rw [cmp_eq h]; exact ⟨fun _ => h, fun _ => rfl⟩
  · rw [cmp_gt h]; exact ⟨(fun h' => nomatch h'), (fun h' => by omega)⟩
def sg (s : Bool) (v : Nat) : Int := if s then -(v : Int) else (v : Int)
theorem sg_scale (s t : Bool) (a b p : Nat) (hp : 0 < p) : (sg s a < sg t b ↔ sg s (a * p) < sg t (b * p)) := by
  have k1 : ∀ a b : Nat, a < b ↔ a * p < b * p := fun a b => (Nat.mul_lt_mul_right hp).symm
  have h1 := k1 a b
  have h2 := k1 b a
  have h3 := k1 0 a
  have h4 := k1 0 b
  rw [Nat.zero_mul] at h3 h4
  generalize a * p = a' at *
  generalize b * p = b' at *
  cases s <;> cases t <;> simp only [sg] <;> simp <;> omega
theorem sg_mono (s t : Bool) {r u : Nat} : (sg s (rungVal r) < sg t (rungVal u) ↔ sg s r < sg t u) := by
  have h1 := @rungVal_lt_iff r u
  have h2 := @rungVal_lt_iff u r
  have h3 := @rungVal_lt_iff 0 r
  have h4 := @rungVal_lt_iff 0 u
  have h0 : rungVal 0 = 0 := rfl
  rw [h0] at h3 h4
  generalize rungVal r = r' at *
  generalize rungVal u = u' at *
  cases s <;> cases t <;> simp only [sg] <;> simp <;> omega
theorem srung_eq (x : Nat) : srung x = sg (x / 2 ^ 63 % 2 == 1) (x % 2 ^ 63) := rfl
theorem signed_eq (s : Bool) (m u : Nat) : signed s m u = sg s (m * 2 ^ u) := by
  unfold signed sg
  rw [Nat.shiftLeft_eq]
theorem order_eq {x y : Nat} (hx : isNum x) (hy : isNum y) : double.order x y = some (compare (srung x) (srung y)) := by
  unfold isNum at hx hy
  unfold Format.order
  rw [srung_eq, srung_eq]
  by_cases ix : x % 2 ^ 63 = 2047 * 2 ^ 52
  · rw [read_inf ix]
    by_cases iy : y % 2 ^ 63 = 2047 * 2 ^ 52
    · rw [read_inf iy, ix, iy]
      cases (x / 2 ^ 63 % 2 == 1) <;> cases (y / 2 ^ 63 % 2 == 1) <;> rfl
    · obtain ⟨m, e, hr, _⟩ := read_num (x := y) (by omega)
      rw [hr, ix]
      have hlt : y % 2 ^ 63 < 2047 * 2 ^ 52 := by omega
      generalize y % 2 ^ 63 = v at hlt
      cases (x / 2 ^ 63 % 2 == 1) <;> cases (y / 2 ^ 63 % 2 == 1) <;> first | exact congrArg some (cmp_lt (by simp only [sg]; simp; omega)).symm | exact congrArg some (cmp_gt (by simp only [sg]; simp; omega)).symm
  · by_cases iy : y % 2 ^ 63 = 2047 * 2 ^ 52
    · obtain ⟨m, e, hr, _⟩ := read_num (x := x) (by omega)
      rw [hr, read_inf iy, iy]
      have hlt : x % 2 ^ 63 < 2047 * 2 ^ 52 := by omega
      generalize x % 2 ^ 63 = v at hlt
      cases (x / 2 ^ 63 % 2 == 1) <;> cases (y / 2 ^ 63 % 2 == 1) <;> first | exact congrArg some (cmp_lt (by simp only [sg]; simp; omega)).symm | exact congrArg some (cmp_gt (by simp only [sg]; simp; omega)).symm
    · obtain ⟨m, e, hr, hm⟩ := read_num (x := x) (by omega)
      obtain ⟨n, q, hs, hn⟩ := read_num (x := y) (by omega)
      rw [hr, hs]
      simp only [Datum.order]
      rw [signed_eq, signed_eq]
      refine congrArg some (compare_congr ?_ ?_)
      · rw [← sg_mono (r := x % 2 ^ 63) (u := y % 2 ^ 63), ← hm, ← hn]
        rcases Nat.le_total e q with h | h
        · have e1 : min (double.leastPlace + (e : Int)) (double.leastPlace + (q : Int)) = double.leastPlace + e := by omega
          rw [e1]
          have e2 : (double.leastPlace + (e : Int) - (double.leastPlace + e)).toNat = 0 := by omega
          have e3 : (double.leastPlace + (q : Int) - (double.leastPlace + e)).toNat = q - e := by omega
          rw [e2, e3]
          have hq : q = (q - e) + e := by omega
          rw [sg_scale _ _ _ _ (2 ^ e) (Nat.two_pow_pos _)]
          rw [Nat.mul_assoc, Nat.mul_assoc, ← Nat.pow_add, ← Nat.pow_add, Nat.zero_add, ← hq]
        · have e1 : min (double.leastPlace + (e : Int)) (double.leastPlace + (q : Int)) = double.leastPlace + q := by omega
          rw [e1]
          have e2 : (double.leastPlace + (e : Int) - (double.leastPlace + q)).toNat = e - q := by omega
          have e3 : (double.leastPlace + (q : Int) - (double.leastPlace + q)).toNat = 0 := by omega
          rw [e2, e3]
          have hq : e = (e - q) + q := by omega
          rw [sg_scale _ _ _ _ (2 ^ q) (Nat.two_pow_pos _)]
          rw [Nat.mul_assoc, Nat.mul_assoc, ← Nat.pow_add, ← Nat.pow_add, Nat.zero_add, ← hq]
      · rw [← sg_mono (r := y % 2 ^ 63) (u := x % 2 ^ 63), ← hm, ← hn]
        rcases Nat.le_total e q with h | h
        · have e1 : min (double.leastPlace + (e : Int)) (double.leastPlace + (q : Int)) = double.leastPlace + e := by omega
          rw [e1]
          have e2 : (double.leastPlace + (e : Int) - (double.leastPlace + e)).toNat = 0 := by omega
          have e3 : (double.leastPlace + (q : Int) - (double.leastPlace + e)).toNat = q - e := by omega
          rw [e2, e3]
          have hq : q = (q - e) + e := by omega
          rw [sg_scale _ _ _ _ (2 ^ e) (Nat.two_pow_pos _)]
          rw [Nat.mul_assoc, Nat.mul_assoc, ← Nat.pow_add, ← Nat.pow_add, Nat.zero_add, ← hq]
        · have e1 : min (double.leastPlace + (e : Int)) (double.leastPlace + (q : Int)) = double.leastPlace + q := by omega
          rw [e1]
          have e2 : (double.leastPlace + (e : Int) - (double.leastPlace + q)).toNat = e - q := by omega
          have e3 : (double.leastPlace + (q : Int) - (double.leastPlace + q)).toNat = 0 := by omega
          rw [e2, e3]
          have hq : e = (e - q) + q := by omega
          rw [sg_scale _ _ _ _ (2 ^ q) (Nat.two_pow_pos _)]
          rw [Nat.mul_assoc, Nat.mul_assoc, ← Nat.pow_add, ← Nat.pow_add, Nat.zero_add, ← hq]
/-- The tests as the program's floats make them. -/
theorem order_iff {x y : Nat} (c : Ordering) : (FloatKind.f64.format.order x y == some c) = true ↔ isNum x ∧ isNum y ∧ compare (srung x) (srung y) = c := by
  show (double.order x y == some c) = true ↔ _
  by_cases hx : isNum x
  · by_cases hy : isNum y
    · rw [order_eq hx hy]; simp [hx, hy]
    · rw [order_nan_right hy]; simp [hy]
  · rw [order_nan_left hx]; simp [hx]
theorem eq_iff {x y : Nat} : (FloatKind.f64.format.order x y == some Ordering.eq) = true ↔ isNum x ∧ isNum y ∧ srung x = srung y := by rw [order_iff, cmp_eq_iff]
theorem lt_iff {x y : Nat} : (FloatKind.f64.format.order x y == some Ordering.lt) = true ↔ isNum x ∧ isNum y ∧ srung x < srung y := by rw [order_iff, cmp_lt_iff]
theorem gt_iff {x y : Nat} : (FloatKind.f64.format.order x y == some Ordering.gt) = true ↔ isNum x ∧ isNum y ∧ srung y < srung x := by rw [order_iff, cmp_gt_iff]
end Go.Proofs.YtjlnfnfdibfniaaDoor.Pl

/- The float nearest to a number: what it is, and that there is one. No program in sight. -/
namespace Go.Proofs.YtjlnfnfdibfniaaDoor.Pl

/-- The rung of the infinite. -/
def INF : Nat := 9218868437227405312
theorem INF_even : INF % 2 = 0 := by decide
/-- Twice the middle between a rung and the next. -/
def mid (K : Nat) : Nat := rungVal K + rungVal (K + 1)
/-- N / D least places are read as rung K. -/
structure IsNear (N D K : Nat) : Prop where
  le : K ≤ INF
  lo : 0 < K → mid (K - 1) * D < 2 * N ∨ mid (K - 1) * D = 2 * N ∧ K % 2 = 0
  hi : K < INF → 2 * N < mid K * D ∨ 2 * N = mid K * D ∧ K % 2 = 0
theorem mid_lt {a b : Nat} (h : a < b) : mid a < mid b := by
  unfold mid
  have := rungVal_lt h
  have := rungVal_lt (show a + 1 < b + 1 by omega)
  omega
theorem mid_le {a b : Nat} (h : a ≤ b) : mid a ≤ mid b := by
  rcases Nat.lt_or_ge a b with h1 | h1
  · exact Nat.le_of_lt (mid_lt h1)
  · rw [show a = b by omega]; exact Nat.le_refl _
/-- Of two numbers the greater is not read as the lesser float. -/
theorem IsNear.mono {N D N' D' K K' : Nat} (hD : 0 < D) (hD' : 0 < D') (h : IsNear N D K) (h' : IsNear N' D' K') (hle : N * D' ≤ N' * D) : K ≤ K' := by
  rcases Nat.lt_or_ge K' K with hlt | hge
  · exfalso
    have h1 := h.lo (by omega)
    have h2 := h'.hi (by have := h.le; omega)
    have h3 : mid (K - 1) * D ≤ 2 * N := by omega
    have h4 : 2 * N' ≤ mid K' * D' := by omega
    have h5 : mid K' ≤ mid (K - 1) := mid_le (by omega)
    have a1 : mid (K - 1) * D * D' ≤ 2 * N * D' := Nat.mul_le_mul_right _ h3
    have a2 : 2 * N' * D ≤ mid K' * D' * D := Nat.mul_le_mul_right _ h4
    have a3 : mid K' * (D * D') ≤ mid (K - 1) * (D * D') := Nat.mul_le_mul_right _ h5
    have hp : 0 < D * D' := Nat.mul_pos hD hD'
    have e1 : mid (K - 1) * D * D' = mid (K - 1) * (D * D') := Nat.mul_assoc ..
    have e2 : mid K' * D' * D = mid K' * (D * D') := by rw [Nat.mul_assoc, Nat.mul_comm D']
    have e3 : 2 * N * D' = 2 * (N * D') := Nat.mul_assoc ..
    have e4 : 2 * N' * D = 2 * (N' * D) := Nat.mul_assoc ..
    have h6 : mid K' * (D * D') = mid (K - 1) * (D * D') := by omega
    have h7 : mid K' = mid (K - 1) := Nat.eq_of_mul_eq_mul_right hp h6
    have h8 : K' = K - 1 := by
      rcases Nat.lt_trichotomy K' (K - 1) with c | c | c
      · have := mid_lt c; omega
      · exact c
      · omega
    have b1 : ¬ mid (K - 1) * D < 2 * N := by
      intro c
      have := (Nat.mul_lt_mul_right hD').2 c
      omega
    have b2 : ¬ 2 * N' < mid K' * D' := by
      intro c
      have := (Nat.mul_lt_mul_right hD).2 c
      omega
    rcases h1 with c | ⟨_, c⟩
    · exact b1 c
    · rcases h2 with g | ⟨_, g⟩
      · exact b2 g
      · omega
  · exact hge
theorem IsNear.unique {N D N' D' K K' : Nat} (hD : 0 < D) (hD' : 0 < D') (h : IsNear N D K) (h' : IsNear N' D' K') (he : N * D' = N' * D) : K = K' :=
  Nat.le_antisymm (h.mono hD hD' h' (Nat.le_of_eq he)) (h'.mono hD' hD h (Nat.le_of_eq he.symm))
/-- The rung at or below, and the step up or none. -/
theorem near_of {N D K r : Nat} (h0 : rungVal K * D ≤ N) (h1 : N < rungVal (K + 1) * D) (hr : r = 0 ∧ (2 * N < mid K * D ∨ 2 * N = mid K * D ∧ K % 2 = 0) ∨ r = 1 ∧ (mid K * D < 2 * N ∨ mid K * D = 2 * N ∧ K % 2 = 1)) :
    IsNear N D (min (K + r) INF) := by
  have hD : 0 < D := by rcases Nat.eq_zero_or_pos D with h | h
                        · rw [h] at h1; omega
                        · exact h
  have low : ∀ J, 0 < J → J ≤ K → mid (J - 1) * D < 2 * N := by
    intro J hJ hJK
    have h2 : mid (J - 1) < 2 * rungVal K := by
      unfold mid
      have a := rungVal_lt (show J - 1 < J by omega)
      have b : rungVal J ≤ rungVal K := by
        rcases Nat.lt_or_ge J K with c | c
        · exact Nat.le_of_lt (rungVal_lt c)
        · rw [show J = K by omega]; exact Nat.le_refl _
      rw [show J - 1 + 1 = J by omega]; omega
    have h3 := (Nat.mul_lt_mul_right hD).2 h2
    rw [Nat.mul_assoc] at h3
    omega
  rcases hr with ⟨rfl, hr⟩ | ⟨rfl, hr⟩
  · rcases Nat.lt_or_ge INF K with c | c
    · rw [Nat.min_eq_right (by omega)]
      exact ⟨Nat.le_refl _, fun h => .inl (low INF h (by omega)), fun h => by omega⟩
    · rw [Nat.min_eq_left (by omega)]
      exact ⟨by omega, fun h => .inl (low (K + 0) h (by omega)), fun _ => hr⟩
  · rcases Nat.lt_or_ge K INF with c | c
    · rw [Nat.min_eq_left (by omega)]
      refine ⟨by omega, fun _ => ?_, fun _ => .inl ?_⟩
      · rw [Nat.add_sub_cancel]
        rcases hr with g | ⟨g, g'⟩
        · exact .inl g
        · exact .inr ⟨g, by omega⟩
      · have h2 : 2 * rungVal (K + 1) < mid (K + 1) := by
          unfold mid
          have := rungVal_succ (K + 1)
          omega
        have h3 := (Nat.mul_lt_mul_right hD).2 h2
        rw [Nat.mul_assoc] at h3
        omega
    · rw [Nat.min_eq_right (by omega)]
      exact ⟨Nat.le_refl _, fun h => .inl (low INF h c), fun h => by omega⟩
/-- The rung of m times 2 to the E. -/
theorem rung_of {m E : Nat} (h : E = 0 ∨ 4503599627370496 ≤ m) (hm : m < 9007199254740992) : rungVal (E * 4503599627370496 + m) = m * 2 ^ E := by
  have e52 : (2 : Nat) ^ 52 = 4503599627370496 := by decide
  unfold rungVal
  rw [e52]
  by_cases h1 : m < 4503599627370496
  · have : E = 0 := by omega
    subst this
    rw [if_pos (by omega)]; simp
  · rw [if_neg (by omega)]
    have e1 : (E * 4503599627370496 + m) / 4503599627370496 - 1 = E := by omega
    have e2 : 4503599627370496 + (E * 4503599627370496 + m) % 4503599627370496 = m := by omega
    rw [e1, e2]
theorem rung_next {m E : Nat} (h : E = 0 ∨ 4503599627370496 ≤ m) (hm : m < 9007199254740992) : rungVal (E * 4503599627370496 + m + 1) = (m + 1) * 2 ^ E := by
  by_cases h1 : m + 1 < 9007199254740992
  · have := rung_of (m := m + 1) (E := E) (by omega) h1
    rw [Nat.add_assoc]; exact this
  · have : m + 1 = 9007199254740992 := by omega
    have h2 := rung_of (m := 4503599627370496) (E := E + 1) (by omega) (by omega)
    rw [show E * 4503599627370496 + m + 1 = (E + 1) * 4503599627370496 + 4503599627370496 by omega, h2, this, Nat.pow_succ]
    omega
/-- What is read of a decimal: digits and an exponent. -/
def DecNear (dig : Nat) (x : Int) (K : Nat) : Prop := IsNear (dig * 10 ^ x.toNat * 2 ^ 1074) (10 ^ (-x).toNat) K
theorem DecNear.unique {dig : Nat} {x : Int} {K K' : Nat} (h : DecNear dig x K) (h' : DecNear dig x K') : K = K' :=
  IsNear.unique (Nat.pow_pos (by decide)) (Nat.pow_pos (by decide)) h h' rfl
theorem pow_join {a b c : Nat} (h : a + b = c) : 2 ^ c = 2 ^ a * 2 ^ b := by rw [← h, Nat.pow_add]
theorem mid_zero : mid 0 = 1 := by decide
theorem near_zero {N D : Nat} (h : 2 * N < D) : IsNear N D 0 := ⟨by decide, fun h => by omega, fun _ => .inl (by rw [mid_zero]; omega)⟩
theorem near_none {D : Nat} (h : 0 < D) : IsNear 0 D 0 := near_zero (by omega)
theorem pow_two {a b c d : Nat} (h : a + b = c + d) : 2 ^ a * 2 ^ b = 2 ^ c * 2 ^ d := by rw [← Nat.pow_add, ← Nat.pow_add, h]
theorem rung_inf : rungVal INF = 2 ^ 1024 * 2 ^ 1074 := by
  have := rung_of (m := 4503599627370496) (E := 2046) (by omega) (by omega)
  rw [show INF = 2046 * 4503599627370496 + 4503599627370496 by decide, this, show (4503599627370496 : Nat) = 2 ^ 52 by decide]
  exact pow_two (a := 52) (b := 2046) (c := 1024) (d := 1074) rfl
theorem near_inf {N D C : Nat} (e : rungVal INF = C) (hD : 0 < D) (h : C * D ≤ N) : IsNear N D INF := by
  refine ⟨Nat.le_refl _, fun _ => .inl ?_, fun h => by omega⟩
  have h1 : mid (INF - 1) < 2 * C := by
    rw [← e]
    unfold mid
    have := rungVal_succ (INF - 1)
    have e2 : INF - 1 + 1 = INF := by decide
    rw [e2] at this ⊢
    omega
  have h2 := (Nat.mul_lt_mul_right hD).2 h1
  rw [Nat.mul_assoc] at h2
  omega
theorem zero_aux {dig A B P T : Nat} (h3 : 2 * T ≤ B) (hT : 0 < T) (hd : dig < P) (h2 : P * B ≤ A) : 2 * (dig * T) < A := by
  have h4 : dig * (2 * T) ≤ dig * B := Nat.mul_le_mul_left _ h3
  have h5 : dig * B < P * B := Nat.mul_lt_mul_of_pos_right hd (by omega)
  rw [← Nat.mul_assoc, Nat.mul_comm dig 2, Nat.mul_assoc] at h4
  omega
theorem inf_aux {dig X A B P T V C : Nat} (h3 : V ≤ B) (h2 : B * A ≤ P * X) (hd : P ≤ dig) (hC : C = V * T) : C * A ≤ dig * X * T := by
  have h4 : P * X ≤ dig * X := Nat.mul_le_mul_right _ hd
  have h5 : V * A ≤ B * A := Nat.mul_le_mul_right _ h3
  have h7 := Nat.mul_le_mul_right T (Nat.le_trans h5 (Nat.le_trans h2 h4))
  refine Nat.le_trans (Nat.le_of_eq ?_) h7
  rw [hC, Nat.mul_assoc, Nat.mul_assoc, Nat.mul_comm T A]
theorem none_aux (A T : Nat) : 0 * A * T = 0 := by rw [Nat.zero_mul, Nat.zero_mul]
/-- A number of so small an exponent is read as 0. -/
theorem dec_zero_small {dig n : Nat} {x : Int} (hd : dig < 10 ^ n) (h : (n : Int) + x ≤ -330) : DecNear dig x 0 := by
  unfold DecNear
  have hx : x.toNat = 0 := by omega
  rw [hx, Nat.pow_zero, Nat.mul_one]
  refine near_zero ?_
  have h1 : n + 330 ≤ (-x).toNat := by omega
  have h2 : (10 : Nat) ^ (n + 330) ≤ 10 ^ (-x).toNat := Nat.pow_le_pow_right (by decide) h1
  rw [Nat.pow_add] at h2
  exact zero_aux (by decide +kernel) (Nat.two_pow_pos 1074) hd h2
theorem dec_inf_great {dig n : Nat} {x : Int} (hd : 10 ^ n ≤ dig) (h : 309 ≤ (n : Int) + x) : DecNear dig x INF := by
  unfold DecNear
  have h1 : 309 + (-x).toNat ≤ n + x.toNat := by omega
  have h2 : (10 : Nat) ^ (309 + (-x).toNat) ≤ 10 ^ (n + x.toNat) := Nat.pow_le_pow_right (by decide) h1
  rw [Nat.pow_add, Nat.pow_add] at h2
  have h3 : 2 ^ 1024 ≤ 10 ^ 309 := by decide +kernel
  have hr := rung_inf
  generalize 2 ^ 1024 = V at *
  generalize 2 ^ 1074 = T at *
  exact near_inf hr (Nat.pow_pos (by decide)) (inf_aux h3 h2 hd rfl)
end Go.Proofs.YtjlnfnfdibfniaaDoor.Pl

-- Written by a program of this session (wip/vprint.py): Lean checks it.
namespace Go.Proofs.YtjlnfnfdibfniaaDoor.F
open Go.RowKit Go.Proofs.YtjlnfnfdibfniaaDoorW.PrintWords Go.Proofs.YtjlnfnfdibfniaaDoorW.PrintLast Go.Proofs.YtjlnfnfdibfniaaDoorW.PrintMore
attribute [local go_sem] max2_int min2_int max_two min_two max_three min_three max_four min_four   -- for this text's walks alone
set_option linter.unusedVariables false
set_option linter.unusedSimpArgs false

/-! ### num_nearest: function 102 -/
mutual
def num_nearest.j0 : Nat → Int → Int → Int → Bool → Option (Int)
 | 0, _, _, _, _ => none
 | k + 1, x1, x7, x8, x46 => if x46 = true then (num_nearest.j1 k x1 x7 (IntKind.u64.wrap (x8 + 1))) else (num_nearest.j1 k x1 x7 x8)
def num_nearest.j1 : Nat → Int → Int → Int → Option (Int)
 | 0, _, _, _ => none
 | k + 1, x1, x7, x8 => if x8 = 9007199254740992 then (num_nearest.j2 k (wrap64 ((wrap64 (x1 + x7)) + 1)) 4503599627370496) else (num_nearest.j2 k (wrap64 (x1 + x7)) x8)
def num_nearest.j2 : Nat → Int → Int → Option (Int)
 | 0, _, _ => none
 | k + 1, x1, x8 => if x1 > 971 then (some 9218868437227405312) else (if x8 < 4503599627370496 then (some x8) else (some (Go.bits .or .u64 (IntKind.u64.wrap ((IntKind.u64.wrap (wrap64 ((wrap64 (x1 - (-1074))) + 1))) * 4503599627370496)) (Go.bits .and .u64 x8 4503599627370495))))
end
def num_nearest.f (k : Nat) (a0 : Int) (a1 : Int) (a2 : Bool) : Option (Int) := (Hd.bits_Len64.f a0).bind fun t568 => (if (mx (wrap64 ((wrap64 (t568 - 52)) - 1)) (wrap64 ((-1074) - a1))) > 63 then (some 0) else (if 0 ≤ (mx (wrap64 ((wrap64 (t568 - 52)) - 1)) (wrap64 ((-1074) - a1))) then (if 0 ≤ (wrap64 ((mx (wrap64 ((wrap64 (t568 - 52)) - 1)) (wrap64 ((-1074) - a1))) - 1)) then (if (Go.bits .and .u64 a0 (IntKind.u64.wrap ((shl .u64 1 (mx (wrap64 ((wrap64 (t568 - 52)) - 1)) (wrap64 ((-1074) - a1)))) - 1))) > (shl .u64 1 (wrap64 ((mx (wrap64 ((wrap64 (t568 - 52)) - 1)) (wrap64 ((-1074) - a1))) - 1))) then (num_nearest.j0 k a1 (mx (wrap64 ((wrap64 (t568 - 52)) - 1)) (wrap64 ((-1074) - a1))) (shr .u64 a0 (mx (wrap64 ((wrap64 (t568 - 52)) - 1)) (wrap64 ((-1074) - a1)))) true) else (if (Go.bits .and .u64 a0 (IntKind.u64.wrap ((shl .u64 1 (mx (wrap64 ((wrap64 (t568 - 52)) - 1)) (wrap64 ((-1074) - a1)))) - 1))) = (shl .u64 1 (wrap64 ((mx (wrap64 ((wrap64 (t568 - 52)) - 1)) (wrap64 ((-1074) - a1))) - 1))) then (if a2 = true then (num_nearest.j0 k a1 (mx (wrap64 ((wrap64 (t568 - 52)) - 1)) (wrap64 ((-1074) - a1))) (shr .u64 a0 (mx (wrap64 ((wrap64 (t568 - 52)) - 1)) (wrap64 ((-1074) - a1)))) true) else (num_nearest.j0 k a1 (mx (wrap64 ((wrap64 (t568 - 52)) - 1)) (wrap64 ((-1074) - a1))) (shr .u64 a0 (mx (wrap64 ((wrap64 (t568 - 52)) - 1)) (wrap64 ((-1074) - a1)))) ((Int.tmod (shr .u64 a0 (mx (wrap64 ((wrap64 (t568 - 52)) - 1)) (wrap64 ((-1074) - a1)))) 2) == 1))) else (num_nearest.j0 k a1 (mx (wrap64 ((wrap64 (t568 - 52)) - 1)) (wrap64 ((-1074) - a1))) (shr .u64 a0 (mx (wrap64 ((wrap64 (t568 - 52)) - 1)) (wrap64 ((-1074) - a1)))) false))) else (none)) else (none)))
theorem num_nearest.mono_l : ∀ k, (∀ y0 y1 y2 y3, LeO (num_nearest.j0 k y0 y1 y2 y3) (num_nearest.j0 (k + 1) y0 y1 y2 y3)) ∧ (∀ y0 y1 y2, LeO (num_nearest.j1 k y0 y1 y2) (num_nearest.j1 (k + 1) y0 y1 y2)) ∧ (∀ y0 y1, LeO (num_nearest.j2 k y0 y1) (num_nearest.j2 (k + 1) y0 y1))
 | 0 => ⟨fun _ _ _ _ r h => by simp [num_nearest.j0] at h, fun _ _ _ r h => by simp [num_nearest.j1] at h, fun _ _ r h => by simp [num_nearest.j2] at h⟩
 | k + 1 => by
  obtain ⟨ih0, ih1, ih2⟩ := num_nearest.mono_l k
  refine ⟨?_, ?_, ?_⟩
  ·
   intro y0 y1 y2 y3
   unfold num_nearest.j0
   repeat' first | (with_reducible exact ih0 _ _ _ _) | (with_reducible exact ih1 _ _ _) | (with_reducible exact ih2 _ _) | (with_reducible exact LeO.refl _) | (with_reducible exact LeO.none _) | (with_reducible refine LeO.ite ?_ ?_) | (with_reducible refine LeO.bind ?_ (fun _ => ?_))
  ·
   intro y0 y1 y2
   unfold num_nearest.j1
   repeat' first | (with_reducible exact ih0 _ _ _ _) | (with_reducible exact ih1 _ _ _) | (with_reducible exact ih2 _ _) | (with_reducible exact LeO.refl _) | (with_reducible exact LeO.none _) | (with_reducible refine LeO.ite ?_ ?_) | (with_reducible refine LeO.bind ?_ (fun _ => ?_))
  ·
   intro y0 y1
   unfold num_nearest.j2
   repeat' first | (with_reducible exact ih0 _ _ _ _) | (with_reducible exact ih1 _ _ _) | (with_reducible exact ih2 _ _) | (with_reducible exact LeO.refl _) | (with_reducible exact LeO.none _) | (with_reducible refine LeO.ite ?_ ?_) | (with_reducible refine LeO.bind ?_ (fun _ => ?_))
theorem num_nearest.mono : ∀ a0 a1 a2 k, LeO (num_nearest.f k a0 a1 a2) (num_nearest.f (k + 1) a0 a1 a2) := by
 intro a0 a1 a2 k
 obtain ⟨ih0, ih1, ih2⟩ := num_nearest.mono_l k
 unfold num_nearest.f
 repeat' first | (with_reducible exact ih0 _ _ _ _) | (with_reducible exact ih1 _ _ _) | (with_reducible exact ih2 _ _) | (with_reducible exact LeO.refl _) | (with_reducible exact LeO.none _) | (with_reducible refine LeO.ite ?_ ?_) | (with_reducible refine LeO.bind ?_ (fun _ => ?_))
set_option maxHeartbeats 8000000 in
set_option maxRecDepth 100000 in
theorem num_nearest.calls (k : Nat) (a0 : Int) (a1 : Int) (a2 : Bool) (r : Int) (w : World) (h : num_nearest.f k a0 a1 a2 = some r) :
  Calls Tryd.prog 102 #[.int .u64 a0, .int .i64 a1, .bool a2] w fun e w' => e = .returned (.int .u64 r) ∧ Below w.heap.size w w' := by
 have HB := Aside0.mk (Below.refl w.heap.size w)
 have H : ((Hd.bits_Len64.f a0).bind fun t568 => (if (mx (wrap64 ((wrap64 (t568 - 52)) - 1)) (wrap64 ((-1074) - a1))) > 63 then (some 0) else (if 0 ≤ (mx (wrap64 ((wrap64 (t568 - 52)) - 1)) (wrap64 ((-1074) - a1))) then (if 0 ≤ (wrap64 ((mx (wrap64 ((wrap64 (t568 - 52)) - 1)) (wrap64 ((-1074) - a1))) - 1)) then (if (Go.bits .and .u64 a0 (IntKind.u64.wrap ((shl .u64 1 (mx (wrap64 ((wrap64 (t568 - 52)) - 1)) (wrap64 ((-1074) - a1)))) - 1))) > (shl .u64 1 (wrap64 ((mx (wrap64 ((wrap64 (t568 - 52)) - 1)) (wrap64 ((-1074) - a1))) - 1))) then (num_nearest.j0 k a1 (mx (wrap64 ((wrap64 (t568 - 52)) - 1)) (wrap64 ((-1074) - a1))) (shr .u64 a0 (mx (wrap64 ((wrap64 (t568 - 52)) - 1)) (wrap64 ((-1074) - a1)))) true) else (if (Go.bits .and .u64 a0 (IntKind.u64.wrap ((shl .u64 1 (mx (wrap64 ((wrap64 (t568 - 52)) - 1)) (wrap64 ((-1074) - a1)))) - 1))) = (shl .u64 1 (wrap64 ((mx (wrap64 ((wrap64 (t568 - 52)) - 1)) (wrap64 ((-1074) - a1))) - 1))) then (if a2 = true then (num_nearest.j0 k a1 (mx (wrap64 ((wrap64 (t568 - 52)) - 1)) (wrap64 ((-1074) - a1))) (shr .u64 a0 (mx (wrap64 ((wrap64 (t568 - 52)) - 1)) (wrap64 ((-1074) - a1)))) true) else (num_nearest.j0 k a1 (mx (wrap64 ((wrap64 (t568 - 52)) - 1)) (wrap64 ((-1074) - a1))) (shr .u64 a0 (mx (wrap64 ((wrap64 (t568 - 52)) - 1)) (wrap64 ((-1074) - a1)))) ((Int.tmod (shr .u64 a0 (mx (wrap64 ((wrap64 (t568 - 52)) - 1)) (wrap64 ((-1074) - a1)))) 2) == 1))) else (num_nearest.j0 k a1 (mx (wrap64 ((wrap64 (t568 - 52)) - 1)) (wrap64 ((-1074) - a1))) (shr .u64 a0 (mx (wrap64 ((wrap64 (t568 - 52)) - 1)) (wrap64 ((-1074) - a1)))) false))) else (none)) else (none)))) = some r := h
 clear h
 replace H := Option.bind_eq_some_iff.mp H
 obtain ⟨t568, A40, H⟩ := H
 replace H : (if (mx (wrap64 ((wrap64 (t568 - 52)) - 1)) (wrap64 ((-1074) - a1))) > 63 then (some 0) else (if 0 ≤ (mx (wrap64 ((wrap64 (t568 - 52)) - 1)) (wrap64 ((-1074) - a1))) then (if 0 ≤ (wrap64 ((mx (wrap64 ((wrap64 (t568 - 52)) - 1)) (wrap64 ((-1074) - a1))) - 1)) then (if (Go.bits .and .u64 a0 (IntKind.u64.wrap ((shl .u64 1 (mx (wrap64 ((wrap64 (t568 - 52)) - 1)) (wrap64 ((-1074) - a1)))) - 1))) > (shl .u64 1 (wrap64 ((mx (wrap64 ((wrap64 (t568 - 52)) - 1)) (wrap64 ((-1074) - a1))) - 1))) then (num_nearest.j0 k a1 (mx (wrap64 ((wrap64 (t568 - 52)) - 1)) (wrap64 ((-1074) - a1))) (shr .u64 a0 (mx (wrap64 ((wrap64 (t568 - 52)) - 1)) (wrap64 ((-1074) - a1)))) true) else (if (Go.bits .and .u64 a0 (IntKind.u64.wrap ((shl .u64 1 (mx (wrap64 ((wrap64 (t568 - 52)) - 1)) (wrap64 ((-1074) - a1)))) - 1))) = (shl .u64 1 (wrap64 ((mx (wrap64 ((wrap64 (t568 - 52)) - 1)) (wrap64 ((-1074) - a1))) - 1))) then (if a2 = true then (num_nearest.j0 k a1 (mx (wrap64 ((wrap64 (t568 - 52)) - 1)) (wrap64 ((-1074) - a1))) (shr .u64 a0 (mx (wrap64 ((wrap64 (t568 - 52)) - 1)) (wrap64 ((-1074) - a1)))) true) else (num_nearest.j0 k a1 (mx (wrap64 ((wrap64 (t568 - 52)) - 1)) (wrap64 ((-1074) - a1))) (shr .u64 a0 (mx (wrap64 ((wrap64 (t568 - 52)) - 1)) (wrap64 ((-1074) - a1)))) ((Int.tmod (shr .u64 a0 (mx (wrap64 ((wrap64 (t568 - 52)) - 1)) (wrap64 ((-1074) - a1)))) 2) == 1))) else (num_nearest.j0 k a1 (mx (wrap64 ((wrap64 (t568 - 52)) - 1)) (wrap64 ((-1074) - a1))) (shr .u64 a0 (mx (wrap64 ((wrap64 (t568 - 52)) - 1)) (wrap64 ((-1074) - a1)))) false))) else (none)) else (none))) = some r := H
 have A4 := Aside0.mk A40
 clear A40
 obtain ⟨ji5, hji5⟩ : ∃ j_ : Int, (mx (wrap64 ((wrap64 (t568 - 52)) - 1)) (wrap64 ((-1074) - a1))) = j_ := ⟨_, rfl⟩
 replace H : (if (ji5) > 63 then (some 0) else (if 0 ≤ (ji5) then (if 0 ≤ (wrap64 ((ji5) - 1)) then (if (Go.bits .and .u64 a0 (IntKind.u64.wrap ((shl .u64 1 (ji5)) - 1))) > (shl .u64 1 (wrap64 ((ji5) - 1))) then (num_nearest.j0 k a1 ji5 (shr .u64 a0 (ji5)) true) else (if (Go.bits .and .u64 a0 (IntKind.u64.wrap ((shl .u64 1 (ji5)) - 1))) = (shl .u64 1 (wrap64 ((ji5) - 1))) then (if a2 = true then (num_nearest.j0 k a1 ji5 (shr .u64 a0 (ji5)) true) else (num_nearest.j0 k a1 ji5 (shr .u64 a0 (ji5)) ((Int.tmod (shr .u64 a0 (ji5)) 2) == 1))) else (num_nearest.j0 k a1 ji5 (shr .u64 a0 (ji5)) false))) else (none)) else (none))) = some r := by first | (rw [hji5] at H; exact H) | (simp only [hji5] at H ⊢; exact H)
 (try rw [hji5] at A4)
 have hji5_ : (if (wrap64 ((wrap64 (t568 - 52)) - 1)) < (wrap64 ((-1074) - a1)) then (wrap64 ((-1074) - a1)) else (wrap64 ((wrap64 (t568 - 52)) - 1))) = ji5 := hji5
 by_cases c6 : (ji5) > 63
 ·
  rw [if_pos c6] at H
  have c6b0 : decide (63 < (ji5)) = true := decide_eq_true c6
  clear c6
  obtain rfl := Option.some.inj H
  go_enter Tryd.func102, Tryd.ntmps102
  go_wp2_with (first | (go_at_call 119; (with_reducible refine (Hd.bits_Len64.calls a0 t568 _ A4.out).mono ?_); rintro e w' ⟨rfl, ⟨nd, rfl⟩⟩; (try first | exact ⟨rfl, _, World.drewN_drewN _ _ _⟩ | exact ⟨rfl, _, Eq.trans (World.drewN_drewN _ _ _) (congrArg (World.drewN _) (Nat.add_assoc _ _ _))⟩)))
  repeat (go_quiet (first | (go_at_call 119; (with_reducible refine (Hd.bits_Len64.calls a0 t568 _ A4.out).mono ?_); rintro e w' ⟨rfl, ⟨nd, rfl⟩⟩; (try first | exact ⟨rfl, _, World.drewN_drewN _ _ _⟩ | exact ⟨rfl, _, Eq.trans (World.drewN_drewN _ _ _) (congrArg (World.drewN _) (Nat.add_assoc _ _ _))⟩))); try go_wp2_with (first | (go_at_call 119; (with_reducible refine (Hd.bits_Len64.calls a0 t568 _ A4.out).mono ?_); rintro e w' ⟨rfl, ⟨nd, rfl⟩⟩; (try first | exact ⟨rfl, _, World.drewN_drewN _ _ _⟩ | exact ⟨rfl, _, Eq.trans (World.drewN_drewN _ _ _) (congrArg (World.drewN _) (Nat.add_assoc _ _ _))⟩))))
  go_ret
  exact ex (lk HB)
 ·
  rw [if_neg c6] at H
  have c6b0 : decide (63 < (ji5)) = false := decide_eq_false c6
  clear c6
  by_cases c7 : 0 ≤ (ji5)
  ·
   rw [if_pos c7] at H
   have c7b0 := eq_true c7
   have c7b1 : decide (0 ≤ (ji5)) = true := decide_eq_true c7
   clear c7
   obtain ⟨ji8, hji8⟩ : ∃ j_ : Int, (shr .u64 a0 (ji5)) = j_ := ⟨_, rfl⟩
   replace H : (if 0 ≤ (wrap64 ((ji5) - 1)) then (if (Go.bits .and .u64 a0 (IntKind.u64.wrap ((shl .u64 1 (ji5)) - 1))) > (shl .u64 1 (wrap64 ((ji5) - 1))) then (num_nearest.j0 k a1 ji5 ji8 true) else (if (Go.bits .and .u64 a0 (IntKind.u64.wrap ((shl .u64 1 (ji5)) - 1))) = (shl .u64 1 (wrap64 ((ji5) - 1))) then (if a2 = true then (num_nearest.j0 k a1 ji5 ji8 true) else (num_nearest.j0 k a1 ji5 ji8 ((Int.tmod (ji8) 2) == 1))) else (num_nearest.j0 k a1 ji5 ji8 false))) else (none)) = some r := by first | (rw [hji8] at H; exact H) | (simp only [hji8] at H ⊢; exact H)
   (try rw [hji8] at A4)
   have hji8_ : (a0 / 2 ^ min (ji5).toNat 64) = ji8 := hji8
   have hji8z : (ji5) ≤ 64 → (a0 / 2 ^ (ji5).toNat) = ji8 := shr_small hji8
   have c9b0 := eq_true (of_decide_eq_true (by first | (with_reducible assumption) | assumption) : 0 ≤ (ji5))
   obtain ⟨ji10, hji10⟩ : ∃ j_ : Int, (shl .u64 1 (ji5)) = j_ := ⟨_, rfl⟩
   replace H : (if 0 ≤ (wrap64 ((ji5) - 1)) then (if (Go.bits .and .u64 a0 (IntKind.u64.wrap ((ji10) - 1))) > (shl .u64 1 (wrap64 ((ji5) - 1))) then (num_nearest.j0 k a1 ji5 ji8 true) else (if (Go.bits .and .u64 a0 (IntKind.u64.wrap ((ji10) - 1))) = (shl .u64 1 (wrap64 ((ji5) - 1))) then (if a2 = true then (num_nearest.j0 k a1 ji5 ji8 true) else (num_nearest.j0 k a1 ji5 ji8 ((Int.tmod (ji8) 2) == 1))) else (num_nearest.j0 k a1 ji5 ji8 false))) else (none)) = some r := by first | (rw [hji10] at H; exact H) | (simp only [hji10] at H ⊢; exact H)
   (try rw [hji10] at A4)
   have hji10_ : (IntKind.u64.wrap (1 * 2 ^ min (ji5).toNat 64)) = ji10 := hji10
   have hji10z : (ji5) ≤ 64 → (IntKind.u64.wrap (1 * 2 ^ (ji5).toNat)) = ji10 := shl_small hji10
   have hji10u : (IntKind.u64.wrap (2 ^ min (ji5).toNat 64)) = ji10 := by have h_ := hji10_; rw [Int.one_mul] at h_; exact h_
   have hji10v : (ji5) ≤ 64 → (IntKind.u64.wrap (2 ^ (ji5).toNat)) = ji10 := fun hle_ => by have h_ := hji10z hle_; rw [Int.one_mul] at h_; exact h_
   obtain ⟨ji11, hji11⟩ : ∃ j_ : Int, (wrap64 ((ji5) - 1)) = j_ := ⟨_, rfl⟩
   replace H : (if 0 ≤ (ji11) then (if (Go.bits .and .u64 a0 (IntKind.u64.wrap ((ji10) - 1))) > (shl .u64 1 (ji11)) then (num_nearest.j0 k a1 ji5 ji8 true) else (if (Go.bits .and .u64 a0 (IntKind.u64.wrap ((ji10) - 1))) = (shl .u64 1 (ji11)) then (if a2 = true then (num_nearest.j0 k a1 ji5 ji8 true) else (num_nearest.j0 k a1 ji5 ji8 ((Int.tmod (ji8) 2) == 1))) else (num_nearest.j0 k a1 ji5 ji8 false))) else (none)) = some r := by first | (rw [hji11] at H; exact H) | (simp only [hji11] at H ⊢; exact H)
   (try rw [hji11] at A4)
   have hji11w : (IntKind.i64.wrap ((ji5) - 1)) = ji11 := (i64_w _).trans hji11
   by_cases c12 : 0 ≤ (ji11)
   ·
    rw [if_pos c12] at H
    have c12b0 := eq_true c12
    have c12b1 : decide (0 ≤ (ji11)) = true := decide_eq_true c12
    clear c12
    obtain ⟨ji13, hji13⟩ : ∃ j_ : Int, (shl .u64 1 (ji11)) = j_ := ⟨_, rfl⟩
    replace H : (if (Go.bits .and .u64 a0 (IntKind.u64.wrap ((ji10) - 1))) > (ji13) then (num_nearest.j0 k a1 ji5 ji8 true) else (if (Go.bits .and .u64 a0 (IntKind.u64.wrap ((ji10) - 1))) = (ji13) then (if a2 = true then (num_nearest.j0 k a1 ji5 ji8 true) else (num_nearest.j0 k a1 ji5 ji8 ((Int.tmod (ji8) 2) == 1))) else (num_nearest.j0 k a1 ji5 ji8 false))) = some r := by first | (rw [hji13] at H; exact H) | (simp only [hji13] at H ⊢; exact H)
    (try rw [hji13] at A4)
    have hji13_ : (IntKind.u64.wrap (1 * 2 ^ min (ji11).toNat 64)) = ji13 := hji13
    have hji13z : (ji11) ≤ 64 → (IntKind.u64.wrap (1 * 2 ^ (ji11).toNat)) = ji13 := shl_small hji13
    have hji13u : (IntKind.u64.wrap (2 ^ min (ji11).toNat 64)) = ji13 := by have h_ := hji13_; rw [Int.one_mul] at h_; exact h_
    have hji13v : (ji11) ≤ 64 → (IntKind.u64.wrap (2 ^ (ji11).toNat)) = ji13 := fun hle_ => by have h_ := hji13z hle_; rw [Int.one_mul] at h_; exact h_
    have HC14 := Aside0.mk H
    clear H
    go_enter Tryd.func102, Tryd.ntmps102
    go_upto_region 5 with (first | (go_at_call 119; (with_reducible refine (Hd.bits_Len64.calls a0 t568 _ A4.out).mono ?_); rintro e w' ⟨rfl, ⟨nd, rfl⟩⟩; (try first | exact ⟨rfl, _, World.drewN_drewN _ _ _⟩ | exact ⟨rfl, _, Eq.trans (World.drewN_drewN _ _ _) (congrArg (World.drewN _) (Nat.add_assoc _ _ _))⟩)))
    repeat (go_quiet (first | (go_at_call 119; (with_reducible refine (Hd.bits_Len64.calls a0 t568 _ A4.out).mono ?_); rintro e w' ⟨rfl, ⟨nd, rfl⟩⟩; (try first | exact ⟨rfl, _, World.drewN_drewN _ _ _⟩ | exact ⟨rfl, _, Eq.trans (World.drewN_drewN _ _ _) (congrArg (World.drewN _) (Nat.add_assoc _ _ _))⟩))); go_upto_region 5 with (first | (go_at_call 119; (with_reducible refine (Hd.bits_Len64.calls a0 t568 _ A4.out).mono ?_); rintro e w' ⟨rfl, ⟨nd, rfl⟩⟩; (try first | exact ⟨rfl, _, World.drewN_drewN _ _ _⟩ | exact ⟨rfl, _, Eq.trans (World.drewN_drewN _ _ _) (congrArg (World.drewN _) (Nat.add_assoc _ _ _))⟩))))
    (try simp only [Act.put, List.setIfInBounds_toArray, List.set_cons_zero, List.set_cons_succ])
    go_cut [46] (fun v46 wc => ∃ (kq : Nat) (x46_13 : Bool), v46 = .bool x46_13 ∧ Aside0 (num_nearest.j0 kq a1 ji5 ji8 x46_13 = some r) ∧ Aside0 (kq ≤ k) ∧ Aside0 (Below w.heap.size w wc))
    case first =>
     have H := HC14.out
     clear HC14
     by_cases c15 : (Go.bits .and .u64 a0 (IntKind.u64.wrap ((ji10) - 1))) > (ji13)
     ·
      rw [if_pos c15] at H
      have c15b0 : decide ((ji13) < (Go.bits .and .u64 a0 (IntKind.u64.wrap ((ji10) - 1)))) = true := decide_eq_true c15
      clear c15
      (first | rw [c15b0] | (simp only [i64_w, i32_w]; rw [c15b0]) | skip)
      have H' := Aside0.mk H
      clear H
      go_wp2
      repeat (go_quiet (fail); try go_wp2)
      go_meet
      case rel => exact ⟨_, (true), (by first | rfl | (simp; done) | (simp [*]; done)), H', ⟨by first | omega | exact Nat.le_refl _⟩, ⟨lk HB⟩⟩
     ·
      rw [if_neg c15] at H
      have c15b0 : decide ((ji13) < (Go.bits .and .u64 a0 (IntKind.u64.wrap ((ji10) - 1)))) = false := decide_eq_false c15
      clear c15
      (first | rw [c15b0] | (simp only [i64_w, i32_w]; rw [c15b0]) | skip)
      by_cases c16 : (Go.bits .and .u64 a0 (IntKind.u64.wrap ((ji10) - 1))) = (ji13)
      ·
       rw [if_pos c16] at H
       have c16b0 : ((Go.bits .and .u64 a0 (IntKind.u64.wrap ((ji10) - 1))) == (ji13)) = true := beq_iff_eq.mpr c16
       have c16b1 : ((Go.bits .and .u64 a0 (IntKind.u64.wrap ((ji10) - 1))) != (ji13)) = false := bne_eq_false_iff_eq.mpr c16
       clear c16
       by_cases c17 : a2 = true
       ·
        subst c17
        have H1 : (num_nearest.j0 k a1 ji5 ji8 true) = some r := by rw [if_pos rfl] at H; exact H
        clear H
        have H := H1
        clear H1
        have H' := Aside0.mk H
        clear H
        go_wp2
        repeat (go_quiet (fail); try go_wp2)
        go_meet
        case rel => exact ⟨_, (true), (by first | rfl | (simp; done) | (simp [*]; done)), H', ⟨by first | omega | exact Nat.le_refl _⟩, ⟨lk HB⟩⟩
       ·
        replace c17 := Bool.eq_false_iff.mpr c17
        subst c17
        have H1 : (num_nearest.j0 k a1 ji5 ji8 ((Int.tmod (ji8) 2) == 1)) = some r := by rw [if_neg (show ¬ (false = true) by decide)] at H; exact H
        clear H
        have H := H1
        clear H1
        have H' := Aside0.mk H
        clear H
        go_wp2
        repeat (go_quiet (fail); try go_wp2)
        go_meet
        case rel => exact ⟨_, (((Int.tmod (ji8) 2) == 1)), (by first | rfl | (simp; done) | (simp only [← hji8] <;> (first | rfl | simp)) | (simp [*]; done)), H', ⟨by first | omega | exact Nat.le_refl _⟩, ⟨lk HB⟩⟩
      ·
       rw [if_neg c16] at H
       have c16b0 : ((Go.bits .and .u64 a0 (IntKind.u64.wrap ((ji10) - 1))) == (ji13)) = false := beq_eq_false_iff_ne.mpr c16
       have c16b1 : ((Go.bits .and .u64 a0 (IntKind.u64.wrap ((ji10) - 1))) != (ji13)) = true := bne_iff_ne.mpr c16
       have H' := Aside0.mk H
       clear H
       go_wp2
       repeat (go_quiet (fail); try go_wp2)
       go_meet
       case rel => exact ⟨_, (false), (by first | rfl | (simp; done) | (simp [*]; done)), H', ⟨by first | omega | exact Nat.le_refl _⟩, ⟨lk HB⟩⟩
    case rest =>
     clear HC14
     try clear c1
     try clear p2
     try clear c6
     try clear c6b0
     try clear p6
     try clear c7
     try clear c7b0
     try clear c7b1
     try clear c9
     try clear c9b0
     try clear c10
     try clear c12
     try clear c12b0
     try clear c12b1
     try clear c15
     try clear c15b0
     try clear c16
     try clear c16b0
     try clear c16b1
     try clear c17
     obtain ⟨kq, x46_13, rfl, HA, HJ13, HB⟩ := hcut
     cases kq with
     | zero => exact absurd HA.out (by simp [num_nearest.j0])
     | succ kj13 =>
      have H := HA.out
      clear HA
      simp only [num_nearest.j0] at H
      have HC18 := Aside0.mk H
      clear H
      go_upto_if 46 with (fail)
      repeat (go_quiet (fail); go_upto_if 46 with (fail))
      go_cut [8] (fun v8 wc => ∃ (kq : Nat) (x8_17 : Int), v8 = .int .u64 x8_17 ∧ Aside0 (num_nearest.j1 kq a1 ji5 x8_17 = some r) ∧ Aside0 (kq ≤ kj13) ∧ Aside0 (Below w.heap.size w wc))
      case first =>
       have H := HC18.out
       clear HC18
       by_cases c19 : x46_13 = true
       ·
        subst c19
        have H1 : (num_nearest.j1 kj13 a1 ji5 (IntKind.u64.wrap (ji8 + 1))) = some r := by rw [if_pos rfl] at H; exact H
        clear H
        have H := H1
        clear H1
        have H' := Aside0.mk H
        clear H
        go_wp2
        repeat (go_quiet (fail); try go_wp2)
        go_meet
        case rel => exact ⟨_, (IntKind.u64.wrap (ji8 + 1)), (by first | rfl | (simp; done) | (simp only [← hji8] <;> (first | rfl | simp)) | (simp [*]; done)), H', ⟨by have := HJ13.out; first | omega | exact Nat.le_refl _⟩, ⟨lk HB⟩⟩
       ·
        replace c19 := Bool.eq_false_iff.mpr c19
        subst c19
        have H1 : (num_nearest.j1 kj13 a1 ji5 ji8) = some r := by rw [if_neg (show ¬ (false = true) by decide)] at H; exact H
        clear H
        have H := H1
        clear H1
        have H' := Aside0.mk H
        clear H
        go_wp2
        repeat (go_quiet (fail); try go_wp2)
        go_meet
        case rel => exact ⟨_, (ji8), (by first | rfl | (simp; done) | (simp only [← hji8] <;> (first | rfl | simp)) | (simp [*]; done)), H', ⟨by have := HJ13.out; first | omega | exact Nat.le_refl _⟩, ⟨lk HB⟩⟩
      case rest =>
       clear HC18
       try clear c1
       try clear p2
       try clear c6
       try clear c6b0
       try clear p6
       try clear c7
       try clear c7b0
       try clear c7b1
       try clear c9
       try clear c9b0
       try clear c10
       try clear c12
       try clear c12b0
       try clear c12b1
       try clear c15
       try clear c15b0
       try clear c16
       try clear c16b0
       try clear c16b1
       try clear c17
       try clear c19
       try clear p2
       try clear p6
       obtain ⟨kq, x8_17, rfl, HA, HJ17, HB⟩ := hcut
       cases kq with
       | zero => exact absurd HA.out (by simp [num_nearest.j1])
       | succ kj17 =>
        have H := HA.out
        clear HA
        simp only [num_nearest.j1] at H
        have HC20 := Aside0.mk H
        clear H
        go_upto_if 53 with (fail)
        repeat (go_quiet (fail); go_upto_if 53 with (fail))
        go_cut [1, 8] (fun v1 v8 wc => ∃ (kq : Nat) (x1_19 : Int) (x8_19 : Int), v1 = .int .i64 x1_19 ∧ v8 = .int .u64 x8_19 ∧ Aside0 (num_nearest.j2 kq x1_19 x8_19 = some r) ∧ Aside0 (kq ≤ kj17) ∧ Aside0 (Below w.heap.size w wc))
        case first =>
         have H := HC20.out
         clear HC20
         by_cases c21 : x8_17 = 9007199254740992
         ·
          rw [if_pos c21] at H
          have c21b0 : (x8_17 == 9007199254740992) = true := beq_iff_eq.mpr c21
          have c21b1 : (x8_17 != 9007199254740992) = false := bne_eq_false_iff_eq.mpr c21
          clear c21
          (first | rw [c21b0] | (simp only [i64_w, i32_w]; rw [c21b0]) | skip)
          have H' := Aside0.mk H
          clear H
          go_wp2
          repeat (go_quiet (fail); try go_wp2)
          go_meet
          case rel => exact ⟨_, (wrap64 ((wrap64 (a1 + ji5)) + 1)), (4503599627370496), (by first | rfl | (simp; done) | (simp only [← hji5] <;> (first | rfl | simp)) | (simp [*]; done)), (by first | rfl | (simp; done) | (simp [*]; done)), H', ⟨by have := HJ13.out; have := HJ17.out; first | omega | exact Nat.le_refl _⟩, ⟨lk HB⟩⟩
         ·
          rw [if_neg c21] at H
          have c21b0 : (x8_17 == 9007199254740992) = false := beq_eq_false_iff_ne.mpr c21
          have c21b1 : (x8_17 != 9007199254740992) = true := bne_iff_ne.mpr c21
          (first | rw [c21b0] | (simp only [i64_w, i32_w]; rw [c21b0]) | skip)
          have H' := Aside0.mk H
          clear H
          go_wp2
          repeat (go_quiet (fail); try go_wp2)
          go_meet
          case rel => exact ⟨_, (wrap64 (a1 + ji5)), (x8_17), (by first | rfl | (simp; done) | (simp only [← hji5] <;> (first | rfl | simp)) | (simp [*]; done)), (by first | rfl | (simp; done) | (simp [*]; done)), H', ⟨by have := HJ13.out; have := HJ17.out; first | omega | exact Nat.le_refl _⟩, ⟨lk HB⟩⟩
        case rest =>
         clear HC20
         try clear c1
         try clear c2
         try clear p2
         try clear c6
         try clear c6b0
         try clear p6
         try clear c7
         try clear c7b0
         try clear c7b1
         try clear c9
         try clear c9b0
         try clear c10
         try clear c12
         try clear c12b0
         try clear c12b1
         try clear c15
         try clear c15b0
         try clear c16
         try clear c16b0
         try clear c16b1
         try clear c17
         try clear c19
         try clear c21
         try clear c21b0
         try clear c21b1
         try clear p2
         try clear p6
         obtain ⟨kq, x1_19, x8_19, rfl, rfl, HA, HJ19, HB⟩ := hcut
         cases kq with
         | zero => exact absurd HA.out (by simp [num_nearest.j2])
         | succ kj19 =>
          have H := HA.out
          clear HA
          simp only [num_nearest.j2] at H
          by_cases c22 : x1_19 > 971
          ·
           rw [if_pos c22] at H
           have c22b0 : decide (971 < x1_19) = true := decide_eq_true c22
           clear c22
           obtain rfl := Option.some.inj H
           go_wp2
           repeat (go_quiet (fail); try go_wp2)
           go_ret
           exact ⟨by first | rfl | (simp [errW_none, errW_some] <;> rfl) | (simp only [← hji5, ← hji8, ← hji10, ← hji11, ← hji13]; first | rfl | (simp [errW_none, errW_some] <;> rfl)) | (simp [*, errW_none, errW_some] <;> rfl), lk HB⟩
          ·
           rw [if_neg c22] at H
           have c22b0 : decide (971 < x1_19) = false := decide_eq_false c22
           clear c22
           by_cases c23 : x8_19 < 4503599627370496
           ·
            rw [if_pos c23] at H
            have c23b0 : decide (x8_19 < 4503599627370496) = true := decide_eq_true c23
            clear c23
            obtain rfl := Option.some.inj H
            go_wp2
            repeat (go_quiet (fail); try go_wp2)
            go_ret
            exact ⟨by first | rfl | (simp [errW_none, errW_some] <;> rfl) | (simp only [← hji5, ← hji8, ← hji10, ← hji11, ← hji13]; first | rfl | (simp [errW_none, errW_some] <;> rfl)) | (simp [*, errW_none, errW_some] <;> rfl), lk HB⟩
           ·
            rw [if_neg c23] at H
            have c23b0 : decide (x8_19 < 4503599627370496) = false := decide_eq_false c23
            clear c23
            obtain rfl := Option.some.inj H
            go_wp2
            repeat (go_quiet (fail); try go_wp2)
            go_ret
            exact ⟨by first | rfl | (simp [errW_none, errW_some] <;> rfl) | (simp only [← hji5, ← hji8, ← hji10, ← hji11, ← hji13]; first | rfl | (simp [errW_none, errW_some] <;> rfl)) | (simp [*, errW_none, errW_some] <;> rfl), lk HB⟩
   ·
    rw [if_neg c12] at H
    exact absurd H (by simp)
  ·
   rw [if_neg c7] at H
   exact absurd H (by simp)


/-! ### num_decimal_bits: function 67 -/
mutual
def num_decimal_bits.j0 : Nat → Int → Bool → ByteArray → Int → Option (Int)
 | 0, _, _, _, _ => none
 | k + 1, x3, x17, x570000, x570001 => if x17 = true then (some 0) else (if x3 > 310 then (some 9218868437227405312) else (num_decimal_bits.l0 k ([] : List Int) (x570000.size : Int) 0 x570000 x570001))
def num_decimal_bits.l0 : Nat → List Int → Int → Int → ByteArray → Int → Option (Int)
 | 0, _, _, _, _, _ => none
 | k + 1, x4, x30, x31, x570000, x570001 => if x31 < x30 then (if 0 ≤ x31 then (if x31 < (x570000.size : Int) then ((num_nat_times.f k x4 10 (((bt x570000 x31) - 48) % 256)).bind fun t570 => (num_decimal_bits.l0 k t570 x30 (wrap64 (x31 + 1)) x570000 x570001)) else (none)) else (none)) else ((num_of.f k 1).bind fun t573 => (if x570001 ≥ 0 then ((num_nat_tens.f k x4 x570001).bind fun t576 => (num_decimal_bits.j2 k t576 t573)) else ((num_nat_tens.f k t573 (wrap64 (-x570001))).bind fun t579 => (num_decimal_bits.j2 k x4 t579))))
def num_decimal_bits.j2 : Nat → List Int → List Int → Option (Int)
 | 0, _, _ => none
 | k + 1, x4, x6 => (num_nat_size.f x4).bind fun t582 => ((num_nat_size.f x6).bind fun t583 => (if (wrap64 (56 - (wrap64 (t582 - t583)))) ≥ 0 then ((num_nat_up.f k x4 (wrap64 (56 - (wrap64 (t582 - t583))))).bind fun t584 => (num_decimal_bits.j3 k t584 x6 (wrap64 (56 - (wrap64 (t582 - t583)))))) else ((num_nat_up.f k x6 (wrap64 (-(wrap64 (56 - (wrap64 (t582 - t583))))))).bind fun t587 => (num_decimal_bits.j3 k x4 t587 (wrap64 (56 - (wrap64 (t582 - t583))))))))
def num_decimal_bits.j3 : Nat → List Int → List Int → Int → Option (Int)
 | 0, _, _, _ => none
 | k + 1, x4, x6, x7 => num_decimal_bits.l1 k x4 x6 x7 0 57
def num_decimal_bits.l1 : Nat → List Int → List Int → Int → Int → Int → Option (Int)
 | 0, _, _, _, _, _ => none
 | k + 1, x4, x6, x7, x8, x9 => if x9 ≥ 0 then ((num_nat_up.f k x6 x9).bind fun t591 => ((num_nat_against.f k x4 t591).bind fun t594 => (if t594 ≥ 0 then ((num_nat_less.f k x4 t591).bind fun t595 => (if 0 ≤ x9 then (num_decimal_bits.l1 k t595 x6 x7 (Go.bits .or .u64 x8 (shl .u64 1 x9)) (wrap64 (x9 - 1))) else (none))) else (num_decimal_bits.l1 k x4 x6 x7 x8 (wrap64 (x9 - 1)))))) else ((num_nearest.f k x8 (wrap64 (-x7)) (decide (0 < x4.length))).bind fun t590 => (some t590))
end
def num_decimal_bits.f (k : Nat) (a0_0 : ByteArray) (a0_1 : Int) : Option (Int) := if a0_0.toList = ([] : List UInt8) then (num_decimal_bits.j0 k (wrap64 ((a0_0.size : Int) + a0_1)) true a0_0 a0_1) else (num_decimal_bits.j0 k (wrap64 ((a0_0.size : Int) + a0_1)) (decide ((wrap64 ((a0_0.size : Int) + a0_1)) < (-330))) a0_0 a0_1)
theorem num_decimal_bits.mono_l : ∀ k, (∀ y0 y1 y2 y3, LeO (num_decimal_bits.j0 k y0 y1 y2 y3) (num_decimal_bits.j0 (k + 1) y0 y1 y2 y3)) ∧ (∀ y0 y1 y2 y3 y4, LeO (num_decimal_bits.l0 k y0 y1 y2 y3 y4) (num_decimal_bits.l0 (k + 1) y0 y1 y2 y3 y4)) ∧ (∀ y0 y1, LeO (num_decimal_bits.j2 k y0 y1) (num_decimal_bits.j2 (k + 1) y0 y1)) ∧ (∀ y0 y1 y2, LeO (num_decimal_bits.j3 k y0 y1 y2) (num_decimal_bits.j3 (k + 1) y0 y1 y2)) ∧ (∀ y0 y1 y2 y3 y4, LeO (num_decimal_bits.l1 k y0 y1 y2 y3 y4) (num_decimal_bits.l1 (k + 1) y0 y1 y2 y3 y4))
 | 0 => ⟨fun _ _ _ _ r h => by simp [num_decimal_bits.j0] at h, fun _ _ _ _ _ r h => by simp [num_decimal_bits.l0] at h, fun _ _ r h => by simp [num_decimal_bits.j2] at h, fun _ _ _ r h => by simp [num_decimal_bits.j3] at h, fun _ _ _ _ _ r h => by simp [num_decimal_bits.l1] at h⟩
 | k + 1 => by
  obtain ⟨ih0, ih1, ih2, ih3, ih4⟩ := num_decimal_bits.mono_l k
  refine ⟨?_, ?_, ?_, ?_, ?_⟩
  ·
   intro y0 y1 y2 y3
   unfold num_decimal_bits.j0
   repeat' first | (with_reducible exact ih0 _ _ _ _) | (with_reducible exact ih1 _ _ _ _ _) | (with_reducible exact ih2 _ _) | (with_reducible exact ih3 _ _ _) | (with_reducible exact ih4 _ _ _ _ _) | (with_reducible exact num_nat_against.mono _ _ _) | (with_reducible exact num_nat_less.mono _ _ _) | (with_reducible exact num_nat_tens.mono _ _ _) | (with_reducible exact num_nat_times.mono _ _ _ _) | (with_reducible exact num_nat_up.mono _ _ _) | (with_reducible exact num_nearest.mono _ _ _ _) | (with_reducible exact num_of.mono _ _) | (with_reducible exact LeO.refl _) | (with_reducible exact LeO.none _) | (with_reducible refine LeO.ite ?_ ?_) | (with_reducible refine LeO.bind ?_ (fun _ => ?_))
  ·
   intro y0 y1 y2 y3 y4
   unfold num_decimal_bits.l0
   repeat' first | (with_reducible exact ih0 _ _ _ _) | (with_reducible exact ih1 _ _ _ _ _) | (with_reducible exact ih2 _ _) | (with_reducible exact ih3 _ _ _) | (with_reducible exact ih4 _ _ _ _ _) | (with_reducible exact num_nat_against.mono _ _ _) | (with_reducible exact num_nat_less.mono _ _ _) | (with_reducible exact num_nat_tens.mono _ _ _) | (with_reducible exact num_nat_times.mono _ _ _ _) | (with_reducible exact num_nat_up.mono _ _ _) | (with_reducible exact num_nearest.mono _ _ _ _) | (with_reducible exact num_of.mono _ _) | (with_reducible exact LeO.refl _) | (with_reducible exact LeO.none _) | (with_reducible refine LeO.ite ?_ ?_) | (with_reducible refine LeO.bind ?_ (fun _ => ?_))
  ·
   intro y0 y1
   unfold num_decimal_bits.j2
   repeat' first | (with_reducible exact ih0 _ _ _ _) | (with_reducible exact ih1 _ _ _ _ _) | (with_reducible exact ih2 _ _) | (with_reducible exact ih3 _ _ _) | (with_reducible exact ih4 _ _ _ _ _) | (with_reducible exact num_nat_against.mono _ _ _) | (with_reducible exact num_nat_less.mono _ _ _) | (with_reducible exact num_nat_tens.mono _ _ _) | (with_reducible exact num_nat_times.mono _ _ _ _) | (with_reducible exact num_nat_up.mono _ _ _) | (with_reducible exact num_nearest.mono _ _ _ _) | (with_reducible exact num_of.mono _ _) | (with_reducible exact LeO.refl _) | (with_reducible exact LeO.none _) | (with_reducible refine LeO.ite ?_ ?_) | (with_reducible refine LeO.bind ?_ (fun _ => ?_))
  ·
   intro y0 y1 y2
   unfold num_decimal_bits.j3
   repeat' first | (with_reducible exact ih0 _ _ _ _) | (with_reducible exact ih1 _ _ _ _ _) | (with_reducible exact ih2 _ _) | (with_reducible exact ih3 _ _ _) | (with_reducible exact ih4 _ _ _ _ _) | (with_reducible exact num_nat_against.mono _ _ _) | (with_reducible exact num_nat_less.mono _ _ _) | (with_reducible exact num_nat_tens.mono _ _ _) | (with_reducible exact num_nat_times.mono _ _ _ _) | (with_reducible exact num_nat_up.mono _ _ _) | (with_reducible exact num_nearest.mono _ _ _ _) | (with_reducible exact num_of.mono _ _) | (with_reducible exact LeO.refl _) | (with_reducible exact LeO.none _) | (with_reducible refine LeO.ite ?_ ?_) | (with_reducible refine LeO.bind ?_ (fun _ => ?_))
  ·
   intro y0 y1 y2 y3 y4
   unfold num_decimal_bits.l1
   repeat' first | (with_reducible exact ih0 _ _ _ _) | (with_reducible exact ih1 _ _ _ _ _) | (with_reducible exact ih2 _ _) | (with_reducible exact ih3 _ _ _) | (with_reducible exact ih4 _ _ _ _ _) | (with_reducible exact num_nat_against.mono _ _ _) | (with_reducible exact num_nat_less.mono _ _ _) | (with_reducible exact num_nat_tens.mono _ _ _) | (with_reducible exact num_nat_times.mono _ _ _ _) | (with_reducible exact num_nat_up.mono _ _ _) | (with_reducible exact num_nearest.mono _ _ _ _) | (with_reducible exact num_of.mono _ _) | (with_reducible exact LeO.refl _) | (with_reducible exact LeO.none _) | (with_reducible refine LeO.ite ?_ ?_) | (with_reducible refine LeO.bind ?_ (fun _ => ?_))
theorem num_decimal_bits.mono : ∀ a0 a1 k, LeO (num_decimal_bits.f k a0 a1) (num_decimal_bits.f (k + 1) a0 a1) := by
 intro a0 a1 k
 obtain ⟨ih0, ih1, ih2, ih3, ih4⟩ := num_decimal_bits.mono_l k
 unfold num_decimal_bits.f
 repeat' first | (with_reducible exact ih0 _ _ _ _) | (with_reducible exact ih1 _ _ _ _ _) | (with_reducible exact ih2 _ _) | (with_reducible exact ih3 _ _ _) | (with_reducible exact ih4 _ _ _ _ _) | (with_reducible exact num_nat_against.mono _ _ _) | (with_reducible exact num_nat_less.mono _ _ _) | (with_reducible exact num_nat_tens.mono _ _ _) | (with_reducible exact num_nat_times.mono _ _ _ _) | (with_reducible exact num_nat_up.mono _ _ _) | (with_reducible exact num_nearest.mono _ _ _ _) | (with_reducible exact num_of.mono _ _) | (with_reducible exact LeO.refl _) | (with_reducible exact LeO.none _) | (with_reducible refine LeO.ite ?_ ?_) | (with_reducible refine LeO.bind ?_ (fun _ => ?_))
set_option maxHeartbeats 8000000 in
set_option maxRecDepth 100000 in
theorem num_decimal_bits.calls (k : Nat) (a0_0 : ByteArray) (a0_1 : Int) (r : Int) (w : World) (h : num_decimal_bits.f k a0_0 a0_1 = some r) :
  Calls Tryd.prog 67 #[.agg #[.string a0_0, .int .i64 a0_1]] w fun e w' => e = .returned (.int .u64 r) ∧ Below w.heap.size w w' := by
 have hu79 := Tryd.underlying79
 have HB := Aside0.mk (Below.refl w.heap.size w)
 have H : (if a0_0.toList = ([] : List UInt8) then (num_decimal_bits.j0 k (wrap64 ((a0_0.size : Int) + a0_1)) true a0_0 a0_1) else (num_decimal_bits.j0 k (wrap64 ((a0_0.size : Int) + a0_1)) (decide ((wrap64 ((a0_0.size : Int) + a0_1)) < (-330))) a0_0 a0_1)) = some r := h
 clear h
 have HC2 := Aside0.mk H
 clear H
 go_enter Tryd.func67, Tryd.ntmps67
 go_upto_region 2 with (first | ((with_reducible refine gate_dst (N := 1) rfl ?_); refine box_event ?hg (N := 1) ?hd (cs := #[.string a0_0, .int .i64 a0_1]) (t := 79) ?hr ?_; (case hd => rfl); (case hg => rfl); (case hr => first | (go_simp; done) | (go_simp; rfl)); intro gb569 hg w3 hbox hb; have BK569 := Aside0.mk (hbox); have GW569 := Aside0.mk ((by rw [hg]; exact (below_size (lk HB)) : w.heap.size ≤ gb569)); have GE569 := Aside0.mk ((by rw [hg]; exact (below_size (lk HB)) : w.heap.size ≤ gb569)); replace HB := lb HB hb; clear hb hbox hg; have hcz4_0 : w3.cell? ⟨gb569, 0, none⟩ = some (.string a0_0) := (blk_cell BK569.out 0).trans rfl; have hcz4_1 : w3.cell? ⟨gb569, 1, none⟩ = some (.int .i64 a0_1) := (blk_cell BK569.out 1).trans rfl; have hfz4_0 := blk_frozen BK569.out 0; have hfz4_1 := blk_frozen BK569.out 1))
 (try simp only [Act.put, List.setIfInBounds_toArray, List.set_cons_zero, List.set_cons_succ])
 go_cut [17] (fun v17 wc => ∃ (kq : Nat) (x17_1 : Bool), v17 = .bool x17_1 ∧ Aside0 (num_decimal_bits.j0 kq (wrap64 ((a0_0.size : Int) + a0_1)) x17_1 a0_0 a0_1 = some r) ∧ Aside0 (kq ≤ k) ∧ Aside0 (wc.heap[gb569]? = some (.cells #[.string a0_0, .int .i64 a0_1] 79 (0, 0))) ∧ Aside0 (Below w.heap.size w wc))
 case first =>
  have H := HC2.out
  clear HC2
  by_cases c5 : a0_0.toList = ([] : List UInt8)
  ·
   rw [if_pos c5] at H
   have c5b0 : (a0_0.toList == ([] : List UInt8)) = true := beq_iff_eq.mpr c5
   have c5b1 : (a0_0.toList != ([] : List UInt8)) = false := bne_eq_false_iff_eq.mpr c5
   clear c5
   (first | rw [c5b0] | (simp only [i64_w, i32_w]; rw [c5b0]) | skip)
   have H' := Aside0.mk H
   clear H
   have hcz6_0 : w3.cell? ⟨gb569, 0, none⟩ = some (.string a0_0) := (blk_cell BK569.out 0).trans rfl
   have hcz6_1 : w3.cell? ⟨gb569, 1, none⟩ = some (.int .i64 a0_1) := (blk_cell BK569.out 1).trans rfl
   have hfz6_0 := blk_frozen BK569.out 0
   have hfz6_1 := blk_frozen BK569.out 1
   go_wp2
   go_meet
   case rel => exact ⟨_, (true), (by first | rfl | (simp; done) | (simp [*]; done)), H', ⟨by first | omega | exact Nat.le_refl _⟩, ⟨by (with_reducible repeat (first | refine blk_drewN ?_ _ | refine blk_drew ?_ | refine blk_alloc ?_ _)); exact BK569.out⟩, ⟨lk HB⟩⟩
  ·
   rw [if_neg c5] at H
   have c5b0 : (a0_0.toList == ([] : List UInt8)) = false := beq_eq_false_iff_ne.mpr c5
   have c5b1 : (a0_0.toList != ([] : List UInt8)) = true := bne_iff_ne.mpr c5
   (first | rw [c5b0] | (simp only [i64_w, i32_w]; rw [c5b0]) | skip)
   have H' := Aside0.mk H
   clear H
   have hcz7_0 : w3.cell? ⟨gb569, 0, none⟩ = some (.string a0_0) := (blk_cell BK569.out 0).trans rfl
   have hcz7_1 : w3.cell? ⟨gb569, 1, none⟩ = some (.int .i64 a0_1) := (blk_cell BK569.out 1).trans rfl
   have hfz7_0 := blk_frozen BK569.out 0
   have hfz7_1 := blk_frozen BK569.out 1
   go_wp2
   go_meet
   case rel => exact ⟨_, (decide ((wrap64 ((a0_0.size : Int) + a0_1)) < (-330))), (by first | rfl | (simp; done) | (simp [*]; done)), H', ⟨by first | omega | exact Nat.le_refl _⟩, ⟨by (with_reducible repeat (first | refine blk_drewN ?_ _ | refine blk_drew ?_ | refine blk_alloc ?_ _)); exact BK569.out⟩, ⟨lk HB⟩⟩
 case rest =>
  clear HC2
  try clear p2
  try clear c5
  try clear c5b0
  try clear c5b1
  try clear c6
  try clear p6
  try clear hcz4_0
  try clear hcz4_1
  try clear hcz6_0
  try clear hcz6_1
  try clear hcz7_0
  try clear hcz7_1
  try clear hfz4_0
  try clear hfz4_1
  try clear hfz6_0
  try clear hfz6_1
  try clear hfz7_0
  try clear hfz7_1
  obtain ⟨kq, x17_1, rfl, HA, HJ1, BK569, HB⟩ := hcut
  cases kq with
  | zero => exact absurd HA.out (by simp [num_decimal_bits.j0])
  | succ kj1 =>
   have H := HA.out
   clear HA
   simp only [num_decimal_bits.j0] at H
   by_cases c8 : x17_1 = true
   ·
    subst c8
    have H1 : (some 0) = some r := by rw [if_pos rfl] at H; exact H
    clear H
    have H := H1
    clear H1
    obtain rfl := Option.some.inj H
    go_wp2
    go_ret
    exact ex (lk HB)
   ·
    replace c8 := Bool.eq_false_iff.mpr c8
    subst c8
    have H1 : (if (wrap64 ((a0_0.size : Int) + a0_1)) > 310 then (some 9218868437227405312) else (num_decimal_bits.l0 kj1 ([] : List Int) (a0_0.size : Int) 0 a0_0 a0_1)) = some r := by rw [if_neg (show ¬ (false = true) by decide)] at H; exact H
    clear H
    have H := H1
    clear H1
    by_cases c9 : (wrap64 ((a0_0.size : Int) + a0_1)) > 310
    ·
     rw [if_pos c9] at H
     have c9b0 : decide (310 < (wrap64 ((a0_0.size : Int) + a0_1))) = true := decide_eq_true c9
     clear c9
     obtain rfl := Option.some.inj H
     go_wp2
     go_ret
     exact ex (lk HB)
    ·
     rw [if_neg c9] at H
     have c9b0 : decide (310 < (wrap64 ((a0_0.size : Int) + a0_1))) = false := decide_eq_false c9
     clear c9
     have H' := Aside0.mk H
     clear H
     have hcz10_0 : wc.cell? ⟨gb569, 0, none⟩ = some (.string a0_0) := (blk_cell BK569.out 0).trans rfl
     have hcz10_1 : wc.cell? ⟨gb569, 1, none⟩ = some (.int .i64 a0_1) := (blk_cell BK569.out 1).trans rfl
     have hfz10_0 := blk_frozen BK569.out 0
     have hfz10_1 := blk_frozen BK569.out 1
     go_wp2
     go_loopg [4, 31] kj1 (fun kq v4 v31 w' => ∃ (x4_2 : List Int) (x31_2 : Int), v31 = .int .i64 x31_2 ∧ Aside0 (num_decimal_bits.l0 kq x4_2 (a0_0.size : Int) x31_2 a0_0 a0_1 = some r) ∧ Aside0 (kq ≤ kj1) ∧ Aside0 (Kd.V (Kd.int .u32) 102 w' w.heap.size (fun k_ => k_ ≠ gb569) v4 x4_2) ∧ Aside0 (w'.heap[gb569]? = some (.cells #[.string a0_0, .int .i64 a0_1] 79 (0, 0))) ∧ Aside0 (Below w.heap.size w w'))
     case atStart => exact ⟨(([] : List Int)), (0), (by first | rfl | (simp; done) | (simp [*]; done)), H', ⟨Nat.le_refl _⟩, ⟨Kd.R_V (Kd.R_nil _ _ _ w.heap.size _)⟩, ⟨by (with_reducible repeat (first | refine blk_drewN ?_ _ | refine blk_drew ?_ | refine blk_alloc ?_ _)); exact BK569.out⟩, ⟨lk HB⟩⟩
     case round =>
      clear H'
      try clear p2
      try clear c5
      try clear c5b0
      try clear c5b1
      try clear c6
      try clear p6
      try clear c8
      try clear c9
      try clear c9b0
      try clear hcz10_0
      try clear hcz10_1
      try clear hcz4_0
      try clear hcz4_1
      try clear hcz6_0
      try clear hcz6_1
      try clear hcz7_0
      try clear hcz7_1
      try clear hfz10_0
      try clear hfz10_1
      try clear hfz4_0
      try clear hfz4_1
      try clear hfz6_0
      try clear hfz6_1
      try clear hfz7_0
      try clear hfz7_1
      try clear p2
      try clear p6
      obtain ⟨x4_2, x31_2, rfl, HA, HK2, HO_4, BK569, HB⟩ := hrel
      cases gk with
      | zero => exact absurd HA.out (by simp [num_decimal_bits.l0])
      | succ k2 =>
       have H := HA.out
       clear HA
       simp only [num_decimal_bits.l0] at H
       by_cases c11 : x31_2 < (a0_0.size : Int)
       ·
        rw [if_pos c11] at H
        have c11b0 : decide (x31_2 < (a0_0.size : Int)) = true := decide_eq_true c11
        clear c11
        by_cases c12 : 0 ≤ x31_2
        ·
         rw [if_pos c12] at H
         have c12b0 : decide (0 ≤ x31_2) = true := decide_eq_true c12
         clear c12
         by_cases c13 : x31_2 < (a0_0.size : Int)
         ·
          rw [if_pos c13] at H
          have c13b0 : decide (x31_2 < (a0_0.size : Int)) = true := decide_eq_true c13
          clear c13
          replace H := Option.bind_eq_some_iff.mp H
          obtain ⟨t570, A150, H⟩ := H
          replace H : (num_decimal_bits.l0 k2 t570 (a0_0.size : Int) (wrap64 (x31_2 + 1)) a0_0 a0_1) = some r := H
          have A15 := Aside0.mk A150
          clear A150
          have H' := Aside0.mk H
          clear H
          have hcz16_0 : wr.cell? ⟨gb569, 0, none⟩ = some (.string a0_0) := (blk_cell BK569.out 0).trans rfl
          have hcz16_1 : wr.cell? ⟨gb569, 1, none⟩ = some (.int .i64 a0_1) := (blk_cell BK569.out 1).trans rfl
          have hfz16_0 := blk_frozen BK569.out 0
          have hfz16_1 := blk_frozen BK569.out 1
          have p14 : 0 ≤ (x31_2 : Int) := of_decide_eq_true (by first | (with_reducible assumption) | assumption)
          have q14 : x31_2 < (a0_0.size : Int) := of_decide_eq_true (by first | (with_reducible assumption) | assumption)
          have hx14 := bt_at a0_0 x31_2
          replace p14 := eq_true p14
          replace q14 := eq_true q14
          obtain ⟨Ao17, co17, eo17⟩ := Kd.V_slice HO_4.out
          subst eo17
          go_wp2_with (first | ((with_reducible refine gate_callee (f := 86) rfl ?_); refine gL (some 41) Tryd.func86 #[.slice Ao17 x4_2.length co17, .int .u32 10, .int .u32 (((bt a0_0 x31_2) - 48) % 256)] ?_; (with_reducible refine (num_nat_times.calls k2 _ _ x4_2 10 (((bt a0_0 x31_2) - 48) % 256) t570 _ ?side1 ?side2 A15.out).mono ?_); (case side1 => exact ck (Kd.V_reads' HO_4.out).2.2); (case side2 => exact (Kd.V_reads' HO_4.out).2.1); rintro e w18 ⟨v571, rfl, ho0, hb⟩; refine ⟨_, rfl, ?_⟩; replace HO_4 := vb HO_4 hb; have HO572 := Aside0.mk (Kd.V_lower (Kd.V_mono (ok' := fun k_ => k_ ≠ gb569) ho0 (fun k_ hk_ => (Kd.freshB (bk BK569) k_ hk_))) (below_size (lk HB))); replace BK569 := bb BK569 hb; replace HB := lb HB hb; (try clear hb); (try clear hb2); (try clear hk); (try clear hi); (try clear ho0)))
          go_roundg k2
          case measure => have := HJ1.out; have := HK2.out; omega
          case rel => exact ⟨(t570), (wrap64 (x31_2 + 1)), (by first | rfl | (simp; done) | (simp [*]; done)), H', ⟨by have := HJ1.out; have := HK2.out; omega⟩, ⟨by (with_reducible repeat (first | apply Kd.V_alloc | apply Kd.V_drewN | apply Kd.V_drew)); exact HO572.out⟩, ⟨by (with_reducible repeat (first | refine blk_drewN ?_ _ | refine blk_drew ?_ | refine blk_alloc ?_ _)); exact BK569.out⟩, ⟨lk HB⟩⟩
         ·
          rw [if_neg c13] at H
          exact absurd H (by simp)
        ·
         rw [if_neg c12] at H
         exact absurd H (by simp)
       ·
        rw [if_neg c11] at H
        have c11b0 : decide (x31_2 < (a0_0.size : Int)) = false := decide_eq_false c11
        clear c11
        replace H := Option.bind_eq_some_iff.mp H
        obtain ⟨t573, A190, H⟩ := H
        replace H : (if a0_1 ≥ 0 then ((num_nat_tens.f k2 x4_2 a0_1).bind fun t576 => (num_decimal_bits.j2 k2 t576 t573)) else ((num_nat_tens.f k2 t573 (wrap64 (-a0_1))).bind fun t579 => (num_decimal_bits.j2 k2 x4_2 t579))) = some r := H
        have A19 := Aside0.mk A190
        clear A190
        have HC20 := Aside0.mk H
        clear H
        go_upto_if 46 with (first | ((with_reducible refine gate_callee (f := 45) rfl ?_); refine gL (some 43) Tryd.func45 #[.int .u64 1] ?_; (with_reducible refine (num_of.calls k2 1 t573 _ A19.out).mono ?_); rintro e w21 ⟨v574, rfl, ho0, hb⟩; refine ⟨_, rfl, ?_⟩; replace HO_4 := vb HO_4 hb; have HO575 := Aside0.mk (Kd.V_lower (Kd.V_mono (ok' := fun k_ => k_ ≠ gb569) ho0 (fun k_ hk_ => (Kd.freshB (bk BK569) k_ hk_))) (below_size (lk HB))); replace BK569 := bb BK569 hb; replace HB := lb HB hb; (try clear hb); (try clear hb2); (try clear hk); (try clear hi); (try clear ho0); have hcz22_0 : w21.cell? ⟨gb569, 0, none⟩ = some (.string a0_0) := (blk_cell BK569.out 0).trans rfl; have hcz22_1 : w21.cell? ⟨gb569, 1, none⟩ = some (.int .i64 a0_1) := (blk_cell BK569.out 1).trans rfl; have hfz22_0 := blk_frozen BK569.out 0; have hfz22_1 := blk_frozen BK569.out 1))
        (try simp only [Act.put, List.setIfInBounds_toArray, List.set_cons_zero, List.set_cons_succ])
        go_cut [4, 6] (fun v4 v6 wc => ∃ (kq : Nat) (x4_19 : List Int) (x6_19 : List Int), Aside0 (num_decimal_bits.j2 kq x4_19 x6_19 = some r) ∧ Aside0 (kq ≤ k2) ∧ Aside0 (Kd.V (Kd.int .u32) 102 wc w.heap.size (fun k_ => k_ ≠ gb569) v4 x4_19) ∧ Aside0 (Kd.V (Kd.int .u32) 102 wc w.heap.size (fun k_ => k_ ≠ gb569) v6 x6_19) ∧ Aside0 (wc.heap[gb569]? = some (.cells #[.string a0_0, .int .i64 a0_1] 79 (0, 0))) ∧ Aside0 (Below w.heap.size w wc))
        case first =>
         have H := HC20.out
         clear HC20
         by_cases c23 : a0_1 ≥ 0
         ·
          rw [if_pos c23] at H
          have c23b0 : decide (0 ≤ a0_1) = true := decide_eq_true c23
          clear c23
          (first | rw [c23b0] | (simp only [i64_w, i32_w]; rw [c23b0]) | skip)
          replace H := Option.bind_eq_some_iff.mp H
          obtain ⟨t576, A240, H⟩ := H
          replace H : (num_decimal_bits.j2 k2 t576 t573) = some r := H
          have A24 := Aside0.mk A240
          clear A240
          have H' := Aside0.mk H
          clear H
          have hcz25_0 : w21.cell? ⟨gb569, 0, none⟩ = some (.string a0_0) := (blk_cell BK569.out 0).trans rfl
          have hcz25_1 : w21.cell? ⟨gb569, 1, none⟩ = some (.int .i64 a0_1) := (blk_cell BK569.out 1).trans rfl
          have hfz25_0 := blk_frozen BK569.out 0
          have hfz25_1 := blk_frozen BK569.out 1
          obtain ⟨Ao26, co26, eo26⟩ := Kd.V_slice HO_4.out
          subst eo26
          go_wp2_with (first | ((with_reducible refine gate_callee (f := 52) rfl ?_); refine gL (some 50) Tryd.func52 #[.slice Ao26 x4_2.length co26, .int .i64 a0_1] ?_; (with_reducible refine (num_nat_tens.calls k2 (fun k_ => k_ ≠ gb569) _ _ x4_2 a0_1 t576 _ ?side1 A24.out).mono ?_); (case side1 => exact HO_4.out); rintro e w27 ⟨v577, rfl, ho0, hb⟩; refine ⟨_, rfl, ?_⟩; replace HO_4 := vb HO_4 hb; replace HO575 := vb HO575 hb; have HO578 := Aside0.mk (Kd.V_lower (Kd.V_mono (ok' := fun k_ => k_ ≠ gb569) ho0 (fun k_ hk_ => Or.elim hk_ (fun hs_ => hs_) (fun hn_ => (Kd.freshB (bk BK569) k_ hn_)))) (below_size (lk HB))); replace BK569 := bb BK569 hb; replace HB := lb HB hb; (try clear hb); (try clear hb2); (try clear hk); (try clear hi); (try clear ho0)))
          go_meet
          case rel => exact ⟨_, (t576), (t573), H', ⟨by have := HJ1.out; have := HK2.out; first | omega | exact Nat.le_refl _⟩, ⟨by (with_reducible repeat (first | apply Kd.V_alloc | apply Kd.V_drewN | apply Kd.V_drew)); exact HO578.out⟩, ⟨by (with_reducible repeat (first | apply Kd.V_alloc | apply Kd.V_drewN | apply Kd.V_drew)); exact HO575.out⟩, ⟨by (with_reducible repeat (first | refine blk_drewN ?_ _ | refine blk_drew ?_ | refine blk_alloc ?_ _)); exact BK569.out⟩, ⟨lk HB⟩⟩
         ·
          rw [if_neg c23] at H
          have c23b0 : decide (0 ≤ a0_1) = false := decide_eq_false c23
          clear c23
          (first | rw [c23b0] | (simp only [i64_w, i32_w]; rw [c23b0]) | skip)
          replace H := Option.bind_eq_some_iff.mp H
          obtain ⟨t579, A280, H⟩ := H
          replace H : (num_decimal_bits.j2 k2 x4_2 t579) = some r := H
          have A28 := Aside0.mk A280
          clear A280
          have H' := Aside0.mk H
          clear H
          have hcz29_0 : w21.cell? ⟨gb569, 0, none⟩ = some (.string a0_0) := (blk_cell BK569.out 0).trans rfl
          have hcz29_1 : w21.cell? ⟨gb569, 1, none⟩ = some (.int .i64 a0_1) := (blk_cell BK569.out 1).trans rfl
          have hfz29_0 := blk_frozen BK569.out 0
          have hfz29_1 := blk_frozen BK569.out 1
          obtain ⟨Ao30, co30, eo30⟩ := Kd.V_slice HO575.out
          subst eo30
          go_wp2_with (first | ((with_reducible refine gate_callee (f := 52) rfl ?_); refine gL (some 55) Tryd.func52 #[.slice Ao30 t573.length co30, .int .i64 (wrap64 (-a0_1))] ?_; (with_reducible refine (num_nat_tens.calls k2 (fun k_ => k_ ≠ gb569) _ _ t573 (wrap64 (-a0_1)) t579 _ ?side1 A28.out).mono ?_); (case side1 => exact HO575.out); rintro e w31 ⟨v580, rfl, ho0, hb⟩; refine ⟨_, rfl, ?_⟩; replace HO_4 := vb HO_4 hb; replace HO575 := vb HO575 hb; have HO581 := Aside0.mk (Kd.V_lower (Kd.V_mono (ok' := fun k_ => k_ ≠ gb569) ho0 (fun k_ hk_ => Or.elim hk_ (fun hs_ => hs_) (fun hn_ => (Kd.freshB (bk BK569) k_ hn_)))) (below_size (lk HB))); replace BK569 := bb BK569 hb; replace HB := lb HB hb; (try clear hb); (try clear hb2); (try clear hk); (try clear hi); (try clear ho0)))
          go_meet
          case rel => exact ⟨_, (x4_2), (t579), H', ⟨by have := HJ1.out; have := HK2.out; first | omega | exact Nat.le_refl _⟩, ⟨by (with_reducible repeat (first | apply Kd.V_alloc | apply Kd.V_drewN | apply Kd.V_drew)); exact HO_4.out⟩, ⟨by (with_reducible repeat (first | apply Kd.V_alloc | apply Kd.V_drewN | apply Kd.V_drew)); exact HO581.out⟩, ⟨by (with_reducible repeat (first | refine blk_drewN ?_ _ | refine blk_drew ?_ | refine blk_alloc ?_ _)); exact BK569.out⟩, ⟨lk HB⟩⟩
        case rest =>
         clear HC20
         try clear c1
         try clear p1
         try clear q1
         try clear hx1
         try clear c2
         try clear p2
         try clear c4
         try clear c5
         try clear c5b0
         try clear c5b1
         try clear c6
         try clear p6
         try clear c8
         try clear c9
         try clear c9b0
         try clear c11
         try clear c11b0
         try clear c12
         try clear c12b0
         try clear c13
         try clear c13b0
         try clear p14
         try clear q14
         try clear hx14
         try clear c23
         try clear c23b0
         try clear hcz10_0
         try clear hcz10_1
         try clear hcz16_0
         try clear hcz16_1
         try clear hcz22_0
         try clear hcz22_1
         try clear hcz25_0
         try clear hcz25_1
         try clear hcz29_0
         try clear hcz29_1
         try clear hcz4_0
         try clear hcz4_1
         try clear hcz6_0
         try clear hcz6_1
         try clear hcz7_0
         try clear hcz7_1
         try clear hfz10_0
         try clear hfz10_1
         try clear hfz16_0
         try clear hfz16_1
         try clear hfz22_0
         try clear hfz22_1
         try clear hfz25_0
         try clear hfz25_1
         try clear hfz29_0
         try clear hfz29_1
         try clear hfz4_0
         try clear hfz4_1
         try clear hfz6_0
         try clear hfz6_1
         try clear hfz7_0
         try clear hfz7_1
         try clear p14
         try clear p2
         try clear p6
         try clear q14
         obtain ⟨kq, x4_19, x6_19, HA, HJ19, HO_4, HO_6, BK569, HB⟩ := hcut
         cases kq with
         | zero => exact absurd HA.out (by simp [num_decimal_bits.j2])
         | succ kj19 =>
          have H := HA.out
          clear HA
          simp only [num_decimal_bits.j2] at H
          replace H := Option.bind_eq_some_iff.mp H
          obtain ⟨t582, A320, H⟩ := H
          replace H : ((num_nat_size.f x6_19).bind fun t583 => (if (wrap64 (56 - (wrap64 (t582 - t583)))) ≥ 0 then ((num_nat_up.f kj19 x4_19 (wrap64 (56 - (wrap64 (t582 - t583))))).bind fun t584 => (num_decimal_bits.j3 kj19 t584 x6_19 (wrap64 (56 - (wrap64 (t582 - t583)))))) else ((num_nat_up.f kj19 x6_19 (wrap64 (-(wrap64 (56 - (wrap64 (t582 - t583))))))).bind fun t587 => (num_decimal_bits.j3 kj19 x4_19 t587 (wrap64 (56 - (wrap64 (t582 - t583)))))))) = some r := H
          have A32 := Aside0.mk A320
          clear A320
          replace H := Option.bind_eq_some_iff.mp H
          obtain ⟨t583, A330, H⟩ := H
          replace H : (if (wrap64 (56 - (wrap64 (t582 - t583)))) ≥ 0 then ((num_nat_up.f kj19 x4_19 (wrap64 (56 - (wrap64 (t582 - t583))))).bind fun t584 => (num_decimal_bits.j3 kj19 t584 x6_19 (wrap64 (56 - (wrap64 (t582 - t583)))))) else ((num_nat_up.f kj19 x6_19 (wrap64 (-(wrap64 (56 - (wrap64 (t582 - t583))))))).bind fun t587 => (num_decimal_bits.j3 kj19 x4_19 t587 (wrap64 (56 - (wrap64 (t582 - t583))))))) = some r := H
          have A33 := Aside0.mk A330
          clear A330
          have HC34 := Aside0.mk H
          clear H
          obtain ⟨Ao35, co35, eo35⟩ := Kd.V_slice HO_4.out
          subst eo35
          go_upto_if 63 with (first | ((with_reducible refine gate_callee (f := 51) rfl ?_); refine gL (some 57) Tryd.func51 #[.slice Ao35 x4_19.length co35] ?_; (with_reducible refine (num_nat_size.calls _ _ x4_19 t582 _ ?side1 ?side2 A32.out).mono ?_); (case side1 => exact ck (Kd.V_reads' HO_4.out).2.2); (case side2 => exact (Kd.V_reads' HO_4.out).2.1); rintro e w' ⟨rfl, ⟨nd, rfl⟩⟩; refine ⟨_, rfl, ?_⟩; obtain ⟨Ao36, co36, eo36⟩ := Kd.V_slice HO_6.out; subst eo36) | ((with_reducible refine gate_callee (f := 51) rfl ?_); refine gL (some 59) Tryd.func51 #[.slice Ao36 x6_19.length co36] ?_; (with_reducible refine (num_nat_size.calls _ _ x6_19 t583 _ ?side1 ?side2 A33.out).mono ?_); (case side1 => exact ck (Kd.V_reads' HO_6.out).2.2); (case side2 => exact (Kd.V_reads' HO_6.out).2.1); rintro e w' ⟨rfl, ⟨nd, rfl⟩⟩; refine ⟨_, rfl, ?_⟩))
          (try simp only [Act.put, List.setIfInBounds_toArray, List.set_cons_zero, List.set_cons_succ])
          go_cut [4, 6] (fun v4 v6 wc => ∃ (kq : Nat) (x4_33 : List Int) (x6_33 : List Int), Aside0 (num_decimal_bits.j3 kq x4_33 x6_33 (wrap64 (56 - (wrap64 (t582 - t583)))) = some r) ∧ Aside0 (kq ≤ kj19) ∧ Aside0 (Kd.V (Kd.int .u32) 102 wc w.heap.size (fun k_ => k_ ≠ gb569) v4 x4_33) ∧ Aside0 (Kd.V (Kd.int .u32) 102 wc w.heap.size (fun k_ => k_ ≠ gb569) v6 x6_33) ∧ Aside0 (wc.heap[gb569]? = some (.cells #[.string a0_0, .int .i64 a0_1] 79 (0, 0))) ∧ Aside0 (Below w.heap.size w wc))
          case first =>
           have H := HC34.out
           clear HC34
           by_cases c37 : (wrap64 (56 - (wrap64 (t582 - t583)))) ≥ 0
           ·
            rw [if_pos c37] at H
            have c37b0 : decide (0 ≤ (wrap64 (56 - (wrap64 (t582 - t583))))) = true := decide_eq_true c37
            clear c37
            (first | rw [c37b0] | (simp only [i64_w, i32_w]; rw [c37b0]) | skip)
            replace H := Option.bind_eq_some_iff.mp H
            obtain ⟨t584, A380, H⟩ := H
            replace H : (num_decimal_bits.j3 kj19 t584 x6_19 (wrap64 (56 - (wrap64 (t582 - t583))))) = some r := H
            have A38 := Aside0.mk A380
            clear A380
            have H' := Aside0.mk H
            clear H
            go_wp2_with (first | ((with_reducible refine gate_callee (f := 46) rfl ?_); refine gL (some 66) Tryd.func46 #[.slice Ao35 x4_19.length co35, .int .i64 (wrap64 (56 - (wrap64 (t582 - t583))))] ?_; (with_reducible refine (num_nat_up.calls kj19 _ _ x4_19 (wrap64 (56 - (wrap64 (t582 - t583)))) t584 _ ?side1 ?side2 A38.out).mono ?_); (case side1 => exact ck (Kd.V_reads' HO_4.out).2.2); (case side2 => exact (Kd.V_reads' HO_4.out).2.1); rintro e w39 ⟨v585, rfl, ho0, hb⟩; refine ⟨_, rfl, ?_⟩; replace HO_4 := vb HO_4 hb; replace HO_6 := vb HO_6 hb; have HO586 := Aside0.mk (Kd.V_lower (Kd.V_mono (ok' := fun k_ => k_ ≠ gb569) ho0 (fun k_ hk_ => (Kd.freshB (bk BK569) k_ hk_))) (below_size (lk HB))); replace BK569 := bb BK569 hb; replace HB := lb HB hb; (try clear hb); (try clear hb2); (try clear hk); (try clear hi); (try clear ho0)))
            go_meet
            case rel => exact ⟨_, (t584), (x6_19), H', ⟨by have := HJ1.out; have := HK2.out; have := HJ19.out; first | omega | exact Nat.le_refl _⟩, ⟨by (with_reducible repeat (first | apply Kd.V_alloc | apply Kd.V_drewN | apply Kd.V_drew)); exact HO586.out⟩, ⟨by (with_reducible repeat (first | apply Kd.V_alloc | apply Kd.V_drewN | apply Kd.V_drew)); exact HO_6.out⟩, ⟨by (with_reducible repeat (first | refine blk_drewN ?_ _ | refine blk_drew ?_ | refine blk_alloc ?_ _)); exact BK569.out⟩, ⟨lk HB⟩⟩
           ·
            rw [if_neg c37] at H
            have c37b0 : decide (0 ≤ (wrap64 (56 - (wrap64 (t582 - t583))))) = false := decide_eq_false c37
            clear c37
            (first | rw [c37b0] | (simp only [i64_w, i32_w]; rw [c37b0]) | skip)
            replace H := Option.bind_eq_some_iff.mp H
            obtain ⟨t587, A400, H⟩ := H
            replace H : (num_decimal_bits.j3 kj19 x4_19 t587 (wrap64 (56 - (wrap64 (t582 - t583))))) = some r := H
            have A40 := Aside0.mk A400
            clear A400
            have H' := Aside0.mk H
            clear H
            go_wp2_with (first | ((with_reducible refine gate_callee (f := 46) rfl ?_); refine gL (some 70) Tryd.func46 #[.slice Ao36 x6_19.length co36, .int .i64 (wrap64 (-(wrap64 (56 - (wrap64 (t582 - t583))))))] ?_; (with_reducible refine (num_nat_up.calls kj19 _ _ x6_19 (wrap64 (-(wrap64 (56 - (wrap64 (t582 - t583)))))) t587 _ ?side1 ?side2 A40.out).mono ?_); (case side1 => exact ck (Kd.V_reads' HO_6.out).2.2); (case side2 => exact (Kd.V_reads' HO_6.out).2.1); rintro e w41 ⟨v588, rfl, ho0, hb⟩; refine ⟨_, rfl, ?_⟩; replace HO_4 := vb HO_4 hb; replace HO_6 := vb HO_6 hb; have HO589 := Aside0.mk (Kd.V_lower (Kd.V_mono (ok' := fun k_ => k_ ≠ gb569) ho0 (fun k_ hk_ => (Kd.freshB (bk BK569) k_ hk_))) (below_size (lk HB))); replace BK569 := bb BK569 hb; replace HB := lb HB hb; (try clear hb); (try clear hb2); (try clear hk); (try clear hi); (try clear ho0)))
            go_meet
            case rel => exact ⟨_, (x4_19), (t587), H', ⟨by have := HJ1.out; have := HK2.out; have := HJ19.out; first | omega | exact Nat.le_refl _⟩, ⟨by (with_reducible repeat (first | apply Kd.V_alloc | apply Kd.V_drewN | apply Kd.V_drew)); exact HO_4.out⟩, ⟨by (with_reducible repeat (first | apply Kd.V_alloc | apply Kd.V_drewN | apply Kd.V_drew)); exact HO589.out⟩, ⟨by (with_reducible repeat (first | refine blk_drewN ?_ _ | refine blk_drew ?_ | refine blk_alloc ?_ _)); exact BK569.out⟩, ⟨lk HB⟩⟩
          case rest =>
           clear HC34
           try clear c1
           try clear p1
           try clear q1
           try clear hx1
           try clear c2
           try clear p2
           try clear c3
           try clear c4
           try clear c5
           try clear c5b0
           try clear c5b1
           try clear c6
           try clear p6
           try clear c8
           try clear c9
           try clear c9b0
           try clear c11
           try clear c11b0
           try clear c12
           try clear c12b0
           try clear c13
           try clear c13b0
           try clear p14
           try clear q14
           try clear hx14
           try clear c23
           try clear c23b0
           try clear c37
           try clear c37b0
           try clear hcz10_0
           try clear hcz10_1
           try clear hcz16_0
           try clear hcz16_1
           try clear hcz22_0
           try clear hcz22_1
           try clear hcz25_0
           try clear hcz25_1
           try clear hcz29_0
           try clear hcz29_1
           try clear hcz4_0
           try clear hcz4_1
           try clear hcz6_0
           try clear hcz6_1
           try clear hcz7_0
           try clear hcz7_1
           try clear hfz10_0
           try clear hfz10_1
           try clear hfz16_0
           try clear hfz16_1
           try clear hfz22_0
           try clear hfz22_1
           try clear hfz25_0
           try clear hfz25_1
           try clear hfz29_0
           try clear hfz29_1
           try clear hfz4_0
           try clear hfz4_1
           try clear hfz6_0
           try clear hfz6_1
           try clear hfz7_0
           try clear hfz7_1
           try clear p1
           try clear p14
           try clear p2
           try clear p6
           try clear q1
           try clear q14
           obtain ⟨kq, x4_33, x6_33, HA, HJ33, HO_4, HO_6, BK569, HB⟩ := hcut
           cases kq with
           | zero => exact absurd HA.out (by simp [num_decimal_bits.j3])
           | succ kj33 =>
            have H := HA.out
            clear HA
            simp only [num_decimal_bits.j3] at H
            have H' := Aside0.mk H
            clear H
            go_wp2
            go_loopg [4, 8, 9] kj33 (fun kq v4 v8 v9 w' => ∃ (x4_5 : List Int) (x8_5 : Int) (x9_5 : Int), v8 = .int .u64 x8_5 ∧ v9 = .int .i64 x9_5 ∧ Aside0 (num_decimal_bits.l1 kq x4_5 x6_33 (wrap64 (56 - (wrap64 (t582 - t583)))) x8_5 x9_5 = some r) ∧ Aside0 (kq ≤ kj33) ∧ Aside0 (Kd.V (Kd.int .u32) 102 w' w.heap.size (fun k_ => k_ ≠ gb569) v4 x4_5) ∧ Aside0 (Kd.V (Kd.int .u32) 102 w' w.heap.size (fun k_ => k_ ≠ gb569) u6 x6_33) ∧ Aside0 (w'.heap[gb569]? = some (.cells #[.string a0_0, .int .i64 a0_1] 79 (0, 0))) ∧ Aside0 (Below w.heap.size w w'))
            case atStart => exact ⟨(x4_33), (0), (57), (by first | rfl | (simp; done) | (simp [*]; done)), (by first | rfl | (simp; done) | (simp [*]; done)), H', ⟨Nat.le_refl _⟩, ⟨by (with_reducible repeat (first | apply Kd.V_alloc | apply Kd.V_drewN | apply Kd.V_drew)); exact HO_4.out⟩, ⟨by (with_reducible repeat (first | apply Kd.V_alloc | apply Kd.V_drewN | apply Kd.V_drew)); exact HO_6.out⟩, ⟨by (with_reducible repeat (first | refine blk_drewN ?_ _ | refine blk_drew ?_ | refine blk_alloc ?_ _)); exact BK569.out⟩, ⟨lk HB⟩⟩
            case round =>
             clear H'
             try clear c1
             try clear p1
             try clear q1
             try clear hx1
             try clear c2
             try clear p2
             try clear c3
             try clear c4
             try clear c5
             try clear c5b0
             try clear c5b1
             try clear c6
             try clear p6
             try clear c8
             try clear c9
             try clear c9b0
             try clear c11
             try clear c11b0
             try clear c12
             try clear c12b0
             try clear c13
             try clear c13b0
             try clear p14
             try clear q14
             try clear hx14
             try clear c23
             try clear c23b0
             try clear c37
             try clear c37b0
             try clear hcz10_0
             try clear hcz10_1
             try clear hcz16_0
             try clear hcz16_1
             try clear hcz22_0
             try clear hcz22_1
             try clear hcz25_0
             try clear hcz25_1
             try clear hcz29_0
             try clear hcz29_1
             try clear hcz4_0
             try clear hcz4_1
             try clear hcz6_0
             try clear hcz6_1
             try clear hcz7_0
             try clear hcz7_1
             try clear hfz10_0
             try clear hfz10_1
             try clear hfz16_0
             try clear hfz16_1
             try clear hfz22_0
             try clear hfz22_1
             try clear hfz25_0
             try clear hfz25_1
             try clear hfz29_0
             try clear hfz29_1
             try clear hfz4_0
             try clear hfz4_1
             try clear hfz6_0
             try clear hfz6_1
             try clear hfz7_0
             try clear hfz7_1
             try clear p1
             try clear p14
             try clear p2
             try clear p6
             try clear q1
             try clear q14
             obtain ⟨x4_5, x8_5, x9_5, rfl, rfl, HA, HK5, HO_4, HO_6, BK569, HB⟩ := hrel
             cases gk with
             | zero => exact absurd HA.out (by simp [num_decimal_bits.l1])
             | succ k5 =>
              have H := HA.out
              clear HA
              simp only [num_decimal_bits.l1] at H
              by_cases c42 : x9_5 ≥ 0
              ·
               rw [if_pos c42] at H
               have c42b0 : decide (0 ≤ x9_5) = true := decide_eq_true c42
               clear c42
               replace H := Option.bind_eq_some_iff.mp H
               obtain ⟨t591, A430, H⟩ := H
               replace H : ((num_nat_against.f k5 x4_5 t591).bind fun t594 => (if t594 ≥ 0 then ((num_nat_less.f k5 x4_5 t591).bind fun t595 => (if 0 ≤ x9_5 then (num_decimal_bits.l1 k5 t595 x6_33 (wrap64 (56 - (wrap64 (t582 - t583)))) (Go.bits .or .u64 x8_5 (shl .u64 1 x9_5)) (wrap64 (x9_5 - 1))) else (none))) else (num_decimal_bits.l1 k5 x4_5 x6_33 (wrap64 (56 - (wrap64 (t582 - t583)))) x8_5 (wrap64 (x9_5 - 1))))) = some r := H
               have A43 := Aside0.mk A430
               clear A430
               replace H := Option.bind_eq_some_iff.mp H
               obtain ⟨t594, A440, H⟩ := H
               replace H : (if t594 ≥ 0 then ((num_nat_less.f k5 x4_5 t591).bind fun t595 => (if 0 ≤ x9_5 then (num_decimal_bits.l1 k5 t595 x6_33 (wrap64 (56 - (wrap64 (t582 - t583)))) (Go.bits .or .u64 x8_5 (shl .u64 1 x9_5)) (wrap64 (x9_5 - 1))) else (none))) else (num_decimal_bits.l1 k5 x4_5 x6_33 (wrap64 (56 - (wrap64 (t582 - t583)))) x8_5 (wrap64 (x9_5 - 1)))) = some r := H
               have A44 := Aside0.mk A440
               clear A440
               by_cases c45 : t594 ≥ 0
               ·
                rw [if_pos c45] at H
                have c45b0 : decide (0 ≤ t594) = true := decide_eq_true c45
                clear c45
                replace H := Option.bind_eq_some_iff.mp H
                obtain ⟨t595, A460, H⟩ := H
                replace H : (if 0 ≤ x9_5 then (num_decimal_bits.l1 k5 t595 x6_33 (wrap64 (56 - (wrap64 (t582 - t583)))) (Go.bits .or .u64 x8_5 (shl .u64 1 x9_5)) (wrap64 (x9_5 - 1))) else (none)) = some r := H
                have A46 := Aside0.mk A460
                clear A460
                by_cases c47 : 0 ≤ x9_5
                ·
                 rw [if_pos c47] at H
                 have c47b0 := eq_true c47
                 have c47b1 : decide (0 ≤ x9_5) = true := decide_eq_true c47
                 clear c47
                 obtain ⟨ji48, hji48⟩ : ∃ j_ : Int, (shl .u64 1 x9_5) = j_ := ⟨_, rfl⟩
                 replace H : (num_decimal_bits.l1 k5 t595 x6_33 (wrap64 (56 - (wrap64 (t582 - t583)))) (Go.bits .or .u64 x8_5 (ji48)) (wrap64 (x9_5 - 1))) = some r := by first | (rw [hji48] at H; exact H) | (simp only [hji48] at H ⊢; exact H)
                 (try rw [hji48] at A43)
                 (try rw [hji48] at A44)
                 (try rw [hji48] at A46)
                 have hji48_ : (IntKind.u64.wrap (1 * 2 ^ min x9_5.toNat 64)) = ji48 := hji48
                 have hji48z : x9_5 ≤ 64 → (IntKind.u64.wrap (1 * 2 ^ x9_5.toNat)) = ji48 := shl_small hji48
                 have hji48u : (IntKind.u64.wrap (2 ^ min x9_5.toNat 64)) = ji48 := by have h_ := hji48_; rw [Int.one_mul] at h_; exact h_
                 have hji48v : x9_5 ≤ 64 → (IntKind.u64.wrap (2 ^ x9_5.toNat)) = ji48 := fun hle_ => by have h_ := hji48z hle_; rw [Int.one_mul] at h_; exact h_
                 have H' := Aside0.mk H
                 clear H
                 obtain ⟨Ao49, co49, eo49⟩ := Kd.V_slice HO_6.out
                 subst eo49
                 go_wp2_with (first | ((with_reducible refine gate_callee (f := 46) rfl ?_); refine gL (some 77) Tryd.func46 #[.slice Ao49 x6_33.length co49, .int .i64 x9_5] ?_; (with_reducible refine (num_nat_up.calls k5 _ _ x6_33 x9_5 t591 _ ?side1 ?side2 A43.out).mono ?_); (case side1 => exact ck (Kd.V_reads' HO_6.out).2.2); (case side2 => exact (Kd.V_reads' HO_6.out).2.1); rintro e w50 ⟨v592, rfl, ho0, hb⟩; refine ⟨_, rfl, ?_⟩; replace HO_4 := vb HO_4 hb; replace HO_6 := vb HO_6 hb; have HO593 := Aside0.mk (Kd.V_lower (Kd.V_mono (ok' := fun k_ => k_ ≠ gb569) ho0 (fun k_ hk_ => (Kd.freshB (bk BK569) k_ hk_))) (below_size (lk HB))); replace BK569 := bb BK569 hb; replace HB := lb HB hb; (try clear hb); (try clear hb2); (try clear hk); (try clear hi); (try clear ho0); obtain ⟨Ao51, co51, eo51⟩ := Kd.V_slice HO_4.out; subst eo51; obtain ⟨Ao52, co52, eo52⟩ := Kd.V_slice HO593.out; subst eo52) | ((with_reducible refine gate_callee (f := 49) rfl ?_); refine gL (some 80) Tryd.func49 #[.slice Ao51 x4_5.length co51, .slice Ao52 t591.length co52] ?_; (with_reducible refine (num_nat_against.calls k5 _ _ x4_5 _ _ t591 t594 _ ?side1 ?side2 ?side3 ?side4 A44.out).mono ?_); (case side1 => exact ck (Kd.V_reads' HO_4.out).2.2); (case side2 => exact (Kd.V_reads' HO_4.out).2.1); (case side3 => exact ck (Kd.V_reads' HO593.out).2.2); (case side4 => exact (Kd.V_reads' HO593.out).2.1); rintro e w' ⟨rfl, ⟨nd, rfl⟩⟩; refine ⟨_, rfl, ?_⟩) | ((with_reducible refine gate_callee (f := 87) rfl ?_); refine gL (some 84) Tryd.func87 #[.slice Ao51 x4_5.length co51, .slice Ao52 t591.length co52] ?_; (with_reducible refine (num_nat_less.calls k5 _ _ x4_5 _ _ t591 t595 _ ?side1 ?side2 ?side3 ?side4 A46.out).mono ?_); (case side1 => exact ck (Kd.V_reads' HO_4.out).2.2); (case side2 => exact (Kd.V_reads' HO_4.out).2.1); (case side3 => exact ck (Kd.V_reads' HO593.out).2.2); (case side4 => exact (Kd.V_reads' HO593.out).2.1); rintro e w53 ⟨v596, rfl, ho0, hb⟩; refine ⟨_, rfl, ?_⟩; replace HO_4 := vb HO_4 hb; replace HO_6 := vb HO_6 hb; replace HO593 := vb HO593 hb; have HO597 := Aside0.mk (Kd.V_lower (Kd.V_mono (ok' := fun k_ => k_ ≠ gb569) ho0 (fun k_ hk_ => (Kd.freshB (bk BK569) k_ hk_))) (below_size (lk HB))); replace BK569 := bb BK569 hb; replace HB := lb HB hb; (try clear hb); (try clear hb2); (try clear hk); (try clear hi); (try clear ho0)))
                 go_roundg k5
                 case measure => have := HJ1.out; have := HK2.out; have := HJ19.out; have := HJ33.out; have := HK5.out; omega
                 case rel => exact ⟨(t595), (Go.bits .or .u64 x8_5 (ji48)), (wrap64 (x9_5 - 1)), (by first | rfl | (simp; done) | (simp only [← hji48] <;> (first | rfl | simp)) | (simp [*]; done)), (by first | rfl | (simp; done) | (simp [*]; done)), H', ⟨by have := HJ1.out; have := HK2.out; have := HJ19.out; have := HJ33.out; have := HK5.out; omega⟩, ⟨by (with_reducible repeat (first | apply Kd.V_alloc | apply Kd.V_drewN | apply Kd.V_drew)); exact HO597.out⟩, ⟨by (with_reducible repeat (first | apply Kd.V_alloc | apply Kd.V_drewN | apply Kd.V_drew)); exact HO_6.out⟩, ⟨by (with_reducible repeat (first | refine blk_drewN ?_ _ | refine blk_drew ?_ | refine blk_alloc ?_ _)); exact BK569.out⟩, ⟨lk HB⟩⟩
                ·
                 rw [if_neg c47] at H
                 exact absurd H (by simp)
               ·
                rw [if_neg c45] at H
                have c45b0 : decide (0 ≤ t594) = false := decide_eq_false c45
                clear c45
                have H' := Aside0.mk H
                clear H
                obtain ⟨Ao54, co54, eo54⟩ := Kd.V_slice HO_6.out
                subst eo54
                go_wp2_with (first | ((with_reducible refine gate_callee (f := 46) rfl ?_); refine gL (some 77) Tryd.func46 #[.slice Ao54 x6_33.length co54, .int .i64 x9_5] ?_; (with_reducible refine (num_nat_up.calls k5 _ _ x6_33 x9_5 t591 _ ?side1 ?side2 A43.out).mono ?_); (case side1 => exact ck (Kd.V_reads' HO_6.out).2.2); (case side2 => exact (Kd.V_reads' HO_6.out).2.1); rintro e w55 ⟨v592, rfl, ho0, hb⟩; refine ⟨_, rfl, ?_⟩; replace HO_4 := vb HO_4 hb; replace HO_6 := vb HO_6 hb; have HO593 := Aside0.mk (Kd.V_lower (Kd.V_mono (ok' := fun k_ => k_ ≠ gb569) ho0 (fun k_ hk_ => (Kd.freshB (bk BK569) k_ hk_))) (below_size (lk HB))); replace BK569 := bb BK569 hb; replace HB := lb HB hb; (try clear hb); (try clear hb2); (try clear hk); (try clear hi); (try clear ho0); obtain ⟨Ao56, co56, eo56⟩ := Kd.V_slice HO_4.out; subst eo56; obtain ⟨Ao57, co57, eo57⟩ := Kd.V_slice HO593.out; subst eo57) | ((with_reducible refine gate_callee (f := 49) rfl ?_); refine gL (some 80) Tryd.func49 #[.slice Ao56 x4_5.length co56, .slice Ao57 t591.length co57] ?_; (with_reducible refine (num_nat_against.calls k5 _ _ x4_5 _ _ t591 t594 _ ?side1 ?side2 ?side3 ?side4 A44.out).mono ?_); (case side1 => exact ck (Kd.V_reads' HO_4.out).2.2); (case side2 => exact (Kd.V_reads' HO_4.out).2.1); (case side3 => exact ck (Kd.V_reads' HO593.out).2.2); (case side4 => exact (Kd.V_reads' HO593.out).2.1); rintro e w' ⟨rfl, ⟨nd, rfl⟩⟩; refine ⟨_, rfl, ?_⟩))
                go_roundg k5
                case measure => have := HJ1.out; have := HK2.out; have := HJ19.out; have := HJ33.out; have := HK5.out; omega
                case rel => exact ⟨(x4_5), (x8_5), (wrap64 (x9_5 - 1)), (by first | rfl | (simp; done) | (simp [*]; done)), (by first | rfl | (simp; done) | (simp [*]; done)), H', ⟨by have := HJ1.out; have := HK2.out; have := HJ19.out; have := HJ33.out; have := HK5.out; omega⟩, ⟨by (with_reducible repeat (first | apply Kd.V_alloc | apply Kd.V_drewN | apply Kd.V_drew)); exact HO_4.out⟩, ⟨by (with_reducible repeat (first | apply Kd.V_alloc | apply Kd.V_drewN | apply Kd.V_drew)); exact HO_6.out⟩, ⟨by (with_reducible repeat (first | refine blk_drewN ?_ _ | refine blk_drew ?_ | refine blk_alloc ?_ _)); exact BK569.out⟩, ⟨lk HB⟩⟩
              ·
               rw [if_neg c42] at H
               have c42b0 : decide (0 ≤ x9_5) = false := decide_eq_false c42
               clear c42
               replace H := Option.bind_eq_some_iff.mp H
               obtain ⟨t590, A580, H⟩ := H
               replace H : (some t590) = some r := H
               have A58 := Aside0.mk A580
               clear A580
               obtain rfl := Option.some.inj H
               obtain ⟨Ao59, co59, eo59⟩ := Kd.V_slice HO_4.out
               subst eo59
               go_wp2_with (first | ((with_reducible refine gate_callee (f := 102) rfl ?_); refine gL (some 95) Tryd.func102 #[.int .u64 x8_5, .int .i64 (wrap64 (-(wrap64 (56 - (wrap64 (t582 - t583)))))), .bool (decide (0 < x4_5.length))] ?_; (with_reducible refine (num_nearest.calls k5 x8_5 (wrap64 (-(wrap64 (56 - (wrap64 (t582 - t583)))))) (decide (0 < x4_5.length)) t590 _ A58.out).mono ?_); rintro e w60 ⟨rfl, hb⟩; refine ⟨_, rfl, ?_⟩; replace HO_4 := vb HO_4 hb; replace HO_6 := vb HO_6 hb; replace BK569 := bb BK569 hb; replace HB := lb HB hb; (try clear hb); (try clear hb2); (try clear hk); (try clear hi)))
               go_ret
               exact ex (lk HB)

end Go.Proofs.YtjlnfnfdibfniaaDoor.F

/- Plain words of the contracts proved by hand: decimal digits. No program in sight. -/
namespace Go.Proofs.YtjlnfnfdibfniaaDoor.Hd

/-- The decimal digits of n, as bytes, at most f of them. -/
def decF : Nat → Nat → List UInt8
  | 0, _ => []
  | f + 1, n => (if n < 10 then [] else decF f (n / 10)) ++ [UInt8.ofNat (48 + n % 10)]
def dec (n : Nat) : List UInt8 := decF 20 n
/-- Nothing of 0. -/
def dec0 (n : Nat) : List UInt8 := if n = 0 then [] else dec n

theorem decF_stable : ∀ (f n : Nat), n < 10 ^ (f + 1) → decF (f + 2) n = decF (f + 1) n
  | 0, n, h => by
    have : n < 10 := by simpa using h
    simp [decF, this]
  | f + 1, n, h => by
    by_cases hn : n < 10
    · simp [decF, hn]
    · have hd : n / 10 < 10 ^ (f + 1) := by
        rw [Nat.pow_succ] at h
        omega
      have := decF_stable f (n / 10) hd
      show (if n < 10 then [] else decF (f + 2) (n / 10)) ++ _ = (if n < 10 then [] else decF (f + 1) (n / 10)) ++ _
      rw [this]

theorem dec_step (n : Nat) (h : n < 10 ^ 20) : dec n = dec0 (n / 10) ++ [UInt8.ofNat (48 + n % 10)] := by
  unfold dec dec0
  by_cases hn : n < 10
  · have : n / 10 = 0 := by omega
    simp [decF, hn, this]
  · have h0 : ¬ n / 10 = 0 := by omega
    rw [if_neg h0]
    have hs : decF 20 (n / 10) = decF 19 (n / 10) := decF_stable 18 (n / 10) (by omega)
    unfold dec
    rw [hs, decF, if_neg hn]

theorem decF_length : ∀ f n, (decF f n).length ≤ f
  | 0, _ => by simp [decF]
  | f + 1, n => by
    have := decF_length f (n / 10)
    rw [decF]
    split <;> simp <;> omega
theorem dec_length (n : Nat) : (dec n).length ≤ 20 := decF_length 20 n

def intText (n : Int) : ByteArray := if n < 0 then ⟨(45 :: dec (-n).toNat).toArray⟩ else ⟨(dec n.toNat).toArray⟩

/-- What IntText's loop holds: the last digits, and what is left. -/
structure IntLoop (U p m : Nat) (first : Bool) (acc : List UInt8) (arr : Array Value) : Prop where
  hp : p ≤ 20
  hacc : acc.length = 20 - p
  hsz : arr.size = 20
  hcell : ∀ i (h : i < acc.length), arr[p + i]? = some (.int .u8 (acc[i].toNat : Int))
  hold : ∀ i, i < 20 → ∃ v, arr[i]? = some (.int .u8 v)
  hm : m < 10 ^ p
  hU : U < 10 ^ 20
  hrel : (first = true ∧ p = 20 ∧ m = U ∧ acc = []) ∨ (first = false ∧ dec U = dec0 m ++ acc)

theorem IntLoop.start (U : Nat) (hU : U < 10 ^ 20) (arr : Array Value) (h : arr.size = 20) (ho : ∀ i, i < 20 → ∃ v, arr[i]? = some (.int .u8 v)) : IntLoop U 20 U true [] arr :=
  ⟨Nat.le_refl _, rfl, h, fun i hi => by simp at hi, ho, hU, hU, .inl ⟨rfl, rfl, rfl, rfl⟩⟩

theorem IntLoop.round {U q m : Nat} {first : Bool} {acc : List UInt8} {arr : Array Value} (h : IntLoop U (q + 1) m first acc arr) (hgo : first = true ∨ 0 < m) :
    IntLoop U q (m / 10) false (UInt8.ofNat (48 + m % 10) :: acc) (arr.setIfInBounds q (.int .u8 (48 + m % 10 : Nat))) := by
  have hb : (UInt8.ofNat (48 + m % 10)).toNat = 48 + m % 10 := by
    rw [UInt8.toNat_ofNat']; omega
  have hq := h.hp
  refine ⟨by omega, by have := h.hacc; simp; omega, by simpa using h.hsz, ?_, ?_, ?_, h.hU, .inr ⟨rfl, ?_⟩⟩
  · intro i hi
    cases i with
    | zero =>
      simp only [Nat.add_zero, List.getElem_cons_zero, hb]
      rw [Array.getElem?_setIfInBounds_self_of_lt (by rw [h.hsz]; omega)]
    | succ i =>
      have hi' : i < acc.length := by simpa using hi
      have := h.hcell i hi'
      rw [Array.getElem?_setIfInBounds_ne (by omega)]
      simp only [List.getElem_cons_succ]
      rw [show q + (i + 1) = q + 1 + i from by omega]
      exact this
  · intro i hi
    by_cases e : q = i
    · subst e
      exact ⟨_, by rw [Array.getElem?_setIfInBounds_self_of_lt (by rw [h.hsz]; omega)]⟩
    · rw [Array.getElem?_setIfInBounds_ne e]
      exact h.hold i hi
  · have := h.hm
    rw [Nat.pow_succ] at this
    omega
  · have hm20 : m < 10 ^ 20 := Nat.lt_of_lt_of_le h.hm (Nat.pow_le_pow_right (by omega) h.hp)
    rcases h.hrel with ⟨_, _, rfl, rfl⟩ | ⟨hf, hd⟩
    · exact dec_step m hm20
    · have hm0 : m ≠ 0 := by
        rcases hgo with hg | hg
        · rw [hf] at hg; cases hg
        · omega
      rw [hd, show dec0 m = dec m from if_neg hm0, dec_step m hm20, List.append_assoc]
      rfl

theorem IntLoop.exit {U p : Nat} {acc : List UInt8} {arr : Array Value} (h : IntLoop U p 0 false acc arr) : acc = dec U := by
  rcases h.hrel with ⟨hf, _⟩ | ⟨_, hd⟩
  · cases hf
  · rw [hd]; simp [dec0]

theorem dec_ne (n : Nat) : 1 ≤ (dec n).length := by
  unfold dec
  rw [decF]
  simp
theorem IntLoop.lt {U p : Nat} {arr : Array Value} (h : IntLoop U p 0 false (dec U) arr) : p < 20 := by
  have := h.hacc
  have := dec_ne U
  omega
theorem IntLoop.pos {U p m : Nat} {first : Bool} {acc : List UInt8} {arr : Array Value} (h : IntLoop U p m first acc arr) (hgo : first = true ∨ 0 < m) : 1 ≤ p := by
  rcases Nat.eq_zero_or_pos p with rfl | hp
  · have := h.hm
    rcases h.hrel with ⟨_, hp, _⟩ | ⟨hf, _⟩
    · omega
    · rcases hgo with hg | hg
      · rw [hf] at hg; cases hg
      · simp at this; omega
  · exact hp
end Go.Proofs.YtjlnfnfdibfniaaDoor.Hd

/- Decimal digits: what a list of digits stands for, and which lists a number is written by. -/
namespace Go.Proofs.YtjlnfnfdibfniaaDoor.Pl
open Hd
def isDig (c : UInt8) : Bool := decide (48 ≤ c.toNat) && decide (c.toNat ≤ 57)
/-- The number of a list of digits. -/
def val (l : List UInt8) : Nat := l.foldl (fun v c => 10 * v + (c.toNat - 48)) 0
theorem snoc_ind {α : Type} {P : List α → Prop} (h0 : P []) (h1 : ∀ l c, P l → P (l ++ [c])) (l : List α) : P l := by
  have h : ∀ r : List α, P r.reverse := by
    intro r
    induction r with
    | nil => exact h0
    | cons a r ih => rw [List.reverse_cons]; exact h1 _ _ ih
  have := h l.reverse
  rwa [List.reverse_reverse] at this
theorem val_snoc (l : List UInt8) (c : UInt8) : val (l ++ [c]) = 10 * val l + (c.toNat - 48) := by simp [val]
theorem val_mono (a b : List UInt8) : val a ≤ val (a ++ b) := by
  induction b using snoc_ind with
  | h0 => simp
  | h1 b c ih => rw [← List.append_assoc, val_snoc]; omega
theorem val_lt (l : List UInt8) (h : ∀ c ∈ l, isDig c = true) : val l < 10 ^ l.length := by
  induction l using snoc_ind with
  | h0 => simp [val]
  | h1 l c ih =>
    have h1 := ih (fun c hc => h c (List.mem_append_left _ hc))
    have h2 := h c (List.mem_append_right _ (List.mem_singleton.2 rfl))
    simp only [isDig, Bool.and_eq_true, decide_eq_true_eq] at h2
    rw [val_snoc, List.length_append, List.length_singleton, Nat.pow_succ]
    omega
theorem dig_of (n : Nat) (h : n < 10) : (UInt8.ofNat (48 + n)).toNat = 48 + n := by
  rw [UInt8.toNat_ofNat']; omega
theorem dec_spec (n : Nat) (h : n < 10 ^ 20) : val (dec n) = n ∧ (∀ c ∈ dec n, isDig c = true) ∧ dec n ≠ [] ∧ (0 < n → ∀ c r, dec n = c :: r → c.toNat ≠ 48) := by
  induction n using Nat.strongRecOn with
  | _ n ih =>
    rw [dec_step n h]
    have hd := dig_of (n % 10) (Nat.mod_lt _ (by decide))
    unfold dec0
    by_cases h0 : n / 10 = 0
    · rw [if_pos h0]
      refine ⟨?_, ?_, by simp, ?_⟩
      · rw [val_snoc, hd]; simp [val]; omega
      · intro c hc
        rw [List.nil_append, List.mem_singleton] at hc
        subst hc
        simp only [isDig, hd, Bool.and_eq_true, decide_eq_true_eq]; omega
      · intro hn c r hr
        rw [List.nil_append, List.cons.injEq] at hr
        rw [← hr.1, hd]; omega
    · rw [if_neg h0]
      obtain ⟨i1, i2, i3, i4⟩ := ih (n / 10) (by omega) (by omega)
      refine ⟨?_, ?_, by simp, ?_⟩
      · rw [val_snoc, hd, i1]; omega
      · intro c hc
        rcases List.mem_append.1 hc with hc | hc
        · exact i2 c hc
        · rw [List.mem_singleton] at hc
          subst hc
          simp only [isDig, hd, Bool.and_eq_true, decide_eq_true_eq]; omega
      · intro hn c r hr
        cases hq : dec (n / 10) with
        | nil => exact absurd hq i3
        | cons a b =>
          rw [hq] at hr
          rw [List.cons_append, List.cons.injEq] at hr
          rw [← hr.1]
          exact i4 (by omega) a b hq
/-- A list of digits is how its number is written, just if it does not begin with a needless nought. -/
theorem dec_val (l : List UInt8) (hd : ∀ c ∈ l, isDig c = true) (hl : val l < 10 ^ 20) (hne : l ≠ []) (hz : l = [48] ∨ ∀ c r, l = c :: r → c.toNat ≠ 48) : dec (val l) = l := by
  induction l using snoc_ind with
  | h0 => exact absurd rfl hne
  | h1 l c ih =>
    have hc := hd c (List.mem_append_right _ (List.mem_singleton.2 rfl))
    simp only [isDig, Bool.and_eq_true, decide_eq_true_eq] at hc
    have hcc : UInt8.ofNat (48 + (c.toNat - 48)) = c := by
      have : 48 + (c.toNat - 48) = c.toNat := by omega
      rw [this]; exact UInt8.ofNat_toNat
    rw [val_snoc] at hl ⊢
    rw [dec_step _ hl]
    have e1 : (10 * val l + (c.toNat - 48)) / 10 = val l := by omega
    have e2 : (10 * val l + (c.toNat - 48)) % 10 = c.toNat - 48 := by omega
    rw [e1, e2, hcc]
    congr 1
    unfold dec0
    by_cases hl0 : l = []
    · subst hl0; simp [val]
    · have hz' : ∀ c r, l = c :: r → c.toNat ≠ 48 := by
        rcases hz with hz | hz
        · exfalso
          have := congrArg List.length hz
          cases l with
          | nil => exact hl0 rfl
          | cons a b => simp at this
        · intro a r hr
          exact hz a (r ++ [c]) (by rw [hr]; rfl)
      have hdl : ∀ c ∈ l, isDig c = true := fun a ha => hd a (List.mem_append_left _ ha)
      have h1 := ih hdl (by omega) hl0 (.inr hz')
      have hpos : val l ≠ 0 := by
        intro h0
        rw [h0] at h1
        have : l = [48] := h1.symm.trans (by decide)
        exact hz' 48 [] this rfl
      rw [if_neg hpos, h1]
theorem dec_zero : dec 0 = [48] := by decide
/-- The converse. -/
theorem head_of_dec (n : Nat) (h : n < 10 ^ 20) (l : List UInt8) (hl : dec n = l) : l = [48] ∨ ∀ c r, l = c :: r → c.toNat ≠ 48 := by
  by_cases h0 : n = 0
  · subst h0; exact .inl (hl.symm.trans dec_zero)
  · exact .inr (fun c r hr => (dec_spec n h).2.2.2 (by omega) c r (hl.trans hr))
/-- How long a number is. -/
theorem decF_short : ∀ (f n e : Nat), n < 10 ^ (e + 1) → (decF f n).length ≤ e + 1
  | 0, _, _, _ => by simp [decF]
  | f + 1, n, 0, h => by
    rw [decF, if_pos (by omega)]; simp
  | f + 1, n, e + 1, h => by
    have h1 : n / 10 < 10 ^ (e + 1) := by rw [Nat.pow_succ] at h; omega
    have := decF_short f (n / 10) e h1
    rw [decF]
    split <;> simp <;> omega
theorem dec_short (n : Nat) (h : n ≤ 9223372036854775808) : (dec n).length ≤ 19 := decF_short 20 n 18 (by omega)
end Go.Proofs.YtjlnfnfdibfniaaDoor.Pl

/- num's nearest float of a number that was read, bit by bit. -/
namespace Go.Proofs.YtjlnfnfdibfniaaDoor.Pl
open F Hd Go.RowKit Go.Proofs.YtjlnfnfdibfniaaDoorW.PrintWords Go.Proofs.YtjlnfnfdibfniaaDoorW.PrintMore
theorem near_bits {N D a b q t m rest E r : Nat} (h1 : q * (D * 2 ^ a) ≤ N * 2 ^ b) (h2 : N * 2 ^ b < (q + 1) * (D * 2 ^ a)) (ht : 1 ≤ t) (hE : E + b = a + t)
    (hq : q = 2 ^ t * m + rest) (hrest : rest < 2 ^ t) (hm : m < 9007199254740992) (hEm : E = 0 ∨ 4503599627370496 ≤ m)
    (hr : r = 1 ∧ (2 ^ (t - 1) < rest ∨ rest = 2 ^ (t - 1) ∧ (q * (D * 2 ^ a) < N * 2 ^ b ∨ m % 2 = 1)) ∨ r = 0 ∧ (rest < 2 ^ (t - 1) ∨ rest = 2 ^ (t - 1) ∧ q * (D * 2 ^ a) = N * 2 ^ b ∧ m % 2 = 0)) :
    IsNear N D (min (E * 4503599627370496 + m + r) INF) := by
  have hPQ : 2 ^ E * 2 ^ b = 2 ^ a * 2 ^ t := by rw [← Nat.pow_add, ← Nat.pow_add, hE]
  have hT : 2 ^ t = 2 * 2 ^ (t - 1) := by rw [← Nat.pow_succ']; congr 1; omega
  have e0 := rung_of hEm hm
  have e1 := rung_next hEm hm
  have hQ : 0 < 2 ^ b := Nat.two_pow_pos b
  have hpar : (E * 4503599627370496 + m) % 2 = m % 2 := by omega
  have emid : mid (E * 4503599627370496 + m) * D * 2 ^ b = 2 * (2 ^ t * m * (D * 2 ^ a)) + 2 * (2 ^ (t - 1) * (D * 2 ^ a)) := by
    unfold mid
    rw [e0, e1]
    generalize 2 ^ E = P at *
    generalize 2 ^ b = Q at *
    generalize 2 ^ a = A at *
    generalize 2 ^ t = T at *
    generalize 2 ^ (t - 1) = h at *
    grind
  have elow : m * 2 ^ E * D * 2 ^ b = 2 ^ t * m * (D * 2 ^ a) := by
    generalize 2 ^ E = P at *
    generalize 2 ^ b = Q at *
    generalize 2 ^ a = A at *
    generalize 2 ^ t = T at *
    grind
  have ehigh : (m + 1) * 2 ^ E * D * 2 ^ b = 2 ^ t * m * (D * 2 ^ a) + 2 ^ t * (D * 2 ^ a) := by
    generalize 2 ^ E = P at *
    generalize 2 ^ b = Q at *
    generalize 2 ^ a = A at *
    generalize 2 ^ t = T at *
    grind
  have k1 : q * (D * 2 ^ a) = 2 ^ t * m * (D * 2 ^ a) + rest * (D * 2 ^ a) := by rw [hq, Nat.add_mul]
  have k2 : (q + 1) * (D * 2 ^ a) = q * (D * 2 ^ a) + D * 2 ^ a := by rw [Nat.add_mul, Nat.one_mul]
  have k3 : rest * (D * 2 ^ a) + D * 2 ^ a ≤ 2 ^ t * (D * 2 ^ a) := by
    have := Nat.mul_le_mul_right (D * 2 ^ a) (show rest + 1 ≤ 2 ^ t from hrest)
    rwa [Nat.add_mul, Nat.one_mul] at this
  have k4 : ∀ x y : Nat, x < y → x * (D * 2 ^ a) + D * 2 ^ a ≤ y * (D * 2 ^ a) := by
    intro x y h
    have := Nat.mul_le_mul_right (D * 2 ^ a) (show x + 1 ≤ y from h)
    rwa [Nat.add_mul, Nat.one_mul] at this
  have k5 := k4 rest (2 ^ (t - 1))
  have k6 := k4 (2 ^ (t - 1)) rest
  rw [k2, k1] at h2
  rw [k1] at h1 hr
  have hA : 0 < D * 2 ^ a := by omega
  generalize 2 ^ t * m * (D * 2 ^ a) = U at *
  generalize hR : rest * (D * 2 ^ a) = R at *
  generalize hH : 2 ^ (t - 1) * (D * 2 ^ a) = H at *
  generalize 2 ^ t * (D * 2 ^ a) = TT at *
  generalize D * 2 ^ a = A at *
  have eRH : rest = 2 ^ (t - 1) → R = H := fun h => by rw [← hR, ← hH, h]
  refine near_of ?_ ?_ ?_
  · rw [e0]
    refine Nat.le_of_mul_le_mul_right (c := 2 ^ b) ?_ hQ
    rw [elow]; omega
  · rw [e1]
    refine Nat.lt_of_mul_lt_mul_right (a := 2 ^ b) ?_
    rw [ehigh]; omega
  · have lt1 : ∀ x y : Nat, x * 2 ^ b < y * 2 ^ b → x < y := fun x y h => Nat.lt_of_mul_lt_mul_right (a := 2 ^ b) h
    have eq1 : ∀ x y : Nat, x * 2 ^ b = y * 2 ^ b → x = y := fun x y h => Nat.eq_of_mul_eq_mul_right hQ h
    have e2 : 2 * N * 2 ^ b = 2 * (N * 2 ^ b) := Nat.mul_assoc ..
    rw [hpar]
    rcases hr with ⟨rfl, h⟩ | ⟨rfl, h⟩
    · refine .inr ⟨rfl, ?_⟩
      rcases h with h | ⟨h, h'⟩
      · refine .inl (lt1 _ _ ?_)
        rw [emid, e2]; have := k6 h; omega
      · have := eRH h
        rcases h' with h' | h'
        · refine .inl (lt1 _ _ ?_)
          rw [emid, e2]; omega
        · rcases Nat.lt_or_ge (U + R) (N * 2 ^ b) with c | c
          · refine .inl (lt1 _ _ ?_)
            rw [emid, e2]; omega
          · refine .inr ⟨eq1 _ _ ?_, h'⟩
            rw [emid, e2]; omega
    · refine .inl ⟨rfl, ?_⟩
      rcases h with h | ⟨h, h', h''⟩
      · refine .inl (lt1 _ _ ?_)
        rw [emid, e2]; have := k5 h; omega
      · have := eRH h
        refine .inr ⟨eq1 _ _ ?_, h''⟩
        rw [emid, e2]; omega
theorem wraps_u64 (n : Int) (h0 : 0 ≤ n) (h1 : n < 2 ^ 64) : IntKind.u64.wrap n = n := by rw [IntKind.wrap_u64]; omega
theorem near_j2 (M : Nat) (E : Nat) (x : Int) (hx : x = (E : Int) - 1074) (hE : E ≤ 1000000) (hM : M < 9007199254740992) (hEM : E = 0 ∨ 4503599627370496 ≤ M) :
    Runs (fun k => num_nearest.j2 k x (M : Int)) ((min (E * 4503599627370496 + M) INF : Nat) : Int) := by
  refine Runs.suc ?_
  simp only [num_nearest.j2]
  have hI : INF = 9218868437227405312 := rfl
  by_cases h1 : x > 971
  · refine Runs.yes h1 ((Runs.pure _).of ?_)
    omega
  · refine Runs.no h1 ?_
    by_cases h2 : M < 4503599627370496
    · refine Runs.yes (by omega) ((Runs.pure _).of ?_)
      omega
    · refine Runs.no (by omega) ((Runs.pure _).of ?_)
      have e1 : Go.bits .and .u64 (M : Int) 4503599627370495 = ((M - 4503599627370496 : Nat) : Int) := by
        have := bits_mask .u64 64 (by decide) wraps_u64 52 (by decide) (M : Int) (by omega) (by omega)
        have e : (2 : Int) ^ 52 = 4503599627370496 := by decide
        rw [e] at this
        rw [show (4503599627370495 : Int) = 4503599627370496 - 1 by decide, this]; omega
      rw [e1, w64 (n := x - -1074) (by omega) (by omega), w64 (by omega) (by omega), u64w (n := x - -1074 + 1) (by omega) (by omega), u64w (by omega) (by omega)]
      have e52 : (2 : Int) ^ 52 = 4503599627370496 := by decide
      have e64 : (2 : Int) ^ 64 = 18446744073709551616 := by decide
      rw [bits_join .u64 64 (by decide) wraps_u64 52 _ _ (by omega) (by rw [e52]; omega) (by rw [e64]; omega) (by omega) (by rw [e52]; omega) (by rw [e64]; omega)]
      omega
theorem near_j1 (M : Nat) (E t : Nat) (x : Int) (hx : x + t = (E : Int) - 1074) (_ht : t ≤ 100000) (hE : E ≤ 100000) (hM : M ≤ 9007199254740992) (hEM : E = 0 ∨ 4503599627370496 ≤ M) :
    Runs (fun k => num_nearest.j1 k x (t : Int) (M : Int)) ((min (E * 4503599627370496 + M) INF : Nat) : Int) := by
  refine Runs.suc ?_
  simp only [num_nearest.j1]
  rw [w64 (n := x + t) (by omega) (by omega), w64 (by omega) (by omega)]
  by_cases h1 : M = 9007199254740992
  · refine Runs.yes (by omega) ?_
    refine (near_j2 4503599627370496 (E + 1) _ (by omega) (by omega) (by omega) (by omega)).of ?_
    omega
  · refine Runs.no (by omega) ?_
    exact near_j2 M E _ hx (by omega) (by omega) hEM
theorem near_j0 (m r : Nat) (E t : Nat) (x : Int) (hx : x + t = (E : Int) - 1074) (ht : t ≤ 100000) (hE : E ≤ 100000) (hM : m < 9007199254740992) (hEM : E = 0 ∨ 4503599627370496 ≤ m) (f : Bool) (hf : r = if f = true then 1 else 0) :
    Runs (fun k => num_nearest.j0 k x (t : Int) (m : Int) f) ((min (E * 4503599627370496 + m + r) INF : Nat) : Int) := by
  refine Runs.suc ?_
  simp only [num_nearest.j0]
  rw [u64w (by omega) (by omega)]
  cases f with
  | true =>
    rw [if_pos rfl] at hf
    refine Runs.yes rfl ?_
    have := near_j1 (m + 1) E t x hx ht hE (by omega) (by omega)
    rw [hf, Nat.add_assoc]; exact this
  | false =>
    rw [if_neg Bool.false_ne_true] at hf
    refine Runs.no Bool.false_ne_true ?_
    rw [hf, Nat.add_zero]
    exact near_j1 m E t x hx ht hE (by omega) hEM
theorem nearest_f (q : Nat) (e : Int) (more : Bool) (N D a b : Nat) (hq0 : 2 ^ 54 ≤ q) (hq1 : q < 2 ^ 60) (he : (a : Int) - b = e + 1074) (ha : a ≤ 50000) (hb : b ≤ 50000)
    (h1 : q * (D * 2 ^ a) ≤ N * 2 ^ b) (h2 : N * 2 ^ b < (q + 1) * (D * 2 ^ a)) (hm : more = decide (q * (D * 2 ^ a) < N * 2 ^ b)) :
    ∃ K : Nat, IsNear N D K ∧ Runs (fun k => num_nearest.f k (q : Int) e more) (K : Int) := by
  obtain ⟨g1, g2⟩ := bitLen_spec 64 q (by omega)
  obtain ⟨g2, g3⟩ := g2 (by omega)
  obtain ⟨s, hs⟩ : ∃ s, s = Lib.bitLenAux 64 q := ⟨_, rfl⟩
  rw [← hs] at g1 g2 g3
  have hs0 : 55 ≤ s := by
    rcases Nat.lt_or_ge s 55 with c | c
    · have := Nat.pow_le_pow_right (n := 2) (by decide) (show s ≤ 54 by omega); omega
    · exact c
  have hs1 : s ≤ 60 := by
    rcases Nat.lt_or_ge 60 s with c | c
    · have := Nat.pow_le_pow_right (n := 2) (by decide) (show 60 ≤ s - 1 by omega); omega
    · exact c
  obtain ⟨t, ht⟩ : ∃ t : Nat, (t : Int) = mx ((s : Int) - 53) (-1074 - e) := ⟨(mx ((s : Int) - 53) (-1074 - e)).toNat, by unfold mx; split <;> omega⟩
  have hmx := ht
  unfold mx at hmx
  obtain ⟨E, hE⟩ : ∃ E : Nat, E + b = a + t := ⟨a + t - b, by split at hmx <;> omega⟩
  have ht1 : s ≤ 53 + t := by split at hmx <;> omega
  have hEt : E = 0 ∧ s < 53 + t ∨ s = 53 + t := by split at hmx <;> omega
  have ht2 : 2 ≤ t := by omega
  have ht3 : t ≤ 60000 := by split at hmx <;> omega
  have hl : Lib.bitLen q = s := hs.symm
  have hT : 0 < 2 ^ t := Nat.two_pow_pos t
  have hdm : q = 2 ^ t * (q / 2 ^ t) + q % 2 ^ t := (Nat.div_add_mod q (2 ^ t)).symm
  have hrl : q % 2 ^ t < 2 ^ t := Nat.mod_lt _ hT
  have hm53 : q / 2 ^ t < 9007199254740992 := by
    refine Nat.div_lt_of_lt_mul ?_
    have := Nat.pow_le_pow_right (n := 2) (by decide) ht1
    rw [Nat.pow_add, show (2 : Nat) ^ 53 = 9007199254740992 by decide] at this
    rw [Nat.mul_comm]; omega
  have hEm : E = 0 ∨ 4503599627370496 ≤ q / 2 ^ t := by
    rcases hEt with c | c
    · exact .inl c.1
    · refine .inr ((Nat.le_div_iff_mul_le hT).2 ?_)
      rw [show (4503599627370496 : Nat) = 2 ^ 52 by decide, ← Nat.pow_add, show 52 + t = s - 1 by omega]
      exact g3
  have hx : e + t = (E : Int) - 1074 := by omega
  have core := fun r hr => near_bits (r := r) h1 h2 (by omega) hE hdm hrl hm53 hEm hr
  have mod2 : ((q / 2 ^ t : Nat) : Int).tmod 2 = ((q / 2 ^ t % 2 : Nat) : Int) := by rw [Int.tmod_eq_emod_of_nonneg (Int.natCast_nonneg _)]; exact (Int.natCast_emod ..).symm
  simp only [num_nearest.f]
  have eL : bits_Len64.f (q : Int) = some (s : Int) := by
    unfold bits_Len64.f
    rw [if_pos (by omega), Int.toNat_natCast, hl]
  rw [eL]
  simp only [Option.bind_some]
  rw [w64 (n := (s : Int) - 52) (by omega) (by omega), w64 (n := (s : Int) - 52 - 1) (by omega) (by omega), w64 (n := -1074 - e) (by omega) (by omega), show (s : Int) - 52 - 1 = (s : Int) - 53 by omega, ← ht]
  by_cases hbig : t > 63
  · refine ⟨_, core 0 (.inr ⟨rfl, ?_⟩), ?_⟩
    · have hqs : q < 2 ^ 60 := hq1
      have : 2 ^ 60 ≤ 2 ^ (t - 1) := Nat.pow_le_pow_right (by decide) (by omega)
      left
      exact Nat.lt_of_le_of_lt (Nat.mod_le _ _) (by omega)
    · refine Runs.yes (by omega) ((Runs.pure _).of ?_)
      have : q / 2 ^ t = 0 := by
        refine Nat.div_eq_of_lt ?_
        have : 2 ^ 60 ≤ 2 ^ t := Nat.pow_le_pow_right (by decide) (by omega)
        omega
      rw [this]
      have : E = 0 := by omega
      subst this
      rfl
  · have ht63 : t ≤ 63 := by omega
    have hT64 : 2 ^ t ≤ 2 ^ 63 := Nat.pow_le_pow_right (by decide) ht63
    have hTh : 2 ^ (t - 1) ≤ 2 ^ 63 := Nat.pow_le_pow_right (by decide) (by omega)
    rw [w64 (n := (t : Int) - 1) (by omega) (by omega), show (t : Int) - 1 = ((t - 1 : Nat) : Int) by omega]
    have sh1 : ∀ j : Nat, j ≤ 63 → shl .u64 1 (j : Int) = ((2 ^ j : Nat) : Int) := by
      intro j hj
      unfold shl
      have e : min (j : Int).toNat IntKind.u64.bits = j := by rw [Int.toNat_natCast]; show min j 64 = j; omega
      rw [e, Int.one_mul]
      have e2 : (2 : Int) ^ j = ((2 ^ j : Nat) : Int) := by simp
      have := Nat.pow_le_pow_right (n := 2) (by decide) hj
      rw [e2]
      generalize 2 ^ j = z at *
      exact u64w (by omega) (by omega)
    have shr1 : shr .u64 (q : Int) (t : Int) = ((q / 2 ^ t : Nat) : Int) := by
      unfold shr
      have e : min (t : Int).toNat IntKind.u64.bits = t := by rw [Int.toNat_natCast]; show min t 64 = t; omega
      rw [e]; simp
    have msk : Go.bits .and .u64 (q : Int) (((2 ^ t : Nat) : Int) - 1) = ((q % 2 ^ t : Nat) : Int) := by
      have := bits_mask .u64 64 (by decide) wraps_u64 t (by omega) (q : Int) (by omega) (by omega)
      have e : ((2 : Int) ^ t) = ((2 ^ t : Nat) : Int) := by simp
      rw [e] at this
      rw [this]; exact (Int.natCast_emod ..).symm
    rw [sh1 t ht63, sh1 (t - 1) (by omega), shr1, u64w (n := ((2 ^ t : Nat) : Int) - 1) (by omega) (by omega), msk]
    have hE5 : E ≤ 100000 := by omega
    have j0 := fun r f hf => near_j0 (q / 2 ^ t) r E t e hx (by omega) hE5 hm53 hEm f hf
    rw [mod2]
    by_cases c1 : 2 ^ (t - 1) < q % 2 ^ t
    · refine ⟨_, core 1 (.inl ⟨rfl, .inl c1⟩), ?_⟩
      exact Runs.no (by omega) (Runs.yes (by omega) (Runs.yes (by omega) (Runs.yes (by omega) (j0 1 true rfl))))
    · by_cases c2 : q % 2 ^ t = 2 ^ (t - 1)
      · cases hmore : more with
        | true =>
          rw [hmore] at hm
          have := of_decide_eq_true hm.symm
          refine ⟨_, core 1 (.inl ⟨rfl, .inr ⟨c2, .inl this⟩⟩), ?_⟩
          exact Runs.no (by omega) (Runs.yes (by omega) (Runs.yes (by omega) (Runs.no (by omega) (Runs.yes (by omega) (Runs.yes rfl (j0 1 true rfl))))))
        | false =>
          rw [hmore] at hm
          have := of_decide_eq_false hm.symm
          by_cases c3 : q / 2 ^ t % 2 = 1
          · refine ⟨_, core 1 (.inl ⟨rfl, .inr ⟨c2, .inr c3⟩⟩), ?_⟩
            refine Runs.no (by omega) (Runs.yes (by omega) (Runs.yes (by omega) (Runs.no (by omega) (Runs.yes (by omega) (Runs.no Bool.false_ne_true (j0 1 _ ?_))))))
            rw [c3]; rfl
          · refine ⟨_, core 0 (.inr ⟨rfl, .inr ⟨c2, by omega, by omega⟩⟩), ?_⟩
            refine Runs.no (by omega) (Runs.yes (by omega) (Runs.yes (by omega) (Runs.no (by omega) (Runs.yes (by omega) (Runs.no Bool.false_ne_true (j0 0 _ ?_))))))
            rw [show q / 2 ^ t % 2 = 0 by omega]; rfl
      · refine ⟨_, core 0 (.inr ⟨rfl, .inl (by omega)⟩), ?_⟩
        exact Runs.no (by omega) (Runs.yes (by omega) (Runs.yes (by omega) (Runs.no (by omega) (Runs.no (by omega) (j0 0 false rfl)))))
end Go.Proofs.YtjlnfnfdibfniaaDoor.Pl

-- Written by a program of this session (wip/vprint.py): Lean checks it.
namespace Go.Proofs.YtjlnfnfdibfniaaDoor.F
open Go.RowKit Go.Proofs.YtjlnfnfdibfniaaDoorW.PrintWords Go.Proofs.YtjlnfnfdibfniaaDoorW.PrintLast Go.Proofs.YtjlnfnfdibfniaaDoorW.PrintMore
attribute [local go_sem] max2_int min2_int max_two min_two max_three min_three max_four min_four   -- for this text's walks alone
set_option linter.unusedVariables false
set_option linter.unusedSimpArgs false

/-! ### num_digit: function 104 -/
def num_digit.f (a0 : Int) : Option (Bool) := if a0 ≥ 48 then (some (decide (a0 ≤ 57))) else (some false)
set_option maxHeartbeats 8000000 in
set_option maxRecDepth 100000 in
theorem num_digit.calls (a0 : Int) (r : Bool) (w : World) (h : num_digit.f a0 = some r) :
  Calls Tryd.prog 104 #[.int .u8 a0] w fun e w' => e = .returned (.bool r) ∧ Drawn0 w w' := by
 have H : (if a0 ≥ 48 then (some (decide (a0 ≤ 57))) else (some false)) = some r := h
 clear h
 by_cases c2 : a0 ≥ 48
 ·
  rw [if_pos c2] at H
  have c2b0 : decide (48 ≤ a0) = true := decide_eq_true c2
  clear c2
  obtain rfl := Option.some.inj H
  go_enter Tryd.func104, Tryd.ntmps104
  go_wp2
  go_ret
  exact ⟨by first | rfl | (simp; done) | (simp [*]; done), by repeat (first | exact Drawn0.refl _ | apply Drawn0.step)⟩
 ·
  rw [if_neg c2] at H
  have c2b0 : decide (48 ≤ a0) = false := decide_eq_false c2
  clear c2
  obtain rfl := Option.some.inj H
  go_enter Tryd.func104, Tryd.ntmps104
  go_wp2
  go_ret
  exact ⟨by first | rfl | (simp; done) | (simp [*]; done), by repeat (first | exact Drawn0.refl _ | apply Drawn0.step)⟩


/-! ### num_run: function 76 -/
def num_run.l0 : Nat → ByteArray → Int → Option (Int)
 | 0, _, _ => none
 | k + 1, x0, x3 => if x3 < (x0.size : Int) then (if 0 ≤ x3 then ((num_digit.f (bt x0 x3)).bind fun t549 => (if t549 = true then (num_run.l0 k x0 (wrap64 (x3 + 1))) else (some x3))) else (none)) else (some x3)
def num_run.f (k : Nat) (a0 : ByteArray) : Option (Int) := num_run.l0 k a0 0
theorem num_run.mono_l : ∀ k, (∀ y0 y1, LeO (num_run.l0 k y0 y1) (num_run.l0 (k + 1) y0 y1))
 | 0 => fun _ _ r h => by simp [num_run.l0] at h
 | k + 1 => by
  have ih0 := num_run.mono_l k
  ·
   intro y0 y1
   unfold num_run.l0
   repeat' first | (with_reducible exact ih0 _ _) | (with_reducible exact LeO.refl _) | (with_reducible exact LeO.none _) | (with_reducible refine LeO.ite ?_ ?_) | (with_reducible refine LeO.bind ?_ (fun _ => ?_))
theorem num_run.mono : ∀ a0 k, LeO (num_run.f k a0) (num_run.f (k + 1) a0) := by
 intro a0 k
 have ih0 := num_run.mono_l k
 unfold num_run.f
 repeat' first | (with_reducible exact ih0 _ _) | (with_reducible exact LeO.refl _) | (with_reducible exact LeO.none _) | (with_reducible refine LeO.ite ?_ ?_) | (with_reducible refine LeO.bind ?_ (fun _ => ?_))
set_option maxHeartbeats 8000000 in
set_option maxRecDepth 100000 in
theorem num_run.calls (k : Nat) (a0 : ByteArray) (r : Int) (w : World) (h : num_run.f k a0 = some r) :
  Calls Tryd.prog 76 #[.string a0] w fun e w' => e = .returned (.int .i64 r) ∧ Drawn0 w w' := by
 have H : (num_run.l0 k a0 0) = some r := h
 clear h
 have H' := Aside0.mk H
 clear H
 go_enter Tryd.func76, Tryd.ntmps76
 go_wp2
 go_loopg [3] k (fun kq v3 w' => ∃ (x3_1 : Int), v3 = .int .i64 x3_1 ∧ Aside0 (num_run.l0 kq a0 x3_1 = some r) ∧ Aside0 (kq ≤ k) ∧ Drawn0 w w')
 case atStart => exact ⟨(0), (by first | rfl | (simp; done) | (simp [*]; done)), H', ⟨Nat.le_refl _⟩, by repeat (first | exact Drawn0.refl _ | apply Drawn0.step)⟩
 case round =>
  clear H'
  obtain ⟨x3_1, rfl, HA, HK1, ⟨m1, rfl⟩⟩ := hrel
  cases gk with
  | zero => exact absurd HA.out (by simp [num_run.l0])
  | succ k1 =>
   have H := HA.out
   clear HA
   simp only [num_run.l0] at H
   by_cases c2 : x3_1 < (a0.size : Int)
   ·
    rw [if_pos c2] at H
    have c2b0 : decide (x3_1 < (a0.size : Int)) = true := decide_eq_true c2
    clear c2
    by_cases c3 : 0 ≤ x3_1
    ·
     rw [if_pos c3] at H
     have c3b0 : decide (0 ≤ x3_1) = true := decide_eq_true c3
     clear c3
     replace H := Option.bind_eq_some_iff.mp H
     obtain ⟨t549, A50, H⟩ := H
     replace H : (if t549 = true then (num_run.l0 k1 a0 (wrap64 (x3_1 + 1))) else (some x3_1)) = some r := H
     have A5 := Aside0.mk A50
     clear A50
     by_cases c6 : t549 = true
     ·
      subst c6
      have H1 : (num_run.l0 k1 a0 (wrap64 (x3_1 + 1))) = some r := by rw [if_pos rfl] at H; exact H
      clear H
      have H := H1
      clear H1
      have H' := Aside0.mk H
      clear H
      have p4 : 0 ≤ (x3_1 : Int) := of_decide_eq_true (by first | (with_reducible assumption) | assumption)
      have q4 : x3_1 < (a0.size : Int) := of_decide_eq_true (by first | (with_reducible assumption) | assumption)
      have hx4 := bt_at a0 x3_1
      replace p4 := eq_true p4
      replace q4 := eq_true q4
      go_wp2_with (first | (go_at_call 104; (with_reducible refine (num_digit.calls (bt a0 x3_1) true _ A5.out).mono ?_); rintro e w' ⟨rfl, ⟨nd, rfl⟩⟩))
      go_roundg k1
      case measure => have := HK1.out; omega
      case rel => exact ⟨(wrap64 (x3_1 + 1)), (by first | rfl | (simp; done) | (simp [*]; done)), H', ⟨by have := HK1.out; omega⟩, by repeat (first | exact Drawn0.refl _ | apply Drawn0.step)⟩
     ·
      replace c6 := Bool.eq_false_iff.mpr c6
      subst c6
      have H1 : (some x3_1) = some r := by rw [if_neg (show ¬ (false = true) by decide)] at H; exact H
      clear H
      have H := H1
      clear H1
      obtain rfl := Option.some.inj H
      have p4 : 0 ≤ (x3_1 : Int) := of_decide_eq_true (by first | (with_reducible assumption) | assumption)
      have q4 : x3_1 < (a0.size : Int) := of_decide_eq_true (by first | (with_reducible assumption) | assumption)
      have hx4 := bt_at a0 x3_1
      replace p4 := eq_true p4
      replace q4 := eq_true q4
      go_wp2_with (first | (go_at_call 104; (with_reducible refine (num_digit.calls (bt a0 x3_1) false _ A5.out).mono ?_); rintro e w' ⟨rfl, ⟨nd, rfl⟩⟩))
      go_ret
      exact ⟨by first | rfl | (simp; done) | (simp [*]; done), by repeat (first | exact Drawn0.refl _ | apply Drawn0.step)⟩
    ·
     rw [if_neg c3] at H
     exact absurd H (by simp)
   ·
    rw [if_neg c2] at H
    have c2b0 : decide (x3_1 < (a0.size : Int)) = false := decide_eq_false c2
    clear c2
    obtain rfl := Option.some.inj H
    go_wp2
    go_ret
    exact ⟨by first | rfl | (simp; done) | (simp [*]; done), by repeat (first | exact Drawn0.refl _ | apply Drawn0.step)⟩


/-! ### vigilref03_digit: function 71 -/
def vigilref03_digit.f (a0 : Int) : Option (Bool) := if a0 ≥ 48 then (some (decide (a0 ≤ 57))) else (some false)
set_option maxHeartbeats 8000000 in
set_option maxRecDepth 100000 in
theorem vigilref03_digit.calls (a0 : Int) (r : Bool) (w : World) (h : vigilref03_digit.f a0 = some r) :
  Calls Tryd.prog 71 #[.int .u8 a0] w fun e w' => e = .returned (.bool r) ∧ Drawn0 w w' := by
 have H : (if a0 ≥ 48 then (some (decide (a0 ≤ 57))) else (some false)) = some r := h
 clear h
 by_cases c2 : a0 ≥ 48
 ·
  rw [if_pos c2] at H
  have c2b0 : decide (48 ≤ a0) = true := decide_eq_true c2
  clear c2
  obtain rfl := Option.some.inj H
  go_enter Tryd.func71, Tryd.ntmps71
  go_wp2
  go_ret
  exact ⟨by first | rfl | (simp; done) | (simp [*]; done), by repeat (first | exact Drawn0.refl _ | apply Drawn0.step)⟩
 ·
  rw [if_neg c2] at H
  have c2b0 : decide (48 ≤ a0) = false := decide_eq_false c2
  clear c2
  obtain rfl := Option.some.inj H
  go_enter Tryd.func71, Tryd.ntmps71
  go_wp2
  go_ret
  exact ⟨by first | rfl | (simp; done) | (simp [*]; done), by repeat (first | exact Drawn0.refl _ | apply Drawn0.step)⟩

end Go.Proofs.YtjlnfnfdibfniaaDoor.F

/- Texts as lists of bytes: the words that the laws need. -/
namespace Go.Proofs.YtjlnfnfdibfniaaDoor.Pl
open F Hd Go.RowKit Go.Proofs.YtjlnfnfdibfniaaDoorW.PrintWords Go.Proofs.YtjlnfnfdibfniaaDoorW.PrintMore
theorem extract_upto (s : ByteArray) (i : Nat) : (s.extract 0 i).data.toList = s.data.toList.take i := by
  rw [ByteArray.data_extract, Array.toList_extract]; simp
theorem extract_from (s : ByteArray) (a : Nat) : (s.extract a s.size).data.toList = s.data.toList.drop a := by
  rw [ByteArray.data_extract, Array.toList_extract]
  have : s.size = s.data.toList.length := by rw [Array.length_toList]; rfl
  rw [List.extract_eq_take_drop, this, List.take_of_length_le (by rw [List.length_drop]; omega)]
theorem len_data (s : ByteArray) : s.data.toList.length = s.size := by rw [Array.length_toList]; rfl
theorem bytes_ext {a b : ByteArray} (h : a.data.toList = b.data.toList) : a = b := by
  cases a; cases b; simp at h; simp [h]
theorem bt_get (s : ByteArray) (i : Nat) (h : i < s.data.toList.length) : bt s (i : Int) = (s.data.toList[i].toNat : Int) := by
  have h' : i < s.size := by rw [← len_data]; exact h
  unfold bt
  simp only [Int.toNat_natCast]
  rw [dif_pos h']
  simp [ByteArray.getElem_eq_getElem_data]
theorem digit_f (c : UInt8) : num_digit.f (c.toNat : Int) = some (isDig c) := by
  unfold num_digit.f isDig
  by_cases h : 48 ≤ c.toNat
  · rw [if_pos (by omega)]
    have : decide ((c.toNat : Int) ≤ 57) = decide (c.toNat ≤ 57) := decide_eq_decide.2 (by omega)
    simp [h, this]
  · rw [if_neg (by omega)]; simp [h]
theorem refdigit_f (c : UInt8) : vigilref03_digit.f (c.toNat : Int) = some (isDig c) := digit_f c
theorem run_l0 (s : ByteArray) (hs : s.size ≤ 140737488351232) : ∀ (d i : Nat), i + d = s.data.toList.length → ∀ k, d < k → num_run.l0 k s (i : Int) = some (((i + ((s.data.toList.drop i).takeWhile isDig).length : Nat)) : Int) := by
  intro d
  induction d with
  | zero =>
    intro i hi k hk
    obtain ⟨k, rfl⟩ : ∃ k', k = k' + 1 := ⟨k - 1, by omega⟩
    rw [num_run.l0, if_neg (by rw [← len_data]; omega), List.drop_of_length_le (by omega)]
    simp
  | succ d ih =>
    intro i hi k hk
    obtain ⟨k, rfl⟩ : ∃ k', k = k' + 1 := ⟨k - 1, by omega⟩
    have hl : i < s.data.toList.length := by omega
    rw [num_run.l0, if_pos (by rw [← len_data]; omega), if_pos (by omega), bt_get s i hl, digit_f, Option.bind_some, List.drop_eq_getElem_cons hl, List.takeWhile_cons]
    have hlen := len_data s
    cases hd : isDig s.data.toList[i] with
    | true =>
      have hw : wrap64 ((i : Int) + 1) = ((i + 1 : Nat) : Int) := by rw [w64 (by omega) (by omega)]; omega
      rw [if_pos rfl, if_pos rfl, hw, ih (i + 1) (by omega) k (by omega), List.length_cons]
      congr 1; omega
    | false => rw [if_neg (by decide), if_neg (by decide)]; simp
theorem run_f (s : ByteArray) (hs : s.size ≤ 140737488351232) (k : Nat) (hk : s.size < k) : num_run.f k s = some ((s.data.toList.takeWhile isDig).length : Int) := by
  unfold num_run.f
  have := run_l0 s hs s.data.toList.length 0 (by omega) k (by rw [len_data]; exact hk)
  simpa using this
theorem takeWhile_all (l : List UInt8) : (l.takeWhile isDig).length = l.length ↔ ∀ c ∈ l, isDig c = true := by
  induction l with
  | nil => simp
  | cons a l ih =>
    rw [List.takeWhile_cons]
    cases h : isDig a with
    | true => simp [ih, h]
    | false => simp [h]
theorem sub48 (c : UInt8) (h : isDig c = true) : ((c.toNat : Int) - 48) % 256 = ((c.toNat - 48 : Nat) : Int) ∧ c.toNat - 48 ≤ 9 := by
  simp only [isDig, Bool.and_eq_true, decide_eq_true_eq] at h
  omega
end Go.Proofs.YtjlnfnfdibfniaaDoor.Pl

/- num's bits of a decimal: the float nearest to it. -/
namespace Go.Proofs.YtjlnfnfdibfniaaDoor.Pl
open F Hd Go.RowKit Go.Proofs.YtjlnfnfdibfniaaDoorW.PrintWords Go.Proofs.YtjlnfnfdibfniaaDoorW.PrintMore
theorem few_two {n m : Nat} (h : n < 2 ^ m) (hm : m ≤ 31000000) : Few n := by
  refine few_of (s := m / 32 + 1) (Nat.lt_of_lt_of_le h ?_) (by omega)
  rw [show (4294967296 : Nat) = 2 ^ 32 by decide, ← Nat.pow_mul]
  exact Nat.pow_le_pow_right (by decide) (by omega)
theorem L_len (r : Nat) : decide ((0 : Nat) < (L r).length) = decide (0 < r) := by
  rcases Nat.eq_zero_or_pos r with h | h
  · rw [h, L_zero]; rfl
  · obtain ⟨l, x, e, _, _⟩ := lim_last (B := 4294967296) (by decide) r h
    have : 0 < (L r).length := by unfold L; rw [e]; simp
    rw [decide_eq_true this, decide_eq_true h]
theorem bits_l1 (s : Nat) (x7 : Int) (hs : Few (s * 2 ^ 58)) (K : Int) : ∀ j : Nat, j ≤ 58 → ∀ r q : Nat, Few r → r < s * 2 ^ j → q % 2 ^ j = 0 → q + 2 ^ j ≤ 2 ^ 58 →
    Runs (fun k => num_nearest.f k ((q + r / s : Nat) : Int) (wrap64 (-x7)) (decide (0 < r % s))) K → Runs (fun k => num_decimal_bits.l1 k (L r) (L s) x7 (q : Int) ((j : Int) - 1)) K := by
  intro j
  induction j with
  | zero =>
    intro _ r q hr hlt _ _ hK
    rw [Nat.pow_zero, Nat.mul_one] at hlt
    rw [Nat.div_eq_of_lt hlt, Nat.mod_eq_of_lt hlt, Nat.add_zero] at hK
    refine Runs.suc ?_
    simp only [num_decimal_bits.l1]
    refine Runs.no (by omega) ?_
    have e : decide ((0 : Int) < ((L r).length : Int)) = decide (0 < r) := by
      rw [← L_len r]; exact decide_eq_decide.2 (by omega)
    simp only [L_len]
    exact Runs.bind hK (Runs.pure _)
  | succ j ih =>
    intro hj r q hr hlt hq hqb hK
    refine Runs.suc ?_
    simp only [num_decimal_bits.l1]
    rw [show ((j + 1 : Nat) : Int) - 1 = (j : Int) by omega, w64 (n := (j : Int) - 1) (by omega) (by omega)]
    have hp : 2 ^ (j + 1) = 2 * 2 ^ j := by rw [Nat.pow_succ, Nat.mul_comm]
    have hp58 : 2 ^ (j + 1) ≤ 2 ^ 58 := Nat.pow_le_pow_right (by decide) hj
    have hst : s * 2 ^ j ≤ s * 2 ^ 58 := Nat.mul_le_mul_left _ (by omega)
    have hs1 : Few s := few_mono (Nat.le_mul_of_pos_right s (Nat.two_pow_pos 58)) hs
    refine Runs.yes (by omega) (Runs.bind (up_f s j hs1 (by omega)) (Runs.bind (against_f r (s * 2 ^ j) hr) ?_))
    have hq2 : q % 2 ^ j = 0 := by
      have h1 : 2 ^ j ∣ 2 ^ (j + 1) := ⟨2, by rw [hp]; exact Nat.mul_comm ..⟩
      exact Nat.mod_eq_zero_of_dvd (Nat.dvd_trans h1 (Nat.dvd_of_mod_eq_zero hq))
    by_cases hc : s * 2 ^ j ≤ r
    · refine Runs.yes (by unfold cmpN; rw [if_neg (by omega)]; split <;> omega) (Runs.bind (less_f r (s * 2 ^ j) hr hc) ?_)
      refine Runs.yes (by omega) ?_
      have hsh : shl .u64 1 (j : Int) = ((2 ^ j : Nat) : Int) := by
        unfold shl
        have e : min (j : Int).toNat IntKind.u64.bits = j := by rw [Int.toNat_natCast]; show min j 64 = j; omega
        rw [e, Int.one_mul]
        have e2 : (2 : Int) ^ j = ((2 ^ j : Nat) : Int) := by simp
        rw [e2]
        generalize 2 ^ j = z at *
        exact u64w (by omega) (by omega)
      have hor : Go.bits .or .u64 (q : Int) ((2 ^ j : Nat) : Int) = ((q + 2 ^ j : Nat) : Int) := by
        have e64 : (2 : Int) ^ 64 = 18446744073709551616 := by decide
        have ej : ((2 : Int) ^ (j + 1)) = ((2 ^ (j + 1) : Nat) : Int) := by simp
        have hlt2 : 2 ^ j < 2 ^ (j + 1) := by have := Nat.two_pow_pos j; omega
        rw [bits_join .u64 64 (by decide) wraps_u64 (j + 1) (q : Int) _ (by omega) (by rw [ej, ← Int.natCast_emod, hq]; rfl) (by rw [e64]; omega) (Int.natCast_nonneg _) (by rw [ej]; exact Int.ofNat_lt.2 hlt2) (by rw [e64]; generalize 2 ^ j = z at *; omega)]
        exact (Int.natCast_add ..).symm
      rw [hsh, hor]
      have hs0 : 0 < s := by
        rcases Nat.eq_zero_or_pos s with h | h
        · rw [h] at hlt; simp at hlt
        · exact h
      have e1 : r = r - s * 2 ^ j + s * 2 ^ j := by omega
      have hdiv : r / s = (r - s * 2 ^ j) / s + 2 ^ j := by
        rw [e1, Nat.add_mul_div_left _ _ hs0, ← e1]
      have hmod : r % s = (r - s * 2 ^ j) % s := by
        rw [e1, Nat.add_mul_mod_self_left, ← e1]
      have hlt3 : r - s * 2 ^ j < s * 2 ^ j := by
        rw [hp, show s * (2 * 2 ^ j) = 2 * (s * 2 ^ j) by rw [Nat.mul_left_comm]] at hlt
        omega
      refine ih (by omega) (r - s * 2 ^ j) (q + 2 ^ j) (few_mono (Nat.sub_le ..) hr) hlt3 ?_ (by omega) ?_
      · rw [Nat.add_mod, hq2, Nat.mod_self]; simp
      · rw [← hmod, Nat.add_assoc, Nat.add_comm (2 ^ j), ← hdiv]; exact hK
    · refine Runs.no (by unfold cmpN; rw [if_pos (by omega)]; omega) ?_
      exact ih (by omega) r q hr (by omega) hq2 (by omega) hK
theorem eq_aux1 (x s T Q : Nat) : x * (s * (T * Q)) = x * (s * Q) * T := by grind
theorem eq_aux2 (y r T : Nat) : y * (r * T * 1) = y * r * T := by grind
theorem eq_aux3 (y r T Q : Nat) : y * (r * T * Q) = y * (r * Q) * T := by grind
theorem bits_j2 (r s S : Nat) (hr0 : 0 < r) (hs0 : 0 < s) (hr : r < 2 ^ S) (hs : s < 2 ^ S) (hS : S ≤ 20000) :
    ∃ K : Nat, IsNear (r * 2 ^ 1074) s K ∧ Runs (fun k => num_decimal_bits.j2 k (L r) (L s)) (K : Int) := by
  obtain ⟨a, ea, a1, a2, a3⟩ := size_f r (few_two hr (by omega))
  obtain ⟨b, eb, b1, b2, b3⟩ := size_f s (few_two hs (by omega))
  obtain ⟨a2, a4⟩ := a2 hr0
  obtain ⟨b2, b4⟩ := b2 hs0
  have haS : a ≤ S := by
    rcases Nat.lt_or_ge S a with c | c
    · have := Nat.pow_le_pow_right (n := 2) (by decide) (show S ≤ a - 1 by omega); omega
    · exact c
  have hbS : b ≤ S := by
    rcases Nat.lt_or_ge S b with c | c
    · have := Nat.pow_le_pow_right (n := 2) (by decide) (show S ≤ b - 1 by omega); omega
    · exact c
  have main : ∀ (r1 s1 A B : Nat) (sh : Int), (A : Int) - B = 1074 - sh → A ≤ 50000 → B ≤ 50000 → -30000 ≤ sh → sh ≤ 30000 → (∃ S2, r1 < 2 ^ S2 ∧ s1 < 2 ^ S2 ∧ S2 ≤ 60000) → s1 * 2 ^ 55 ≤ r1 → r1 < s1 * 2 ^ 57 → (∀ x y : Nat, x * s1 ≤ y * r1 ↔ x * (s * 2 ^ A) ≤ y * (r * 2 ^ 1074 * 2 ^ B)) → (∀ x y : Nat, x * s1 < y * r1 ↔ x * (s * 2 ^ A) < y * (r * 2 ^ 1074 * 2 ^ B)) →
      ∃ K : Nat, IsNear (r * 2 ^ 1074) s K ∧ Runs (fun k => num_decimal_bits.j3 k (L r1) (L s1) sh) (K : Int) := by
    intro r1 s1 A B sh hAB hA hB hsh0 hsh1 hS2 hlo hhi hle hlt
    obtain ⟨S2, hr1, hs1, hS2⟩ := hS2
    have hs10 : 0 < s1 := by
      rcases Nat.eq_zero_or_pos s1 with h | h
      · rw [h] at hhi; simp at hhi
      · exact h
    have hq0 : 2 ^ 55 ≤ r1 / s1 := (Nat.le_div_iff_mul_le hs10).2 (by rw [Nat.mul_comm]; exact hlo)
    have hq1 : r1 / s1 < 2 ^ 57 := Nat.div_lt_of_lt_mul hhi
    have hdm := Nat.div_add_mod r1 s1
    have hml := Nat.mod_lt r1 hs10
    have c1 : r1 / s1 * (s * 2 ^ A) ≤ r * 2 ^ 1074 * 2 ^ B := by
      have := (hle (r1 / s1) 1).1 (by rw [Nat.one_mul]; exact Nat.div_mul_le_self ..)
      rwa [Nat.one_mul] at this
    have c2 : r * 2 ^ 1074 * 2 ^ B < (r1 / s1 + 1) * (s * 2 ^ A) := by
      have h : ¬ (r1 / s1 + 1) * s1 ≤ 1 * r1 := by
        rw [Nat.one_mul, Nat.add_mul, Nat.one_mul, Nat.mul_comm (r1 / s1)]; omega
      have := Nat.lt_of_not_le (fun g => h ((hle (r1 / s1 + 1) 1).2 g))
      rwa [Nat.one_mul] at this
    have c3 : decide (0 < r1 % s1) = decide (r1 / s1 * (s * 2 ^ A) < r * 2 ^ 1074 * 2 ^ B) := by
      have h := hlt (r1 / s1) 1
      rw [Nat.one_mul, Nat.one_mul] at h
      refine decide_eq_decide.2 (Iff.trans ?_ h)
      rw [Nat.mul_comm (r1 / s1)]; omega
    obtain ⟨K, hK, hrun⟩ := nearest_f (r1 / s1) (-sh) (decide (0 < r1 % s1)) (r * 2 ^ 1074) s A B (by omega) (by omega) (by omega) hA hB c1 c2 c3
    refine ⟨K, hK, Runs.suc ?_⟩
    simp only [num_decimal_bits.j3]
    have hfr : Few r1 := few_two hr1 (by omega)
    have hfs : Few (s1 * 2 ^ 58) := few_two (m := S2 + 58) (by rw [Nat.pow_add]; exact Nat.mul_lt_mul_of_pos_right hs1 (Nat.two_pow_pos 58)) (by omega)
    have hhi2 : r1 < s1 * 2 ^ 58 := Nat.lt_of_lt_of_le hhi (Nat.mul_le_mul_left _ (by decide))
    refine bits_l1 s1 sh hfs (K : Int) 58 (Nat.le_refl _) r1 0 hfr hhi2 (Nat.zero_mod _) (by decide) ?_
    rw [Nat.zero_add, w64 (by omega) (by omega)]
    exact hrun
  have hsz : ∀ (n c : Nat), (∀ r, num_nat_size.f (L n) = some r ↔ r = (c : Int)) → num_nat_size.f (L n) = some (c : Int) := fun n c h => (h _).2 rfl
  have e1 := hsz r a ea
  have e2 := hsz s b eb
  have hsh : wrap64 (56 - (wrap64 ((a : Int) - (b : Int)))) = 56 - ((a : Int) - b) := by rw [w64 (n := (a : Int) - b) (by omega) (by omega), w64 (by omega) (by omega)]
  have ha1 : 2 ^ a = 2 * 2 ^ (a - 1) := by rw [← Nat.pow_succ']; congr 1; omega
  have hb1 : 2 ^ b = 2 * 2 ^ (b - 1) := by rw [← Nat.pow_succ']; congr 1; omega
  by_cases hc : (a : Int) - b ≤ 56
  · obtain ⟨n, hn⟩ : ∃ n : Nat, (n : Int) = 56 - ((a : Int) - b) := ⟨(56 - ((a : Int) - b)).toNat, by omega⟩
    have hr1 : r * 2 ^ n < 2 ^ (S + S + 100) := by
      have h1 : r * 2 ^ n < 2 ^ S * 2 ^ n := Nat.mul_lt_mul_of_pos_right hr (Nat.two_pow_pos n)
      rw [← Nat.pow_add] at h1
      exact Nat.lt_of_lt_of_le h1 (Nat.pow_le_pow_right (by decide) (by omega))
    have hs1 : s < 2 ^ (S + S + 100) := Nat.lt_of_lt_of_le hs (Nat.pow_le_pow_right (by decide) (by omega))
    have hlo : s * 2 ^ 55 ≤ r * 2 ^ n := by
      have h1 : s * 2 ^ 55 ≤ 2 ^ b * 2 ^ 55 := Nat.mul_le_mul_right _ (Nat.le_of_lt b1)
      have h2 : 2 ^ (a - 1) * 2 ^ n ≤ r * 2 ^ n := Nat.mul_le_mul_right _ a4
      rw [← Nat.pow_add] at h1 h2
      rw [show b + 55 = a - 1 + n by omega] at h1
      exact Nat.le_trans h1 h2
    have hhi : r * 2 ^ n < s * 2 ^ 57 := by
      have h1 : r * 2 ^ n < 2 ^ a * 2 ^ n := Nat.mul_lt_mul_of_pos_right a1 (Nat.two_pow_pos n)
      have h2 : 2 ^ (b - 1) * 2 ^ 57 ≤ s * 2 ^ 57 := Nat.mul_le_mul_right _ b4
      rw [← Nat.pow_add] at h1 h2
      rw [show a + n = b - 1 + 57 by omega] at h1
      exact Nat.lt_of_lt_of_le h1 h2
    have hT : 0 < 2 ^ 1074 := Nat.two_pow_pos 1074
    have eq1 : ∀ x y : Nat, x * (s * 2 ^ 1074) = x * s * 2 ^ 1074 ∧ y * (r * 2 ^ 1074 * 2 ^ n) = y * (r * 2 ^ n) * 2 ^ 1074 := by
      intro x y
      generalize 2 ^ 1074 = T
      exact ⟨(Nat.mul_assoc ..).symm, eq_aux3 y r T (2 ^ n)⟩
    obtain ⟨K, hK, hrun⟩ := main (r * 2 ^ n) s 1074 n (n : Int) (by omega) (by decide) (by omega) (by omega) (by omega) ⟨_, hr1, hs1, by omega⟩ hlo hhi
      (fun x y => by rw [(eq1 x y).1, (eq1 x y).2]; exact ⟨fun h => Nat.mul_le_mul_right _ h, fun h => Nat.le_of_mul_le_mul_right h hT⟩)
      (fun x y => by rw [(eq1 x y).1, (eq1 x y).2]; exact ⟨fun h => Nat.mul_lt_mul_of_pos_right h hT, fun h => Nat.lt_of_mul_lt_mul_right h⟩)
    refine ⟨K, hK, Runs.suc ?_⟩
    simp only [num_decimal_bits.j2, e1, e2, Option.bind_some]
    rw [hsh, ← hn]
    exact Runs.yes (by omega) (Runs.bind (up_f r n (few_two hr (by omega)) (by omega)) hrun)
  · obtain ⟨n, hn⟩ : ∃ n : Nat, (n : Int) = ((a : Int) - b) - 56 := ⟨(((a : Int) - b) - 56).toNat, by omega⟩
    have hr1 : r < 2 ^ (S + S + 100) := Nat.lt_of_lt_of_le hr (Nat.pow_le_pow_right (by decide) (by omega))
    have hs1 : s * 2 ^ n < 2 ^ (S + S + 100) := by
      have h1 : s * 2 ^ n < 2 ^ S * 2 ^ n := Nat.mul_lt_mul_of_pos_right hs (Nat.two_pow_pos n)
      rw [← Nat.pow_add] at h1
      exact Nat.lt_of_lt_of_le h1 (Nat.pow_le_pow_right (by decide) (by omega))
    have hlo : s * 2 ^ n * 2 ^ 55 ≤ r := by
      have h1 : s * (2 ^ n * 2 ^ 55) ≤ 2 ^ b * (2 ^ n * 2 ^ 55) := Nat.mul_le_mul_right _ (Nat.le_of_lt b1)
      rw [← Nat.mul_assoc, ← Nat.pow_add, ← Nat.pow_add] at h1
      rw [show b + (n + 55) = a - 1 by omega] at h1
      exact Nat.le_trans h1 a4
    have hhi : r < s * 2 ^ n * 2 ^ 57 := by
      have h2 : 2 ^ (b - 1) * (2 ^ n * 2 ^ 57) ≤ s * (2 ^ n * 2 ^ 57) := Nat.mul_le_mul_right _ b4
      rw [← Nat.mul_assoc s, ← Nat.pow_add, ← Nat.pow_add] at h2
      rw [show b - 1 + (n + 57) = a by omega] at h2
      exact Nat.lt_of_lt_of_le a1 h2
    have hT : 0 < 2 ^ 1074 := Nat.two_pow_pos 1074
    have eq1 : ∀ x y : Nat, x * (s * 2 ^ (1074 + n)) = x * (s * 2 ^ n) * 2 ^ 1074 ∧ y * (r * 2 ^ 1074 * 2 ^ 0) = y * r * 2 ^ 1074 := by
      intro x y
      rw [Nat.pow_add 2 1074 n, Nat.pow_zero]
      generalize 2 ^ 1074 = T
      exact ⟨eq_aux1 x s T (2 ^ n), eq_aux2 y r T⟩
    obtain ⟨K, hK, hrun⟩ := main r (s * 2 ^ n) (1074 + n) 0 (-(n : Int)) (by omega) (by omega) (by omega) (by omega) (by omega) ⟨_, hr1, hs1, by omega⟩ hlo hhi
      (fun x y => by rw [(eq1 x y).1, (eq1 x y).2]; exact ⟨fun h => Nat.mul_le_mul_right _ h, fun h => Nat.le_of_mul_le_mul_right h hT⟩)
      (fun x y => by rw [(eq1 x y).1, (eq1 x y).2]; exact ⟨fun h => Nat.mul_lt_mul_of_pos_right h hT, fun h => Nat.lt_of_mul_lt_mul_right h⟩)
    refine ⟨K, hK, Runs.suc ?_⟩
    simp only [num_decimal_bits.j2, e1, e2, Option.bind_some]
    rw [hsh, show 56 - ((a : Int) - b) = -(n : Int) by omega]
    refine Runs.no (by omega) ?_
    rw [w64 (n := - -(n : Int)) (by omega) (by omega), Int.neg_neg]
    exact Runs.bind (up_f s n (few_two hs (by omega)) (by omega)) hrun
end Go.Proofs.YtjlnfnfdibfniaaDoor.Pl

-- Written by a program of this session (wip/vprint.py): Lean checks it.
namespace Go.Proofs.YtjlnfnfdibfniaaDoor.F
open Go.RowKit Go.Proofs.YtjlnfnfdibfniaaDoorW.PrintWords Go.Proofs.YtjlnfnfdibfniaaDoorW.PrintLast Go.Proofs.YtjlnfnfdibfniaaDoorW.PrintMore
attribute [local go_sem] max2_int min2_int max_two min_two max_three min_three max_four min_four   -- for this text's walks alone
set_option linter.unusedVariables false
set_option linter.unusedSimpArgs false

/-! ### stringslite_HasPrefix: function 113 -/
def stringslite_HasPrefix.f (a0 : ByteArray) (a1 : ByteArray) : Option (Bool) := if (a0.size : Int) ≥ (a1.size : Int) then (if 0 ≤ (a1.size : Int) then (if (a1.size : Int) ≤ (a0.size : Int) then (some ((a0.extract 0 ((a1.size : Int) : Int).toNat).toList == a1.toList)) else (none)) else (none)) else (some false)
set_option maxHeartbeats 8000000 in
set_option maxRecDepth 100000 in
theorem stringslite_HasPrefix.calls (a0 : ByteArray) (a1 : ByteArray) (r : Bool) (w : World) (h : stringslite_HasPrefix.f a0 a1 = some r) :
  Calls Tryd.prog 113 #[.string a0, .string a1] w fun e w' => e = .returned (.bool r) ∧ Drawn0 w w' := by
 have H : (if (a0.size : Int) ≥ (a1.size : Int) then (if 0 ≤ (a1.size : Int) then (if (a1.size : Int) ≤ (a0.size : Int) then (some ((a0.extract 0 ((a1.size : Int) : Int).toNat).toList == a1.toList)) else (none)) else (none)) else (some false)) = some r := h
 clear h
 by_cases c3 : (a0.size : Int) ≥ (a1.size : Int)
 ·
  rw [if_pos c3] at H
  have c3b0 : decide ((a1.size : Int) ≤ (a0.size : Int)) = true := decide_eq_true c3
  have c3b1 : decide (a1.size ≤ a0.size) = true := decide_eq_true (Int.ofNat_le.mp c3)
  clear c3
  by_cases c4 : 0 ≤ (a1.size : Int)
  ·
   rw [if_pos c4] at H
   have c4b0 := eq_true c4
   have c4b1 : decide (0 ≤ (a1.size : Int)) = true := decide_eq_true c4
   clear c4
   by_cases c5 : (a1.size : Int) ≤ (a0.size : Int)
   ·
    rw [if_pos c5] at H
    have c5b0 := eq_true c5
    have c5b1 : decide ((a1.size : Int) ≤ (a0.size : Int)) = true := decide_eq_true c5
    clear c5
    obtain ⟨y490, hy490⟩ : ∃ y_ : ByteArray, y_ = (a0.extract 0 ((a1.size : Int) : Int).toNat) := ⟨_, rfl⟩
    replace H : (some (y490.toList == a1.toList)) = some r := by first | (rw [hy490]; with_reducible exact H) | (have H2_ := (Option.bind_some _ _).symm.trans H; rw [hy490]; with_reducible exact H2_) | (have H2_ := (Option.bind_some _ _).symm.trans H; with_reducible exact H2_) | with_reducible exact H | (rw [hy490]; exact H) | exact H
    have Ny490 := Aside0.mk hy490
    clear hy490
    obtain rfl := Option.some.inj H
    have hcs6 := Hd.str_to (P := Tryd.prog) (k := .i64) Tryd.underlying9 (j := (a1.size : Int)) (s := a0) (y := y490) (by first | (with_reducible assumption) | exact of_decide_eq_true (by first | (with_reducible assumption) | assumption) | omega) (by first | (with_reducible assumption) | exact of_decide_eq_true (by first | (with_reducible assumption) | assumption) | omega) Ny490.out
    go_enter Tryd.func113, Tryd.ntmps113
    go_wp2
    go_ret
    exact ⟨by first | rfl | (simp; done) | (simp [*]; done), by repeat (first | exact Drawn0.refl _ | apply Drawn0.step)⟩
   ·
    rw [if_neg c5] at H
    exact absurd H (by simp)
  ·
   rw [if_neg c4] at H
   exact absurd H (by simp)
 ·
  rw [if_neg c3] at H
  have c3b0 : decide ((a1.size : Int) ≤ (a0.size : Int)) = false := decide_eq_false c3
  have c3b1 : decide (a1.size ≤ a0.size) = false := decide_eq_false (fun h => c3 (Int.ofNat_le.mpr h))
  clear c3
  obtain rfl := Option.some.inj H
  go_enter Tryd.func113, Tryd.ntmps113
  go_wp2
  go_ret
  exact ⟨by first | rfl | (simp; done) | (simp [*]; done), by repeat (first | exact Drawn0.refl _ | apply Drawn0.step)⟩


/-! ### strings_HasPrefix: function 96 -/
def strings_HasPrefix.f (a0 : ByteArray) (a1 : ByteArray) : Option (Bool) := (stringslite_HasPrefix.f a0 a1).bind fun t491 => (some t491)
set_option maxHeartbeats 8000000 in
set_option maxRecDepth 100000 in
theorem strings_HasPrefix.calls (a0 : ByteArray) (a1 : ByteArray) (r : Bool) (w : World) (h : strings_HasPrefix.f a0 a1 = some r) :
  Calls Tryd.prog 96 #[.string a0, .string a1] w fun e w' => e = .returned (.bool r) ∧ Drawn0 w w' := by
 have H : ((stringslite_HasPrefix.f a0 a1).bind fun t491 => (some t491)) = some r := h
 clear h
 replace H := Option.bind_eq_some_iff.mp H
 obtain ⟨t491, A30, H⟩ := H
 replace H : (some t491) = some r := H
 have A3 := Aside0.mk A30
 clear A30
 obtain rfl := Option.some.inj H
 go_enter Tryd.func96, Tryd.ntmps96
 go_wp2_with (first | ((with_reducible refine gate_callee (f := 113) rfl ?_); refine gL (some 7) Tryd.func113 #[.string a0, .string a1] ?_; (with_reducible refine (stringslite_HasPrefix.calls a0 a1 t491 _ A3.out).mono ?_); rintro e w' ⟨rfl, ⟨nd, rfl⟩⟩; refine ⟨_, rfl, ?_⟩))
 go_ret
 exact ⟨by first | rfl | (simp; done) | (simp [*]; done), by repeat (first | exact Drawn0.refl _ | apply Drawn0.step)⟩


/-! ### strings_trimLeftByte: function 116 -/
def strings_trimLeftByte.l0 : Nat → ByteArray → Int → Option (ByteArray)
 | 0, _, _ => none
 | k + 1, x0, x1 => if (x0.size : Int) > 0 then (if 0 < (x0.size : Int) then (if (bt x0 0) = x1 then (if 1 ≤ (x0.size : Int) then (strings_trimLeftByte.l0 k (x0.extract 1 x0.size) x1) else (none)) else (some x0)) else (none)) else (some x0)
def strings_trimLeftByte.f (k : Nat) (a0 : ByteArray) (a1 : Int) : Option (ByteArray) := strings_trimLeftByte.l0 k a0 a1
theorem strings_trimLeftByte.mono_l : ∀ k, (∀ y0 y1, LeO (strings_trimLeftByte.l0 k y0 y1) (strings_trimLeftByte.l0 (k + 1) y0 y1))
 | 0 => fun _ _ r h => by simp [strings_trimLeftByte.l0] at h
 | k + 1 => by
  have ih0 := strings_trimLeftByte.mono_l k
  ·
   intro y0 y1
   unfold strings_trimLeftByte.l0
   repeat' first | (with_reducible exact ih0 _ _) | (with_reducible exact LeO.refl _) | (with_reducible exact LeO.none _) | (with_reducible refine LeO.ite ?_ ?_) | (with_reducible refine LeO.bind ?_ (fun _ => ?_))
theorem strings_trimLeftByte.mono : ∀ a0 a1 k, LeO (strings_trimLeftByte.f k a0 a1) (strings_trimLeftByte.f (k + 1) a0 a1) := by
 intro a0 a1 k
 have ih0 := strings_trimLeftByte.mono_l k
 unfold strings_trimLeftByte.f
 repeat' first | (with_reducible exact ih0 _ _) | (with_reducible exact LeO.refl _) | (with_reducible exact LeO.none _) | (with_reducible refine LeO.ite ?_ ?_) | (with_reducible refine LeO.bind ?_ (fun _ => ?_))
set_option maxHeartbeats 8000000 in
set_option maxRecDepth 100000 in
theorem strings_trimLeftByte.calls (k : Nat) (a0 : ByteArray) (a1 : Int) (r : ByteArray) (w : World) (h : strings_trimLeftByte.f k a0 a1 = some r) :
  Calls Tryd.prog 116 #[.string a0, .int .u8 a1] w fun e w' => e = .returned (.string r) ∧ Drawn0 w w' := by
 have H : (strings_trimLeftByte.l0 k a0 a1) = some r := h
 clear h
 have H' := Aside0.mk H
 clear H
 go_enter Tryd.func116, Tryd.ntmps116
 go_wp2
 go_loopg [0] k (fun kq v0 w' => ∃ (x0_1 : ByteArray), v0 = .string x0_1 ∧ Aside0 (strings_trimLeftByte.l0 kq x0_1 a1 = some r) ∧ Aside0 (kq ≤ k) ∧ Drawn0 w w')
 case atStart => exact ⟨(a0), (by first | rfl | (simp; done) | (simp [*]; done)), H', ⟨Nat.le_refl _⟩, by repeat (first | exact Drawn0.refl _ | apply Drawn0.step)⟩
 case round =>
  clear H'
  try clear c1
  try clear p2
  obtain ⟨x0_1, rfl, HA, HK1, ⟨m1, rfl⟩⟩ := hrel
  cases gk with
  | zero => exact absurd HA.out (by simp [strings_trimLeftByte.l0])
  | succ k1 =>
   have H := HA.out
   clear HA
   simp only [strings_trimLeftByte.l0] at H
   by_cases c3 : (x0_1.size : Int) > 0
   ·
    rw [if_pos c3] at H
    have c3b0 : decide (0 < (x0_1.size : Int)) = true := decide_eq_true c3
    have c3b1 : decide (0 < x0_1.size) = true := decide_eq_true (by omega)
    clear c3
    by_cases c4 : 0 < (x0_1.size : Int)
    ·
     rw [if_pos c4] at H
     have c4b0 : decide (0 < (x0_1.size : Int)) = true := decide_eq_true c4
     have c4b1 : decide (0 < x0_1.size) = true := decide_eq_true (by omega)
     clear c4
     by_cases c6 : (bt x0_1 0) = a1
     ·
      rw [if_pos c6] at H
      have c6b0 : ((bt x0_1 0) == a1) = true := beq_iff_eq.mpr c6
      have c6b1 : ((bt x0_1 0) != a1) = false := bne_eq_false_iff_eq.mpr c6
      clear c6
      by_cases c7 : 1 ≤ (x0_1.size : Int)
      ·
       rw [if_pos c7] at H
       have c7b0 := eq_true c7
       have c7b1 : decide (1 ≤ (x0_1.size : Int)) = true := decide_eq_true c7
       clear c7
       obtain ⟨y550, hy550⟩ : ∃ y_ : ByteArray, y_ = (x0_1.extract 1 x0_1.size) := ⟨_, rfl⟩
       replace H : (strings_trimLeftByte.l0 k1 y550 a1) = some r := by first | (rw [hy550]; with_reducible exact H) | (have H2_ := (Option.bind_some _ _).symm.trans H; rw [hy550]; with_reducible exact H2_) | (have H2_ := (Option.bind_some _ _).symm.trans H; with_reducible exact H2_) | with_reducible exact H | (rw [hy550]; exact H) | exact H
       have Ny550 := Aside0.mk hy550
       clear hy550
       have H' := Aside0.mk H
       clear H
       have p5 : 0 ≤ (0 : Int) := (by omega)
       have q5 : 0 < x0_1.size := (by have : (0 : Int) < (x0_1.size : Int) := of_decide_eq_true (by first | (with_reducible assumption) | assumption); omega)
       have hx5 : ∀ h : 0 < x0_1.size, ((x0_1[0]'h).toNat : Int) = bt x0_1 0 := bt_at x0_1 0
       clear p5
       have qi5 : (0 < (x0_1.size : Int)) = True := eq_true (of_decide_eq_true (by first | (with_reducible assumption) | assumption))
       replace q5 := eq_true q5
       have hcs8 := Hd.str_from (P := Tryd.prog) (k := .i64) Tryd.underlying9 (i := 1) (s := x0_1) (y := y550) (by first | (with_reducible assumption) | exact of_decide_eq_true (by first | (with_reducible assumption) | assumption) | omega) (by first | (with_reducible assumption) | exact of_decide_eq_true (by first | (with_reducible assumption) | assumption) | omega) Ny550.out
       go_wp2
       go_roundg k1
       case measure => have := HK1.out; omega
       case rel => exact ⟨(y550), (by first | rfl | (simp; done) | (simp [*]; done)), H', ⟨by have := HK1.out; omega⟩, by repeat (first | exact Drawn0.refl _ | apply Drawn0.step)⟩
      ·
       rw [if_neg c7] at H
       exact absurd H (by simp)
     ·
      rw [if_neg c6] at H
      have c6b0 : ((bt x0_1 0) == a1) = false := beq_eq_false_iff_ne.mpr c6
      have c6b1 : ((bt x0_1 0) != a1) = true := bne_iff_ne.mpr c6
      obtain rfl := Option.some.inj H
      have p5 : 0 ≤ (0 : Int) := (by omega)
      have q5 : 0 < x0_1.size := (by have : (0 : Int) < (x0_1.size : Int) := of_decide_eq_true (by first | (with_reducible assumption) | assumption); omega)
      have hx5 : ∀ h : 0 < x0_1.size, ((x0_1[0]'h).toNat : Int) = bt x0_1 0 := bt_at x0_1 0
      clear p5
      have qi5 : (0 < (x0_1.size : Int)) = True := eq_true (of_decide_eq_true (by first | (with_reducible assumption) | assumption))
      replace q5 := eq_true q5
      go_wp2
      go_ret
      exact ⟨by first | rfl | (simp; done) | (simp [*]; done), by repeat (first | exact Drawn0.refl _ | apply Drawn0.step)⟩
    ·
     rw [if_neg c4] at H
     exact absurd H (by simp)
   ·
    rw [if_neg c3] at H
    have c3b0 : decide (0 < (x0_1.size : Int)) = false := decide_eq_false c3
    have c3b1 : decide (0 < x0_1.size) = false := decide_eq_false (by omega)
    clear c3
    obtain rfl := Option.some.inj H
    go_wp2
    go_ret
    exact ⟨by first | rfl | (simp; done) | (simp [*]; done), by repeat (first | exact Drawn0.refl _ | apply Drawn0.step)⟩

end Go.Proofs.YtjlnfnfdibfniaaDoor.F

