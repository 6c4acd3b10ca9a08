/- Words and walked functions of the proof (part 2). -/
import Derived.Test.YtjlnfnfdibfniaaDoorCText1
namespace Go.Proofs.YtjlnfnfdibfniaaDoor.F
open Go.RowKit Go.Proofs.YW.PWords Go.Proofs.YW.PLast Go.Proofs.YW.PMore
attribute [local go_sem] max2_int min2_int max_two min_two max_three min_three max_four min_four
set_option linter.unusedVariables false
set_option linter.unusedSimpArgs false
set_option maxRecDepth 100000
mutual
def num_nat_plus.l0 : Nat → List Int → List Int → List Int → Int → List Int → Int → Int → Option (List Int)
 | 0, _, _, _, _, _, _, _ => none
 | k + 1, x0, x1, x5, x6, x20, x21, x22 => if x22 < x21 then (if 0 ≤ x22 then (if x22 < (x20.length : Int) then (if x22 < (x1.length : Int) then (if x22 < (x5.length : Int) then (num_nat_plus.l0 k x0 x1 (x5.set (x22 : Int).toNat ((IntKind.u64.wrap ((IntKind.u64.wrap (x6 + (IntKind.u64.wrap (rd x20 x22)))) + (IntKind.u64.wrap (rd x1 x22)))) % 4294967296)) ((IntKind.u64.wrap ((IntKind.u64.wrap (x6 + (IntKind.u64.wrap (rd x20 x22)))) + (IntKind.u64.wrap (rd x1 x22)))) / 4294967296) x20 x21 (wrap64 (x22 + 1))) else (none)) else (if x22 < (x5.length : Int) then (num_nat_plus.l0 k x0 x1 (x5.set (x22 : Int).toNat ((IntKind.u64.wrap (x6 + (IntKind.u64.wrap (rd x20 x22)))) % 4294967296)) ((IntKind.u64.wrap (x6 + (IntKind.u64.wrap (rd x20 x22)))) / 4294967296) x20 x21 (wrap64 (x22 + 1))) else (none))) else (none)) else (none)) else (if 0 ≤ (x0.length : Int) then (if (x0.length : Int) < (x5.length : Int) then ((num_nat_trim.f k (x5.set ((x0.length : Int) : Int).toNat ((x6) % 4294967296))).bind fun t152 => (some t152)) else (none)) else (none))
def num_nat_plus.l101 : Nat → List Int → List Int → List Int → Int → List Int → Int → Int → Option (List Int)
 | 0, _, _, _, _, _, _, _ => none
 | k + 1, x0, x1, x5, x6, x20, x21, x22 => if x22 < x21 then (if 0 ≤ x22 then (if x22 < (x20.length : Int) then (if x22 < (x1.length : Int) then (if x22 < (x5.length : Int) then (num_nat_plus.l101 k x0 x1 (x5.set (x22 : Int).toNat ((IntKind.u64.wrap ((IntKind.u64.wrap (x6 + (IntKind.u64.wrap (rd x20 x22)))) + (IntKind.u64.wrap (rd x1 x22)))) % 4294967296)) ((IntKind.u64.wrap ((IntKind.u64.wrap (x6 + (IntKind.u64.wrap (rd x20 x22)))) + (IntKind.u64.wrap (rd x1 x22)))) / 4294967296) x20 x21 (wrap64 (x22 + 1))) else (none)) else (if x22 < (x5.length : Int) then (num_nat_plus.l101 k x0 x1 (x5.set (x22 : Int).toNat ((IntKind.u64.wrap (x6 + (IntKind.u64.wrap (rd x20 x22)))) % 4294967296)) ((IntKind.u64.wrap (x6 + (IntKind.u64.wrap (rd x20 x22)))) / 4294967296) x20 x21 (wrap64 (x22 + 1))) else (none))) else (none)) else (none)) else (if 0 ≤ (x0.length : Int) then (if (x0.length : Int) < (x5.length : Int) then ((num_nat_trim.f k (x5.set ((x0.length : Int) : Int).toNat ((x6) % 4294967296))).bind fun t163 => (some t163)) else (none)) else (none))
end
def num_nat_plus.f (k : Nat) (l0 : List Int) (l1 : List Int) : Option (List Int) := if (l0.length : Int) < (l1.length : Int) then (if 0 ≤ (wrap64 ((l1.length : Int) + 1)) then (if (wrap64 ((l1.length : Int) + 1) : Int).toNat ≤ 70368744177664 then (num_nat_plus.l0 k l1 l0 (List.replicate (wrap64 ((l1.length : Int) + 1) : Int).toNat 0) 0 l1 (l1.length : Int) 0) else (none)) else (none)) else (if 0 ≤ (wrap64 ((l0.length : Int) + 1)) then (if (wrap64 ((l0.length : Int) + 1) : Int).toNat ≤ 70368744177664 then (num_nat_plus.l101 k l0 l1 (List.replicate (wrap64 ((l0.length : Int) + 1) : Int).toNat 0) 0 l0 (l0.length : Int) 0) else (none)) else (none))
theorem num_nat_plus.mono_l : ∀ k, (∀ y0 y1 y2 y3 y4 y5 y6, LeO (num_nat_plus.l0 k y0 y1 y2 y3 y4 y5 y6) (num_nat_plus.l0 (k + 1) y0 y1 y2 y3 y4 y5 y6)) ∧ (∀ y0 y1 y2 y3 y4 y5 y6, LeO (num_nat_plus.l101 k y0 y1 y2 y3 y4 y5 y6) (num_nat_plus.l101 (k + 1) y0 y1 y2 y3 y4 y5 y6))
 | 0 => ⟨fun _ _ _ _ _ _ _ r h => by simp [num_nat_plus.l0] at h, fun _ _ _ _ _ _ _ r h => by simp [num_nat_plus.l101] at h⟩
 | k + 1 => by
  obtain ⟨ih0, ih1⟩ := num_nat_plus.mono_l k
  refine ⟨?_, ?_⟩ <;> intros <;> (first | unfold num_nat_plus.l0 | unfold num_nat_plus.l101) <;> repeat' (with_reducible first | apply ih0 | apply ih1 | apply num_nat_trim.mono | apply LeO.refl | apply LeO.none | apply LeO.ite | refine LeO.bind ?_ (fun _ => ?_))
theorem num_nat_plus.mono : ∀ a0 a1 k, LeO (num_nat_plus.f k a0 a1) (num_nat_plus.f (k + 1) a0 a1) := by
 intro a0 a1 k
 obtain ⟨ih0, ih1⟩ := num_nat_plus.mono_l k
 unfold num_nat_plus.f
 repeat' (with_reducible first | apply ih0 | apply ih1 | apply num_nat_trim.mono | apply LeO.refl | apply LeO.none | apply LeO.ite | refine LeO.bind ?_ (fun _ => ?_))
set_option maxHeartbeats 8000000 in
theorem num_nat_plus.calls (k : Nat) (A0 : Option Addr) (c0 : Nat) (l0 : List Int) (A1 : Option Addr) (c1 : Nat) (l1 : List Int) (r : List Int) (w : World) (hr0 : Kd.C (Kd.int .u32) w A0 l0.length l0) (hc0 : l0.length ≤ c0) (hr1 : Kd.C (Kd.int .u32) w A1 l1.length l1) (hc1 : l1.length ≤ c1) (h : num_nat_plus.f k l0 l1 = some r) :
  Calls Tryd.prog 48 #[.slice A0 l0.length c0, .slice A1 l1.length c1] w fun e w' => ∃ v0_ : Value, e = .returned (v0_) ∧ Kd.V (Kd.int .u32) 102 w' w.heap.size (fun k_ => (w.heap.size ≤ k_)) v0_ r ∧ Below w.heap.size w w' := by
 have HR0 := am hr0
 have HC0 := am hc0
 clear hr0 hc0
 have HR1 := am hr1
 have HC1 := am hc1
 clear hr1 hc1
 have HB := am (Below.refl w.heap.size w)
 have H : (if (l0.length : Int) < (l1.length : Int) then (if 0 ≤ (wrap64 ((l1.length : Int) + 1)) then (if (wrap64 ((l1.length : Int) + 1) : Int).toNat ≤ 70368744177664 then (num_nat_plus.l0 k l1 l0 (List.replicate (wrap64 ((l1.length : Int) + 1) : Int).toNat 0) 0 l1 (l1.length : Int) 0) else (none)) else (none)) else (if 0 ≤ (wrap64 ((l0.length : Int) + 1)) then (if (wrap64 ((l0.length : Int) + 1) : Int).toNat ≤ 70368744177664 then (num_nat_plus.l101 k l0 l1 (List.replicate (wrap64 ((l0.length : Int) + 1) : Int).toNat 0) 0 l0 (l0.length : Int) 0) else (none)) else (none))) = some r := h
 clear h
 by_cases c3 : (l0.length : Int) < (l1.length : Int)
 ·
  rw [if_pos c3] at H
  have c3b0 := dt c3
  have c3b1 : decide (l0.length < l1.length) = true := dt (Int.ofNat_lt.mp c3)
  clear c3
  obtain ⟨ji4, hji4⟩ : ∃ j_ : Int, (wrap64 ((l1.length : Int) + 1)) = j_ := ⟨_, rfl⟩
  replace H : (if 0 ≤ (ji4) then (if (ji4 : Int).toNat ≤ 70368744177664 then (num_nat_plus.l0 k l1 l0 (List.replicate (ji4 : Int).toNat 0) 0 l1 (l1.length : Int) 0) else (none)) else (none)) = some r := by first | (rw [hji4] at H; exact H) | (simp only [hji4] at H ⊢; exact H)
  have hji4w : (IntKind.i64.wrap ((l1.length : Int) + 1)) = ji4 := (i64_w _).trans hji4
  by_cases c5 : 0 ≤ (ji4)
  ·
   rw [if_pos c5] at H
   have c5b0 := eq_true c5
   have c5b1 := dt c5
   clear c5
   by_cases c6 : (ji4 : Int).toNat ≤ 70368744177664
   ·
    rw [if_pos c6] at H
    have c6b0 := eq_true c6
    have c6b1 := dt c6
    clear c6
    obtain ⟨y144, hy144⟩ : ∃ y_ : List Int, y_ = (List.replicate (ji4 : Int).toNat 0) := ⟨_, rfl⟩
    replace H : (num_nat_plus.l0 k l1 l0 y144 0 l1 (l1.length : Int) 0) = some r := by first | (rw [hy144]; exact H) | exact H
    have Ny144 := am hy144
    clear hy144
    have H' := am H
    clear H
    go_enter Tryd.func48, Tryd.ntmps48
    go_wp2_with (first | ((with_reducible refine gate_dst (N := 19) rfl ?_); refine Kd.R_make (Kd.int .u32) _ 102 rfl (N := 19) rfl 56 _ _ rfl ji4 rfl rfl Tryd.underlying56 (.int .u32 0) 4 info102 rfl (by decide) (by omega) 0 (ok := fun _ => True) (okp := fun _ => True) rfl (fun _ hk => hk) trivial (od) (Nat.le_trans (Nat.mul_le_mul_right _ (od : ji4.toNat ≤ 70368744177664)) (by omega)) (Below.refl _ _) (Nat.le_refl _) ?_; intro v145 w7 ho8 hb hg_ hnew_; clear hg_ hnew_; (first | rw [← Ny144.out] at ho8 | (simp only [Int.reduceToNat] at ho8; rw [← Ny144.out] at ho8)); have HO146 := am (Kd.R_lower (Kd.R_newM (M := fun k_ => (w.heap.size ≤ k_)) ho8 (below_size (lk HB)) (fun k_ h_ => h_)) (below_size (lk HB))); replace HB := lb HB hb; clear hb ho8))
    go_loopg [6, 22] k (fun kq v6 v22 w' => ∃ (x5_1 : List Int) (x6_1 : Int) (x22_1 : Int), v6 = .int .u64 x6_1 ∧ v22 = .int .i64 x22_1 ∧ Aside0 (num_nat_plus.l0 kq l1 l0 x5_1 x6_1 l1 (l1.length : Int) x22_1 = some r) ∧ Aside0 (kq ≤ k) ∧ Aside0 (Kd.R (Kd.int .u32) 102 w' w.heap.size (fun k_ => (w.heap.size ≤ k_)) v145 x5_1) ∧ Aside0 (Below w.heap.size w w'))
    case atStart => exact ⟨(y144), (0), (0), eqd, eqd, H', ⟨Nat.le_refl _⟩, ⟨by exact ry <| Kd.R_mono HO146.out (fun _ hk => hk.1)⟩, ⟨lk HB⟩⟩
    case round =>
     clear H'
     obtain ⟨x5_1, x6_1, x22_1, rfl, rfl, HA, HK1, HO_5, HB⟩ := hrel
     cases gk with
     | zero => exact absurd HA.out (by simp [num_nat_plus.l0])
     | succ k1 =>
      have H := HA.out
      clear HA
      simp only [num_nat_plus.l0] at H
      by_cases c9 : x22_1 < (l1.length : Int)
      ·
       rw [if_pos c9] at H
       have c9b0 := dt c9
       clear c9
       by_cases c10 : 0 ≤ x22_1
       ·
        rw [if_pos c10] at H
        have c10b0 := dt c10
        clear c10
        by_cases c11 : x22_1 < (l1.length : Int)
        ·
         rw [if_pos c11] at H
         have c11b0 := dt c11
         clear c11
         by_cases c12 : x22_1 < (l0.length : Int)
         ·
          rw [if_pos c12] at H
          have c12b0 := dt c12
          clear c12
          by_cases c13 : x22_1 < (x5_1.length : Int)
          ·
           rw [if_pos c13] at H
           have c13b0 := dt c13
           clear c13
           obtain ⟨y149, hy149⟩ : ∃ y_ : List Int, y_ = (x5_1.set (x22_1 : Int).toNat ((IntKind.u64.wrap ((IntKind.u64.wrap (x6_1 + (IntKind.u64.wrap (rd l1 x22_1)))) + (IntKind.u64.wrap (rd l0 x22_1)))) % 4294967296)) := ⟨_, rfl⟩
           replace H : (num_nat_plus.l0 k1 l1 l0 y149 ((IntKind.u64.wrap ((IntKind.u64.wrap (x6_1 + (IntKind.u64.wrap (rd l1 x22_1)))) + (IntKind.u64.wrap (rd l0 x22_1)))) / 4294967296) l1 (l1.length : Int) (wrap64 (x22_1 + 1))) = some r := by first | (rw [hy149]; exact H) | exact H
           have Ny149 := am hy149
           clear hy149
           have H' := am H
           clear H
           have p147 : 0 ≤ (x22_1 : Int) := od
           have q147 : x22_1 < (l1.length : Int) := od
           obtain ⟨ad147, e147, hx147_0⟩ := Kd.at_int HR1.out x22_1 p147 q147
           cases e147
           replace hx147_0 := (HB.out.cell (World.block_lt_of_cell? w _ hx147_0)).trans hx147_0
           replace p147 := eq_true p147
           replace q147 := eq_true q147
           have p148 : 0 ≤ (x22_1 : Int) := od
           have q148 : x22_1 < (l0.length : Int) := od
           obtain ⟨ad148, e148, hx148_0⟩ := Kd.at_int HR0.out x22_1 p148 q148
           cases e148
           replace hx148_0 := (HB.out.cell (World.block_lt_of_cell? w _ hx148_0)).trans hx148_0
           replace p148 := eq_true p148
           replace q148 := eq_true q148
           have p14 : 0 ≤ (x22_1 : Int) := od
           have q14 : (x22_1 : Int) < ((x5_1.length : Int) : Int) := od
           obtain ⟨go14, co14, eo14, gb14, gl14, cl14, HG14⟩ := Kd.R_form HO_5.out (by omega)
           (first | cases eo14 | (injection eo14 with ea_ en_ ec_; (first | subst ea_ | (injection ea_ with ea_; subst ea_)); subst ec_; clear en_))
           have GB14 := am gb14
           have GG14 := am HG14
           clear gb14 gl14 HG14
           obtain ⟨hx14_0, hf14_0⟩ := Kd.R_celln 0 HO_5.out (x22_1 : Int) p14 q14
           replace p14 := eq_true p14
           replace q14 := eq_true q14
           have HP15 := Kd.R_putg HO_5.out (x22_1 : Int) ((IntKind.u64.wrap ((IntKind.u64.wrap (x6_1 + (IntKind.u64.wrap (rd l1 x22_1)))) + (IntKind.u64.wrap (rd l0 x22_1)))) % 4294967296)
           go_wp2_with (first | ((with_reducible refine gate_store (t := 102) (p := 46) rfl ?_); refine store_event (t := 102) (p := 46) (v := ?vo_w16) (w1 := (wr.setCell ⟨go14, (x22_1 : Int).toNat, none⟩ (.int .u32 ((IntKind.u64.wrap ((IntKind.u64.wrap (x6_1 + (IntKind.u64.wrap (rd l1 x22_1)))) + (IntKind.u64.wrap (rd l0 x22_1)))) % 4294967296)))) ?hg ?ho ?hn ?hr ?_; (case ho => rfl); (case hg => rfl); (case hn => rfl); (case hr => first | (go_simp; done) | (go_simp; rfl)); intro w16 hw; have hg : wr.grownBy w16 (some go14) := (by rw [hw]; exact HP15.2); have hp_ : Kd.R (Kd.int .u32) 102 w16 w.heap.size (fun k_ => (w.heap.size ≤ k_)) (.slice (some ⟨go14, 0, none⟩) x5_1.length co14) y149 := (by rw [hw, Ny149.out]; exact HP15.1); clear HP15; replace HO_5 := am (hp_); replace HB := am ((by rw [hw]; exact below_set (HB.out) GB14.out : Below w.heap.size w w16)); clear hg hw hp_))
           go_roundg k1
           case measure => have := HK1.out; omega
           case rel => exact ⟨(y149), ((IntKind.u64.wrap ((IntKind.u64.wrap (x6_1 + (IntKind.u64.wrap (rd l1 x22_1)))) + (IntKind.u64.wrap (rd l0 x22_1)))) / 4294967296), (wrap64 (x22_1 + 1)), eqd, eqd, H', ⟨by have := HK1.out; omega⟩, ⟨rk HO_5⟩, ⟨lk HB⟩⟩
          rw [if_neg c13] at H
          exact absurd H (by simp)
         rw [if_neg c12] at H
         have c12b0 := decide_eq_false c12
         clear c12
         by_cases c17 : x22_1 < (x5_1.length : Int)
         ·
          rw [if_pos c17] at H
          have c17b0 := dt c17
          clear c17
          obtain ⟨y150, hy150⟩ : ∃ y_ : List Int, y_ = (x5_1.set (x22_1 : Int).toNat ((IntKind.u64.wrap (x6_1 + (IntKind.u64.wrap (rd l1 x22_1)))) % 4294967296)) := ⟨_, rfl⟩
          replace H : (num_nat_plus.l0 k1 l1 l0 y150 ((IntKind.u64.wrap (x6_1 + (IntKind.u64.wrap (rd l1 x22_1)))) / 4294967296) l1 (l1.length : Int) (wrap64 (x22_1 + 1))) = some r := by first | (rw [hy150]; exact H) | exact H
          have Ny150 := am hy150
          clear hy150
          have H' := am H
          clear H
          have p147 : 0 ≤ (x22_1 : Int) := od
          have q147 : x22_1 < (l1.length : Int) := od
          obtain ⟨ad147, e147, hx147_0⟩ := Kd.at_int HR1.out x22_1 p147 q147
          cases e147
          replace hx147_0 := (HB.out.cell (World.block_lt_of_cell? w _ hx147_0)).trans hx147_0
          replace p147 := eq_true p147
          replace q147 := eq_true q147
          have p18 : 0 ≤ (x22_1 : Int) := od
          have q18 : (x22_1 : Int) < ((x5_1.length : Int) : Int) := od
          obtain ⟨go18, co18, eo18, gb18, gl18, cl18, HG18⟩ := Kd.R_form HO_5.out (by omega)
          (first | cases eo18 | (injection eo18 with ea_ en_ ec_; (first | subst ea_ | (injection ea_ with ea_; subst ea_)); subst ec_; clear en_))
          have GB18 := am gb18
          have GG18 := am HG18
          clear gb18 gl18 HG18
          obtain ⟨hx18_0, hf18_0⟩ := Kd.R_celln 0 HO_5.out (x22_1 : Int) p18 q18
          replace p18 := eq_true p18
          replace q18 := eq_true q18
          have HP19 := Kd.R_putg HO_5.out (x22_1 : Int) ((IntKind.u64.wrap (x6_1 + (IntKind.u64.wrap (rd l1 x22_1)))) % 4294967296)
          go_wp2_with (first | ((with_reducible refine gate_store (t := 102) (p := 46) rfl ?_); refine store_event (t := 102) (p := 46) (v := ?vo_w20) (w1 := (wr.setCell ⟨go18, (x22_1 : Int).toNat, none⟩ (.int .u32 ((IntKind.u64.wrap (x6_1 + (IntKind.u64.wrap (rd l1 x22_1)))) % 4294967296)))) ?hg ?ho ?hn ?hr ?_; (case ho => rfl); (case hg => rfl); (case hn => rfl); (case hr => first | (go_simp; done) | (go_simp; rfl)); intro w20 hw; have hg : wr.grownBy w20 (some go18) := (by rw [hw]; exact HP19.2); have hp_ : Kd.R (Kd.int .u32) 102 w20 w.heap.size (fun k_ => (w.heap.size ≤ k_)) (.slice (some ⟨go18, 0, none⟩) x5_1.length co18) y150 := (by rw [hw, Ny150.out]; exact HP19.1); clear HP19; replace HO_5 := am (hp_); replace HB := am ((by rw [hw]; exact below_set (HB.out) GB18.out : Below w.heap.size w w20)); clear hg hw hp_))
          go_roundg k1
          case measure => have := HK1.out; omega
          case rel => exact ⟨(y150), ((IntKind.u64.wrap (x6_1 + (IntKind.u64.wrap (rd l1 x22_1)))) / 4294967296), (wrap64 (x22_1 + 1)), eqd, eqd, H', ⟨by have := HK1.out; omega⟩, ⟨rk HO_5⟩, ⟨lk HB⟩⟩
         rw [if_neg c17] at H
         exact absurd H (by simp)
        rw [if_neg c11] at H
        exact absurd H (by simp)
       rw [if_neg c10] at H
       exact absurd H (by simp)
      rw [if_neg c9] at H
      have c9b0 := decide_eq_false c9
      clear c9
      by_cases c21 : 0 ≤ (l1.length : Int)
      ·
       rw [if_pos c21] at H
       have c21b0 := dt c21
       have c21b1 : decide (0 ≤ l1.length) = true := dt (by omega)
       clear c21
       by_cases c22 : (l1.length : Int) < (x5_1.length : Int)
       ·
        rw [if_pos c22] at H
        have c22b0 := dt c22
        have c22b1 : decide (l1.length < x5_1.length) = true := dt (Int.ofNat_lt.mp c22)
        clear c22
        obtain ⟨y151, hy151⟩ : ∃ y_ : List Int, y_ = (x5_1.set ((l1.length : Int) : Int).toNat ((x6_1) % 4294967296)) := ⟨_, rfl⟩
        replace H : ((num_nat_trim.f k1 y151).bind fun t152 => (some t152)) = some r := by first | (rw [hy151]; exact H) | exact H
        have Ny151 := am hy151
        clear hy151
        replace H := bm H
        obtain ⟨t152, A240, H⟩ := H
        replace H : (some t152) = some r := H
        have A24 := am A240
        clear A240
        obtain rfl := Option.some.inj H
        have p23 : 0 ≤ ((l1.length : Int) : Int) := od
        have q23 : ((l1.length : Int) : Int) < ((x5_1.length : Int) : Int) := od
        obtain ⟨go23, co23, eo23, gb23, gl23, cl23, HG23⟩ := Kd.R_form HO_5.out (by omega)
        (first | cases eo23 | (injection eo23 with ea_ en_ ec_; (first | subst ea_ | (injection ea_ with ea_; subst ea_)); subst ec_; clear en_))
        have GB23 := am gb23
        have GG23 := am HG23
        clear gb23 gl23 HG23
        obtain ⟨hx23_0, hf23_0⟩ := Kd.R_celln 0 HO_5.out ((l1.length : Int) : Int) p23 q23
        (try simp only [Int.toNat_natCast] at hx23_0 hf23_0)
        replace p23 := eq_true p23
        replace q23 := eq_true q23
        have HP25 := Kd.R_putg HO_5.out ((l1.length : Int) : Int) ((x6_1) % 4294967296)
        go_wp2_with (first | ((with_reducible refine gate_store (t := 102) (p := 55) rfl ?_); refine store_event (t := 102) (p := 55) (v := ?vo_w26) (w1 := (wr.setCell ⟨go23, ((l1.length : Int) : Int).toNat, none⟩ (.int .u32 ((x6_1) % 4294967296)))) ?hg ?ho ?hn ?hr ?_; (case ho => rfl); (case hg => rfl); (case hn => rfl); (case hr => first | (go_simp; done) | (go_simp; rfl)); intro w26 hw; have hg : wr.grownBy w26 (some go23) := (by rw [hw]; exact HP25.2); have hp_ : Kd.R (Kd.int .u32) 102 w26 w.heap.size (fun k_ => (w.heap.size ≤ k_)) (.slice (some ⟨go23, 0, none⟩) x5_1.length co23) y151 := (by rw [hw, Ny151.out]; exact HP25.1); clear HP25; replace HO_5 := am (hp_); replace HB := am ((by rw [hw]; exact below_set (HB.out) GB23.out : Below w.heap.size w w26)); clear hg hw hp_) | ((with_reducible refine gate_callee (f := 82) rfl ?_); refine goesL_ (some 57) rfl rfl Tryd.func82 (by kernel_rfl) rfl #[.slice (some ⟨go23, 0, none⟩) y151.length co23] rfl (by (try simp only [List.map_toArray, List.map_cons, List.map_nil]); first | done | (rw [show y151.length = x5_1.length from (Kd.R_reads' HO_5.out).1.symm] <;> rfl) | rfl | (simp only [List.length_drop, List.length_take]; rfl)) ?_; (with_reducible refine (num_nat_trim.calls k1 (fun k_ => some k_ = (.slice (some ⟨go23, 0, none⟩) x5_1.length co23 : Value).ownBlock) _ _ y151 t152 _ ?side1 A24.out).mono ?_); (case side1 => rw [show y151.length = x5_1.length from (Kd.R_reads' HO_5.out).1.symm]; exact Kd.R_V (Kd.R_tight rfl (HO_5.out))); rintro e w27 ⟨v153, rfl, ho0, hb⟩; refine ⟨_, rfl, ?_⟩; have HO154 := am (Kd.V_lower (Kd.V_mono (ok' := fun k_ => (w.heap.size ≤ k_)) ho0 (fun k_ hk_ => Or.elim hk_ (fun hs_ => ((HO_5.out).1 k_ hs_.symm)) (fun hn_ => (Nat.le_trans (below_size (lk HB)) hn_)))) (below_size (lk HB))); replace HO_5 := am (Kd.R_below (rk HO_5) hb); replace HB := lb HB hb))
        go_ret
        exact ⟨_, by first | rfl | (simp [errW_none, errW_some] <;> rfl) | (simp only [← hji4]; first | rfl | (simp [errW_none, errW_some] <;> rfl)) | (simp [*, errW_none, errW_some] <;> rfl), vk HO154, lk HB⟩
       rw [if_neg c22] at H
       exact absurd H (by simp)
      rw [if_neg c21] at H
      exact absurd H (by simp)
   rw [if_neg c6] at H
   exact absurd H (by simp)
  rw [if_neg c5] at H
  exact absurd H (by simp)
 rw [if_neg c3] at H
 have c3b0 := decide_eq_false c3
 have c3b1 : decide (l0.length < l1.length) = false := decide_eq_false (fun h => c3 (Int.ofNat_lt.mpr h))
 clear c3
 obtain ⟨ji28, hji28⟩ : ∃ j_ : Int, (wrap64 ((l0.length : Int) + 1)) = j_ := ⟨_, rfl⟩
 replace H : (if 0 ≤ (ji28) then (if (ji28 : Int).toNat ≤ 70368744177664 then (num_nat_plus.l101 k l0 l1 (List.replicate (ji28 : Int).toNat 0) 0 l0 (l0.length : Int) 0) else (none)) else (none)) = some r := by first | (rw [hji28] at H; exact H) | (simp only [hji28] at H ⊢; exact H)
 have hji28w : (IntKind.i64.wrap ((l0.length : Int) + 1)) = ji28 := (i64_w _).trans hji28
 by_cases c29 : 0 ≤ (ji28)
 ·
  rw [if_pos c29] at H
  have c29b0 := eq_true c29
  have c29b1 := dt c29
  clear c29
  by_cases c30 : (ji28 : Int).toNat ≤ 70368744177664
  ·
   rw [if_pos c30] at H
   have c30b0 := eq_true c30
   have c30b1 := dt c30
   clear c30
   obtain ⟨y155, hy155⟩ : ∃ y_ : List Int, y_ = (List.replicate (ji28 : Int).toNat 0) := ⟨_, rfl⟩
   replace H : (num_nat_plus.l101 k l0 l1 y155 0 l0 (l0.length : Int) 0) = some r := by first | (rw [hy155]; exact H) | exact H
   have Ny155 := am hy155
   clear hy155
   have H' := am H
   clear H
   go_enter Tryd.func48, Tryd.ntmps48
   go_wp2_with (first | ((with_reducible refine gate_dst (N := 19) rfl ?_); refine Kd.R_make (Kd.int .u32) _ 102 rfl (N := 19) rfl 56 _ _ rfl ji28 rfl rfl Tryd.underlying56 (.int .u32 0) 4 info102 rfl (by decide) (by omega) 0 (ok := fun _ => True) (okp := fun _ => True) rfl (fun _ hk => hk) trivial (od) (Nat.le_trans (Nat.mul_le_mul_right _ (od : ji28.toNat ≤ 70368744177664)) (by omega)) (Below.refl _ _) (Nat.le_refl _) ?_; intro v156 w31 ho32 hb hg_ hnew_; clear hg_ hnew_; (first | rw [← Ny155.out] at ho32 | (simp only [Int.reduceToNat] at ho32; rw [← Ny155.out] at ho32)); have HO157 := am (Kd.R_lower (Kd.R_newM (M := fun k_ => (w.heap.size ≤ k_)) ho32 (below_size (lk HB)) (fun k_ h_ => h_)) (below_size (lk HB))); replace HB := lb HB hb; clear hb ho32))
   go_loopg [6, 22] k (fun kq v6 v22 w' => ∃ (x5_1 : List Int) (x6_1 : Int) (x22_1 : Int), v6 = .int .u64 x6_1 ∧ v22 = .int .i64 x22_1 ∧ Aside0 (num_nat_plus.l101 kq l0 l1 x5_1 x6_1 l0 (l0.length : Int) x22_1 = some r) ∧ Aside0 (kq ≤ k) ∧ Aside0 (Kd.R (Kd.int .u32) 102 w' w.heap.size (fun k_ => (w.heap.size ≤ k_)) v156 x5_1) ∧ Aside0 (Below w.heap.size w w'))
   case atStart => exact ⟨(y155), (0), (0), eqd, eqd, H', ⟨Nat.le_refl _⟩, ⟨by exact ry <| Kd.R_mono HO157.out (fun _ hk => hk.1)⟩, ⟨lk HB⟩⟩
   case round =>
    clear H'
    obtain ⟨x5_1, x6_1, x22_1, rfl, rfl, HA, HK1, HO_5, HB⟩ := hrel
    cases gk with
    | zero => exact absurd HA.out (by simp [num_nat_plus.l101])
    | succ k1 =>
     have H := HA.out
     clear HA
     simp only [num_nat_plus.l101] at H
     by_cases c33 : x22_1 < (l0.length : Int)
     ·
      rw [if_pos c33] at H
      have c33b0 := dt c33
      clear c33
      by_cases c34 : 0 ≤ x22_1
      ·
       rw [if_pos c34] at H
       have c34b0 := dt c34
       clear c34
       by_cases c35 : x22_1 < (l0.length : Int)
       ·
        rw [if_pos c35] at H
        have c35b0 := dt c35
        clear c35
        by_cases c36 : x22_1 < (l1.length : Int)
        ·
         rw [if_pos c36] at H
         have c36b0 := dt c36
         clear c36
         by_cases c37 : x22_1 < (x5_1.length : Int)
         ·
          rw [if_pos c37] at H
          have c37b0 := dt c37
          clear c37
          obtain ⟨y160, hy160⟩ : ∃ y_ : List Int, y_ = (x5_1.set (x22_1 : Int).toNat ((IntKind.u64.wrap ((IntKind.u64.wrap (x6_1 + (IntKind.u64.wrap (rd l0 x22_1)))) + (IntKind.u64.wrap (rd l1 x22_1)))) % 4294967296)) := ⟨_, rfl⟩
          replace H : (num_nat_plus.l101 k1 l0 l1 y160 ((IntKind.u64.wrap ((IntKind.u64.wrap (x6_1 + (IntKind.u64.wrap (rd l0 x22_1)))) + (IntKind.u64.wrap (rd l1 x22_1)))) / 4294967296) l0 (l0.length : Int) (wrap64 (x22_1 + 1))) = some r := by first | (rw [hy160]; exact H) | exact H
          have Ny160 := am hy160
          clear hy160
          have H' := am H
          clear H
          have p158 : 0 ≤ (x22_1 : Int) := od
          have q158 : x22_1 < (l0.length : Int) := od
          obtain ⟨ad158, e158, hx158_0⟩ := Kd.at_int HR0.out x22_1 p158 q158
          cases e158
          replace hx158_0 := (HB.out.cell (World.block_lt_of_cell? w _ hx158_0)).trans hx158_0
          replace p158 := eq_true p158
          replace q158 := eq_true q158
          have p159 : 0 ≤ (x22_1 : Int) := od
          have q159 : x22_1 < (l1.length : Int) := od
          obtain ⟨ad159, e159, hx159_0⟩ := Kd.at_int HR1.out x22_1 p159 q159
          cases e159
          replace hx159_0 := (HB.out.cell (World.block_lt_of_cell? w _ hx159_0)).trans hx159_0
          replace p159 := eq_true p159
          replace q159 := eq_true q159
          have p38 : 0 ≤ (x22_1 : Int) := od
          have q38 : (x22_1 : Int) < ((x5_1.length : Int) : Int) := od
          obtain ⟨go38, co38, eo38, gb38, gl38, cl38, HG38⟩ := Kd.R_form HO_5.out (by omega)
          (first | cases eo38 | (injection eo38 with ea_ en_ ec_; (first | subst ea_ | (injection ea_ with ea_; subst ea_)); subst ec_; clear en_))
          have GB38 := am gb38
          have GG38 := am HG38
          clear gb38 gl38 HG38
          obtain ⟨hx38_0, hf38_0⟩ := Kd.R_celln 0 HO_5.out (x22_1 : Int) p38 q38
          replace p38 := eq_true p38
          replace q38 := eq_true q38
          have HP39 := Kd.R_putg HO_5.out (x22_1 : Int) ((IntKind.u64.wrap ((IntKind.u64.wrap (x6_1 + (IntKind.u64.wrap (rd l0 x22_1)))) + (IntKind.u64.wrap (rd l1 x22_1)))) % 4294967296)
          go_wp2_with (first | ((with_reducible refine gate_store (t := 102) (p := 46) rfl ?_); refine store_event (t := 102) (p := 46) (v := ?vo_w40) (w1 := (wr.setCell ⟨go38, (x22_1 : Int).toNat, none⟩ (.int .u32 ((IntKind.u64.wrap ((IntKind.u64.wrap (x6_1 + (IntKind.u64.wrap (rd l0 x22_1)))) + (IntKind.u64.wrap (rd l1 x22_1)))) % 4294967296)))) ?hg ?ho ?hn ?hr ?_; (case ho => rfl); (case hg => rfl); (case hn => rfl); (case hr => first | (go_simp; done) | (go_simp; rfl)); intro w40 hw; have hg : wr.grownBy w40 (some go38) := (by rw [hw]; exact HP39.2); have hp_ : Kd.R (Kd.int .u32) 102 w40 w.heap.size (fun k_ => (w.heap.size ≤ k_)) (.slice (some ⟨go38, 0, none⟩) x5_1.length co38) y160 := (by rw [hw, Ny160.out]; exact HP39.1); clear HP39; replace HO_5 := am (hp_); replace HB := am ((by rw [hw]; exact below_set (HB.out) GB38.out : Below w.heap.size w w40)); clear hg hw hp_))
          go_roundg k1
          case measure => have := HK1.out; omega
          case rel => exact ⟨(y160), ((IntKind.u64.wrap ((IntKind.u64.wrap (x6_1 + (IntKind.u64.wrap (rd l0 x22_1)))) + (IntKind.u64.wrap (rd l1 x22_1)))) / 4294967296), (wrap64 (x22_1 + 1)), eqd, eqd, H', ⟨by have := HK1.out; omega⟩, ⟨rk HO_5⟩, ⟨lk HB⟩⟩
         rw [if_neg c37] at H
         exact absurd H (by simp)
        rw [if_neg c36] at H
        have c36b0 := decide_eq_false c36
        clear c36
        by_cases c41 : x22_1 < (x5_1.length : Int)
        ·
         rw [if_pos c41] at H
         have c41b0 := dt c41
         clear c41
         obtain ⟨y161, hy161⟩ : ∃ y_ : List Int, y_ = (x5_1.set (x22_1 : Int).toNat ((IntKind.u64.wrap (x6_1 + (IntKind.u64.wrap (rd l0 x22_1)))) % 4294967296)) := ⟨_, rfl⟩
         replace H : (num_nat_plus.l101 k1 l0 l1 y161 ((IntKind.u64.wrap (x6_1 + (IntKind.u64.wrap (rd l0 x22_1)))) / 4294967296) l0 (l0.length : Int) (wrap64 (x22_1 + 1))) = some r := by first | (rw [hy161]; exact H) | exact H
         have Ny161 := am hy161
         clear hy161
         have H' := am H
         clear H
         have p158 : 0 ≤ (x22_1 : Int) := od
         have q158 : x22_1 < (l0.length : Int) := od
         obtain ⟨ad158, e158, hx158_0⟩ := Kd.at_int HR0.out x22_1 p158 q158
         cases e158
         replace hx158_0 := (HB.out.cell (World.block_lt_of_cell? w _ hx158_0)).trans hx158_0
         replace p158 := eq_true p158
         replace q158 := eq_true q158
         have p42 : 0 ≤ (x22_1 : Int) := od
         have q42 : (x22_1 : Int) < ((x5_1.length : Int) : Int) := od
         obtain ⟨go42, co42, eo42, gb42, gl42, cl42, HG42⟩ := Kd.R_form HO_5.out (by omega)
         (first | cases eo42 | (injection eo42 with ea_ en_ ec_; (first | subst ea_ | (injection ea_ with ea_; subst ea_)); subst ec_; clear en_))
         have GB42 := am gb42
         have GG42 := am HG42
         clear gb42 gl42 HG42
         obtain ⟨hx42_0, hf42_0⟩ := Kd.R_celln 0 HO_5.out (x22_1 : Int) p42 q42
         replace p42 := eq_true p42
         replace q42 := eq_true q42
         have HP43 := Kd.R_putg HO_5.out (x22_1 : Int) ((IntKind.u64.wrap (x6_1 + (IntKind.u64.wrap (rd l0 x22_1)))) % 4294967296)
         go_wp2_with (first | ((with_reducible refine gate_store (t := 102) (p := 46) rfl ?_); refine store_event (t := 102) (p := 46) (v := ?vo_w44) (w1 := (wr.setCell ⟨go42, (x22_1 : Int).toNat, none⟩ (.int .u32 ((IntKind.u64.wrap (x6_1 + (IntKind.u64.wrap (rd l0 x22_1)))) % 4294967296)))) ?hg ?ho ?hn ?hr ?_; (case ho => rfl); (case hg => rfl); (case hn => rfl); (case hr => first | (go_simp; done) | (go_simp; rfl)); intro w44 hw; have hg : wr.grownBy w44 (some go42) := (by rw [hw]; exact HP43.2); have hp_ : Kd.R (Kd.int .u32) 102 w44 w.heap.size (fun k_ => (w.heap.size ≤ k_)) (.slice (some ⟨go42, 0, none⟩) x5_1.length co42) y161 := (by rw [hw, Ny161.out]; exact HP43.1); clear HP43; replace HO_5 := am (hp_); replace HB := am ((by rw [hw]; exact below_set (HB.out) GB42.out : Below w.heap.size w w44)); clear hg hw hp_))
         go_roundg k1
         case measure => have := HK1.out; omega
         case rel => exact ⟨(y161), ((IntKind.u64.wrap (x6_1 + (IntKind.u64.wrap (rd l0 x22_1)))) / 4294967296), (wrap64 (x22_1 + 1)), eqd, eqd, H', ⟨by have := HK1.out; omega⟩, ⟨rk HO_5⟩, ⟨lk HB⟩⟩
        rw [if_neg c41] at H
        exact absurd H (by simp)
       rw [if_neg c35] at H
       exact absurd H (by simp)
      rw [if_neg c34] at H
      exact absurd H (by simp)
     rw [if_neg c33] at H
     have c33b0 := decide_eq_false c33
     clear c33
     by_cases c45 : 0 ≤ (l0.length : Int)
     ·
      rw [if_pos c45] at H
      have c45b0 := dt c45
      have c45b1 : decide (0 ≤ l0.length) = true := dt (by omega)
      clear c45
      by_cases c46 : (l0.length : Int) < (x5_1.length : Int)
      ·
       rw [if_pos c46] at H
       have c46b0 := dt c46
       have c46b1 : decide (l0.length < x5_1.length) = true := dt (Int.ofNat_lt.mp c46)
       clear c46
       obtain ⟨y162, hy162⟩ : ∃ y_ : List Int, y_ = (x5_1.set ((l0.length : Int) : Int).toNat ((x6_1) % 4294967296)) := ⟨_, rfl⟩
       replace H : ((num_nat_trim.f k1 y162).bind fun t163 => (some t163)) = some r := by first | (rw [hy162]; exact H) | exact H
       have Ny162 := am hy162
       clear hy162
       replace H := bm H
       obtain ⟨t163, A480, H⟩ := H
       replace H : (some t163) = some r := H
       have A48 := am A480
       clear A480
       obtain rfl := Option.some.inj H
       have p47 : 0 ≤ ((l0.length : Int) : Int) := od
       have q47 : ((l0.length : Int) : Int) < ((x5_1.length : Int) : Int) := od
       obtain ⟨go47, co47, eo47, gb47, gl47, cl47, HG47⟩ := Kd.R_form HO_5.out (by omega)
       (first | cases eo47 | (injection eo47 with ea_ en_ ec_; (first | subst ea_ | (injection ea_ with ea_; subst ea_)); subst ec_; clear en_))
       have GB47 := am gb47
       have GG47 := am HG47
       clear gb47 gl47 HG47
       obtain ⟨hx47_0, hf47_0⟩ := Kd.R_celln 0 HO_5.out ((l0.length : Int) : Int) p47 q47
       (try simp only [Int.toNat_natCast] at hx47_0 hf47_0)
       replace p47 := eq_true p47
       replace q47 := eq_true q47
       have HP49 := Kd.R_putg HO_5.out ((l0.length : Int) : Int) ((x6_1) % 4294967296)
       go_wp2_with (first | ((with_reducible refine gate_store (t := 102) (p := 55) rfl ?_); refine store_event (t := 102) (p := 55) (v := ?vo_w50) (w1 := (wr.setCell ⟨go47, ((l0.length : Int) : Int).toNat, none⟩ (.int .u32 ((x6_1) % 4294967296)))) ?hg ?ho ?hn ?hr ?_; (case ho => rfl); (case hg => rfl); (case hn => rfl); (case hr => first | (go_simp; done) | (go_simp; rfl)); intro w50 hw; have hg : wr.grownBy w50 (some go47) := (by rw [hw]; exact HP49.2); have hp_ : Kd.R (Kd.int .u32) 102 w50 w.heap.size (fun k_ => (w.heap.size ≤ k_)) (.slice (some ⟨go47, 0, none⟩) x5_1.length co47) y162 := (by rw [hw, Ny162.out]; exact HP49.1); clear HP49; replace HO_5 := am (hp_); replace HB := am ((by rw [hw]; exact below_set (HB.out) GB47.out : Below w.heap.size w w50)); clear hg hw hp_) | ((with_reducible refine gate_callee (f := 82) rfl ?_); refine goesL_ (some 57) rfl rfl Tryd.func82 (by kernel_rfl) rfl #[.slice (some ⟨go47, 0, none⟩) y162.length co47] rfl (by (try simp only [List.map_toArray, List.map_cons, List.map_nil]); first | done | (rw [show y162.length = x5_1.length from (Kd.R_reads' HO_5.out).1.symm] <;> rfl) | rfl | (simp only [List.length_drop, List.length_take]; rfl)) ?_; (with_reducible refine (num_nat_trim.calls k1 (fun k_ => some k_ = (.slice (some ⟨go47, 0, none⟩) x5_1.length co47 : Value).ownBlock) _ _ y162 t163 _ ?side1 A48.out).mono ?_); (case side1 => rw [show y162.length = x5_1.length from (Kd.R_reads' HO_5.out).1.symm]; exact Kd.R_V (Kd.R_tight rfl (HO_5.out))); rintro e w51 ⟨v164, rfl, ho0, hb⟩; refine ⟨_, rfl, ?_⟩; have HO165 := am (Kd.V_lower (Kd.V_mono (ok' := fun k_ => (w.heap.size ≤ k_)) ho0 (fun k_ hk_ => Or.elim hk_ (fun hs_ => ((HO_5.out).1 k_ hs_.symm)) (fun hn_ => (Nat.le_trans (below_size (lk HB)) hn_)))) (below_size (lk HB))); replace HO_5 := am (Kd.R_below (rk HO_5) hb); replace HB := lb HB hb))
       go_ret
       exact ⟨_, by first | rfl | (simp [errW_none, errW_some] <;> rfl) | (simp only [← hji28]; first | rfl | (simp [errW_none, errW_some] <;> rfl)) | (simp [*, errW_none, errW_some] <;> rfl), vk HO165, lk HB⟩
      rw [if_neg c46] at H
      exact absurd H (by simp)
     rw [if_neg c45] at H
     exact absurd H (by simp)
  rw [if_neg c30] at H
  exact absurd H (by simp)
 rw [if_neg c29] at H
 exact absurd H (by simp)
def num_nat_less.l0 : Nat → List Int → List Int → Int → List Int → Int → Int → Option (List Int)
 | 0, _, _, _, _, _, _ => none
 | k + 1, x1, x5, x6, x13, x14, x15 => if x15 < x14 then (if 0 ≤ x15 then (if x15 < (x13.length : Int) then (if x15 < (x1.length : Int) then (if x15 < (x5.length : Int) then (num_nat_less.l0 k x1 (x5.set (x15 : Int).toNat ((IntKind.u64.wrap ((IntKind.u64.wrap ((IntKind.u64.wrap (rd x13 x15)) - x6)) - (IntKind.u64.wrap (rd x1 x15)))) % 4294967296)) ((IntKind.u64.wrap ((IntKind.u64.wrap ((IntKind.u64.wrap (rd x13 x15)) - x6)) - (IntKind.u64.wrap (rd x1 x15)))) / 9223372036854775808) x13 x14 (wrap64 (x15 + 1))) else (none)) else (if x15 < (x5.length : Int) then (num_nat_less.l0 k x1 (x5.set (x15 : Int).toNat ((IntKind.u64.wrap ((IntKind.u64.wrap (rd x13 x15)) - x6)) % 4294967296)) ((IntKind.u64.wrap ((IntKind.u64.wrap (rd x13 x15)) - x6)) / 9223372036854775808) x13 x14 (wrap64 (x15 + 1))) else (none))) else (none)) else (none)) else ((num_nat_trim.f k x5).bind fun t177 => (some t177))
def num_nat_less.f (k : Nat) (l0 : List Int) (l1 : List Int) : Option (List Int) := if 0 ≤ (l0.length : Int) then (if ((l0.length : Int) : Int).toNat ≤ 70368744177664 then (num_nat_less.l0 k l1 (List.replicate ((l0.length : Int) : Int).toNat 0) 0 l0 (l0.length : Int) 0) else (none)) else (none)
theorem num_nat_less.mono_l : ∀ k, (∀ y0 y1 y2 y3 y4 y5, LeO (num_nat_less.l0 k y0 y1 y2 y3 y4 y5) (num_nat_less.l0 (k + 1) y0 y1 y2 y3 y4 y5))
 | 0 => fun _ _ _ _ _ _ r h => by simp [num_nat_less.l0] at h
 | k + 1 => by
  have ih0 := num_nat_less.mono_l k
  ·
   intro y0 y1 y2 y3 y4 y5
   unfold num_nat_less.l0
   repeat' (with_reducible first | apply ih0 | apply num_nat_trim.mono | apply LeO.refl | apply LeO.none | apply LeO.ite | refine LeO.bind ?_ (fun _ => ?_))
theorem num_nat_less.mono : ∀ a0 a1 k, LeO (num_nat_less.f k a0 a1) (num_nat_less.f (k + 1) a0 a1) := by
 intro a0 a1 k
 have ih0 := num_nat_less.mono_l k
 unfold num_nat_less.f
 repeat' (with_reducible first | apply ih0 | apply num_nat_trim.mono | apply LeO.refl | apply LeO.none | apply LeO.ite | refine LeO.bind ?_ (fun _ => ?_))
set_option maxHeartbeats 8000000 in
theorem num_nat_less.calls (k : Nat) (A0 : Option Addr) (c0 : Nat) (l0 : List Int) (A1 : Option Addr) (c1 : Nat) (l1 : List Int) (r : List Int) (w : World) (hr0 : Kd.C (Kd.int .u32) w A0 l0.length l0) (hc0 : l0.length ≤ c0) (hr1 : Kd.C (Kd.int .u32) w A1 l1.length l1) (hc1 : l1.length ≤ c1) (h : num_nat_less.f k l0 l1 = some r) :
  Calls Tryd.prog 87 #[.slice A0 l0.length c0, .slice A1 l1.length c1] w fun e w' => ∃ v0_ : Value, e = .returned (v0_) ∧ Kd.V (Kd.int .u32) 102 w' w.heap.size (fun k_ => (w.heap.size ≤ k_)) v0_ r ∧ Below w.heap.size w w' := by
 have HR0 := am hr0
 have HC0 := am hc0
 clear hr0 hc0
 have HR1 := am hr1
 have HC1 := am hc1
 clear hr1 hc1
 have HB := am (Below.refl w.heap.size w)
 have H : (if 0 ≤ (l0.length : Int) then (if ((l0.length : Int) : Int).toNat ≤ 70368744177664 then (num_nat_less.l0 k l1 (List.replicate ((l0.length : Int) : Int).toNat 0) 0 l0 (l0.length : Int) 0) else (none)) else (none)) = some r := h
 clear h
 by_cases c3 : 0 ≤ (l0.length : Int)
 ·
  rw [if_pos c3] at H
  have c3b0 := eq_true c3
  have c3b1 := dt c3
  clear c3
  by_cases c4 : ((l0.length : Int) : Int).toNat ≤ 70368744177664
  ·
   rw [if_pos c4] at H
   have c4b0 := eq_true c4
   have c4b1 := dt c4
   clear c4
   obtain ⟨y170, hy170⟩ : ∃ y_ : List Int, y_ = (List.replicate ((l0.length : Int) : Int).toNat 0) := ⟨_, rfl⟩
   replace H : (num_nat_less.l0 k l1 y170 0 l0 (l0.length : Int) 0) = some r := by first | (rw [hy170]; exact H) | exact H
   have Ny170 := am hy170
   clear hy170
   have H' := am H
   clear H
   go_enter Tryd.func87, Tryd.ntmps87
   go_wp2_with (first | ((with_reducible refine gate_dst (N := 12) rfl ?_); refine Kd.R_make (Kd.int .u32) _ 102 rfl (N := 12) rfl 56 _ _ rfl (l0.length : Int) rfl rfl Tryd.underlying56 (.int .u32 0) 4 info102 rfl (by decide) (by omega) 0 (ok := fun _ => True) (okp := fun _ => True) rfl (fun _ hk => hk) trivial (od) (Nat.le_trans (Nat.mul_le_mul_right _ (od : (l0.length : Int).toNat ≤ 70368744177664)) (by omega)) (Below.refl _ _) (Nat.le_refl _) ?_; intro v171 w5 ho6 hb hg_ hnew_; clear hg_ hnew_; (first | rw [← Ny170.out] at ho6 | (simp only [Int.reduceToNat] at ho6; rw [← Ny170.out] at ho6)); have HO172 := am (Kd.R_lower (Kd.R_newM (M := fun k_ => (w.heap.size ≤ k_)) ho6 (below_size (lk HB)) (fun k_ h_ => h_)) (below_size (lk HB))); replace HB := lb HB hb; clear hb ho6))
   go_loopg [6, 15] k (fun kq v6 v15 w' => ∃ (x5_1 : List Int) (x6_1 : Int) (x15_1 : Int), v6 = .int .u64 x6_1 ∧ v15 = .int .i64 x15_1 ∧ Aside0 (num_nat_less.l0 kq l1 x5_1 x6_1 l0 (l0.length : Int) x15_1 = some r) ∧ Aside0 (kq ≤ k) ∧ Aside0 (Kd.R (Kd.int .u32) 102 w' w.heap.size (fun k_ => (w.heap.size ≤ k_)) v171 x5_1) ∧ Aside0 (Below w.heap.size w w'))
   case atStart => exact ⟨(y170), (0), (0), eqd, eqd, H', ⟨Nat.le_refl _⟩, ⟨by exact ry <| Kd.R_mono HO172.out (fun _ hk => hk.1)⟩, ⟨lk HB⟩⟩
   case round =>
    clear H'
    obtain ⟨x5_1, x6_1, x15_1, rfl, rfl, HA, HK1, HO_5, HB⟩ := hrel
    cases gk with
    | zero => exact absurd HA.out (by simp [num_nat_less.l0])
    | succ k1 =>
     have H := HA.out
     clear HA
     simp only [num_nat_less.l0] at H
     by_cases c7 : x15_1 < (l0.length : Int)
     ·
      rw [if_pos c7] at H
      have c7b0 := dt c7
      clear c7
      by_cases c8 : 0 ≤ x15_1
      ·
       rw [if_pos c8] at H
       have c8b0 := dt c8
       clear c8
       by_cases c9 : x15_1 < (l0.length : Int)
       ·
        rw [if_pos c9] at H
        have c9b0 := dt c9
        clear c9
        by_cases c10 : x15_1 < (l1.length : Int)
        ·
         rw [if_pos c10] at H
         have c10b0 := dt c10
         clear c10
         by_cases c11 : x15_1 < (x5_1.length : Int)
         ·
          rw [if_pos c11] at H
          have c11b0 := dt c11
          clear c11
          obtain ⟨y175, hy175⟩ : ∃ y_ : List Int, y_ = (x5_1.set (x15_1 : Int).toNat ((IntKind.u64.wrap ((IntKind.u64.wrap ((IntKind.u64.wrap (rd l0 x15_1)) - x6_1)) - (IntKind.u64.wrap (rd l1 x15_1)))) % 4294967296)) := ⟨_, rfl⟩
          replace H : (num_nat_less.l0 k1 l1 y175 ((IntKind.u64.wrap ((IntKind.u64.wrap ((IntKind.u64.wrap (rd l0 x15_1)) - x6_1)) - (IntKind.u64.wrap (rd l1 x15_1)))) / 9223372036854775808) l0 (l0.length : Int) (wrap64 (x15_1 + 1))) = some r := by first | (rw [hy175]; exact H) | exact H
          have Ny175 := am hy175
          clear hy175
          have H' := am H
          clear H
          have p173 : 0 ≤ (x15_1 : Int) := od
          have q173 : x15_1 < (l0.length : Int) := od
          obtain ⟨ad173, e173, hx173_0⟩ := Kd.at_int HR0.out x15_1 p173 q173
          cases e173
          replace hx173_0 := (HB.out.cell (World.block_lt_of_cell? w _ hx173_0)).trans hx173_0
          replace p173 := eq_true p173
          replace q173 := eq_true q173
          have p174 : 0 ≤ (x15_1 : Int) := od
          have q174 : x15_1 < (l1.length : Int) := od
          obtain ⟨ad174, e174, hx174_0⟩ := Kd.at_int HR1.out x15_1 p174 q174
          cases e174
          replace hx174_0 := (HB.out.cell (World.block_lt_of_cell? w _ hx174_0)).trans hx174_0
          replace p174 := eq_true p174
          replace q174 := eq_true q174
          have p12 : 0 ≤ (x15_1 : Int) := od
          have q12 : (x15_1 : Int) < ((x5_1.length : Int) : Int) := od
          obtain ⟨go12, co12, eo12, gb12, gl12, cl12, HG12⟩ := Kd.R_form HO_5.out (by omega)
          (first | cases eo12 | (injection eo12 with ea_ en_ ec_; (first | subst ea_ | (injection ea_ with ea_; subst ea_)); subst ec_; clear en_))
          have GB12 := am gb12
          have GG12 := am HG12
          clear gb12 gl12 HG12
          obtain ⟨hx12_0, hf12_0⟩ := Kd.R_celln 0 HO_5.out (x15_1 : Int) p12 q12
          replace p12 := eq_true p12
          replace q12 := eq_true q12
          have HP13 := Kd.R_putg HO_5.out (x15_1 : Int) ((IntKind.u64.wrap ((IntKind.u64.wrap ((IntKind.u64.wrap (rd l0 x15_1)) - x6_1)) - (IntKind.u64.wrap (rd l1 x15_1)))) % 4294967296)
          go_wp2_with (first | ((with_reducible refine gate_store (t := 102) (p := 39) rfl ?_); refine store_event (t := 102) (p := 39) (v := ?vo_w14) (w1 := (wr.setCell ⟨go12, (x15_1 : Int).toNat, none⟩ (.int .u32 ((IntKind.u64.wrap ((IntKind.u64.wrap ((IntKind.u64.wrap (rd l0 x15_1)) - x6_1)) - (IntKind.u64.wrap (rd l1 x15_1)))) % 4294967296)))) ?hg ?ho ?hn ?hr ?_; (case ho => rfl); (case hg => rfl); (case hn => rfl); (case hr => first | (go_simp; done) | (go_simp; rfl)); intro w14 hw; have hg : wr.grownBy w14 (some go12) := (by rw [hw]; exact HP13.2); have hp_ : Kd.R (Kd.int .u32) 102 w14 w.heap.size (fun k_ => (w.heap.size ≤ k_)) (.slice (some ⟨go12, 0, none⟩) x5_1.length co12) y175 := (by rw [hw, Ny175.out]; exact HP13.1); clear HP13; replace HO_5 := am (hp_); replace HB := am ((by rw [hw]; exact below_set (HB.out) GB12.out : Below w.heap.size w w14)); clear hg hw hp_))
          go_roundg k1
          case measure => have := HK1.out; omega
          case rel => exact ⟨(y175), ((IntKind.u64.wrap ((IntKind.u64.wrap ((IntKind.u64.wrap (rd l0 x15_1)) - x6_1)) - (IntKind.u64.wrap (rd l1 x15_1)))) / 9223372036854775808), (wrap64 (x15_1 + 1)), eqd, eqd, H', ⟨by have := HK1.out; omega⟩, ⟨rk HO_5⟩, ⟨lk HB⟩⟩
         rw [if_neg c11] at H
         exact absurd H (by simp)
        rw [if_neg c10] at H
        have c10b0 := decide_eq_false c10
        clear c10
        by_cases c15 : x15_1 < (x5_1.length : Int)
        ·
         rw [if_pos c15] at H
         have c15b0 := dt c15
         clear c15
         obtain ⟨y176, hy176⟩ : ∃ y_ : List Int, y_ = (x5_1.set (x15_1 : Int).toNat ((IntKind.u64.wrap ((IntKind.u64.wrap (rd l0 x15_1)) - x6_1)) % 4294967296)) := ⟨_, rfl⟩
         replace H : (num_nat_less.l0 k1 l1 y176 ((IntKind.u64.wrap ((IntKind.u64.wrap (rd l0 x15_1)) - x6_1)) / 9223372036854775808) l0 (l0.length : Int) (wrap64 (x15_1 + 1))) = some r := by first | (rw [hy176]; exact H) | exact H
         have Ny176 := am hy176
         clear hy176
         have H' := am H
         clear H
         have p173 : 0 ≤ (x15_1 : Int) := od
         have q173 : x15_1 < (l0.length : Int) := od
         obtain ⟨ad173, e173, hx173_0⟩ := Kd.at_int HR0.out x15_1 p173 q173
         cases e173
         replace hx173_0 := (HB.out.cell (World.block_lt_of_cell? w _ hx173_0)).trans hx173_0
         replace p173 := eq_true p173
         replace q173 := eq_true q173
         have p16 : 0 ≤ (x15_1 : Int) := od
         have q16 : (x15_1 : Int) < ((x5_1.length : Int) : Int) := od
         obtain ⟨go16, co16, eo16, gb16, gl16, cl16, HG16⟩ := Kd.R_form HO_5.out (by omega)
         (first | cases eo16 | (injection eo16 with ea_ en_ ec_; (first | subst ea_ | (injection ea_ with ea_; subst ea_)); subst ec_; clear en_))
         have GB16 := am gb16
         have GG16 := am HG16
         clear gb16 gl16 HG16
         obtain ⟨hx16_0, hf16_0⟩ := Kd.R_celln 0 HO_5.out (x15_1 : Int) p16 q16
         replace p16 := eq_true p16
         replace q16 := eq_true q16
         have HP17 := Kd.R_putg HO_5.out (x15_1 : Int) ((IntKind.u64.wrap ((IntKind.u64.wrap (rd l0 x15_1)) - x6_1)) % 4294967296)
         go_wp2_with (first | ((with_reducible refine gate_store (t := 102) (p := 39) rfl ?_); refine store_event (t := 102) (p := 39) (v := ?vo_w18) (w1 := (wr.setCell ⟨go16, (x15_1 : Int).toNat, none⟩ (.int .u32 ((IntKind.u64.wrap ((IntKind.u64.wrap (rd l0 x15_1)) - x6_1)) % 4294967296)))) ?hg ?ho ?hn ?hr ?_; (case ho => rfl); (case hg => rfl); (case hn => rfl); (case hr => first | (go_simp; done) | (go_simp; rfl)); intro w18 hw; have hg : wr.grownBy w18 (some go16) := (by rw [hw]; exact HP17.2); have hp_ : Kd.R (Kd.int .u32) 102 w18 w.heap.size (fun k_ => (w.heap.size ≤ k_)) (.slice (some ⟨go16, 0, none⟩) x5_1.length co16) y176 := (by rw [hw, Ny176.out]; exact HP17.1); clear HP17; replace HO_5 := am (hp_); replace HB := am ((by rw [hw]; exact below_set (HB.out) GB16.out : Below w.heap.size w w18)); clear hg hw hp_))
         go_roundg k1
         case measure => have := HK1.out; omega
         case rel => exact ⟨(y176), ((IntKind.u64.wrap ((IntKind.u64.wrap (rd l0 x15_1)) - x6_1)) / 9223372036854775808), (wrap64 (x15_1 + 1)), eqd, eqd, H', ⟨by have := HK1.out; omega⟩, ⟨rk HO_5⟩, ⟨lk HB⟩⟩
        rw [if_neg c15] at H
        exact absurd H (by simp)
       rw [if_neg c9] at H
       exact absurd H (by simp)
      rw [if_neg c8] at H
      exact absurd H (by simp)
     rw [if_neg c7] at H
     have c7b0 := decide_eq_false c7
     clear c7
     replace H := bm H
     obtain ⟨t177, A190, H⟩ := H
     replace H : (some t177) = some r := H
     have A19 := am A190
     clear A190
     obtain rfl := Option.some.inj H
     obtain ⟨Ao20, co20, eo20⟩ := Kd.R_slice HO_5.out
     subst eo20
     go_wp2_with (first | (refine gL (some 44) Tryd.func82 #[.slice Ao20 x5_1.length co20] ?_; (with_reducible refine (num_nat_trim.calls k1 (fun k_ => some k_ = (.slice Ao20 x5_1.length co20 : Value).ownBlock) _ _ x5_1 t177 _ ?side1 A19.out).mono ?_); (case side1 => exact Kd.R_V (Kd.R_tight rfl (HO_5.out))); rintro e w21 ⟨v178, rfl, ho0, hb⟩; refine ⟨_, rfl, ?_⟩; have HO179 := am (Kd.V_lower (Kd.V_mono (ok' := fun k_ => (w.heap.size ≤ k_)) ho0 (fun k_ hk_ => Or.elim hk_ (fun hs_ => ((HO_5.out).1 k_ hs_.symm)) (fun hn_ => (Nat.le_trans (below_size (lk HB)) hn_)))) (below_size (lk HB))); replace HO_5 := am (Kd.R_below (rk HO_5) hb); replace HB := lb HB hb))
     go_ret
     exact ⟨_, by first | rfl | (simp [errW_none, errW_some] <;> rfl) | (simp [*, errW_none, errW_some] <;> rfl), vk HO179, lk HB⟩
  rw [if_neg c4] at H
  exact absurd H (by simp)
 rw [if_neg c3] at H
 exact absurd H (by simp)
def num_nat_against.l0 : Nat → List Int → List Int → Int → Option (Int)
 | 0, _, _, _ => none
 | k + 1, x0, x1, x5 => if x5 ≥ 0 then (if 0 ≤ x5 then (if x5 < (x0.length : Int) then (if x5 < (x1.length : Int) then (if (rd x0 x5) < (rd x1 x5) then (some (-1)) else (if (rd x0 x5) > (rd x1 x5) then (some 1) else (num_nat_against.l0 k x0 x1 (wrap64 (x5 - 1))))) else (none)) else (none)) else (none)) else (some 0)
def num_nat_against.f (k : Nat) (l0 : List Int) (l1 : List Int) : Option (Int) := if (l0.length : Int) < (l1.length : Int) then (some (-1)) else (if (l0.length : Int) > (l1.length : Int) then (some 1) else (num_nat_against.l0 k l0 l1 (wrap64 ((l0.length : Int) - 1))))
theorem num_nat_against.mono_l : ∀ k, (∀ y0 y1 y2, LeO (num_nat_against.l0 k y0 y1 y2) (num_nat_against.l0 (k + 1) y0 y1 y2))
 | 0 => fun _ _ _ r h => by simp [num_nat_against.l0] at h
 | k + 1 => by
  have ih0 := num_nat_against.mono_l k
  ·
   intro y0 y1 y2
   unfold num_nat_against.l0
   repeat' (with_reducible first | apply ih0 | apply LeO.refl | apply LeO.none | apply LeO.ite | refine LeO.bind ?_ (fun _ => ?_))
theorem num_nat_against.mono : ∀ a0 a1 k, LeO (num_nat_against.f k a0 a1) (num_nat_against.f (k + 1) a0 a1) := by
 intro a0 a1 k
 have ih0 := num_nat_against.mono_l k
 unfold num_nat_against.f
 repeat' (with_reducible first | apply ih0 | apply LeO.refl | apply LeO.none | apply LeO.ite | refine LeO.bind ?_ (fun _ => ?_))
set_option maxHeartbeats 8000000 in
theorem num_nat_against.calls (k : Nat) (A0 : Option Addr) (c0 : Nat) (l0 : List Int) (A1 : Option Addr) (c1 : Nat) (l1 : List Int) (r : Int) (w : World) (hr0 : Kd.C (Kd.int .u32) w A0 l0.length l0) (hc0 : l0.length ≤ c0) (hr1 : Kd.C (Kd.int .u32) w A1 l1.length l1) (hc1 : l1.length ≤ c1) (h : num_nat_against.f k l0 l1 = some r) :
  Calls Tryd.prog 49 #[.slice A0 l0.length c0, .slice A1 l1.length c1] w fun e w' => e = .returned (.int .i64 r) ∧ Drawn0 w w' := by
 have HR0 := am hr0
 have HC0 := am hc0
 clear hr0 hc0
 have HR1 := am hr1
 have HC1 := am hc1
 clear hr1 hc1
 have H : (if (l0.length : Int) < (l1.length : Int) then (some (-1)) else (if (l0.length : Int) > (l1.length : Int) then (some 1) else (num_nat_against.l0 k l0 l1 (wrap64 ((l0.length : Int) - 1))))) = some r := h
 clear h
 by_cases c3 : (l0.length : Int) < (l1.length : Int)
 ·
  rw [if_pos c3] at H
  have c3b0 := dt c3
  have c3b1 : decide (l0.length < l1.length) = true := dt (Int.ofNat_lt.mp c3)
  clear c3
  obtain rfl := Option.some.inj H
  go_enter Tryd.func49, Tryd.ntmps49
  go_wp2
  repeat (go_quiet (fail); try go_wp2)
  go_ret
  exact ⟨by first | rfl | (simp; done) | (simp [*]; done), by repeat (first | exact Drawn0.refl _ | apply Drawn0.step)⟩
 rw [if_neg c3] at H
 have c3b0 := decide_eq_false c3
 have c3b1 : decide (l0.length < l1.length) = false := decide_eq_false (fun h => c3 (Int.ofNat_lt.mpr h))
 clear c3
 by_cases c4 : (l0.length : Int) > (l1.length : Int)
 ·
  rw [if_pos c4] at H
  have c4b0 : decide ((l1.length : Int) < (l0.length : Int)) = true := dt c4
  have c4b1 : decide (l1.length < l0.length) = true := dt (Int.ofNat_lt.mp c4)
  clear c4
  obtain rfl := Option.some.inj H
  go_enter Tryd.func49, Tryd.ntmps49
  go_wp2
  repeat (go_quiet (fail); try go_wp2)
  go_ret
  exact ⟨by first | rfl | (simp; done) | (simp [*]; done), by repeat (first | exact Drawn0.refl _ | apply Drawn0.step)⟩
 rw [if_neg c4] at H
 have c4b0 : decide ((l1.length : Int) < (l0.length : Int)) = false := decide_eq_false c4
 have c4b1 : decide (l1.length < l0.length) = false := decide_eq_false (fun h => c4 (Int.ofNat_lt.mpr h))
 clear c4
 have H' := am H
 clear H
 go_enter Tryd.func49, Tryd.ntmps49
 go_wp2
 repeat (go_quiet (fail); try go_wp2)
 go_loopg [5] k (fun kq v5 w' => ∃ (x5_1 : Int), v5 = .int .i64 x5_1 ∧ Aside0 (num_nat_against.l0 kq l0 l1 x5_1 = some r) ∧ Aside0 (kq ≤ k) ∧ Drawn0 w w')
 case atStart => exact ⟨(wrap64 ((l0.length : Int) - 1)), eqd, H', ⟨Nat.le_refl _⟩, by repeat (first | exact Drawn0.refl _ | apply Drawn0.step)⟩
 case round =>
  clear H'
  obtain ⟨x5_1, rfl, HA, HK1, ⟨m1, rfl⟩⟩ := hrel
  cases gk with
  | zero => exact absurd HA.out (by simp [num_nat_against.l0])
  | succ k1 =>
   have H := HA.out
   clear HA
   simp only [num_nat_against.l0] at H
   by_cases c5 : x5_1 ≥ 0
   ·
    rw [if_pos c5] at H
    have c5b0 : decide (0 ≤ x5_1) = true := dt c5
    clear c5
    by_cases c6 : 0 ≤ x5_1
    ·
     rw [if_pos c6] at H
     have c6b0 := dt c6
     clear c6
     by_cases c7 : x5_1 < (l0.length : Int)
     ·
      rw [if_pos c7] at H
      have c7b0 := dt c7
      clear c7
      by_cases c8 : x5_1 < (l1.length : Int)
      ·
       rw [if_pos c8] at H
       have c8b0 := dt c8
       clear c8
       by_cases c9 : (rd l0 x5_1) < (rd l1 x5_1)
       ·
        rw [if_pos c9] at H
        have c9b0 := dt c9
        clear c9
        obtain rfl := Option.some.inj H
        have p166 : 0 ≤ (x5_1 : Int) := od
        have q166 : x5_1 < (l0.length : Int) := od
        obtain ⟨ad166, e166, hx166_0⟩ := Kd.at_int HR0.out x5_1 p166 q166
        cases e166
        replace p166 := eq_true p166
        replace q166 := eq_true q166
        have p167 : 0 ≤ (x5_1 : Int) := od
        have q167 : x5_1 < (l1.length : Int) := od
        obtain ⟨ad167, e167, hx167_0⟩ := Kd.at_int HR1.out x5_1 p167 q167
        cases e167
        replace p167 := eq_true p167
        replace q167 := eq_true q167
        go_wp2
        repeat (go_quiet (fail); try go_wp2)
        go_ret
        exact ⟨by first | rfl | (simp; done) | (simp [*]; done), by repeat (first | exact Drawn0.refl _ | apply Drawn0.step)⟩
       rw [if_neg c9] at H
       have c9b0 := decide_eq_false c9
       clear c9
       by_cases c10 : (rd l0 x5_1) > (rd l1 x5_1)
       ·
        rw [if_pos c10] at H
        have c10b0 : decide ((rd l1 x5_1) < (rd l0 x5_1)) = true := dt c10
        clear c10
        obtain rfl := Option.some.inj H
        have p166 : 0 ≤ (x5_1 : Int) := od
        have q166 : x5_1 < (l0.length : Int) := od
        obtain ⟨ad166, e166, hx166_0⟩ := Kd.at_int HR0.out x5_1 p166 q166
        cases e166
        replace p166 := eq_true p166
        replace q166 := eq_true q166
        have p167 : 0 ≤ (x5_1 : Int) := od
        have q167 : x5_1 < (l1.length : Int) := od
        obtain ⟨ad167, e167, hx167_0⟩ := Kd.at_int HR1.out x5_1 p167 q167
        cases e167
        replace p167 := eq_true p167
        replace q167 := eq_true q167
        have p168 : 0 ≤ (x5_1 : Int) := od
        have q168 : x5_1 < (l0.length : Int) := od
        obtain ⟨ad168, e168, hx168_0⟩ := Kd.at_int HR0.out x5_1 p168 q168
        obtain rfl : ad166 = ad168 := (by injection e168)
        replace p168 := eq_true p168
        replace q168 := eq_true q168
        have p169 : 0 ≤ (x5_1 : Int) := od
        have q169 : x5_1 < (l1.length : Int) := od
        obtain ⟨ad169, e169, hx169_0⟩ := Kd.at_int HR1.out x5_1 p169 q169
        obtain rfl : ad167 = ad169 := (by injection e169)
        replace p169 := eq_true p169
        replace q169 := eq_true q169
        go_wp2
        repeat (go_quiet (fail); try go_wp2)
        go_ret
        exact ⟨by first | rfl | (simp; done) | (simp [*]; done), by repeat (first | exact Drawn0.refl _ | apply Drawn0.step)⟩
       rw [if_neg c10] at H
       have c10b0 : decide ((rd l1 x5_1) < (rd l0 x5_1)) = false := decide_eq_false c10
       clear c10
       have H' := am H
       clear H
       have p166 : 0 ≤ (x5_1 : Int) := od
       have q166 : x5_1 < (l0.length : Int) := od
       obtain ⟨ad166, e166, hx166_0⟩ := Kd.at_int HR0.out x5_1 p166 q166
       cases e166
       replace p166 := eq_true p166
       replace q166 := eq_true q166
       have p167 : 0 ≤ (x5_1 : Int) := od
       have q167 : x5_1 < (l1.length : Int) := od
       obtain ⟨ad167, e167, hx167_0⟩ := Kd.at_int HR1.out x5_1 p167 q167
       cases e167
       replace p167 := eq_true p167
       replace q167 := eq_true q167
       have p168 : 0 ≤ (x5_1 : Int) := od
       have q168 : x5_1 < (l0.length : Int) := od
       obtain ⟨ad168, e168, hx168_0⟩ := Kd.at_int HR0.out x5_1 p168 q168
       obtain rfl : ad166 = ad168 := (by injection e168)
       replace p168 := eq_true p168
       replace q168 := eq_true q168
       have p169 : 0 ≤ (x5_1 : Int) := od
       have q169 : x5_1 < (l1.length : Int) := od
       obtain ⟨ad169, e169, hx169_0⟩ := Kd.at_int HR1.out x5_1 p169 q169
       obtain rfl : ad167 = ad169 := (by injection e169)
       replace p169 := eq_true p169
       replace q169 := eq_true q169
       go_wp2
       repeat (go_quiet (fail); try go_wp2)
       go_roundg k1
       case measure => have := HK1.out; omega
       case rel => exact ⟨(wrap64 (x5_1 - 1)), eqd, H', ⟨by have := HK1.out; omega⟩, by repeat (first | exact Drawn0.refl _ | apply Drawn0.step)⟩
      rw [if_neg c8] at H
      exact absurd H (by simp)
     rw [if_neg c7] at H
     exact absurd H (by simp)
    rw [if_neg c6] at H
    exact absurd H (by simp)
   rw [if_neg c5] at H
   have c5b0 : decide (0 ≤ x5_1) = false := decide_eq_false c5
   clear c5
   obtain rfl := Option.some.inj H
   go_wp2
   repeat (go_quiet (fail); try go_wp2)
   go_ret
   exact ⟨by first | rfl | (simp; done) | (simp [*]; done), by repeat (first | exact Drawn0.refl _ | apply Drawn0.step)⟩
def r_parts.f (a0 : Int) : Option (Int × Int) := if (wrap64 (Go.bits .and .u64 (a0 / 4503599627370496) 2047)) = 0 then (some (wrap64 (Go.bits .and .u64 a0 4503599627370495), (-1074))) else (some (wrap64 ((wrap64 (Go.bits .and .u64 a0 4503599627370495)) + 4503599627370496), wrap64 ((wrap64 (Go.bits .and .u64 (a0 / 4503599627370496) 2047)) - 1075)))
set_option maxHeartbeats 8000000 in
theorem r_parts.calls (a0 : Int) (r1 : Int) (r2 : Int) (w : World) (h : r_parts.f a0 = some (r1, r2)) :
  Calls Tryd.prog 88 #[.int .u64 a0] w fun e w' => e = .returned (.tuple #[.int .i64 r1, .int .i64 r2]) ∧ Drawn0 w w' := by
 have H : (if (wrap64 (Go.bits .and .u64 (a0 / 4503599627370496) 2047)) = 0 then (some (wrap64 (Go.bits .and .u64 a0 4503599627370495), (-1074))) else (some (wrap64 ((wrap64 (Go.bits .and .u64 a0 4503599627370495)) + 4503599627370496), wrap64 ((wrap64 (Go.bits .and .u64 (a0 / 4503599627370496) 2047)) - 1075)))) = some (r1, r2) := h
 clear h
 by_cases c2 : (wrap64 (Go.bits .and .u64 (a0 / 4503599627370496) 2047)) = 0
 ·
  rw [if_pos c2] at H
  have c2b0 : ((wrap64 (Go.bits .and .u64 (a0 / 4503599627370496) 2047)) == 0) = true := beq_iff_eq.mpr c2
  have c2b1 : ((wrap64 (Go.bits .and .u64 (a0 / 4503599627370496) 2047)) != 0) = false := bne_eq_false_iff_eq.mpr c2
  clear c2
  simp only [Option.some.injEq, Prod.mk.injEq] at H
  obtain ⟨rfl, rfl⟩ := H
  go_enter Tryd.func88, Tryd.ntmps88
  go_wp2
  go_ret2
  exact ⟨by first | rfl | (simp; done) | (simp [*]; done), by repeat (first | exact Drawn0.refl _ | apply Drawn0.step)⟩
 rw [if_neg c2] at H
 have c2b0 : ((wrap64 (Go.bits .and .u64 (a0 / 4503599627370496) 2047)) == 0) = false := beq_eq_false_iff_ne.mpr c2
 have c2b1 : ((wrap64 (Go.bits .and .u64 (a0 / 4503599627370496) 2047)) != 0) = true := bne_iff_ne.mpr c2
 simp only [Option.some.injEq, Prod.mk.injEq] at H
 obtain ⟨rfl, rfl⟩ := H
 go_enter Tryd.func88, Tryd.ntmps88
 go_wp2
 go_ret2
 exact ⟨by first | rfl | (simp; done) | (simp [*]; done), by repeat (first | exact Drawn0.refl _ | apply Drawn0.step)⟩
mutual
def r_times.l0 : Nat → List Int → Int → List Int → Int → Int → Option (List Int)
 | 0, _, _, _, _, _ => none
 | k + 1, x0, x1, x7, x8, x9 => if x9 < (x0.length : Int) then (if 0 ≤ x9 then (if x7.length < 17592186044416 then (r_times.l0 k x0 x1 (x7 ++ [Int.tmod (wrap64 ((wrap64 ((rd x0 x9) * x1)) + x8)) 10000]) (wrap64 (Int.tdiv (wrap64 ((wrap64 ((rd x0 x9) * x1)) + x8)) 10000)) (wrap64 (x9 + 1))) else (none)) else (none)) else (r_times.l1 k x7 x8)
def r_times.l1 : Nat → List Int → Int → Option (List Int)
 | 0, _, _ => none
 | k + 1, x7, x8 => if x8 > 0 then (if x7.length < 17592186044416 then (r_times.l1 k (x7 ++ [Int.tmod x8 10000]) (wrap64 (Int.tdiv x8 10000))) else (none)) else (some x7)
end
def r_times.f (k : Nat) (l0 : List Int) (a1 : Int) (a2 : Int) : Option (List Int) := r_times.l0 k l0 a1 ([] : List Int) a2 0
theorem r_times.mono_l : ∀ k, (∀ y0 y1 y2 y3 y4, LeO (r_times.l0 k y0 y1 y2 y3 y4) (r_times.l0 (k + 1) y0 y1 y2 y3 y4)) ∧ (∀ y0 y1, LeO (r_times.l1 k y0 y1) (r_times.l1 (k + 1) y0 y1))
 | 0 => ⟨fun _ _ _ _ _ r h => by simp [r_times.l0] at h, fun _ _ r h => by simp [r_times.l1] at h⟩
 | k + 1 => by
  obtain ⟨ih0, ih1⟩ := r_times.mono_l k
  refine ⟨?_, ?_⟩ <;> intros <;> (first | unfold r_times.l0 | unfold r_times.l1) <;> repeat' (with_reducible first | apply ih0 | apply ih1 | apply LeO.refl | apply LeO.none | apply LeO.ite | refine LeO.bind ?_ (fun _ => ?_))
theorem r_times.mono : ∀ a0 a1 a2 k, LeO (r_times.f k a0 a1 a2) (r_times.f (k + 1) a0 a1 a2) := by
 intro a0 a1 a2 k
 obtain ⟨ih0, ih1⟩ := r_times.mono_l k
 unfold r_times.f
 repeat' (with_reducible first | apply ih0 | apply ih1 | apply LeO.refl | apply LeO.none | apply LeO.ite | refine LeO.bind ?_ (fun _ => ?_))
set_option maxHeartbeats 8000000 in
theorem r_times.calls (k : Nat) (A0 : Option Addr) (c0 : Nat) (l0 : List Int) (a1 : Int) (a2 : Int) (r : List Int) (w : World) (hr0 : Kd.C (Kd.int .i64) w A0 l0.length l0) (hc0 : l0.length ≤ c0) (h : r_times.f k l0 a1 a2 = some r) :
  Calls Tryd.prog 56 #[.slice A0 l0.length c0, .int .i64 a1, .int .i64 a2] w fun e w' => ∃ v0_ : Value, e = .returned (v0_) ∧ Kd.R (Kd.int .i64) 3 w' w.heap.size (fun _ => True) v0_ r ∧ Below w.heap.size w w' := by
 have HR0 := am hr0
 have HC0 := am hc0
 clear hr0 hc0
 have HB := am (Below.refl w.heap.size w)
 have H : (r_times.l0 k l0 a1 ([] : List Int) a2 0) = some r := h
 clear h
 have H' := am H
 clear H
 go_enter Tryd.func56, Tryd.ntmps56
 go_wp2
 go_loopg [7, 8, 9] k (fun kq v7 v8 v9 w' => ∃ (x7_1 : List Int) (x8_1 : Int) (x9_1 : Int), v8 = .int .i64 x8_1 ∧ v9 = .int .i64 x9_1 ∧ Aside0 (r_times.l0 kq l0 a1 x7_1 x8_1 x9_1 = some r) ∧ Aside0 (kq ≤ k) ∧ Aside0 (Kd.R (Kd.int .i64) 3 w' w.heap.size (fun _ => True) v7 x7_1) ∧ Aside0 (Below w.heap.size w w'))
 case atStart => exact ⟨(([] : List Int)), (a2), (0), eqd, eqd, H', ⟨Nat.le_refl _⟩, ⟨by first | exact Kd.R_nil _ _ _ _ _ | exact Kd.N_nil _ _ _ _ _ | exact Kd.V_nil _ _ _ _ _ | exact Kd.Q_nil _ _ _ _ _ | exact Kd.S_nil _ _ _ _ _⟩, ⟨lk HB⟩⟩
 case round =>
  clear H'
  obtain ⟨x7_1, x8_1, x9_1, rfl, rfl, HA, HK1, HO_7, HB⟩ := hrel
  cases gk with
  | zero => exact absurd HA.out (by simp [r_times.l0])
  | succ k1 =>
   have H := HA.out
   clear HA
   simp only [r_times.l0] at H
   by_cases c4 : x9_1 < (l0.length : Int)
   ·
    rw [if_pos c4] at H
    have c4b0 := dt c4
    clear c4
    by_cases c5 : 0 ≤ x9_1
    ·
     rw [if_pos c5] at H
     have c5b0 := dt c5
     clear c5
     by_cases c6 : x7_1.length < 17592186044416
     ·
      rw [if_pos c6] at H
      have LMc6 := am c6
      clear c6
      obtain ⟨y292, hy292⟩ : ∃ y_ : List Int, y_ = (x7_1 ++ [Int.tmod (wrap64 ((wrap64 ((rd l0 x9_1) * a1)) + x8_1)) 10000]) := ⟨_, rfl⟩
      replace H : (r_times.l0 k1 l0 a1 y292 (wrap64 (Int.tdiv (wrap64 ((wrap64 ((rd l0 x9_1) * a1)) + x8_1)) 10000)) (wrap64 (x9_1 + 1))) = some r := by first | (rw [hy292]; exact H) | exact H
      have Ny292 := am hy292
      clear hy292
      have H' := am H
      clear H
      have p291 : 0 ≤ (x9_1 : Int) := od
      have q291 : x9_1 < (l0.length : Int) := od
      obtain ⟨ad291, e291, hx291_0⟩ := Kd.at_int HR0.out x9_1 p291 q291
      cases e291
      replace hx291_0 := (HB.out.cell (World.block_lt_of_cell? w _ hx291_0)).trans hx291_0
      replace p291 := eq_true p291
      replace q291 := eq_true q291
      go_wp2_with (first | ((with_reducible refine gate_builtin (b := .append) (xs := #[.tmp 26, .tmp 29]) rfl ?_); at_builtin; refine Kd.R_append (Kd.int .i64) (w0 := w) w.heap.size rfl (.tmp 26) (.tmp 29) 69 3 (.int .i64 0) 8 rfl Tryd.underlying69 info3 rfl (by decide) (by omega) u7 x7_1 (Int.tmod (wrap64 ((wrap64 ((rd l0 x9_1) * a1)) + x8_1)) 10000) [.int .i64 (Int.tmod (wrap64 ((wrap64 ((rd l0 x9_1) * a1)) + x8_1)) 10000)] (fun _ => True) (fun _ => False) rfl rfl ?aP (fun _ hk => hk.elim) ?aF ?aO ?aB ?aS ?aL ?_; (case aP => exact rfl); (case aB => exact (lk HB)); (case aF => exact (fun _ _ => trivial)); (case aO => exact (rk HO_7)); (case aS => exact (below_size (lk HB))); (case aL => have := LMc6.out; omega); intro v293 w7 ho hb hg hat; rw [← Ny292.out] at ho; replace HB := am (hb); have HO294 := am (ho); clear HO_7 ho hb hg hat))
      go_roundg k1
      case measure => have := HK1.out; omega
      case rel => exact ⟨(y292), (wrap64 (Int.tdiv (wrap64 ((wrap64 ((rd l0 x9_1) * a1)) + x8_1)) 10000)), (wrap64 (x9_1 + 1)), eqd, eqd, H', ⟨by have := HK1.out; omega⟩, ⟨rk HO294⟩, ⟨lk HB⟩⟩
     rw [if_neg c6] at H
     exact absurd H (by simp)
    rw [if_neg c5] at H
    exact absurd H (by simp)
   rw [if_neg c4] at H
   have c4b0 := decide_eq_false c4
   clear c4
   have H' := am H
   clear H
   go_wp2
   go_loopg [7, 8] k1 (fun kq v7 v8 w' => ∃ (x7_2 : List Int) (x8_2 : Int), v8 = .int .i64 x8_2 ∧ Aside0 (r_times.l1 kq x7_2 x8_2 = some r) ∧ Aside0 (kq ≤ k1) ∧ Aside0 (Kd.R (Kd.int .i64) 3 w' w.heap.size (fun _ => True) v7 x7_2) ∧ Aside0 (Below w.heap.size w w'))
   case atStart => exact ⟨(x7_1), (x8_1), eqd, H', ⟨Nat.le_refl _⟩, ⟨rk HO_7⟩, ⟨lk HB⟩⟩
   case round =>
    clear H'
    obtain ⟨x7_2, x8_2, rfl, HA, HK2, HO_7, HB⟩ := hrel
    cases gk with
    | zero => exact absurd HA.out (by simp [r_times.l1])
    | succ k2 =>
     have H := HA.out
     clear HA
     simp only [r_times.l1] at H
     by_cases c8 : x8_2 > 0
     ·
      rw [if_pos c8] at H
      have c8b0 : decide (0 < x8_2) = true := dt c8
      clear c8
      by_cases c9 : x7_2.length < 17592186044416
      ·
       rw [if_pos c9] at H
       have LMc9 := am c9
       clear c9
       obtain ⟨y295, hy295⟩ : ∃ y_ : List Int, y_ = (x7_2 ++ [Int.tmod x8_2 10000]) := ⟨_, rfl⟩
       replace H : (r_times.l1 k2 y295 (wrap64 (Int.tdiv x8_2 10000))) = some r := by first | (rw [hy295]; exact H) | exact H
       have Ny295 := am hy295
       clear hy295
       have H' := am H
       clear H
       go_wp2_with (first | ((with_reducible refine gate_builtin (b := .append) (xs := #[.tmp 35, .tmp 38]) rfl ?_); at_builtin; refine Kd.R_append (Kd.int .i64) (w0 := w) w.heap.size rfl (.tmp 35) (.tmp 38) 69 3 (.int .i64 0) 8 rfl Tryd.underlying69 info3 rfl (by decide) (by omega) u7 x7_2 (Int.tmod x8_2 10000) [.int .i64 (Int.tmod x8_2 10000)] (fun _ => True) (fun _ => False) rfl rfl ?aP (fun _ hk => hk.elim) ?aF ?aO ?aB ?aS ?aL ?_; (case aP => exact rfl); (case aB => exact (lk HB)); (case aF => exact (fun _ _ => trivial)); (case aO => exact (rk HO_7)); (case aS => exact (below_size (lk HB))); (case aL => have := LMc9.out; omega); intro v296 w10 ho hb hg hat; rw [← Ny295.out] at ho; replace HB := am (hb); have HO297 := am (ho); clear HO_7 ho hb hg hat))
       go_roundg k2
       case measure => have := HK1.out; have := HK2.out; omega
       case rel => exact ⟨(y295), (wrap64 (Int.tdiv x8_2 10000)), eqd, H', ⟨by have := HK1.out; have := HK2.out; omega⟩, ⟨rk HO297⟩, ⟨lk HB⟩⟩
      rw [if_neg c9] at H
      exact absurd H (by simp)
     rw [if_neg c8] at H
     have c8b0 : decide (0 < x8_2) = false := decide_eq_false c8
     clear c8
     obtain rfl := Option.some.inj H
     go_wp2
     go_ret
     exact ⟨_, by first | rfl | (simp [errW_none, errW_some] <;> rfl) | (simp [*, errW_none, errW_some] <;> rfl), rk HO_7, lk HB⟩
def r_of.f (k : Nat) (a0 : Int) : Option (List Int) := (r_times.f k ([] : List Int) 1 a0).bind fun t298 => (some t298)
theorem r_of.mono : ∀ a0 k, LeO (r_of.f k a0) (r_of.f (k + 1) a0) := by
 intro a0 k
 unfold r_of.f
 repeat' (with_reducible first | apply r_times.mono | apply LeO.refl | apply LeO.none | apply LeO.ite | refine LeO.bind ?_ (fun _ => ?_))
set_option maxHeartbeats 8000000 in
theorem r_of.calls (k : Nat) (a0 : Int) (r : List Int) (w : World) (h : r_of.f k a0 = some r) :
  Calls Tryd.prog 90 #[.int .i64 a0] w fun e w' => ∃ v0_ : Value, e = .returned (v0_) ∧ Kd.R (Kd.int .i64) 3 w' w.heap.size (fun _ => True) v0_ r ∧ Below w.heap.size w w' := by
 have HB := am (Below.refl w.heap.size w)
 have H : ((r_times.f k ([] : List Int) 1 a0).bind fun t298 => (some t298)) = some r := h
 clear h
 replace H := bm H
 obtain ⟨t298, A20, H⟩ := H
 replace H : (some t298) = some r := H
 have A2 := am A20
 clear A20
 obtain rfl := Option.some.inj H
 go_enter Tryd.func90, Tryd.ntmps90
 go_wp2_with (first | (refine gL (some 4) Tryd.func56 #[.slice none 0 0, .int .i64 1, .int .i64 a0] ?_; (refine (r_times.calls k _ _ ([] : List Int) 1 a0 t298 _ ?side1 ?side2 A2.out).mono ?_); (case side1 => exact Kd.C_nil _ _); (case side2 => exact Nat.le_refl _); rintro e w3 ⟨v299, rfl, ho0, hb⟩; refine ⟨_, rfl, ?_⟩; have HO300 := am (Kd.R_lower ho0 (below_size (lk HB))); replace HB := lb HB hb))
 go_ret
 exact ⟨_, by first | rfl | (simp [errW_none, errW_some] <;> rfl) | (simp [*, errW_none, errW_some] <;> rfl), rk HO300, lk HB⟩
mutual
def r_power.j1 : Nat → List Int → Int → Int → Option (List Int)
 | 0, _, _, _ => none
 | k + 1, x0, x1, x2 => if x1 = 10 then (if x2 ≥ 4 then (r_power.j2 k x0 x1 x2 (decide (0 < x0.length))) else (r_power.j2 k x0 x1 x2 false)) else (r_power.j2 k x0 x1 x2 false)
def r_power.j2 : Nat → List Int → Int → Int → Bool → Option (List Int)
 | 0, _, _, _, _ => none
 | k + 1, x0, x1, x2, x28 => if x28 = true then (if 0 ≤ (wrap64 (Int.tdiv x2 4)) then (if (wrap64 (Int.tdiv x2 4) : Int).toNat ≤ 35184372088832 then ((some (List.replicate (wrap64 (Int.tdiv x2 4) : Int).toNat 0 : List Int)).bind fun y304 => (if y304.length + x0.length < 17592186044416 then (r_power.j3 k (y304 ++ x0) x1 (Int.tmod x2 4)) else (none))) else (none)) else (none)) else (r_power.j3 k x0 x1 x2)
def r_power.j3 : Nat → List Int → Int → Int → Option (List Int)
 | 0, _, _, _ => none
 | k + 1, x0, x1, x2 => r_power.l1 k x0 x1 x2 0
def r_power.l1 : Nat → List Int → Int → Int → Int → Option (List Int)
 | 0, _, _, _, _ => none
 | k + 1, x0, x1, x2, x7 => if x7 < x2 then (if (x0.length : Int) > 0 then ((r_times.f k x0 x1 0).bind fun t310 => (r_power.l1 k t310 x1 x2 (wrap64 (x7 + 1)))) else (some x0)) else (some x0)
def r_power.l0 : Nat → List Int → Int → Int → Option (List Int)
 | 0, _, _, _ => none
 | k + 1, x0, x1, x2 => if x1 = 2 then (if x2 ≥ 13 then ((r_times.f k x0 8192 0).bind fun t301 => (r_power.l0 k t301 x1 (wrap64 (x2 - 13)))) else (r_power.j1 k x0 x1 x2)) else (r_power.j1 k x0 x1 x2)
end
def r_power.f (k : Nat) (l0 : List Int) (a1 : Int) (a2 : Int) : Option (List Int) := r_power.l0 k l0 a1 a2
theorem r_power.mono_l : ∀ k, (∀ y0 y1 y2, LeO (r_power.j1 k y0 y1 y2) (r_power.j1 (k + 1) y0 y1 y2)) ∧ (∀ y0 y1 y2 y3, LeO (r_power.j2 k y0 y1 y2 y3) (r_power.j2 (k + 1) y0 y1 y2 y3)) ∧ (∀ y0 y1 y2, LeO (r_power.j3 k y0 y1 y2) (r_power.j3 (k + 1) y0 y1 y2)) ∧ (∀ y0 y1 y2 y3, LeO (r_power.l1 k y0 y1 y2 y3) (r_power.l1 (k + 1) y0 y1 y2 y3)) ∧ (∀ y0 y1 y2, LeO (r_power.l0 k y0 y1 y2) (r_power.l0 (k + 1) y0 y1 y2))
 | 0 => ⟨fun _ _ _ r h => by simp [r_power.j1] at h, fun _ _ _ _ r h => by simp [r_power.j2] at h, fun _ _ _ r h => by simp [r_power.j3] at h, fun _ _ _ _ r h => by simp [r_power.l1] at h, fun _ _ _ r h => by simp [r_power.l0] at h⟩
 | k + 1 => by
  obtain ⟨ih0, ih1, ih2, ih3, ih4⟩ := r_power.mono_l k
  refine ⟨?_, ?_, ?_, ?_, ?_⟩ <;> intros <;> (first | unfold r_power.j1 | unfold r_power.j2 | unfold r_power.j3 | unfold r_power.l1 | unfold r_power.l0) <;> repeat' (with_reducible first | apply ih0 | apply ih1 | apply ih2 | apply ih3 | apply ih4 | apply r_times.mono | apply LeO.refl | apply LeO.none | apply LeO.ite | refine LeO.bind ?_ (fun _ => ?_))
theorem r_power.mono : ∀ a0 a1 a2 k, LeO (r_power.f k a0 a1 a2) (r_power.f (k + 1) a0 a1 a2) := by
 intro a0 a1 a2 k
 obtain ⟨ih0, ih1, ih2, ih3, ih4⟩ := r_power.mono_l k
 unfold r_power.f
 repeat' (with_reducible first | apply ih0 | apply ih1 | apply ih2 | apply ih3 | apply ih4 | apply r_times.mono | apply LeO.refl | apply LeO.none | apply LeO.ite | refine LeO.bind ?_ (fun _ => ?_))
set_option maxHeartbeats 8000000 in
theorem r_power.calls (k : Nat) (P0_ : Nat → Prop) (A0 : Option Addr) (c0 : Nat) (l0 : List Int) (a1 : Int) (a2 : Int) (r : List Int) (w : World) (hs0 : Kd.V (Kd.int .i64) 3 w w.heap.size (fun k_ => P0_ k_) (.slice A0 l0.length c0) l0) (h : r_power.f k l0 a1 a2 = some r) :
  Calls Tryd.prog 91 #[.slice A0 l0.length c0, .int .i64 a1, .int .i64 a2] w fun e w' => ∃ v0_ : Value, e = .returned (v0_) ∧ Kd.V (Kd.int .i64) 3 w' w.heap.size (fun k_ => (P0_ k_ ∨ w.heap.size ≤ k_)) v0_ r ∧ Below w.heap.size w w' := by
 have HO0 := am (show Kd.V (Kd.int .i64) 3 w w.heap.size (fun k_ => (P0_ k_ ∨ w.heap.size ≤ k_)) (.slice A0 l0.length c0) l0 from Kd.V_mono hs0 (fun k_ hk => .inl hk))
 have HB := am (Below.refl w.heap.size w)
 have H : (r_power.l0 k l0 a1 a2) = some r := h
 clear h
 have HC4 := am H
 clear H
 go_enter Tryd.func91, Tryd.ntmps91
 go_upto_block 0 with (fail)
 go_cut [0, 2] (fun v0 v2 wc => ∃ (kq : Nat) (x0_3 : List Int) (x2_3 : Int), v2 = .int .i64 x2_3 ∧ Aside0 (r_power.j1 kq x0_3 a1 x2_3 = some r) ∧ Aside0 (kq ≤ k) ∧ Aside0 (Kd.V (Kd.int .i64) 3 wc w.heap.size (fun k_ => (P0_ k_ ∨ w.heap.size ≤ k_)) v0 x0_3) ∧ Aside0 (Below w.heap.size w wc))
 case first =>
  have H := HC4.out
  clear HC4
  have H' := am H
  clear H
  go_wp2
  go_loopg [0, 2] k (fun kq v0 v2 w' => ∃ (x0_1 : List Int) (x2_1 : Int), v2 = .int .i64 x2_1 ∧ Aside0 (r_power.l0 kq x0_1 a1 x2_1 = some r) ∧ Aside0 (kq ≤ k) ∧ Aside0 (Kd.V (Kd.int .i64) 3 w' w.heap.size (fun k_ => (P0_ k_ ∨ w.heap.size ≤ k_)) v0 x0_1) ∧ Aside0 (Below w.heap.size w w'))
  case atStart => exact ⟨(l0), (a2), eqd, H', ⟨Nat.le_refl _⟩, ⟨vk HO0⟩, ⟨lk HB⟩⟩
  case round =>
   clear H'
   obtain ⟨x0_1, x2_1, rfl, HA, HK1, HO_0, HB⟩ := hrel
   cases gk with
   | zero => exact absurd HA.out (by simp [r_power.l0])
   | succ k1 =>
    have H := HA.out
    clear HA
    simp only [r_power.l0] at H
    by_cases c5 : a1 = 2
    ·
     rw [if_pos c5] at H
     have c5b0 : (a1 == 2) = true := beq_iff_eq.mpr c5
     have c5b1 : (a1 != 2) = false := bne_eq_false_iff_eq.mpr c5
     clear c5
     (first | rw [c5b0] | (simp only [i64_w, i32_w]; rw [c5b0]) | skip)
     by_cases c6 : x2_1 ≥ 13
     ·
      rw [if_pos c6] at H
      have c6b0 : decide (13 ≤ x2_1) = true := dt c6
      clear c6
      replace H := bm H
      obtain ⟨t301, A70, H⟩ := H
      have A7 := am A70
      clear A70
      have H' := am H
      clear H
      obtain ⟨Ao8, co8, eo8⟩ := Kd.V_slice HO_0.out
      subst eo8
      go_wp2_with (first | (refine gL (some 17) Tryd.func56 #[.slice Ao8 x0_1.length co8, .int .i64 8192, .int .i64 0] ?_; (with_reducible refine (r_times.calls k1 _ _ x0_1 8192 0 t301 _ ?side1 ?side2 A7.out).mono ?_); (case side1 => exact ck (Kd.V_reads' HO_0.out).2.2); (case side2 => exact (Kd.V_reads' HO_0.out).2.1); rintro e w9 ⟨v302, rfl, ho0, hb⟩; refine ⟨_, rfl, ?_⟩; replace HO_0 := am (Kd.V_elder' (vk HO_0) (Kd.R_base ho0) hb); have HO303 := am (Kd.R_lower (Kd.R_newM (M := fun k_ => (w.heap.size ≤ k_)) ho0 (below_size (lk HB)) (fun k_ h_ => h_)) (below_size (lk HB))); replace HB := lb HB hb))
      go_roundg k1
      case measure => have := HK1.out; omega
      case rel => exact ⟨(t301), (wrap64 (x2_1 - 13)), eqd, H', ⟨by have := HK1.out; omega⟩, ⟨Kd.V_mono (Kd.R_V (by exact ry <| Kd.R_mono HO303.out (fun _ hk => hk.1))) (fun k_ hk => by first | exact ⟨(.inr (hk.1)), hk.2⟩ | exact (.inr (hk)))⟩, ⟨lk HB⟩⟩
     rw [if_neg c6] at H
     have c6b0 : decide (13 ≤ x2_1) = false := decide_eq_false c6
     clear c6
     have H' := am H
     clear H
     go_wp2
     go_meet
     case rel => exact ⟨_, (x0_1), (x2_1), eqd, H', ⟨by have := HK1.out; first | omega | exact Nat.le_refl _⟩, ⟨vk HO_0⟩, ⟨lk HB⟩⟩
    rw [if_neg c5] at H
    have c5b0 : (a1 == 2) = false := beq_eq_false_iff_ne.mpr c5
    have c5b1 : (a1 != 2) = true := bne_iff_ne.mpr c5
    (first | rw [c5b0] | (simp only [i64_w, i32_w]; rw [c5b0]) | skip)
    have H' := am H
    clear H
    go_wp2
    go_meet
    case rel => exact ⟨_, (x0_1), (x2_1), eqd, H', ⟨by have := HK1.out; first | omega | exact Nat.le_refl _⟩, ⟨vk HO_0⟩, ⟨lk HB⟩⟩
 case rest =>
  clear HC4
  obtain ⟨kq, x0_3, x2_3, rfl, HA, HJ3, HO_0, HB⟩ := hcut
  cases kq with
  | zero => exact absurd HA.out (by simp [r_power.j1])
  | succ kj3 =>
   have H := HA.out
   clear HA
   simp only [r_power.j1] at H
   have HC10 := am H
   clear H
   go_upto_region 4 with (fail)
   go_cut [28] (fun v28 wc => ∃ (kq : Nat) (x28_9 : Bool), v28 = .bool x28_9 ∧ Aside0 (r_power.j2 kq x0_3 a1 x2_3 x28_9 = some r) ∧ Aside0 (kq ≤ kj3) ∧ Aside0 (Kd.V (Kd.int .i64) 3 wc w.heap.size (fun k_ => (P0_ k_ ∨ w.heap.size ≤ k_)) u0 x0_3) ∧ Aside0 (Below w.heap.size w wc))
   case first =>
    have H := HC10.out
    clear HC10
    by_cases c11 : a1 = 10
    ·
     rw [if_pos c11] at H
     have c11b0 : (a1 == 10) = true := beq_iff_eq.mpr c11
     have c11b1 : (a1 != 10) = false := bne_eq_false_iff_eq.mpr c11
     clear c11
     (first | rw [c11b0] | (simp only [i64_w, i32_w]; rw [c11b0]) | skip)
     by_cases c12 : x2_3 ≥ 4
     ·
      rw [if_pos c12] at H
      have c12b0 : decide (4 ≤ x2_3) = true := dt c12
      clear c12
      have H' := am H
      clear H
      obtain ⟨Ao13, co13, eo13⟩ := Kd.V_slice HO_0.out
      subst eo13
      go_wp2
      go_meet
      case rel => exact ⟨_, (decide (0 < x0_3.length)), eqd, H', ⟨by have := HJ3.out; first | omega | exact Nat.le_refl _⟩, ⟨vk HO_0⟩, ⟨lk HB⟩⟩
     rw [if_neg c12] at H
     have c12b0 : decide (4 ≤ x2_3) = false := decide_eq_false c12
     clear c12
     have H' := am H
     clear H
     go_wp2
     go_meet
     case rel => exact ⟨_, (false), eqd, H', ⟨by have := HJ3.out; first | omega | exact Nat.le_refl _⟩, ⟨vk HO_0⟩, ⟨lk HB⟩⟩
    rw [if_neg c11] at H
    have c11b0 : (a1 == 10) = false := beq_eq_false_iff_ne.mpr c11
    have c11b1 : (a1 != 10) = true := bne_iff_ne.mpr c11
    (first | rw [c11b0] | (simp only [i64_w, i32_w]; rw [c11b0]) | skip)
    have H' := am H
    clear H
    go_wp2
    go_meet
    case rel => exact ⟨_, (false), eqd, H', ⟨by have := HJ3.out; first | omega | exact Nat.le_refl _⟩, ⟨vk HO_0⟩, ⟨lk HB⟩⟩
   case rest =>
    clear HC10
    obtain ⟨kq, x28_9, rfl, HA, HJ9, HO_0, HB⟩ := hcut
    cases kq with
    | zero => exact absurd HA.out (by simp [r_power.j2])
    | succ kj9 =>
     have H := HA.out
     clear HA
     simp only [r_power.j2] at H
     have HC14 := am H
     clear H
     go_upto_if 28 with (fail)
     go_cut [0, 2] (fun v0 v2 wc => ∃ (kq : Nat) (x0_13 : List Int) (x2_13 : Int), v2 = .int .i64 x2_13 ∧ Aside0 (r_power.j3 kq x0_13 a1 x2_13 = some r) ∧ Aside0 (kq ≤ kj9) ∧ Aside0 (Kd.V (Kd.int .i64) 3 wc w.heap.size (fun k_ => (P0_ k_ ∨ w.heap.size ≤ k_)) v0 x0_13) ∧ Aside0 (Below w.heap.size w wc))
     case first =>
      have H := HC14.out
      clear HC14
      by_cases c15 : x28_9 = true
      ·
       subst c15
       rw [if_pos rfl] at H
       obtain ⟨ji16, hji16⟩ : ∃ j_ : Int, (wrap64 (Int.tdiv x2_3 4)) = j_ := ⟨_, rfl⟩
       replace H : (if 0 ≤ (ji16) then (if (ji16 : Int).toNat ≤ 35184372088832 then ((some (List.replicate (ji16 : Int).toNat 0 : List Int)).bind fun y304 => (if y304.length + x0_3.length < 17592186044416 then (r_power.j3 kj9 (y304 ++ x0_3) a1 (Int.tmod x2_3 4)) else (none))) else (none)) else (none)) = some r := by first | (rw [hji16] at H; exact H) | (simp only [hji16] at H ⊢; exact H)
       have hji16w : (IntKind.i64.wrap (Int.tdiv x2_3 4)) = ji16 := (i64_w _).trans hji16
       by_cases c17 : 0 ≤ (ji16)
       ·
        rw [if_pos c17] at H
        have c17b0 := eq_true c17
        have c17b1 := dt c17
        clear c17
        by_cases c18 : (ji16 : Int).toNat ≤ 35184372088832
        ·
         rw [if_pos c18] at H
         have c18b0 := eq_true c18
         have c18b1 := dt c18
         clear c18
         obtain ⟨y304, Ny304, H⟩ := yb H
         by_cases c19 : y304.length + x0_3.length < 17592186044416
         ·
          rw [if_pos c19] at H
          have LMc19 := am c19
          clear c19
          obtain ⟨y307, hy307⟩ : ∃ y_ : List Int, y_ = (y304 ++ x0_3) := ⟨_, rfl⟩
          replace H : (r_power.j3 kj9 y307 a1 (Int.tmod x2_3 4)) = some r := by first | (rw [hy307]; exact H) | exact H
          have Ny307 := am hy307
          clear hy307
          have H' := am H
          clear H
          go_wp2_with (first | ((with_reducible refine gate_dst (N := 31) rfl ?_); (try (refine gate_guard (by rfl) ?_; dsimp only)); refine Kd.R_make (Kd.int .i64) _ 3 rfl (N := 31) rfl 69 _ _ rfl ji16 rfl rfl Tryd.underlying69 (.int .i64 0) 8 info3 rfl (by decide) (by omega) 0 (ok := fun _ => True) (okp := fun _ => True) rfl (fun _ hk => hk) trivial (od) (Nat.le_trans (Nat.mul_le_mul_right _ (od : ji16.toNat ≤ 35184372088832)) (by omega)) (Below.refl _ _) (Nat.le_refl _) ?_; intro v305 w20 ho21 hb hg_ hnew_; clear hg_ hnew_; (first | rw [← Ny304.out] at ho21 | (simp only [Int.reduceToNat] at ho21; rw [← Ny304.out] at ho21)); replace HO_0 := am (Kd.V_elder' (vk HO_0) (Kd.R_base ho21) hb); have HO306 := am (Kd.R_lower (Kd.R_newM (M := fun k_ => (w.heap.size ≤ k_)) ho21 (below_size (lk HB)) (fun k_ h_ => h_)) (below_size (lk HB))); replace HB := lb HB hb; clear hb ho21; obtain ⟨Ao23, co23, eo23⟩ := Kd.V_slice HO_0.out; subst eo23) | ((with_reducible refine gate_builtin (b := .append) (xs := #[.tmp 31, .tmp 32]) rfl ?_); (try (refine gate_guard (by rfl) ?_; dsimp only)); at_builtin; refine Kd.R_append_rows (Kd.int .i64) (w0 := w) w.heap.size rfl (.tmp 31) (.tmp 32) 69 3 (.int .i64 0) 8 rfl Tryd.underlying69 info3 rfl (by decide) (by omega) v305 y304 x0_3 _ _ _ (fun k_ => (w.heap.size ≤ k_)) (fun _ => False) rfl rfl ?aO ?aR (fun _ _ h => h) (fun _ h => h.elim) ?aF ?aB ?aS ?aL ?_; (case aR => repeat (first | exact (Kd.V_reads' HO_0.out).2.2 | (with_reducible refine Kd.C_alloc ?_ _) | (with_reducible refine Kd.C_drewN ?_ _) | (with_reducible refine Kd.C_drew ?_))); (case aB => exact (lk HB)); (case aF => exact (fun k_ hk => (Nat.le_trans (below_size (lk HB)) hk))); (case aO => exact (by exact ry <| Kd.R_mono HO306.out (fun _ hk => hk.1))); (case aS => exact (below_size (lk HB))); (case aL => have := LMc19.out; omega); intro v308 w22 ho hb hg hat; rw [← Ny307.out] at ho; replace HO_0 := am (Kd.V_afterv (ok := (fun k_ => (P0_ k_ ∨ w.heap.size ≤ k_))) (vk HO_0) hg hat); replace HB := am (hb); have HO309 := am (ho); clear HO306 ho hb hg hat))
          go_meet
          case rel => exact ⟨_, (y307), (Int.tmod x2_3 4), eqd, H', ⟨by have := HJ3.out; have := HJ9.out; first | omega | exact Nat.le_refl _⟩, ⟨Kd.V_mono (Kd.R_V (rk HO309)) (fun k_ hk => by first | exact ⟨(.inr (hk.1)), hk.2⟩ | exact (.inr (hk)))⟩, ⟨lk HB⟩⟩
         rw [if_neg c19] at H
         exact absurd H (by simp)
        rw [if_neg c18] at H
        exact absurd H (by simp)
       rw [if_neg c17] at H
       exact absurd H (by simp)
      replace c15 := Bool.eq_false_iff.mpr c15
      subst c15
      rw [if_neg (show ¬ (false = true) by decide)] at H
      have H' := am H
      clear H
      go_wp2
      go_meet
      case rel => exact ⟨_, (x0_3), (x2_3), eqd, H', ⟨by have := HJ3.out; have := HJ9.out; first | omega | exact Nat.le_refl _⟩, ⟨vk HO_0⟩, ⟨lk HB⟩⟩
     case rest =>
      clear HC14
      obtain ⟨kq, x0_13, x2_13, rfl, HA, HJ13, HO_0, HB⟩ := hcut
      cases kq with
      | zero => exact absurd HA.out (by simp [r_power.j3])
      | succ kj13 =>
       have H := HA.out
       clear HA
       simp only [r_power.j3] at H
       have H' := am H
       clear H
       go_wp2
       go_loopg [0, 7] kj13 (fun kq v0 v7 w' => ∃ (x0_4 : List Int) (x7_4 : Int), v7 = .int .i64 x7_4 ∧ Aside0 (r_power.l1 kq x0_4 a1 x2_13 x7_4 = some r) ∧ Aside0 (kq ≤ kj13) ∧ Aside0 (Kd.V (Kd.int .i64) 3 w' w.heap.size (fun k_ => (P0_ k_ ∨ w.heap.size ≤ k_)) v0 x0_4) ∧ Aside0 (Below w.heap.size w w'))
       case atStart => exact ⟨(x0_13), (0), eqd, H', ⟨Nat.le_refl _⟩, ⟨vk HO_0⟩, ⟨lk HB⟩⟩
       case round =>
        clear H'
        obtain ⟨x0_4, x7_4, rfl, HA, HK4, HO_0, HB⟩ := hrel
        cases gk with
        | zero => exact absurd HA.out (by simp [r_power.l1])
        | succ k4 =>
         have H := HA.out
         clear HA
         simp only [r_power.l1] at H
         by_cases c24 : x7_4 < x2_13
         ·
          rw [if_pos c24] at H
          have c24b0 := dt c24
          clear c24
          by_cases c25 : (x0_4.length : Int) > 0
          ·
           rw [if_pos c25] at H
           have c25b0 : decide (0 < (x0_4.length : Int)) = true := dt c25
           have c25b1 : decide (0 < x0_4.length) = true := dt (by omega)
           clear c25
           replace H := bm H
           obtain ⟨t310, A260, H⟩ := H
           have A26 := am A260
           clear A260
           have H' := am H
           clear H
           obtain ⟨Ao27, co27, eo27⟩ := Kd.V_slice HO_0.out
           subst eo27
           go_wp2_with (first | (refine gL (some 48) Tryd.func56 #[.slice Ao27 x0_4.length co27, .int .i64 a1, .int .i64 0] ?_; (with_reducible refine (r_times.calls k4 _ _ x0_4 a1 0 t310 _ ?side1 ?side2 A26.out).mono ?_); (case side1 => exact ck (Kd.V_reads' HO_0.out).2.2); (case side2 => exact (Kd.V_reads' HO_0.out).2.1); rintro e w28 ⟨v311, rfl, ho0, hb⟩; refine ⟨_, rfl, ?_⟩; replace HO_0 := am (Kd.V_elder' (vk HO_0) (Kd.R_base ho0) hb); have HO312 := am (Kd.R_lower (Kd.R_newM (M := fun k_ => (w.heap.size ≤ k_)) ho0 (below_size (lk HB)) (fun k_ h_ => h_)) (below_size (lk HB))); replace HB := lb HB hb))
           go_roundg k4
           case measure => have := HJ3.out; have := HJ9.out; have := HJ13.out; have := HK4.out; omega
           case rel => exact ⟨(t310), (wrap64 (x7_4 + 1)), eqd, H', ⟨by have := HJ3.out; have := HJ9.out; have := HJ13.out; have := HK4.out; omega⟩, ⟨Kd.V_mono (Kd.R_V (by exact ry <| Kd.R_mono HO312.out (fun _ hk => hk.1))) (fun k_ hk => by first | exact ⟨(.inr (hk.1)), hk.2⟩ | exact (.inr (hk)))⟩, ⟨lk HB⟩⟩
          rw [if_neg c25] at H
          have c25b0 : decide (0 < (x0_4.length : Int)) = false := decide_eq_false c25
          have c25b1 : decide (0 < x0_4.length) = false := decide_eq_false (by omega)
          clear c25
          obtain rfl := Option.some.inj H
          obtain ⟨Ao29, co29, eo29⟩ := Kd.V_slice HO_0.out
          subst eo29
          go_wp2
          go_ret
          exact ⟨_, by first | rfl | (simp [errW_none, errW_some] <;> rfl) | (simp [*, errW_none, errW_some] <;> rfl), vk HO_0, lk HB⟩
         rw [if_neg c24] at H
         have c24b0 := decide_eq_false c24
         clear c24
         obtain rfl := Option.some.inj H
         go_wp2
         go_ret
         exact ⟨_, by first | rfl | (simp [errW_none, errW_some] <;> rfl) | (simp [*, errW_none, errW_some] <;> rfl), vk HO_0, lk HB⟩
def r_cmp.l0 : Nat → List Int → List Int → Int → Option (Int)
 | 0, _, _, _ => none
 | k + 1, x0, x1, x5 => if x5 ≥ 0 then (if 0 ≤ x5 then (if x5 < (x0.length : Int) then (if x5 < (x1.length : Int) then (if (rd x0 x5) = (rd x1 x5) then (r_cmp.l0 k x0 x1 (wrap64 (x5 - 1))) else (if (rd x0 x5) < (rd x1 x5) then (some (-1)) else (some 1))) else (none)) else (none)) else (none)) else (some 0)
def r_cmp.f (k : Nat) (l0 : List Int) (l1 : List Int) : Option (Int) := if (l0.length : Int) = (l1.length : Int) then (r_cmp.l0 k l0 l1 (wrap64 ((l0.length : Int) - 1))) else (if (l0.length : Int) < (l1.length : Int) then (some (-1)) else (some 1))
theorem r_cmp.mono_l : ∀ k, (∀ y0 y1 y2, LeO (r_cmp.l0 k y0 y1 y2) (r_cmp.l0 (k + 1) y0 y1 y2))
 | 0 => fun _ _ _ r h => by simp [r_cmp.l0] at h
 | k + 1 => by
  have ih0 := r_cmp.mono_l k
  ·
   intro y0 y1 y2
   unfold r_cmp.l0
   repeat' (with_reducible first | apply ih0 | apply LeO.refl | apply LeO.none | apply LeO.ite | refine LeO.bind ?_ (fun _ => ?_))
theorem r_cmp.mono : ∀ a0 a1 k, LeO (r_cmp.f k a0 a1) (r_cmp.f (k + 1) a0 a1) := by
 intro a0 a1 k
 have ih0 := r_cmp.mono_l k
 unfold r_cmp.f
 repeat' (with_reducible first | apply ih0 | apply LeO.refl | apply LeO.none | apply LeO.ite | refine LeO.bind ?_ (fun _ => ?_))
set_option maxHeartbeats 8000000 in
theorem r_cmp.calls (k : Nat) (A0 : Option Addr) (c0 : Nat) (l0 : List Int) (A1 : Option Addr) (c1 : Nat) (l1 : List Int) (r : Int) (w : World) (hr0 : Kd.C (Kd.int .i64) w A0 l0.length l0) (hc0 : l0.length ≤ c0) (hr1 : Kd.C (Kd.int .i64) w A1 l1.length l1) (hc1 : l1.length ≤ c1) (h : r_cmp.f k l0 l1 = some r) :
  Calls Tryd.prog 92 #[.slice A0 l0.length c0, .slice A1 l1.length c1] w fun e w' => e = .returned (.int .i64 r) ∧ Drawn0 w w' := by
 have HR0 := am hr0
 have HC0 := am hc0
 clear hr0 hc0
 have HR1 := am hr1
 have HC1 := am hc1
 clear hr1 hc1
 have H : (if (l0.length : Int) = (l1.length : Int) then (r_cmp.l0 k l0 l1 (wrap64 ((l0.length : Int) - 1))) else (if (l0.length : Int) < (l1.length : Int) then (some (-1)) else (some 1))) = some r := h
 clear h
 by_cases c3 : (l0.length : Int) = (l1.length : Int)
 ·
  rw [if_pos c3] at H
  have c3b0 : ((l0.length : Int) == (l1.length : Int)) = true := beq_iff_eq.mpr c3
  have c3b1 : ((l0.length : Int) != (l1.length : Int)) = false := bne_eq_false_iff_eq.mpr c3
  have c3b2 : (l0.length == l1.length) = true := by first | simpa using c3 | (simp at c3 ⊢; omega)
  clear c3
  have H' := am H
  clear H
  go_enter Tryd.func92, Tryd.ntmps92
  go_wp2
  repeat (go_quiet (fail); try go_wp2)
  go_loopg [5] k (fun kq v5 w' => ∃ (x5_1 : Int), v5 = .int .i64 x5_1 ∧ Aside0 (r_cmp.l0 kq l0 l1 x5_1 = some r) ∧ Aside0 (kq ≤ k) ∧ Drawn0 w w')
  case atStart => exact ⟨(wrap64 ((l0.length : Int) - 1)), eqd, H', ⟨Nat.le_refl _⟩, by repeat (first | exact Drawn0.refl _ | apply Drawn0.step)⟩
  case round =>
   clear H'
   obtain ⟨x5_1, rfl, HA, HK1, ⟨m1, rfl⟩⟩ := hrel
   cases gk with
   | zero => exact absurd HA.out (by simp [r_cmp.l0])
   | succ k1 =>
    have H := HA.out
    clear HA
    simp only [r_cmp.l0] at H
    by_cases c4 : x5_1 ≥ 0
    ·
     rw [if_pos c4] at H
     have c4b0 : decide (0 ≤ x5_1) = true := dt c4
     clear c4
     by_cases c5 : 0 ≤ x5_1
     ·
      rw [if_pos c5] at H
      have c5b0 := dt c5
      clear c5
      by_cases c6 : x5_1 < (l0.length : Int)
      ·
       rw [if_pos c6] at H
       have c6b0 := dt c6
       clear c6
       by_cases c7 : x5_1 < (l1.length : Int)
       ·
        rw [if_pos c7] at H
        have c7b0 := dt c7
        clear c7
        by_cases c8 : (rd l0 x5_1) = (rd l1 x5_1)
        ·
         rw [if_pos c8] at H
         have c8b0 : ((rd l0 x5_1) == (rd l1 x5_1)) = true := beq_iff_eq.mpr c8
         have c8b1 : ((rd l0 x5_1) != (rd l1 x5_1)) = false := bne_eq_false_iff_eq.mpr c8
         clear c8
         have H' := am H
         clear H
         have p313 : 0 ≤ (x5_1 : Int) := od
         have q313 : x5_1 < (l0.length : Int) := od
         obtain ⟨ad313, e313, hx313_0⟩ := Kd.at_int HR0.out x5_1 p313 q313
         cases e313
         replace p313 := eq_true p313
         replace q313 := eq_true q313
         have p314 : 0 ≤ (x5_1 : Int) := od
         have q314 : x5_1 < (l1.length : Int) := od
         obtain ⟨ad314, e314, hx314_0⟩ := Kd.at_int HR1.out x5_1 p314 q314
         cases e314
         replace p314 := eq_true p314
         replace q314 := eq_true q314
         go_wp2
         repeat (go_quiet (fail); try go_wp2)
         go_roundg k1
         case measure => have := HK1.out; omega
         case rel => exact ⟨(wrap64 (x5_1 - 1)), eqd, H', ⟨by have := HK1.out; omega⟩, by repeat (first | exact Drawn0.refl _ | apply Drawn0.step)⟩
        rw [if_neg c8] at H
        have c8b0 : ((rd l0 x5_1) == (rd l1 x5_1)) = false := beq_eq_false_iff_ne.mpr c8
        have c8b1 : ((rd l0 x5_1) != (rd l1 x5_1)) = true := bne_iff_ne.mpr c8
        by_cases c9 : (rd l0 x5_1) < (rd l1 x5_1)
        ·
         rw [if_pos c9] at H
         have c9b0 := dt c9
         clear c9
         obtain rfl := Option.some.inj H
         have p313 : 0 ≤ (x5_1 : Int) := od
         have q313 : x5_1 < (l0.length : Int) := od
         obtain ⟨ad313, e313, hx313_0⟩ := Kd.at_int HR0.out x5_1 p313 q313
         cases e313
         replace p313 := eq_true p313
         replace q313 := eq_true q313
         have p314 : 0 ≤ (x5_1 : Int) := od
         have q314 : x5_1 < (l1.length : Int) := od
         obtain ⟨ad314, e314, hx314_0⟩ := Kd.at_int HR1.out x5_1 p314 q314
         cases e314
         replace p314 := eq_true p314
         replace q314 := eq_true q314
         have p315 : 0 ≤ (x5_1 : Int) := od
         have q315 : x5_1 < (l0.length : Int) := od
         obtain ⟨ad315, e315, hx315_0⟩ := Kd.at_int HR0.out x5_1 p315 q315
         obtain rfl : ad313 = ad315 := (by injection e315)
         replace p315 := eq_true p315
         replace q315 := eq_true q315
         have p316 : 0 ≤ (x5_1 : Int) := od
         have q316 : x5_1 < (l1.length : Int) := od
         obtain ⟨ad316, e316, hx316_0⟩ := Kd.at_int HR1.out x5_1 p316 q316
         obtain rfl : ad314 = ad316 := (by injection e316)
         replace p316 := eq_true p316
         replace q316 := eq_true q316
         go_wp2
         repeat (go_quiet (fail); try go_wp2)
         go_ret
         exact ⟨by first | rfl | (simp; done) | (simp [*]; done), by repeat (first | exact Drawn0.refl _ | apply Drawn0.step)⟩
        rw [if_neg c9] at H
        have c9b0 := decide_eq_false c9
        clear c9
        obtain rfl := Option.some.inj H
        have p313 : 0 ≤ (x5_1 : Int) := od
        have q313 : x5_1 < (l0.length : Int) := od
        obtain ⟨ad313, e313, hx313_0⟩ := Kd.at_int HR0.out x5_1 p313 q313
        cases e313
        replace p313 := eq_true p313
        replace q313 := eq_true q313
        have p314 : 0 ≤ (x5_1 : Int) := od
        have q314 : x5_1 < (l1.length : Int) := od
        obtain ⟨ad314, e314, hx314_0⟩ := Kd.at_int HR1.out x5_1 p314 q314
        cases e314
        replace p314 := eq_true p314
        replace q314 := eq_true q314
        have p315 : 0 ≤ (x5_1 : Int) := od
        have q315 : x5_1 < (l0.length : Int) := od
        obtain ⟨ad315, e315, hx315_0⟩ := Kd.at_int HR0.out x5_1 p315 q315
        obtain rfl : ad313 = ad315 := (by injection e315)
        replace p315 := eq_true p315
        replace q315 := eq_true q315
        have p316 : 0 ≤ (x5_1 : Int) := od
        have q316 : x5_1 < (l1.length : Int) := od
        obtain ⟨ad316, e316, hx316_0⟩ := Kd.at_int HR1.out x5_1 p316 q316
        obtain rfl : ad314 = ad316 := (by injection e316)
        replace p316 := eq_true p316
        replace q316 := eq_true q316
        go_wp2
        repeat (go_quiet (fail); try go_wp2)
        go_ret
        exact ⟨by first | rfl | (simp; done) | (simp [*]; done), by repeat (first | exact Drawn0.refl _ | apply Drawn0.step)⟩
       rw [if_neg c7] at H
       exact absurd H (by simp)
      rw [if_neg c6] at H
      exact absurd H (by simp)
     rw [if_neg c5] at H
     exact absurd H (by simp)
    rw [if_neg c4] at H
    have c4b0 : decide (0 ≤ x5_1) = false := decide_eq_false c4
    clear c4
    obtain rfl := Option.some.inj H
    go_wp2
    repeat (go_quiet (fail); try go_wp2)
    go_ret
    exact ⟨by first | rfl | (simp; done) | (simp [*]; done), by repeat (first | exact Drawn0.refl _ | apply Drawn0.step)⟩
 rw [if_neg c3] at H
 have c3b0 : ((l0.length : Int) == (l1.length : Int)) = false := beq_eq_false_iff_ne.mpr c3
 have c3b1 : ((l0.length : Int) != (l1.length : Int)) = true := bne_iff_ne.mpr c3
 have c3b2 : (l0.length == l1.length) = false := by first | simpa using c3 | (simp at c3 ⊢; omega)
 by_cases c10 : (l0.length : Int) < (l1.length : Int)
 ·
  rw [if_pos c10] at H
  have c10b0 := dt c10
  have c10b1 : decide (l0.length < l1.length) = true := dt (Int.ofNat_lt.mp c10)
  clear c10
  obtain rfl := Option.some.inj H
  go_enter Tryd.func92, Tryd.ntmps92
  go_wp2
  repeat (go_quiet (fail); try go_wp2)
  go_ret
  exact ⟨by first | rfl | (simp; done) | (simp [*]; done), by repeat (first | exact Drawn0.refl _ | apply Drawn0.step)⟩
 rw [if_neg c10] at H
 have c10b0 := decide_eq_false c10
 have c10b1 : decide (l0.length < l1.length) = false := decide_eq_false (fun h => c10 (Int.ofNat_lt.mpr h))
 clear c10
 obtain rfl := Option.some.inj H
 go_enter Tryd.func92, Tryd.ntmps92
 go_wp2
 repeat (go_quiet (fail); try go_wp2)
 go_ret
 exact ⟨by first | rfl | (simp; done) | (simp [*]; done), by repeat (first | exact Drawn0.refl _ | apply Drawn0.step)⟩
def r_below.f (k : Nat) (a0 : Int) (a1 : Int) (l2_0 : List Int) (a2_1 : Int) : Option (Int) := (r_of.f k a0).bind fun t318 => (if a1 > 0 then ((r_power.f k t318 2 a1).bind fun t321 => (if a2_1 > 0 then ((r_power.f k l2_0 10 a2_1).bind fun t324 => ((r_cmp.f k t321 t324).bind fun t327 => (some t327))) else ((r_power.f k t321 10 (wrap64 (-a2_1))).bind fun t328 => ((r_cmp.f k t328 l2_0).bind fun t331 => (some t331))))) else ((r_power.f k l2_0 2 (wrap64 (-a1))).bind fun t332 => (if a2_1 > 0 then ((r_power.f k t332 10 a2_1).bind fun t335 => ((r_cmp.f k t318 t335).bind fun t338 => (some t338))) else ((r_power.f k t318 10 (wrap64 (-a2_1))).bind fun t339 => ((r_cmp.f k t339 t332).bind fun t342 => (some t342))))))
theorem r_below.mono : ∀ a0 a1 a2 a3 k, LeO (r_below.f k a0 a1 a2 a3) (r_below.f (k + 1) a0 a1 a2 a3) := by
 intro a0 a1 a2 a3 k
 unfold r_below.f
 repeat' (with_reducible first | apply r_cmp.mono | apply r_of.mono | apply r_power.mono | apply LeO.refl | apply LeO.none | apply LeO.ite | refine LeO.bind ?_ (fun _ => ?_))
set_option maxHeartbeats 8000000 in
theorem r_below.calls (k : Nat) (a0 : Int) (a1 : Int) (A2_0 : Option Addr) (c2_0 : Nat) (l2_0 : List Int) (a2_1 : Int) (r : Int) (w : World) (hr2_0 : Kd.C (Kd.int .i64) w A2_0 l2_0.length l2_0) (hc2_0 : l2_0.length ≤ c2_0) (h : r_below.f k a0 a1 l2_0 a2_1 = some r) :
  Calls Tryd.prog 89 #[.int .i64 a0, .int .i64 a1, .agg #[.slice A2_0 l2_0.length c2_0, .int .i64 a2_1]] w fun e w' => e = .returned (.int .i64 r) ∧ Below w.heap.size w w' := by
 have hu72 := Tryd.underlying72
 have HR2_0 := am hr2_0
 have HC2_0 := am hc2_0
 clear hr2_0 hc2_0
 have HB := am (Below.refl w.heap.size w)
 have H : ((r_of.f k a0).bind fun t318 => (if a1 > 0 then ((r_power.f k t318 2 a1).bind fun t321 => (if a2_1 > 0 then ((r_power.f k l2_0 10 a2_1).bind fun t324 => ((r_cmp.f k t321 t324).bind fun t327 => (some t327))) else ((r_power.f k t321 10 (wrap64 (-a2_1))).bind fun t328 => ((r_cmp.f k t328 l2_0).bind fun t331 => (some t331))))) else ((r_power.f k l2_0 2 (wrap64 (-a1))).bind fun t332 => (if a2_1 > 0 then ((r_power.f k t332 10 a2_1).bind fun t335 => ((r_cmp.f k t318 t335).bind fun t338 => (some t338))) else ((r_power.f k t318 10 (wrap64 (-a2_1))).bind fun t339 => ((r_cmp.f k t339 t332).bind fun t342 => (some t342))))))) = some r := h
 clear h
 replace H := bm H
 obtain ⟨t318, A40, H⟩ := H
 have A4 := am A40
 clear A40
 by_cases c5 : a1 > 0
 ·
  rw [if_pos c5] at H
  have c5b0 : decide (0 < a1) = true := dt c5
  clear c5
  replace H := bm H
  obtain ⟨t321, A60, H⟩ := H
  have A6 := am A60
  clear A60
  by_cases c7 : a2_1 > 0
  ·
   rw [if_pos c7] at H
   have c7b0 : decide (0 < a2_1) = true := dt c7
   clear c7
   replace H := bm H
   obtain ⟨t324, A80, H⟩ := H
   have A8 := am A80
   clear A80
   replace H := bm H
   obtain ⟨t327, A90, H⟩ := H
   replace H : (some t327) = some r := H
   have A9 := am A90
   clear A90
   obtain rfl := Option.some.inj H
   go_enter Tryd.func89, Tryd.ntmps89
   try go_wp2_with (first | ((with_reducible refine gate_dst (N := 5) rfl ?_); refine box_event ?hg (N := 5) ?hd (cs := #[.slice A2_0 l2_0.length c2_0, .int .i64 a2_1]) (t := 72) ?hr ?_; (case hd => rfl); (case hg => rfl); (case hr => first | (go_simp; done) | (go_simp; rfl)); intro gb317 hg w10 hbox hb; have BK317 := am (hbox); have GW317 := am ((by rw [hg]; exact (below_size (lk HB)) : w.heap.size ≤ gb317)); have GE317 := GW317; replace HB := lb HB hb; clear hb hbox hg))
   have n0_ := am (blk_drew BK317.out)
   have n1_ := am (below_drew1 HB.out)
   clear BK317
   clear HB
   have BK317 := n0_
   have HB := n1_
   clear n0_ n1_
   refine start_ (n := 6) (S := fun w' => w'.cell? ⟨gb317, 0, none⟩ = some (.slice A2_0 l2_0.length c2_0) ∧ w'.cell? ⟨gb317, 1, none⟩ = some (.int .i64 a2_1)) (ds := []) #[false, false, false, false, false, false] (by kernel_rfl) rfl rfl ⟨(blk_cell BK317.out 0).trans rfl, (blk_cell BK317.out 1).trans rfl⟩ (fun hHeld => ?_)
   generalize w10.drew = w11 at BK317 HB hHeld ⊢
   refine pure_ (i := 0) (N := some 9) (v := ?_) (a' := ?_) #[true, false, false, false, false, false] rfl rfl (by kernel_rfl) (fun _ _ _ h => h) (Or.inl ⟨by rfl, ?_⟩) ?_ ?_
   rotate_left
   ·
    intro w'
    go_simp
    with_reducible rfl
   rotate_left
   ·
    exact pz
   refine pure_ (i := 2) (N := some 11) (v := ?_) (a' := ?_) #[true, false, true, false, false, false] rfl rfl (by kernel_rfl) (fun _ _ _ h => h) (Or.inl ⟨by rfl, ?_⟩) ?_ ?_
   rotate_left
   ·
    intro w'
    go_simp
    with_reducible rfl
   rotate_left
   ·
    exact pz
   refine take_ (i := 3) (N := some 12) (v := ?_) (a' := ?_) #[true, false, true, true, false, false] rfl rfl (by kernel_rfl) (fun _ _ _ h => h) (Or.inl ⟨by rfl, ?_⟩) hHeld ?_ ?_
   rotate_left
   ·
    rintro w' ⟨s0, s1⟩
    go_simp
    with_reducible rfl
   rotate_left
   ·
    exact pz
   refine one_ (i := 1) (N := some 10) #[true, true, true, true, false, false] rfl rfl (by kernel_rfl) (by decide) (fun K hK => ?_)
   refine goes_ Tryd.func90 (by kernel_rfl) rfl #[.int .i64 a0] (by rfl) rfl rfl (by (try simp only [List.map_toArray, List.map_cons, List.map_nil]); first | done | rfl | (simp only [List.length_drop, List.length_take]; rfl) | (simp [Act.eval, Hd.wrap_u8]; done)) ?_
   with_reducible refine (r_of.calls k a0 t318 _ A4.out).mono ?_
   rintro e w12 ⟨v319, rfl, ho0, hb⟩
   refine ⟨_, rfl, ?_⟩
   have n0_ := am (Kd.R_lower ho0 (below_size (lk HB)))
   have n1_ := bb BK317 hb
   have n2_ := lb HB hb
   clear BK317
   clear HB
   have HO320 := n0_
   have BK317 := n1_
   have HB := n2_
   clear n0_ n1_ n2_
   (try clear hb)
   (try clear hb2)
   (try clear hk)
   (try clear hi)
   (try clear ho0)
   refine hK.out _ _ ⟨(blk_cell BK317.out 0).trans rfl, (blk_cell BK317.out 1).trans rfl⟩ (fun hHeld => ?_)
   clear hK K
   refine norm_ (a' := ?_) ?_ ?_
   rotate_left
   ·
    show Act.put _ (some 10) _ = _
    exact pz
   refine pure_ (i := 4) (N := some 7) (v := ?_) (a' := ?_) #[true, true, true, true, true, false] rfl rfl (by kernel_rfl) (fun _ _ _ h => h) (Or.inl ⟨by rfl, ?_⟩) ?_ ?_
   rotate_left
   ·
    intro w'
    go_simp
    with_reducible rfl
   rotate_left
   ·
    exact pz
   refine pure_ (i := 5) (N := some 8) (v := ?_) (a' := ?_) #[true, true, true, true, true, true] rfl rfl (by kernel_rfl) (fun _ _ _ h => h) (Or.inl ⟨by rfl, ?_⟩) ?_ ?_
   rotate_left
   ·
    intro w'
    go_simp
    with_reducible rfl
   rotate_left
   ·
    exact pz
   refine done_ (by kernel_rfl) ?_
   obtain ⟨Ao13, co13, eo13⟩ := Kd.R_slice HO320.out
   subst eo13
   try go_wp2_with (first | (refine gL (some 17) Tryd.func91 #[.slice Ao13 t318.length co13, .int .i64 2, .int .i64 a1] ?_; (with_reducible refine (r_power.calls k (fun k_ => some k_ = (.slice Ao13 t318.length co13 : Value).ownBlock) _ _ t318 2 a1 t321 _ ?side1 A6.out).mono ?_); (case side1 => exact Kd.R_V (Kd.R_tight rfl (Kd.R_types (HO320.out) BK317.out (by decide)))); rintro e w14 ⟨v322, rfl, ho0, hb⟩; refine ⟨_, rfl, ?_⟩; have HO323 := am (Kd.V_lower (Kd.V_mono (ok' := fun k_ => k_ ≠ gb317) ho0 (fun k_ hk_ => Or.elim hk_ (fun hs_ => ((Kd.R_types (HO320.out) BK317.out (by decide)).1 k_ hs_.symm).2) (fun hn_ => (Kd.freshB (bk BK317) k_ hn_)))) (below_size (lk HB))); replace HO320 := am (Kd.R_below (rk HO320) hb); replace BK317 := bb BK317 hb; replace HB := lb HB hb; have hcz15_0 : w14.cell? ⟨gb317, 0, none⟩ = some (.slice A2_0 l2_0.length c2_0) := (blk_cell BK317.out 0).trans rfl; have hcz15_1 : w14.cell? ⟨gb317, 1, none⟩ = some (.int .i64 a2_1) := (blk_cell BK317.out 1).trans rfl; have hfz15_0 := blk_frozen BK317.out 0; have hfz15_1 := blk_frozen BK317.out 1) | (refine gL (some 28) Tryd.func91 #[.slice A2_0 l2_0.length c2_0, .int .i64 10, .int .i64 a2_1] ?_; (with_reducible refine (r_power.calls k (fun k_ => k_ < w.heap.size) _ _ l2_0 10 a2_1 t324 _ ?side1 A8.out).mono ?_); (case side1 => exact Kd.V_mk HC2_0.out (Kd.F_below (Kd.C_F (Kd.heap_int .i64) HR2_0.out) (lk HB))); rintro e w16 ⟨v325, rfl, ho0, hb⟩; refine ⟨_, rfl, ?_⟩; replace HO323 := vb HO323 hb; have HO326 := am (Kd.V_lower (Kd.V_mono (ok' := fun k_ => some k_ ≠ (.slice Ao13 t318.length co13 : Value).ownBlock ∧ k_ ≠ gb317) ho0 (fun k_ hk_ => ⟨Or.elim hk_ (fun hs_ => fun e_ => Nat.not_le.2 hs_ (Kd.R_base HO320.out k_ e_.symm)) (fun hn_ => (Kd.fresh' (Kd.R_lt (rk HO320)) k_ hn_)), Or.elim hk_ (fun hs_ => fun e_ => Nat.not_le.2 hs_ (by rw [e_]; exact GW317.out)) (fun hn_ => (Kd.freshB (bk BK317) k_ hn_))⟩)) (below_size (lk HB))); replace HO320 := am (Kd.R_below (rk HO320) hb); replace BK317 := bb BK317 hb; replace HB := lb HB hb; obtain ⟨Ao17, co17, eo17⟩ := Kd.V_slice HO323.out; subst eo17; obtain ⟨Ao18, co18, eo18⟩ := Kd.V_slice HO326.out; subst eo18) | (refine gL (some 36) Tryd.func92 #[.slice Ao17 t321.length co17, .slice Ao18 t324.length co18] ?_; (with_reducible refine (r_cmp.calls k _ _ t321 _ _ t324 t327 _ ?side1 ?side2 ?side3 ?side4 A9.out).mono ?_); (case side1 => exact ck (Kd.V_reads' HO323.out).2.2); (case side2 => exact (Kd.V_reads' HO323.out).2.1); (case side3 => exact ck (Kd.V_reads' HO326.out).2.2); (case side4 => exact (Kd.V_reads' HO326.out).2.1); rintro e w' ⟨rfl, ⟨nd, rfl⟩⟩; refine ⟨_, rfl, ?_⟩))
   go_ret
   exact ex (lk HB)
  rw [if_neg c7] at H
  have c7b0 : decide (0 < a2_1) = false := decide_eq_false c7
  clear c7
  replace H := bm H
  obtain ⟨t328, A190, H⟩ := H
  have A19 := am A190
  clear A190
  replace H := bm H
  obtain ⟨t331, A200, H⟩ := H
  replace H : (some t331) = some r := H
  have A20 := am A200
  clear A200
  obtain rfl := Option.some.inj H
  go_enter Tryd.func89, Tryd.ntmps89
  try go_wp2_with (first | ((with_reducible refine gate_dst (N := 5) rfl ?_); refine box_event ?hg (N := 5) ?hd (cs := #[.slice A2_0 l2_0.length c2_0, .int .i64 a2_1]) (t := 72) ?hr ?_; (case hd => rfl); (case hg => rfl); (case hr => first | (go_simp; done) | (go_simp; rfl)); intro gb317 hg w21 hbox hb; have BK317 := am (hbox); have GW317 := am ((by rw [hg]; exact (below_size (lk HB)) : w.heap.size ≤ gb317)); have GE317 := GW317; replace HB := lb HB hb; clear hb hbox hg))
  have n0_ := am (blk_drew BK317.out)
  have n1_ := am (below_drew1 HB.out)
  clear BK317
  clear HB
  have BK317 := n0_
  have HB := n1_
  clear n0_ n1_
  refine start_ (n := 6) (S := fun w' => w'.cell? ⟨gb317, 0, none⟩ = some (.slice A2_0 l2_0.length c2_0) ∧ w'.cell? ⟨gb317, 1, none⟩ = some (.int .i64 a2_1)) (ds := []) #[false, false, false, false, false, false] (by kernel_rfl) rfl rfl ⟨(blk_cell BK317.out 0).trans rfl, (blk_cell BK317.out 1).trans rfl⟩ (fun hHeld => ?_)
  generalize w21.drew = w22 at BK317 HB hHeld ⊢
  refine pure_ (i := 0) (N := some 9) (v := ?_) (a' := ?_) #[true, false, false, false, false, false] rfl rfl (by kernel_rfl) (fun _ _ _ h => h) (Or.inl ⟨by rfl, ?_⟩) ?_ ?_
  rotate_left
  ·
   intro w'
   go_simp
   with_reducible rfl
  rotate_left
  ·
   exact pz
  refine pure_ (i := 2) (N := some 11) (v := ?_) (a' := ?_) #[true, false, true, false, false, false] rfl rfl (by kernel_rfl) (fun _ _ _ h => h) (Or.inl ⟨by rfl, ?_⟩) ?_ ?_
  rotate_left
  ·
   intro w'
   go_simp
   with_reducible rfl
  rotate_left
  ·
   exact pz
  refine take_ (i := 3) (N := some 12) (v := ?_) (a' := ?_) #[true, false, true, true, false, false] rfl rfl (by kernel_rfl) (fun _ _ _ h => h) (Or.inl ⟨by rfl, ?_⟩) hHeld ?_ ?_
  rotate_left
  ·
   rintro w' ⟨s0, s1⟩
   go_simp
   with_reducible rfl
  rotate_left
  ·
   exact pz
  refine one_ (i := 1) (N := some 10) #[true, true, true, true, false, false] rfl rfl (by kernel_rfl) (by decide) (fun K hK => ?_)
  refine goes_ Tryd.func90 (by kernel_rfl) rfl #[.int .i64 a0] (by rfl) rfl rfl (by (try simp only [List.map_toArray, List.map_cons, List.map_nil]); first | done | rfl | (simp only [List.length_drop, List.length_take]; rfl) | (simp [Act.eval, Hd.wrap_u8]; done)) ?_
  with_reducible refine (r_of.calls k a0 t318 _ A4.out).mono ?_
  rintro e w23 ⟨v319, rfl, ho0, hb⟩
  refine ⟨_, rfl, ?_⟩
  have n0_ := am (Kd.R_lower ho0 (below_size (lk HB)))
  have n1_ := bb BK317 hb
  have n2_ := lb HB hb
  clear BK317
  clear HB
  have HO320 := n0_
  have BK317 := n1_
  have HB := n2_
  clear n0_ n1_ n2_
  (try clear hb)
  (try clear hb2)
  (try clear hk)
  (try clear hi)
  (try clear ho0)
  refine hK.out _ _ ⟨(blk_cell BK317.out 0).trans rfl, (blk_cell BK317.out 1).trans rfl⟩ (fun hHeld => ?_)
  clear hK K
  refine norm_ (a' := ?_) ?_ ?_
  rotate_left
  ·
   show Act.put _ (some 10) _ = _
   exact pz
  refine pure_ (i := 4) (N := some 7) (v := ?_) (a' := ?_) #[true, true, true, true, true, false] rfl rfl (by kernel_rfl) (fun _ _ _ h => h) (Or.inl ⟨by rfl, ?_⟩) ?_ ?_
  rotate_left
  ·
   intro w'
   go_simp
   with_reducible rfl
  rotate_left
  ·
   exact pz
  refine pure_ (i := 5) (N := some 8) (v := ?_) (a' := ?_) #[true, true, true, true, true, true] rfl rfl (by kernel_rfl) (fun _ _ _ h => h) (Or.inl ⟨by rfl, ?_⟩) ?_ ?_
  rotate_left
  ·
   intro w'
   go_simp
   with_reducible rfl
  rotate_left
  ·
   exact pz
  refine done_ (by kernel_rfl) ?_
  obtain ⟨Ao24, co24, eo24⟩ := Kd.R_slice HO320.out
  subst eo24
  try go_wp2_with (first | (refine gL (some 17) Tryd.func91 #[.slice Ao24 t318.length co24, .int .i64 2, .int .i64 a1] ?_; (with_reducible refine (r_power.calls k (fun k_ => some k_ = (.slice Ao24 t318.length co24 : Value).ownBlock) _ _ t318 2 a1 t321 _ ?side1 A6.out).mono ?_); (case side1 => exact Kd.R_V (Kd.R_tight rfl (Kd.R_types (HO320.out) BK317.out (by decide)))); rintro e w25 ⟨v322, rfl, ho0, hb⟩; refine ⟨_, rfl, ?_⟩; have HO323 := am (Kd.V_lower (Kd.V_mono (ok' := fun k_ => k_ ≠ gb317) ho0 (fun k_ hk_ => Or.elim hk_ (fun hs_ => ((Kd.R_types (HO320.out) BK317.out (by decide)).1 k_ hs_.symm).2) (fun hn_ => (Kd.freshB (bk BK317) k_ hn_)))) (below_size (lk HB))); replace HO320 := am (Kd.R_below (rk HO320) hb); replace BK317 := bb BK317 hb; replace HB := lb HB hb; have hcz26_0 : w25.cell? ⟨gb317, 0, none⟩ = some (.slice A2_0 l2_0.length c2_0) := (blk_cell BK317.out 0).trans rfl; have hcz26_1 : w25.cell? ⟨gb317, 1, none⟩ = some (.int .i64 a2_1) := (blk_cell BK317.out 1).trans rfl; have hfz26_0 := blk_frozen BK317.out 0; have hfz26_1 := blk_frozen BK317.out 1; obtain ⟨Ao27, co27, eo27⟩ := Kd.V_slice HO323.out; subst eo27) | (refine gL (some 33) Tryd.func91 #[.slice Ao27 t321.length co27, .int .i64 10, .int .i64 (wrap64 (-a2_1))] ?_; (with_reducible refine (r_power.calls k (fun k_ => k_ ≠ gb317) _ _ t321 10 (wrap64 (-a2_1)) t328 _ ?side1 A19.out).mono ?_); (case side1 => exact HO323.out); rintro e w28 ⟨v329, rfl, ho0, hb⟩; refine ⟨_, rfl, ?_⟩; replace HO320 := am (Kd.R_below (rk HO320) hb); replace HO323 := vb HO323 hb; have HO330 := am (Kd.V_lower (Kd.V_mono (ok' := fun k_ => k_ ≠ gb317) ho0 (fun k_ hk_ => Or.elim hk_ (fun hs_ => hs_) (fun hn_ => (Kd.freshB (bk BK317) k_ hn_)))) (below_size (lk HB))); replace BK317 := bb BK317 hb; replace HB := lb HB hb; obtain ⟨Ao29, co29, eo29⟩ := Kd.V_slice HO330.out; subst eo29) | (refine gL (some 36) Tryd.func92 #[.slice Ao29 t328.length co29, .slice A2_0 l2_0.length c2_0] ?_; (with_reducible refine (r_cmp.calls k _ _ t328 _ _ l2_0 t331 _ ?side1 ?side2 ?side3 ?side4 A20.out).mono ?_); (case side1 => exact ck (Kd.V_reads' HO330.out).2.2); (case side2 => exact (Kd.V_reads' HO330.out).2.1); (case side3 => exact ck (Kd.C_below HR2_0.out HB.out)); (case side4 => exact HC2_0.out); rintro e w' ⟨rfl, ⟨nd, rfl⟩⟩; refine ⟨_, rfl, ?_⟩))
  go_ret
  exact ex (lk HB)
 rw [if_neg c5] at H
 have c5b0 : decide (0 < a1) = false := decide_eq_false c5
 clear c5
 replace H := bm H
 obtain ⟨t332, A300, H⟩ := H
 have A30 := am A300
 clear A300
 by_cases c31 : a2_1 > 0
 ·
  rw [if_pos c31] at H
  have c31b0 : decide (0 < a2_1) = true := dt c31
  clear c31
  replace H := bm H
  obtain ⟨t335, A320, H⟩ := H
  have A32 := am A320
  clear A320
  replace H := bm H
  obtain ⟨t338, A330, H⟩ := H
  replace H : (some t338) = some r := H
  have A33 := am A330
  clear A330
  obtain rfl := Option.some.inj H
  go_enter Tryd.func89, Tryd.ntmps89
  try go_wp2_with (first | ((with_reducible refine gate_dst (N := 5) rfl ?_); refine box_event ?hg (N := 5) ?hd (cs := #[.slice A2_0 l2_0.length c2_0, .int .i64 a2_1]) (t := 72) ?hr ?_; (case hd => rfl); (case hg => rfl); (case hr => first | (go_simp; done) | (go_simp; rfl)); intro gb317 hg w34 hbox hb; have BK317 := am (hbox); have GW317 := am ((by rw [hg]; exact (below_size (lk HB)) : w.heap.size ≤ gb317)); have GE317 := GW317; replace HB := lb HB hb; clear hb hbox hg))
  have n0_ := am (blk_drew BK317.out)
  have n1_ := am (below_drew1 HB.out)
  clear BK317
  clear HB
  have BK317 := n0_
  have HB := n1_
  clear n0_ n1_
  refine start_ (n := 6) (S := fun w' => w'.cell? ⟨gb317, 0, none⟩ = some (.slice A2_0 l2_0.length c2_0) ∧ w'.cell? ⟨gb317, 1, none⟩ = some (.int .i64 a2_1)) (ds := []) #[false, false, false, false, false, false] (by kernel_rfl) rfl rfl ⟨(blk_cell BK317.out 0).trans rfl, (blk_cell BK317.out 1).trans rfl⟩ (fun hHeld => ?_)
  generalize w34.drew = w35 at BK317 HB hHeld ⊢
  refine pure_ (i := 0) (N := some 9) (v := ?_) (a' := ?_) #[true, false, false, false, false, false] rfl rfl (by kernel_rfl) (fun _ _ _ h => h) (Or.inl ⟨by rfl, ?_⟩) ?_ ?_
  rotate_left
  ·
   intro w'
   go_simp
   with_reducible rfl
  rotate_left
  ·
   exact pz
  refine pure_ (i := 2) (N := some 11) (v := ?_) (a' := ?_) #[true, false, true, false, false, false] rfl rfl (by kernel_rfl) (fun _ _ _ h => h) (Or.inl ⟨by rfl, ?_⟩) ?_ ?_
  rotate_left
  ·
   intro w'
   go_simp
   with_reducible rfl
  rotate_left
  ·
   exact pz
  refine take_ (i := 3) (N := some 12) (v := ?_) (a' := ?_) #[true, false, true, true, false, false] rfl rfl (by kernel_rfl) (fun _ _ _ h => h) (Or.inl ⟨by rfl, ?_⟩) hHeld ?_ ?_
  rotate_left
  ·
   rintro w' ⟨s0, s1⟩
   go_simp
   with_reducible rfl
  rotate_left
  ·
   exact pz
  refine one_ (i := 1) (N := some 10) #[true, true, true, true, false, false] rfl rfl (by kernel_rfl) (by decide) (fun K hK => ?_)
  refine goes_ Tryd.func90 (by kernel_rfl) rfl #[.int .i64 a0] (by rfl) rfl rfl (by (try simp only [List.map_toArray, List.map_cons, List.map_nil]); first | done | rfl | (simp only [List.length_drop, List.length_take]; rfl) | (simp [Act.eval, Hd.wrap_u8]; done)) ?_
  with_reducible refine (r_of.calls k a0 t318 _ A4.out).mono ?_
  rintro e w36 ⟨v319, rfl, ho0, hb⟩
  refine ⟨_, rfl, ?_⟩
  have n0_ := am (Kd.R_lower ho0 (below_size (lk HB)))
  have n1_ := bb BK317 hb
  have n2_ := lb HB hb
  clear BK317
  clear HB
  have HO320 := n0_
  have BK317 := n1_
  have HB := n2_
  clear n0_ n1_ n2_
  (try clear hb)
  (try clear hb2)
  (try clear hk)
  (try clear hi)
  (try clear ho0)
  refine hK.out _ _ ⟨(blk_cell BK317.out 0).trans rfl, (blk_cell BK317.out 1).trans rfl⟩ (fun hHeld => ?_)
  clear hK K
  refine norm_ (a' := ?_) ?_ ?_
  rotate_left
  ·
   show Act.put _ (some 10) _ = _
   exact pz
  refine pure_ (i := 4) (N := some 7) (v := ?_) (a' := ?_) #[true, true, true, true, true, false] rfl rfl (by kernel_rfl) (fun _ _ _ h => h) (Or.inl ⟨by rfl, ?_⟩) ?_ ?_
  rotate_left
  ·
   intro w'
   go_simp
   with_reducible rfl
  rotate_left
  ·
   exact pz
  refine pure_ (i := 5) (N := some 8) (v := ?_) (a' := ?_) #[true, true, true, true, true, true] rfl rfl (by kernel_rfl) (fun _ _ _ h => h) (Or.inl ⟨by rfl, ?_⟩) ?_ ?_
  rotate_left
  ·
   intro w'
   go_simp
   with_reducible rfl
  rotate_left
  ·
   exact pz
  refine done_ (by kernel_rfl) ?_
  try go_wp2_with (first | (refine gL (some 21) Tryd.func91 #[.slice A2_0 l2_0.length c2_0, .int .i64 2, .int .i64 (wrap64 (-a1))] ?_; (with_reducible refine (r_power.calls k (fun k_ => k_ < w.heap.size) _ _ l2_0 2 (wrap64 (-a1)) t332 _ ?side1 A30.out).mono ?_); (case side1 => exact Kd.V_mk HC2_0.out (Kd.F_below (Kd.C_F (Kd.heap_int .i64) HR2_0.out) (lk HB))); rintro e w37 ⟨v333, rfl, ho0, hb⟩; refine ⟨_, rfl, ?_⟩; have HO334 := am (Kd.V_lower (Kd.V_mono (ok' := fun k_ => some k_ ≠ (v319 : Value).ownBlock ∧ k_ ≠ gb317) ho0 (fun k_ hk_ => ⟨Or.elim hk_ (fun hs_ => fun e_ => Nat.not_le.2 hs_ (Kd.R_base HO320.out k_ e_.symm)) (fun hn_ => (Kd.fresh' (Kd.R_lt (rk HO320)) k_ hn_)), Or.elim hk_ (fun hs_ => fun e_ => Nat.not_le.2 hs_ (by rw [e_]; exact GW317.out)) (fun hn_ => (Kd.freshB (bk BK317) k_ hn_))⟩)) (below_size (lk HB))); replace HO320 := am (Kd.R_below (rk HO320) hb); replace BK317 := bb BK317 hb; replace HB := lb HB hb; have hcz38_0 : w37.cell? ⟨gb317, 0, none⟩ = some (.slice A2_0 l2_0.length c2_0) := (blk_cell BK317.out 0).trans rfl; have hcz38_1 : w37.cell? ⟨gb317, 1, none⟩ = some (.int .i64 a2_1) := (blk_cell BK317.out 1).trans rfl; have hfz38_0 := blk_frozen BK317.out 0; have hfz38_1 := blk_frozen BK317.out 1; obtain ⟨Ao39, co39, eo39⟩ := Kd.V_slice HO334.out; subst eo39) | (refine gL (some 28) Tryd.func91 #[.slice Ao39 t332.length co39, .int .i64 10, .int .i64 a2_1] ?_; (with_reducible refine (r_power.calls k (fun k_ => (some k_ ≠ (v319 : Value).ownBlock ∧ k_ ≠ gb317)) _ _ t332 10 a2_1 t335 _ ?side1 A32.out).mono ?_); (case side1 => exact HO334.out); rintro e w40 ⟨v336, rfl, ho0, hb⟩; refine ⟨_, rfl, ?_⟩; replace HO334 := vb HO334 hb; have HO337 := am (Kd.V_lower (Kd.V_mono (ok' := fun k_ => some k_ ≠ (v319 : Value).ownBlock ∧ k_ ≠ gb317) ho0 (fun k_ hk_ => ⟨Or.elim hk_ (fun hs_ => hs_.1) (fun hn_ => (Kd.fresh' (Kd.R_lt (rk HO320)) k_ hn_)), Or.elim hk_ (fun hs_ => hs_.2) (fun hn_ => (Kd.freshB (bk BK317) k_ hn_))⟩)) (below_size (lk HB))); replace HO320 := am (Kd.R_below (rk HO320) hb); replace BK317 := bb BK317 hb; replace HB := lb HB hb; obtain ⟨Ao41, co41, eo41⟩ := Kd.R_slice HO320.out; subst eo41; obtain ⟨Ao42, co42, eo42⟩ := Kd.V_slice HO337.out; subst eo42) | (refine gL (some 36) Tryd.func92 #[.slice Ao41 t318.length co41, .slice Ao42 t335.length co42] ?_; (with_reducible refine (r_cmp.calls k _ _ t318 _ _ t335 t338 _ ?side1 ?side2 ?side3 ?side4 A33.out).mono ?_); (case side1 => exact ck (Kd.R_reads' HO320.out).2.2); (case side2 => exact (Kd.R_reads' HO320.out).2.1); (case side3 => exact ck (Kd.V_reads' HO337.out).2.2); (case side4 => exact (Kd.V_reads' HO337.out).2.1); rintro e w' ⟨rfl, ⟨nd, rfl⟩⟩; refine ⟨_, rfl, ?_⟩))
  go_ret
  exact ex (lk HB)
 rw [if_neg c31] at H
 have c31b0 : decide (0 < a2_1) = false := decide_eq_false c31
 clear c31
 replace H := bm H
 obtain ⟨t339, A430, H⟩ := H
 have A43 := am A430
 clear A430
 replace H := bm H
 obtain ⟨t342, A440, H⟩ := H
 replace H : (some t342) = some r := H
 have A44 := am A440
 clear A440
 obtain rfl := Option.some.inj H
 go_enter Tryd.func89, Tryd.ntmps89
 try go_wp2_with (first | ((with_reducible refine gate_dst (N := 5) rfl ?_); refine box_event ?hg (N := 5) ?hd (cs := #[.slice A2_0 l2_0.length c2_0, .int .i64 a2_1]) (t := 72) ?hr ?_; (case hd => rfl); (case hg => rfl); (case hr => first | (go_simp; done) | (go_simp; rfl)); intro gb317 hg w45 hbox hb; have BK317 := am (hbox); have GW317 := am ((by rw [hg]; exact (below_size (lk HB)) : w.heap.size ≤ gb317)); have GE317 := GW317; replace HB := lb HB hb; clear hb hbox hg))
 have n0_ := am (blk_drew BK317.out)
 have n1_ := am (below_drew1 HB.out)
 clear BK317
 clear HB
 have BK317 := n0_
 have HB := n1_
 clear n0_ n1_
 refine start_ (n := 6) (S := fun w' => w'.cell? ⟨gb317, 0, none⟩ = some (.slice A2_0 l2_0.length c2_0) ∧ w'.cell? ⟨gb317, 1, none⟩ = some (.int .i64 a2_1)) (ds := []) #[false, false, false, false, false, false] (by kernel_rfl) rfl rfl ⟨(blk_cell BK317.out 0).trans rfl, (blk_cell BK317.out 1).trans rfl⟩ (fun hHeld => ?_)
 generalize w45.drew = w46 at BK317 HB hHeld ⊢
 refine pure_ (i := 0) (N := some 9) (v := ?_) (a' := ?_) #[true, false, false, false, false, false] rfl rfl (by kernel_rfl) (fun _ _ _ h => h) (Or.inl ⟨by rfl, ?_⟩) ?_ ?_
 rotate_left
 ·
  intro w'
  go_simp
  with_reducible rfl
 rotate_left
 ·
  exact pz
 refine pure_ (i := 2) (N := some 11) (v := ?_) (a' := ?_) #[true, false, true, false, false, false] rfl rfl (by kernel_rfl) (fun _ _ _ h => h) (Or.inl ⟨by rfl, ?_⟩) ?_ ?_
 rotate_left
 ·
  intro w'
  go_simp
  with_reducible rfl
 rotate_left
 ·
  exact pz
 refine take_ (i := 3) (N := some 12) (v := ?_) (a' := ?_) #[true, false, true, true, false, false] rfl rfl (by kernel_rfl) (fun _ _ _ h => h) (Or.inl ⟨by rfl, ?_⟩) hHeld ?_ ?_
 rotate_left
 ·
  rintro w' ⟨s0, s1⟩
  go_simp
  with_reducible rfl
 rotate_left
 ·
  exact pz
 refine one_ (i := 1) (N := some 10) #[true, true, true, true, false, false] rfl rfl (by kernel_rfl) (by decide) (fun K hK => ?_)
 refine goes_ Tryd.func90 (by kernel_rfl) rfl #[.int .i64 a0] (by rfl) rfl rfl (by (try simp only [List.map_toArray, List.map_cons, List.map_nil]); first | done | rfl | (simp only [List.length_drop, List.length_take]; rfl) | (simp [Act.eval, Hd.wrap_u8]; done)) ?_
 with_reducible refine (r_of.calls k a0 t318 _ A4.out).mono ?_
 rintro e w47 ⟨v319, rfl, ho0, hb⟩
 refine ⟨_, rfl, ?_⟩
 have n0_ := am (Kd.R_lower ho0 (below_size (lk HB)))
 have n1_ := bb BK317 hb
 have n2_ := lb HB hb
 clear BK317
 clear HB
 have HO320 := n0_
 have BK317 := n1_
 have HB := n2_
 clear n0_ n1_ n2_
 (try clear hb)
 (try clear hb2)
 (try clear hk)
 (try clear hi)
 (try clear ho0)
 refine hK.out _ _ ⟨(blk_cell BK317.out 0).trans rfl, (blk_cell BK317.out 1).trans rfl⟩ (fun hHeld => ?_)
 clear hK K
 refine norm_ (a' := ?_) ?_ ?_
 rotate_left
 ·
  show Act.put _ (some 10) _ = _
  exact pz
 refine pure_ (i := 4) (N := some 7) (v := ?_) (a' := ?_) #[true, true, true, true, true, false] rfl rfl (by kernel_rfl) (fun _ _ _ h => h) (Or.inl ⟨by rfl, ?_⟩) ?_ ?_
 rotate_left
 ·
  intro w'
  go_simp
  with_reducible rfl
 rotate_left
 ·
  exact pz
 refine pure_ (i := 5) (N := some 8) (v := ?_) (a' := ?_) #[true, true, true, true, true, true] rfl rfl (by kernel_rfl) (fun _ _ _ h => h) (Or.inl ⟨by rfl, ?_⟩) ?_ ?_
 rotate_left
 ·
  intro w'
  go_simp
  with_reducible rfl
 rotate_left
 ·
  exact pz
 refine done_ (by kernel_rfl) ?_
 try go_wp2_with (first | (refine gL (some 21) Tryd.func91 #[.slice A2_0 l2_0.length c2_0, .int .i64 2, .int .i64 (wrap64 (-a1))] ?_; (with_reducible refine (r_power.calls k (fun k_ => k_ < w.heap.size) _ _ l2_0 2 (wrap64 (-a1)) t332 _ ?side1 A30.out).mono ?_); (case side1 => exact Kd.V_mk HC2_0.out (Kd.F_below (Kd.C_F (Kd.heap_int .i64) HR2_0.out) (lk HB))); rintro e w48 ⟨v333, rfl, ho0, hb⟩; refine ⟨_, rfl, ?_⟩; have HO334 := am (Kd.V_lower (Kd.V_mono (ok' := fun k_ => some k_ ≠ (v319 : Value).ownBlock ∧ k_ ≠ gb317) ho0 (fun k_ hk_ => ⟨Or.elim hk_ (fun hs_ => fun e_ => Nat.not_le.2 hs_ (Kd.R_base HO320.out k_ e_.symm)) (fun hn_ => (Kd.fresh' (Kd.R_lt (rk HO320)) k_ hn_)), Or.elim hk_ (fun hs_ => fun e_ => Nat.not_le.2 hs_ (by rw [e_]; exact GW317.out)) (fun hn_ => (Kd.freshB (bk BK317) k_ hn_))⟩)) (below_size (lk HB))); replace HO320 := am (Kd.R_below (rk HO320) hb); replace BK317 := bb BK317 hb; replace HB := lb HB hb; have hcz49_0 : w48.cell? ⟨gb317, 0, none⟩ = some (.slice A2_0 l2_0.length c2_0) := (blk_cell BK317.out 0).trans rfl; have hcz49_1 : w48.cell? ⟨gb317, 1, none⟩ = some (.int .i64 a2_1) := (blk_cell BK317.out 1).trans rfl; have hfz49_0 := blk_frozen BK317.out 0; have hfz49_1 := blk_frozen BK317.out 1; obtain ⟨Ao50, co50, eo50⟩ := Kd.R_slice HO320.out; subst eo50) | (refine gL (some 33) Tryd.func91 #[.slice Ao50 t318.length co50, .int .i64 10, .int .i64 (wrap64 (-a2_1))] ?_; (with_reducible refine (r_power.calls k (fun k_ => some k_ = (.slice Ao50 t318.length co50 : Value).ownBlock) _ _ t318 10 (wrap64 (-a2_1)) t339 _ ?side1 A43.out).mono ?_); (case side1 => exact Kd.R_V (Kd.R_tight rfl (Kd.R_types (HO320.out) BK317.out (by decide)))); rintro e w51 ⟨v340, rfl, ho0, hb⟩; refine ⟨_, rfl, ?_⟩; replace HO334 := vb HO334 hb; have HO341 := am (Kd.V_lower (Kd.V_mono (ok' := fun k_ => k_ ≠ gb317) ho0 (fun k_ hk_ => Or.elim hk_ (fun hs_ => ((Kd.R_types (HO320.out) BK317.out (by decide)).1 k_ hs_.symm).2) (fun hn_ => (Kd.freshB (bk BK317) k_ hn_)))) (below_size (lk HB))); replace HO320 := am (Kd.R_below (rk HO320) hb); replace BK317 := bb BK317 hb; replace HB := lb HB hb; obtain ⟨Ao52, co52, eo52⟩ := Kd.V_slice HO341.out; subst eo52; obtain ⟨Ao53, co53, eo53⟩ := Kd.V_slice HO334.out; subst eo53) | (refine gL (some 36) Tryd.func92 #[.slice Ao52 t339.length co52, .slice Ao53 t332.length co53] ?_; (with_reducible refine (r_cmp.calls k _ _ t339 _ _ t332 t342 _ ?side1 ?side2 ?side3 ?side4 A44.out).mono ?_); (case side1 => exact ck (Kd.V_reads' HO341.out).2.2); (case side2 => exact (Kd.V_reads' HO341.out).2.1); (case side3 => exact ck (Kd.V_reads' HO334.out).2.2); (case side4 => exact (Kd.V_reads' HO334.out).2.1); rintro e w' ⟨rfl, ⟨nd, rfl⟩⟩; refine ⟨_, rfl, ?_⟩))
 go_ret
 exact ex (lk HB)
mutual
def r_nearest.j0 : Nat → Int → Bool → List Int → Int → Option (Int)
 | 0, _, _, _, _ => none
 | k + 1, x1, x23, x635q0, x635q1 => if x23 = true then (some 0) else (if (wrap64 (x1 + x635q1)) > 320 then (some 9218868437227405312) else (r_nearest.l0 k 0 9218868437227405312 x635q0 x635q1))
def r_nearest.l0 : Nat → Int → Int → List Int → Int → Option (Int)
 | 0, _, _, _, _ => none
 | k + 1, x5, x6, x635q0, x635q1 => if (IntKind.u64.wrap (x6 - x5)) > 1 then ((r_parts.f (IntKind.u64.wrap (x5 + (IntKind.u64.wrap (Int.tdiv (IntKind.u64.wrap (x6 - x5)) 2))))).bind fun bt635 => ((r_below.f k bt635.1 bt635.2 x635q0 x635q1).bind fun t637 => (if t637 ≤ 0 then (r_nearest.l0 k (IntKind.u64.wrap (x5 + (IntKind.u64.wrap (Int.tdiv (IntKind.u64.wrap (x6 - x5)) 2)))) x6 x635q0 x635q1) else (r_nearest.l0 k x5 (IntKind.u64.wrap (x5 + (IntKind.u64.wrap (Int.tdiv (IntKind.u64.wrap (x6 - x5)) 2)))) x635q0 x635q1)))) else ((r_parts.f x5).bind fun bt638 => ((r_below.f k (wrap64 ((wrap64 (2 * bt638.1)) + 1)) (wrap64 (bt638.2 - 1)) x635q0 x635q1).bind fun t640 => (if t640 < 0 then (some (IntKind.u64.wrap (x5 + 1))) else (if t640 = 0 then (if (Int.tmod x5 2) = 1 then (some (IntKind.u64.wrap (x5 + 1))) else (some x5)) else (some x5)))))
end
def r_nearest.f (k : Nat) (l0_0 : List Int) (a0_1 : Int) (a1 : Int) : Option (Int) := if (l0_0.length : Int) = 0 then (r_nearest.j0 k a1 true l0_0 a0_1) else (r_nearest.j0 k a1 (decide ((wrap64 (a1 + a0_1)) < (-340))) l0_0 a0_1)
theorem r_nearest.mono_l : ∀ k, (∀ y0 y1 y2 y3, LeO (r_nearest.j0 k y0 y1 y2 y3) (r_nearest.j0 (k + 1) y0 y1 y2 y3)) ∧ (∀ y0 y1 y2 y3, LeO (r_nearest.l0 k y0 y1 y2 y3) (r_nearest.l0 (k + 1) y0 y1 y2 y3))
 | 0 => ⟨fun _ _ _ _ r h => by simp [r_nearest.j0] at h, fun _ _ _ _ r h => by simp [r_nearest.l0] at h⟩
 | k + 1 => by
  obtain ⟨ih0, ih1⟩ := r_nearest.mono_l k
  refine ⟨?_, ?_⟩ <;> intros <;> (first | unfold r_nearest.j0 | unfold r_nearest.l0) <;> repeat' (with_reducible first | apply ih0 | apply ih1 | apply r_below.mono | apply LeO.refl | apply LeO.none | apply LeO.ite | refine LeO.bind ?_ (fun _ => ?_))
theorem r_nearest.mono : ∀ a0 a1 a2 k, LeO (r_nearest.f k a0 a1 a2) (r_nearest.f (k + 1) a0 a1 a2) := by
 intro a0 a1 a2 k
 obtain ⟨ih0, ih1⟩ := r_nearest.mono_l k
 unfold r_nearest.f
 repeat' (with_reducible first | apply ih0 | apply ih1 | apply r_below.mono | apply LeO.refl | apply LeO.none | apply LeO.ite | refine LeO.bind ?_ (fun _ => ?_))
set_option maxHeartbeats 8000000 in
theorem r_nearest.calls (k : Nat) (A0_0 : Option Addr) (c0_0 : Nat) (l0_0 : List Int) (a0_1 : Int) (a1 : Int) (r : Int) (w : World) (hr0_0 : Kd.C (Kd.int .i64) w A0_0 l0_0.length l0_0) (hc0_0 : l0_0.length ≤ c0_0) (h : r_nearest.f k l0_0 a0_1 a1 = some r) :
  Calls Tryd.prog 73 #[.agg #[.slice A0_0 l0_0.length c0_0, .int .i64 a0_1], .int .i64 a1] w fun e w' => e = .returned (.int .u64 r) ∧ Below w.heap.size w w' := by
 have hu72 := Tryd.underlying72
 have HR0_0 := am hr0_0
 have HC0_0 := am hc0_0
 clear hr0_0 hc0_0
 have HB := am (Below.refl w.heap.size w)
 have H : (if (l0_0.length : Int) = 0 then (r_nearest.j0 k a1 true l0_0 a0_1) else (r_nearest.j0 k a1 (decide ((wrap64 (a1 + a0_1)) < (-340))) l0_0 a0_1)) = some r := h
 clear h
 have HC3 := am H
 clear H
 go_enter Tryd.func73, Tryd.ntmps73
 go_upto_region 1 with (first | ((with_reducible refine gate_dst (N := 2) rfl ?_); refine box_event ?hg (N := 2) ?hd (cs := #[.slice A0_0 l0_0.length c0_0, .int .i64 a0_1]) (t := 72) ?hr ?_; (case hd => rfl); (case hg => rfl); (case hr => first | (go_simp; done) | (go_simp; rfl)); intro gb634 hg w4 hbox hb; have BK634 := am (hbox); have GW634 := am ((by rw [hg]; exact (below_size (lk HB)) : w.heap.size ≤ gb634)); have GE634 := GW634; replace HB := lb HB hb; clear hb hbox hg))
 (try simp only [Act.put, List.setIfInBounds_toArray, List.set_cons_zero, List.set_cons_succ])
 go_cut [23] (fun v23 wc => ∃ (kq : Nat) (x23_2 : Bool), v23 = .bool x23_2 ∧ Aside0 (r_nearest.j0 kq a1 x23_2 l0_0 a0_1 = some r) ∧ Aside0 (kq ≤ k) ∧ Aside0 (wc.heap[gb634]? = some (.cells #[(.slice A0_0 l0_0.length c0_0), .int .i64 a0_1] 72 (0, 0))) ∧ Aside0 (Below w.heap.size w wc))
 case first =>
  have H := HC3.out
  clear HC3
  by_cases c5 : (l0_0.length : Int) = 0
  ·
   rw [if_pos c5] at H
   have c5b0 : ((l0_0.length : Int) == 0) = true := beq_iff_eq.mpr c5
   have c5b1 : ((l0_0.length : Int) != 0) = false := bne_eq_false_iff_eq.mpr c5
   clear c5
   (first | rw [c5b0] | (simp only [i64_w, i32_w]; rw [c5b0]) | skip)
   have H' := am H
   clear H
   have hcz6_0 : w4.cell? ⟨gb634, 0, none⟩ = some (.slice A0_0 l0_0.length c0_0) := (blk_cell BK634.out 0).trans rfl
   have hcz6_1 : w4.cell? ⟨gb634, 1, none⟩ = some (.int .i64 a0_1) := (blk_cell BK634.out 1).trans rfl
   have hfz6_0 := blk_frozen BK634.out 0
   have hfz6_1 := blk_frozen BK634.out 1
   go_wp2
   go_meet
   case rel => exact ⟨_, (true), eqd, H', ol, ⟨bk BK634⟩, ⟨lk HB⟩⟩
  rw [if_neg c5] at H
  have c5b0 : ((l0_0.length : Int) == 0) = false := beq_eq_false_iff_ne.mpr c5
  have c5b1 : ((l0_0.length : Int) != 0) = true := bne_iff_ne.mpr c5
  have c5b2 : ¬ (l0_0 = []) := fun h_ => c5 (by rw [h_]; rfl)
  (first | rw [c5b0] | (simp only [i64_w, i32_w]; rw [c5b0]) | skip)
  have H' := am H
  clear H
  have hcz7_0 : w4.cell? ⟨gb634, 0, none⟩ = some (.slice A0_0 l0_0.length c0_0) := (blk_cell BK634.out 0).trans rfl
  have hcz7_1 : w4.cell? ⟨gb634, 1, none⟩ = some (.int .i64 a0_1) := (blk_cell BK634.out 1).trans rfl
  have hfz7_0 := blk_frozen BK634.out 0
  have hfz7_1 := blk_frozen BK634.out 1
  go_wp2
  go_meet
  case rel => exact ⟨_, (decide ((wrap64 (a1 + a0_1)) < (-340))), eqd, H', ol, ⟨bk BK634⟩, ⟨lk HB⟩⟩
 case rest =>
  clear HC3
  obtain ⟨kq, x23_2, rfl, HA, HJ2, BK634, HB⟩ := hcut
  cases kq with
  | zero => exact absurd HA.out (by simp [r_nearest.j0])
  | succ kj2 =>
   have H := HA.out
   clear HA
   simp only [r_nearest.j0] at H
   by_cases c8 : x23_2 = true
   ·
    subst c8
    rw [if_pos rfl] at H
    obtain rfl := Option.some.inj H
    go_wp2
    go_ret
    exact ex (lk HB)
   replace c8 := Bool.eq_false_iff.mpr c8
   subst c8
   rw [if_neg (show ¬ (false = true) by decide)] at H
   by_cases c9 : (wrap64 (a1 + a0_1)) > 320
   ·
    rw [if_pos c9] at H
    have c9b0 : decide (320 < (wrap64 (a1 + a0_1))) = true := dt c9
    clear c9
    obtain rfl := Option.some.inj H
    have hcz10_0 : wc.cell? ⟨gb634, 0, none⟩ = some (.slice A0_0 l0_0.length c0_0) := (blk_cell BK634.out 0).trans rfl
    have hcz10_1 : wc.cell? ⟨gb634, 1, none⟩ = some (.int .i64 a0_1) := (blk_cell BK634.out 1).trans rfl
    have hfz10_0 := blk_frozen BK634.out 0
    have hfz10_1 := blk_frozen BK634.out 1
    go_wp2
    go_ret
    exact ex (lk HB)
   rw [if_neg c9] at H
   have c9b0 : decide (320 < (wrap64 (a1 + a0_1))) = false := decide_eq_false c9
   clear c9
   have H' := am H
   clear H
   have hcz11_0 : wc.cell? ⟨gb634, 0, none⟩ = some (.slice A0_0 l0_0.length c0_0) := (blk_cell BK634.out 0).trans rfl
   have hcz11_1 : wc.cell? ⟨gb634, 1, none⟩ = some (.int .i64 a0_1) := (blk_cell BK634.out 1).trans rfl
   have hfz11_0 := blk_frozen BK634.out 0
   have hfz11_1 := blk_frozen BK634.out 1
   go_wp2
   go_loopg [5, 6] kj2 (fun kq v5 v6 w' => ∃ (x5_2 : Int) (x6_2 : Int), v5 = .int .u64 x5_2 ∧ v6 = .int .u64 x6_2 ∧ Aside0 (r_nearest.l0 kq x5_2 x6_2 l0_0 a0_1 = some r) ∧ Aside0 (kq ≤ kj2) ∧ Aside0 (w'.heap[gb634]? = some (.cells #[(.slice A0_0 l0_0.length c0_0), .int .i64 a0_1] 72 (0, 0))) ∧ Aside0 (Below w.heap.size w w'))
   case atStart => exact ⟨(0), (9218868437227405312), eqd, eqd, H', ⟨Nat.le_refl _⟩, ⟨bk BK634⟩, ⟨lk HB⟩⟩
   case round =>
    clear H'
    obtain ⟨x5_2, x6_2, rfl, rfl, HA, HK2, BK634, HB⟩ := hrel
    cases gk with
    | zero => exact absurd HA.out (by simp [r_nearest.l0])
    | succ k2 =>
     have H := HA.out
     clear HA
     simp only [r_nearest.l0] at H
     by_cases c12 : (IntKind.u64.wrap (x6_2 - x5_2)) > 1
     ·
      rw [if_pos c12] at H
      have c12b0 : decide (1 < (IntKind.u64.wrap (x6_2 - x5_2))) = true := dt c12
      clear c12
      replace H := bm H
      obtain ⟨⟨t635, t636⟩, A130, H⟩ := H
      replace H : ((r_below.f k2 t635 t636 l0_0 a0_1).bind fun t637 => (if t637 ≤ 0 then (r_nearest.l0 k2 (IntKind.u64.wrap (x5_2 + (IntKind.u64.wrap (Int.tdiv (IntKind.u64.wrap (x6_2 - x5_2)) 2)))) x6_2 l0_0 a0_1) else (r_nearest.l0 k2 x5_2 (IntKind.u64.wrap (x5_2 + (IntKind.u64.wrap (Int.tdiv (IntKind.u64.wrap (x6_2 - x5_2)) 2)))) l0_0 a0_1))) = some r := H
      have A13 := am A130
      clear A130
      replace H := bm H
      obtain ⟨t637, A140, H⟩ := H
      have A14 := am A140
      clear A140
      by_cases c15 : t637 ≤ 0
      ·
       rw [if_pos c15] at H
       have c15b0 := dt c15
       clear c15
       have H' := am H
       clear H
       go_wp2_with (first | (refine gL (some 41) Tryd.func88 #[.int .u64 (IntKind.u64.wrap (x5_2 + (IntKind.u64.wrap (Int.tdiv (IntKind.u64.wrap (x6_2 - x5_2)) 2))))] ?_; (with_reducible refine (r_parts.calls (IntKind.u64.wrap (x5_2 + (IntKind.u64.wrap (Int.tdiv (IntKind.u64.wrap (x6_2 - x5_2)) 2)))) t635 t636 _ A13.out).mono ?_); rintro e w' ⟨rfl, ⟨nd, rfl⟩⟩; refine ⟨_, rfl, ?_⟩; have hcz16_0 : wr.cell? ⟨gb634, 0, none⟩ = some (.slice A0_0 l0_0.length c0_0) := (blk_cell BK634.out 0).trans rfl; have hcz16_1 : wr.cell? ⟨gb634, 1, none⟩ = some (.int .i64 a0_1) := (blk_cell BK634.out 1).trans rfl; have hfz16_0 := blk_frozen BK634.out 0; have hfz16_1 := blk_frozen BK634.out 1) | (refine gL (some 47) Tryd.func89 #[.int .i64 t635, .int .i64 t636, .agg #[.slice A0_0 l0_0.length c0_0, .int .i64 a0_1]] ?_; (with_reducible refine (r_below.calls k2 t635 t636 _ _ l0_0 a0_1 t637 _ ?side1 ?side2 A14.out).mono ?_); (case side1 => repeat (first | exact (Kd.C_below HR0_0.out (lk HB)) | (with_reducible refine Kd.C_alloc ?_ _) | (with_reducible refine Kd.C_drewN ?_ _) | (with_reducible refine Kd.C_drew ?_))); (case side2 => exact HC0_0.out); rintro e w17 ⟨rfl, hb⟩; refine ⟨_, rfl, ?_⟩; replace BK634 := bb BK634 hb; replace HB := lb HB hb))
       go_roundg k2
       case measure => have := HJ2.out; have := HK2.out; omega
       case rel => exact ⟨(IntKind.u64.wrap (x5_2 + (IntKind.u64.wrap (Int.tdiv (IntKind.u64.wrap (x6_2 - x5_2)) 2)))), (x6_2), eqd, eqd, H', ⟨by have := HJ2.out; have := HK2.out; omega⟩, ⟨bk BK634⟩, ⟨lk HB⟩⟩
      rw [if_neg c15] at H
      have c15b0 := decide_eq_false c15
      clear c15
      have H' := am H
      clear H
      go_wp2_with (first | (refine gL (some 41) Tryd.func88 #[.int .u64 (IntKind.u64.wrap (x5_2 + (IntKind.u64.wrap (Int.tdiv (IntKind.u64.wrap (x6_2 - x5_2)) 2))))] ?_; (with_reducible refine (r_parts.calls (IntKind.u64.wrap (x5_2 + (IntKind.u64.wrap (Int.tdiv (IntKind.u64.wrap (x6_2 - x5_2)) 2)))) t635 t636 _ A13.out).mono ?_); rintro e w' ⟨rfl, ⟨nd, rfl⟩⟩; refine ⟨_, rfl, ?_⟩; have hcz18_0 : wr.cell? ⟨gb634, 0, none⟩ = some (.slice A0_0 l0_0.length c0_0) := (blk_cell BK634.out 0).trans rfl; have hcz18_1 : wr.cell? ⟨gb634, 1, none⟩ = some (.int .i64 a0_1) := (blk_cell BK634.out 1).trans rfl; have hfz18_0 := blk_frozen BK634.out 0; have hfz18_1 := blk_frozen BK634.out 1) | (refine gL (some 47) Tryd.func89 #[.int .i64 t635, .int .i64 t636, .agg #[.slice A0_0 l0_0.length c0_0, .int .i64 a0_1]] ?_; (with_reducible refine (r_below.calls k2 t635 t636 _ _ l0_0 a0_1 t637 _ ?side1 ?side2 A14.out).mono ?_); (case side1 => repeat (first | exact (Kd.C_below HR0_0.out (lk HB)) | (with_reducible refine Kd.C_alloc ?_ _) | (with_reducible refine Kd.C_drewN ?_ _) | (with_reducible refine Kd.C_drew ?_))); (case side2 => exact HC0_0.out); rintro e w19 ⟨rfl, hb⟩; refine ⟨_, rfl, ?_⟩; replace BK634 := bb BK634 hb; replace HB := lb HB hb))
      go_roundg k2
      case measure => have := HJ2.out; have := HK2.out; omega
      case rel => exact ⟨(x5_2), (IntKind.u64.wrap (x5_2 + (IntKind.u64.wrap (Int.tdiv (IntKind.u64.wrap (x6_2 - x5_2)) 2)))), eqd, eqd, H', ⟨by have := HJ2.out; have := HK2.out; omega⟩, ⟨bk BK634⟩, ⟨lk HB⟩⟩
     rw [if_neg c12] at H
     have c12b0 : decide (1 < (IntKind.u64.wrap (x6_2 - x5_2))) = false := decide_eq_false c12
     clear c12
     replace H := bm H
     obtain ⟨⟨t638, t639⟩, A200, H⟩ := H
     replace H : ((r_below.f k2 (wrap64 ((wrap64 (2 * t638)) + 1)) (wrap64 (t639 - 1)) l0_0 a0_1).bind fun t640 => (if t640 < 0 then (some (IntKind.u64.wrap (x5_2 + 1))) else (if t640 = 0 then (if (Int.tmod x5_2 2) = 1 then (some (IntKind.u64.wrap (x5_2 + 1))) else (some x5_2)) else (some x5_2)))) = some r := H
     have A20 := am A200
     clear A200
     replace H := bm H
     obtain ⟨t640, A210, H⟩ := H
     have A21 := am A210
     clear A210
     by_cases c22 : t640 < 0
     ·
      rw [if_pos c22] at H
      have c22b0 := dt c22
      clear c22
      obtain rfl := Option.some.inj H
      go_wp2_with (first | (refine gL (some 53) Tryd.func88 #[.int .u64 x5_2] ?_; (with_reducible refine (r_parts.calls x5_2 t638 t639 _ A20.out).mono ?_); rintro e w' ⟨rfl, ⟨nd, rfl⟩⟩; refine ⟨_, rfl, ?_⟩; have hcz23_0 : wr.cell? ⟨gb634, 0, none⟩ = some (.slice A0_0 l0_0.length c0_0) := (blk_cell BK634.out 0).trans rfl; have hcz23_1 : wr.cell? ⟨gb634, 1, none⟩ = some (.int .i64 a0_1) := (blk_cell BK634.out 1).trans rfl; have hfz23_0 := blk_frozen BK634.out 0; have hfz23_1 := blk_frozen BK634.out 1) | (refine gL (some 62) Tryd.func89 #[.int .i64 (wrap64 ((wrap64 (2 * t638)) + 1)), .int .i64 (wrap64 (t639 - 1)), .agg #[.slice A0_0 l0_0.length c0_0, .int .i64 a0_1]] ?_; (with_reducible refine (r_below.calls k2 (wrap64 ((wrap64 (2 * t638)) + 1)) (wrap64 (t639 - 1)) _ _ l0_0 a0_1 t640 _ ?side1 ?side2 A21.out).mono ?_); (case side1 => repeat (first | exact (Kd.C_below HR0_0.out (lk HB)) | (with_reducible refine Kd.C_alloc ?_ _) | (with_reducible refine Kd.C_drewN ?_ _) | (with_reducible refine Kd.C_drew ?_))); (case side2 => exact HC0_0.out); rintro e w24 ⟨rfl, hb⟩; refine ⟨_, rfl, ?_⟩; replace BK634 := bb BK634 hb; replace HB := lb HB hb))
      go_ret
      exact ex (lk HB)
     rw [if_neg c22] at H
     have c22b0 := decide_eq_false c22
     clear c22
     by_cases c25 : t640 = 0
     ·
      rw [if_pos c25] at H
      have c25b0 : (t640 == 0) = true := beq_iff_eq.mpr c25
      have c25b1 : (t640 != 0) = false := bne_eq_false_iff_eq.mpr c25
      clear c25
      by_cases c26 : (Int.tmod x5_2 2) = 1
      ·
       rw [if_pos c26] at H
       have c26b0 : ((Int.tmod x5_2 2) == 1) = true := beq_iff_eq.mpr c26
       have c26b1 : ((Int.tmod x5_2 2) != 1) = false := bne_eq_false_iff_eq.mpr c26
       clear c26
       obtain rfl := Option.some.inj H
       go_wp2_with (first | (refine gL (some 53) Tryd.func88 #[.int .u64 x5_2] ?_; (with_reducible refine (r_parts.calls x5_2 t638 t639 _ A20.out).mono ?_); rintro e w' ⟨rfl, ⟨nd, rfl⟩⟩; refine ⟨_, rfl, ?_⟩; have hcz27_0 : wr.cell? ⟨gb634, 0, none⟩ = some (.slice A0_0 l0_0.length c0_0) := (blk_cell BK634.out 0).trans rfl; have hcz27_1 : wr.cell? ⟨gb634, 1, none⟩ = some (.int .i64 a0_1) := (blk_cell BK634.out 1).trans rfl; have hfz27_0 := blk_frozen BK634.out 0; have hfz27_1 := blk_frozen BK634.out 1) | (refine gL (some 62) Tryd.func89 #[.int .i64 (wrap64 ((wrap64 (2 * t638)) + 1)), .int .i64 (wrap64 (t639 - 1)), .agg #[.slice A0_0 l0_0.length c0_0, .int .i64 a0_1]] ?_; (with_reducible refine (r_below.calls k2 (wrap64 ((wrap64 (2 * t638)) + 1)) (wrap64 (t639 - 1)) _ _ l0_0 a0_1 t640 _ ?side1 ?side2 A21.out).mono ?_); (case side1 => repeat (first | exact (Kd.C_below HR0_0.out (lk HB)) | (with_reducible refine Kd.C_alloc ?_ _) | (with_reducible refine Kd.C_drewN ?_ _) | (with_reducible refine Kd.C_drew ?_))); (case side2 => exact HC0_0.out); rintro e w28 ⟨rfl, hb⟩; refine ⟨_, rfl, ?_⟩; replace BK634 := bb BK634 hb; replace HB := lb HB hb))
       go_ret
       exact ex (lk HB)
      rw [if_neg c26] at H
      have c26b0 : ((Int.tmod x5_2 2) == 1) = false := beq_eq_false_iff_ne.mpr c26
      have c26b1 : ((Int.tmod x5_2 2) != 1) = true := bne_iff_ne.mpr c26
      obtain rfl := Option.some.inj H
      go_wp2_with (first | (refine gL (some 53) Tryd.func88 #[.int .u64 x5_2] ?_; (with_reducible refine (r_parts.calls x5_2 t638 t639 _ A20.out).mono ?_); rintro e w' ⟨rfl, ⟨nd, rfl⟩⟩; refine ⟨_, rfl, ?_⟩; have hcz29_0 : wr.cell? ⟨gb634, 0, none⟩ = some (.slice A0_0 l0_0.length c0_0) := (blk_cell BK634.out 0).trans rfl; have hcz29_1 : wr.cell? ⟨gb634, 1, none⟩ = some (.int .i64 a0_1) := (blk_cell BK634.out 1).trans rfl; have hfz29_0 := blk_frozen BK634.out 0; have hfz29_1 := blk_frozen BK634.out 1) | (refine gL (some 62) Tryd.func89 #[.int .i64 (wrap64 ((wrap64 (2 * t638)) + 1)), .int .i64 (wrap64 (t639 - 1)), .agg #[.slice A0_0 l0_0.length c0_0, .int .i64 a0_1]] ?_; (with_reducible refine (r_below.calls k2 (wrap64 ((wrap64 (2 * t638)) + 1)) (wrap64 (t639 - 1)) _ _ l0_0 a0_1 t640 _ ?side1 ?side2 A21.out).mono ?_); (case side1 => repeat (first | exact (Kd.C_below HR0_0.out (lk HB)) | (with_reducible refine Kd.C_alloc ?_ _) | (with_reducible refine Kd.C_drewN ?_ _) | (with_reducible refine Kd.C_drew ?_))); (case side2 => exact HC0_0.out); rintro e w30 ⟨rfl, hb⟩; refine ⟨_, rfl, ?_⟩; replace BK634 := bb BK634 hb; replace HB := lb HB hb))
      go_ret
      exact ex (lk HB)
     rw [if_neg c25] at H
     have c25b0 : (t640 == 0) = false := beq_eq_false_iff_ne.mpr c25
     have c25b1 : (t640 != 0) = true := bne_iff_ne.mpr c25
     obtain rfl := Option.some.inj H
     go_wp2_with (first | (refine gL (some 53) Tryd.func88 #[.int .u64 x5_2] ?_; (with_reducible refine (r_parts.calls x5_2 t638 t639 _ A20.out).mono ?_); rintro e w' ⟨rfl, ⟨nd, rfl⟩⟩; refine ⟨_, rfl, ?_⟩; have hcz31_0 : wr.cell? ⟨gb634, 0, none⟩ = some (.slice A0_0 l0_0.length c0_0) := (blk_cell BK634.out 0).trans rfl; have hcz31_1 : wr.cell? ⟨gb634, 1, none⟩ = some (.int .i64 a0_1) := (blk_cell BK634.out 1).trans rfl; have hfz31_0 := blk_frozen BK634.out 0; have hfz31_1 := blk_frozen BK634.out 1) | (refine gL (some 62) Tryd.func89 #[.int .i64 (wrap64 ((wrap64 (2 * t638)) + 1)), .int .i64 (wrap64 (t639 - 1)), .agg #[.slice A0_0 l0_0.length c0_0, .int .i64 a0_1]] ?_; (with_reducible refine (r_below.calls k2 (wrap64 ((wrap64 (2 * t638)) + 1)) (wrap64 (t639 - 1)) _ _ l0_0 a0_1 t640 _ ?side1 ?side2 A21.out).mono ?_); (case side1 => repeat (first | exact (Kd.C_below HR0_0.out (lk HB)) | (with_reducible refine Kd.C_alloc ?_ _) | (with_reducible refine Kd.C_drewN ?_ _) | (with_reducible refine Kd.C_drew ?_))); (case side2 => exact HC0_0.out); rintro e w32 ⟨rfl, hb⟩; refine ⟨_, rfl, ?_⟩; replace BK634 := bb BK634 hb; replace HB := lb HB hb))
     go_ret
     exact ex (lk HB)
def r_plus.l0 : Nat → List Int → Int → Option (List Int)
 | 0, _, _ => none
 | k + 1, x3, x4 => if x4 < (x3.length : Int) then (if 0 ≤ x4 then (if (rd x3 x4) < 9999 then (some (x3.set (x4 : Int).toNat (wrap64 ((rd x3 x4) + 1)))) else (r_plus.l0 k (x3.set (x4 : Int).toNat 0) (wrap64 (x4 + 1)))) else (none)) else (if x3.length < 17592186044416 then (some (x3 ++ [1])) else (none))
def r_plus.f (k : Nat) (l0 : List Int) : Option (List Int) := (some (([] : List Int) : List Int)).bind fun y395 => (if y395.length + l0.length < 17592186044416 then (r_plus.l0 k (y395 ++ l0) 0) else (none))
theorem r_plus.mono_l : ∀ k, (∀ y0 y1, LeO (r_plus.l0 k y0 y1) (r_plus.l0 (k + 1) y0 y1))
 | 0 => fun _ _ r h => by simp [r_plus.l0] at h
 | k + 1 => by
  have ih0 := r_plus.mono_l k
  ·
   intro y0 y1
   unfold r_plus.l0
   repeat' (with_reducible first | apply ih0 | apply LeO.refl | apply LeO.none | apply LeO.ite | refine LeO.bind ?_ (fun _ => ?_))
theorem r_plus.mono : ∀ a0 k, LeO (r_plus.f k a0) (r_plus.f (k + 1) a0) := by
 intro a0 k
 have ih0 := r_plus.mono_l k
 unfold r_plus.f
 repeat' (with_reducible first | apply ih0 | apply LeO.refl | apply LeO.none | apply LeO.ite | refine LeO.bind ?_ (fun _ => ?_))
set_option maxHeartbeats 8000000 in
theorem r_plus.calls (k : Nat) (A0 : Option Addr) (c0 : Nat) (l0 : List Int) (r : List Int) (w : World) (hr0 : Kd.C (Kd.int .i64) w A0 l0.length l0) (hc0 : l0.length ≤ c0) (h : r_plus.f k l0 = some r) :
  Calls Tryd.prog 57 #[.slice A0 l0.length c0] w fun e w' => ∃ v0_ : Value, e = .returned (v0_) ∧ Kd.R (Kd.int .i64) 3 w' w.heap.size (fun _ => True) v0_ r ∧ Below w.heap.size w w' := by
 have HR0 := am hr0
 have HC0 := am hc0
 clear hr0 hc0
 have HB := am (Below.refl w.heap.size w)
 have H : ((some (([] : List Int) : List Int)).bind fun y395 => (if y395.length + l0.length < 17592186044416 then (r_plus.l0 k (y395 ++ l0) 0) else (none))) = some r := h
 clear h
 obtain ⟨y395, Ny395, H⟩ := yb H
 by_cases c2 : y395.length + l0.length < 17592186044416
 ·
  rw [if_pos c2] at H
  have LMc2 := am c2
  clear c2
  obtain ⟨y398, hy398⟩ : ∃ y_ : List Int, y_ = (y395 ++ l0) := ⟨_, rfl⟩
  replace H : (r_plus.l0 k y398 0) = some r := by first | (rw [hy398]; exact H) | exact H
  have Ny398 := am hy398
  clear hy398
  have H' := am H
  clear H
  go_enter Tryd.func57, Tryd.ntmps57
  go_wp2_with (first | ((with_reducible refine gate_dst (N := 5) rfl ?_); refine Kd.R_lit (Kd.int .i64) _ 3 ?hg (N := 5) ?hd (xs := ([] : List Int)) (inner := []) (ok := fun _ => True) (okp := fun _ => True) ?hr ?hp (fun _ hk => hk) trivial (Below.refl _ _) (Nat.le_refl _) (by simp) ?_; (case hd => rfl); (case hg => rfl); (case hr => first | (go_simp; done) | (go_simp; rfl)); (case hp => exact (Reps.none _ _)); intro v396 w3 ho4 hb hg_ hnew_; clear hg_ hnew_; (first | rw [← Ny395.out] at ho4 | (simp only [Int.reduceToNat] at ho4; rw [← Ny395.out] at ho4)); have HO397 := am (Kd.R_lower ho4 (below_size (lk HB))); replace HB := lb HB hb; clear hb ho4) | ((with_reducible refine gate_builtin (b := .append) (xs := #[.tmp 5, .tmp 6]) rfl ?_); at_builtin; refine Kd.R_append_rows (Kd.int .i64) (w0 := w) w.heap.size rfl (.tmp 5) (.tmp 6) 69 3 (.int .i64 0) 8 rfl Tryd.underlying69 info3 rfl (by decide) (by omega) v396 y395 l0 _ _ _ (fun _ => True) (fun _ => False) rfl rfl ?aO ?aR (fun _ _ h => h) (fun _ h => h.elim) ?aF ?aB ?aS ?aL ?_; (case aR => repeat (first | exact (Kd.C_below HR0.out HB.out) | (with_reducible refine Kd.C_alloc ?_ _) | (with_reducible refine Kd.C_drewN ?_ _) | (with_reducible refine Kd.C_drew ?_))); (case aB => exact (lk HB)); (case aF => exact (fun _ _ => trivial)); (case aO => exact (rk HO397)); (case aS => exact (below_size (lk HB))); (case aL => have := LMc2.out; omega); intro v399 w5 ho hb hg hat; rw [← Ny398.out] at ho; replace HB := am (hb); have HO400 := am (ho); clear HO397 ho hb hg hat))
  go_loopg [4] k (fun kq v4 w' => ∃ (x3_1 : List Int) (x4_1 : Int), v4 = .int .i64 x4_1 ∧ Aside0 (r_plus.l0 kq x3_1 x4_1 = some r) ∧ Aside0 (kq ≤ k) ∧ Aside0 (Kd.R (Kd.int .i64) 3 w' w.heap.size (fun _ => True) v399 x3_1) ∧ Aside0 (Below w.heap.size w w'))
  case atStart => exact ⟨(y398), (0), eqd, H', ⟨Nat.le_refl _⟩, ⟨rk HO400⟩, ⟨lk HB⟩⟩
  case round =>
   clear H'
   obtain ⟨x3_1, x4_1, rfl, HA, HK1, HO_3, HB⟩ := hrel
   cases gk with
   | zero => exact absurd HA.out (by simp [r_plus.l0])
   | succ k1 =>
    have H := HA.out
    clear HA
    simp only [r_plus.l0] at H
    by_cases c6 : x4_1 < (x3_1.length : Int)
    ·
     rw [if_pos c6] at H
     have c6b0 := dt c6
     clear c6
     by_cases c7 : 0 ≤ x4_1
     ·
      rw [if_pos c7] at H
      have c7b0 := dt c7
      clear c7
      by_cases c8 : (rd x3_1 x4_1) < 9999
      ·
       rw [if_pos c8] at H
       have c8b0 := dt c8
       clear c8
       obtain ⟨y403, hy403⟩ : ∃ y_ : List Int, y_ = (x3_1.set (x4_1 : Int).toNat (wrap64 ((rd x3_1 x4_1) + 1))) := ⟨_, rfl⟩
       replace H : (some y403) = some r := by first | (rw [hy403]; exact H) | exact H
       have Ny403 := am hy403
       clear hy403
       obtain rfl := Option.some.inj H
       obtain ⟨Ao10, co10, eo10⟩ := Kd.R_slice HO_3.out
       subst eo10
       have p401 : 0 ≤ (x4_1 : Int) := od
       have q401 : x4_1 < (x3_1.length : Int) := od
       obtain ⟨ad401, e401, hx401_0⟩ := Kd.at_int (Kd.R_reads' HO_3.out).2.2 x4_1 p401 q401
       cases e401
       replace p401 := eq_true p401
       replace q401 := eq_true q401
       have p402 : 0 ≤ (x4_1 : Int) := od
       have q402 : x4_1 < (x3_1.length : Int) := od
       obtain ⟨ad402, e402, hx402_0⟩ := Kd.at_int (Kd.R_reads' HO_3.out).2.2 x4_1 p402 q402
       obtain rfl : ad401 = ad402 := (by injection e402)
       replace p402 := eq_true p402
       replace q402 := eq_true q402
       have p9 : 0 ≤ (x4_1 : Int) := od
       have q9 : (x4_1 : Int) < ((x3_1.length : Int) : Int) := od
       obtain ⟨go9, co9, eo9, gb9, gl9, cl9, HG9⟩ := Kd.R_form HO_3.out (by omega)
       (first | cases eo9 | (injection eo9 with ea_ en_ ec_; (first | subst ea_ | (injection ea_ with ea_; subst ea_)); subst ec_; clear en_))
       have GB9 := am gb9
       have GG9 := am HG9
       clear gb9 gl9 HG9
       (first | simp only [add_plain] at hx401_0 | skip)
       (first | simp only [add_plain] at hx402_0 | skip)
       obtain ⟨hx9_0, hf9_0⟩ := Kd.R_celln 0 HO_3.out (x4_1 : Int) p9 q9
       replace p9 := eq_true p9
       replace q9 := eq_true q9
       have HP11 := Kd.R_putg HO_3.out (x4_1 : Int) (wrap64 ((rd x3_1 x4_1) + 1))
       go_wp2_with (first | ((with_reducible refine gate_store (t := 3) (p := 24) rfl ?_); refine store_event (t := 3) (p := 24) (v := ?vo_w12) (w1 := (wr.setCell ⟨go9, (x4_1 : Int).toNat, none⟩ (.int .i64 (wrap64 ((rd x3_1 x4_1) + 1))))) ?hg ?ho ?hn ?hr ?_; (case ho => rfl); (case hg => rfl); (case hn => rfl); (case hr => first | (go_simp; done) | (go_simp; rfl)); intro w12 hw; have hg : wr.grownBy w12 (some go9) := (by rw [hw]; exact HP11.2); have hp_ : Kd.R (Kd.int .i64) 3 w12 w.heap.size (fun _ => True) (.slice (some ⟨go9, 0, none⟩) x3_1.length co10) y403 := (by rw [hw, Ny403.out]; exact HP11.1); clear HP11; replace HO_3 := am (hp_); replace HB := am ((by rw [hw]; exact below_set (HB.out) GB9.out : Below w.heap.size w w12)); clear hg hw hp_))
       go_ret
       exact ⟨_, by first | rfl | (simp [errW_none, errW_some] <;> rfl) | (simp [*, errW_none, errW_some] <;> rfl), rk HO_3, lk HB⟩
      rw [if_neg c8] at H
      have c8b0 := decide_eq_false c8
      clear c8
      obtain ⟨y404, hy404⟩ : ∃ y_ : List Int, y_ = (x3_1.set (x4_1 : Int).toNat 0) := ⟨_, rfl⟩
      replace H : (r_plus.l0 k1 y404 (wrap64 (x4_1 + 1))) = some r := by first | (rw [hy404]; exact H) | exact H
      have Ny404 := am hy404
      clear hy404
      have H' := am H
      clear H
      obtain ⟨Ao14, co14, eo14⟩ := Kd.R_slice HO_3.out
      subst eo14
      have p401 : 0 ≤ (x4_1 : Int) := od
      have q401 : x4_1 < (x3_1.length : Int) := od
      obtain ⟨ad401, e401, hx401_0⟩ := Kd.at_int (Kd.R_reads' HO_3.out).2.2 x4_1 p401 q401
      cases e401
      replace p401 := eq_true p401
      replace q401 := eq_true q401
      have p13 : 0 ≤ (x4_1 : Int) := od
      have q13 : (x4_1 : Int) < ((x3_1.length : Int) : Int) := od
      obtain ⟨go13, co13, eo13, gb13, gl13, cl13, HG13⟩ := Kd.R_form HO_3.out (by omega)
      (first | cases eo13 | (injection eo13 with ea_ en_ ec_; (first | subst ea_ | (injection ea_ with ea_; subst ea_)); subst ec_; clear en_))
      have GB13 := am gb13
      have GG13 := am HG13
      clear gb13 gl13 HG13
      (first | simp only [add_plain] at hx401_0 | skip)
      obtain ⟨hx13_0, hf13_0⟩ := Kd.R_celln 0 HO_3.out (x4_1 : Int) p13 q13
      replace p13 := eq_true p13
      replace q13 := eq_true q13
      have HP15 := Kd.R_putg HO_3.out (x4_1 : Int) 0
      go_wp2_with (first | ((with_reducible refine gate_store (t := 3) (p := 28) rfl ?_); refine store_event (t := 3) (p := 28) (v := ?vo_w16) (w1 := (wr.setCell ⟨go13, (x4_1 : Int).toNat, none⟩ (.int .i64 0))) ?hg ?ho ?hn ?hr ?_; (case ho => rfl); (case hg => rfl); (case hn => rfl); (case hr => first | (go_simp; done) | (go_simp; rfl)); intro w16 hw; have hg : wr.grownBy w16 (some go13) := (by rw [hw]; exact HP15.2); have hp_ : Kd.R (Kd.int .i64) 3 w16 w.heap.size (fun _ => True) (.slice (some ⟨go13, 0, none⟩) x3_1.length co14) y404 := (by rw [hw, Ny404.out]; exact HP15.1); clear HP15; replace HO_3 := am (hp_); replace HB := am ((by rw [hw]; exact below_set (HB.out) GB13.out : Below w.heap.size w w16)); clear hg hw hp_))
      go_roundg k1
      case measure => have := HK1.out; omega
      case rel => exact ⟨(y404), (wrap64 (x4_1 + 1)), eqd, H', ⟨by have := HK1.out; omega⟩, ⟨rk HO_3⟩, ⟨lk HB⟩⟩
     rw [if_neg c7] at H
     exact absurd H (by simp)
    rw [if_neg c6] at H
    have c6b0 := decide_eq_false c6
    clear c6
    by_cases c17 : x3_1.length < 17592186044416
    ·
     rw [if_pos c17] at H
     have LMc17 := am c17
     clear c17
     obtain ⟨y405, hy405⟩ : ∃ y_ : List Int, y_ = (x3_1 ++ [1]) := ⟨_, rfl⟩
     replace H : (some y405) = some r := by first | (rw [hy405]; exact H) | exact H
     have Ny405 := am hy405
     clear hy405
     obtain rfl := Option.some.inj H
     obtain ⟨Ao18, co18, eo18⟩ := Kd.R_slice HO_3.out
     subst eo18
     go_wp2_with (first | ((with_reducible refine gate_builtin (b := .append) (xs := #[.tmp 29, .tmp 30]) rfl ?_); at_builtin; refine Kd.R_append (Kd.int .i64) (w0 := w) w.heap.size rfl (.tmp 29) (.tmp 30) 69 3 (.int .i64 0) 8 rfl Tryd.underlying69 info3 rfl (by decide) (by omega) (.slice Ao18 x3_1.length co18) x3_1 1 [.int .i64 1] (fun _ => True) (fun _ => False) rfl rfl ?aP (fun _ hk => hk.elim) ?aF ?aO ?aB ?aS ?aL ?_; (case aP => exact rfl); (case aB => exact (lk HB)); (case aF => exact (fun _ _ => trivial)); (case aO => exact (rk HO_3)); (case aS => exact (below_size (lk HB))); (case aL => have := LMc17.out; omega); intro v406 w19 ho hb hg hat; rw [← Ny405.out] at ho; replace HB := am (hb); have HO407 := am (ho); clear HO_3 ho hb hg hat))
     go_ret
     exact ⟨_, by first | rfl | (simp [errW_none, errW_some] <;> rfl) | (simp [*, errW_none, errW_some] <;> rfl), rk HO407, lk HB⟩
    rw [if_neg c17] at H
    exact absurd H (by simp)
 rw [if_neg c2] at H
 exact absurd H (by simp)
mutual
def r_minus.l0 : Nat → List Int → List Int → List Int → Int → Int → Option (List Int)
 | 0, _, _, _, _, _ => none
 | k + 1, x0, x1, x5, x6, x7 => if x7 < (x0.length : Int) then (if 0 ≤ x7 then (if x7 < (x1.length : Int) then (if (wrap64 ((wrap64 ((rd x0 x7) - x6)) - (rd x1 x7))) < 0 then (if x5.length < 17592186044416 then (r_minus.l0 k x0 x1 (x5 ++ [wrap64 ((wrap64 ((wrap64 ((rd x0 x7) - x6)) - (rd x1 x7))) + 10000)]) 1 (wrap64 (x7 + 1))) else (none)) else (if x5.length < 17592186044416 then (r_minus.l0 k x0 x1 (x5 ++ [wrap64 ((wrap64 ((rd x0 x7) - x6)) - (rd x1 x7))]) 0 (wrap64 (x7 + 1))) else (none))) else (if (wrap64 ((rd x0 x7) - x6)) < 0 then (if x5.length < 17592186044416 then (r_minus.l0 k x0 x1 (x5 ++ [wrap64 ((wrap64 ((rd x0 x7) - x6)) + 10000)]) 1 (wrap64 (x7 + 1))) else (none)) else (if x5.length < 17592186044416 then (r_minus.l0 k x0 x1 (x5 ++ [wrap64 ((rd x0 x7) - x6)]) 0 (wrap64 (x7 + 1))) else (none)))) else (none)) else (r_minus.l1 k x5)
def r_minus.l1 : Nat → List Int → Option (List Int)
 | 0, _ => none
 | k + 1, x5 => if (x5.length : Int) > 0 then (if 0 ≤ (wrap64 ((x5.length : Int) - 1)) then (if (wrap64 ((x5.length : Int) - 1)) < (x5.length : Int) then (if (rd x5 (wrap64 ((x5.length : Int) - 1))) = 0 then (if (wrap64 ((x5.length : Int) - 1)) ≤ (x5.length : Int) then (r_minus.l1 k (x5.take ((wrap64 ((x5.length : Int) - 1)) : Int).toNat)) else (none)) else (some x5)) else (none)) else (none)) else (some x5)
end
def r_minus.f (k : Nat) (l0 : List Int) (l1 : List Int) : Option (List Int) := r_minus.l0 k l0 l1 ([] : List Int) 0 0
theorem r_minus.mono_l : ∀ k, (∀ y0 y1 y2 y3 y4, LeO (r_minus.l0 k y0 y1 y2 y3 y4) (r_minus.l0 (k + 1) y0 y1 y2 y3 y4)) ∧ (∀ y0, LeO (r_minus.l1 k y0) (r_minus.l1 (k + 1) y0))
 | 0 => ⟨fun _ _ _ _ _ r h => by simp [r_minus.l0] at h, fun _ r h => by simp [r_minus.l1] at h⟩
 | k + 1 => by
  obtain ⟨ih0, ih1⟩ := r_minus.mono_l k
  refine ⟨?_, ?_⟩ <;> intros <;> (first | unfold r_minus.l0 | unfold r_minus.l1) <;> repeat' (with_reducible first | apply ih0 | apply ih1 | apply LeO.refl | apply LeO.none | apply LeO.ite | refine LeO.bind ?_ (fun _ => ?_))
theorem r_minus.mono : ∀ a0 a1 k, LeO (r_minus.f k a0 a1) (r_minus.f (k + 1) a0 a1) := by
 intro a0 a1 k
 obtain ⟨ih0, ih1⟩ := r_minus.mono_l k
 unfold r_minus.f
 repeat' (with_reducible first | apply ih0 | apply ih1 | apply LeO.refl | apply LeO.none | apply LeO.ite | refine LeO.bind ?_ (fun _ => ?_))
set_option maxHeartbeats 8000000 in
theorem r_minus.calls (k : Nat) (A0 : Option Addr) (c0 : Nat) (l0 : List Int) (A1 : Option Addr) (c1 : Nat) (l1 : List Int) (r : List Int) (w : World) (hr0 : Kd.C (Kd.int .i64) w A0 l0.length l0) (hc0 : l0.length ≤ c0) (hr1 : Kd.C (Kd.int .i64) w A1 l1.length l1) (hc1 : l1.length ≤ c1) (h : r_minus.f k l0 l1 = some r) :
  Calls Tryd.prog 93 #[.slice A0 l0.length c0, .slice A1 l1.length c1] w fun e w' => ∃ v0_ : Value, e = .returned (v0_) ∧ Kd.R (Kd.int .i64) 3 w' w.heap.size (fun _ => True) v0_ r ∧ Below w.heap.size w w' := by
 have HR0 := am hr0
 have HC0 := am hc0
 clear hr0 hc0
 have HR1 := am hr1
 have HC1 := am hc1
 clear hr1 hc1
 have HB := am (Below.refl w.heap.size w)
 have H : (r_minus.l0 k l0 l1 ([] : List Int) 0 0) = some r := h
 clear h
 have H' := am H
 clear H
 go_enter Tryd.func93, Tryd.ntmps93
 go_wp2
 go_loopg [5, 6, 7] k (fun kq v5 v6 v7 w' => ∃ (x5_1 : List Int) (x6_1 : Int) (x7_1 : Int), v6 = .int .i64 x6_1 ∧ v7 = .int .i64 x7_1 ∧ Aside0 (r_minus.l0 kq l0 l1 x5_1 x6_1 x7_1 = some r) ∧ Aside0 (kq ≤ k) ∧ Aside0 (Kd.R (Kd.int .i64) 3 w' w.heap.size (fun _ => True) v5 x5_1) ∧ Aside0 (Below w.heap.size w w'))
 case atStart => exact ⟨(([] : List Int)), (0), (0), eqd, eqd, H', ⟨Nat.le_refl _⟩, ⟨by first | exact Kd.R_nil _ _ _ _ _ | exact Kd.N_nil _ _ _ _ _ | exact Kd.V_nil _ _ _ _ _ | exact Kd.Q_nil _ _ _ _ _ | exact Kd.S_nil _ _ _ _ _⟩, ⟨lk HB⟩⟩
 case round =>
  clear H'
  obtain ⟨x5_1, x6_1, x7_1, rfl, rfl, HA, HK1, HO_5, HB⟩ := hrel
  cases gk with
  | zero => exact absurd HA.out (by simp [r_minus.l0])
  | succ k1 =>
   have H := HA.out
   clear HA
   simp only [r_minus.l0] at H
   by_cases c3 : x7_1 < (l0.length : Int)
   ·
    rw [if_pos c3] at H
    have c3b0 := dt c3
    clear c3
    by_cases c4 : 0 ≤ x7_1
    ·
     rw [if_pos c4] at H
     have c4b0 := dt c4
     clear c4
     by_cases c5 : x7_1 < (l1.length : Int)
     ·
      rw [if_pos c5] at H
      have c5b0 := dt c5
      clear c5
      by_cases c6 : (wrap64 ((wrap64 ((rd l0 x7_1) - x6_1)) - (rd l1 x7_1))) < 0
      ·
       rw [if_pos c6] at H
       have c6b0 := dt c6
       clear c6
       by_cases c7 : x5_1.length < 17592186044416
       ·
        rw [if_pos c7] at H
        have LMc7 := am c7
        clear c7
        obtain ⟨y345, hy345⟩ : ∃ y_ : List Int, y_ = (x5_1 ++ [wrap64 ((wrap64 ((wrap64 ((rd l0 x7_1) - x6_1)) - (rd l1 x7_1))) + 10000)]) := ⟨_, rfl⟩
        replace H : (r_minus.l0 k1 l0 l1 y345 1 (wrap64 (x7_1 + 1))) = some r := by first | (rw [hy345]; exact H) | exact H
        have Ny345 := am hy345
        clear hy345
        have H' := am H
        clear H
        have p343 : 0 ≤ (x7_1 : Int) := od
        have q343 : x7_1 < (l0.length : Int) := od
        obtain ⟨ad343, e343, hx343_0⟩ := Kd.at_int HR0.out x7_1 p343 q343
        cases e343
        replace hx343_0 := (HB.out.cell (World.block_lt_of_cell? w _ hx343_0)).trans hx343_0
        replace p343 := eq_true p343
        replace q343 := eq_true q343
        have p344 : 0 ≤ (x7_1 : Int) := od
        have q344 : x7_1 < (l1.length : Int) := od
        obtain ⟨ad344, e344, hx344_0⟩ := Kd.at_int HR1.out x7_1 p344 q344
        cases e344
        replace hx344_0 := (HB.out.cell (World.block_lt_of_cell? w _ hx344_0)).trans hx344_0
        replace p344 := eq_true p344
        replace q344 := eq_true q344
        go_wp2_with (first | ((with_reducible refine gate_builtin (b := .append) (xs := #[.tmp 35, .tmp 37]) rfl ?_); (try (refine gate_guard (by rfl) ?_; dsimp only)); at_builtin; refine Kd.R_append (Kd.int .i64) (w0 := w) w.heap.size rfl (.tmp 35) (.tmp 37) 69 3 (.int .i64 0) 8 rfl Tryd.underlying69 info3 rfl (by decide) (by omega) u5 x5_1 (wrap64 ((wrap64 ((wrap64 ((rd l0 x7_1) - x6_1)) - (rd l1 x7_1))) + 10000)) [.int .i64 (wrap64 ((wrap64 ((wrap64 ((rd l0 x7_1) - x6_1)) - (rd l1 x7_1))) + 10000))] (fun _ => True) (fun _ => False) rfl rfl ?aP (fun _ hk => hk.elim) ?aF ?aO ?aB ?aS ?aL ?_; (case aP => exact rfl); (case aB => exact (lk HB)); (case aF => exact (fun _ _ => trivial)); (case aO => exact (rk HO_5)); (case aS => exact (below_size (lk HB))); (case aL => have := LMc7.out; omega); intro v346 w8 ho hb hg hat; rw [← Ny345.out] at ho; replace HB := am (hb); have HO347 := am (ho); clear HO_5 ho hb hg hat))
        go_roundg k1
        case measure => have := HK1.out; omega
        case rel => exact ⟨(y345), (1), (wrap64 (x7_1 + 1)), eqd, eqd, H', ⟨by have := HK1.out; omega⟩, ⟨rk HO347⟩, ⟨lk HB⟩⟩
       rw [if_neg c7] at H
       exact absurd H (by simp)
      rw [if_neg c6] at H
      have c6b0 := decide_eq_false c6
      clear c6
      by_cases c9 : x5_1.length < 17592186044416
      ·
       rw [if_pos c9] at H
       have LMc9 := am c9
       clear c9
       obtain ⟨y348, hy348⟩ : ∃ y_ : List Int, y_ = (x5_1 ++ [wrap64 ((wrap64 ((rd l0 x7_1) - x6_1)) - (rd l1 x7_1))]) := ⟨_, rfl⟩
       replace H : (r_minus.l0 k1 l0 l1 y348 0 (wrap64 (x7_1 + 1))) = some r := by first | (rw [hy348]; exact H) | exact H
       have Ny348 := am hy348
       clear hy348
       have H' := am H
       clear H
       have p343 : 0 ≤ (x7_1 : Int) := od
       have q343 : x7_1 < (l0.length : Int) := od
       obtain ⟨ad343, e343, hx343_0⟩ := Kd.at_int HR0.out x7_1 p343 q343
       cases e343
       replace hx343_0 := (HB.out.cell (World.block_lt_of_cell? w _ hx343_0)).trans hx343_0
       replace p343 := eq_true p343
       replace q343 := eq_true q343
       have p344 : 0 ≤ (x7_1 : Int) := od
       have q344 : x7_1 < (l1.length : Int) := od
       obtain ⟨ad344, e344, hx344_0⟩ := Kd.at_int HR1.out x7_1 p344 q344
       cases e344
       replace hx344_0 := (HB.out.cell (World.block_lt_of_cell? w _ hx344_0)).trans hx344_0
       replace p344 := eq_true p344
       replace q344 := eq_true q344
       go_wp2_with (first | ((with_reducible refine gate_builtin (b := .append) (xs := #[.tmp 35, .tmp 37]) rfl ?_); (try (refine gate_guard (by rfl) ?_; dsimp only)); at_builtin; refine Kd.R_append (Kd.int .i64) (w0 := w) w.heap.size rfl (.tmp 35) (.tmp 37) 69 3 (.int .i64 0) 8 rfl Tryd.underlying69 info3 rfl (by decide) (by omega) u5 x5_1 (wrap64 ((wrap64 ((rd l0 x7_1) - x6_1)) - (rd l1 x7_1))) [.int .i64 (wrap64 ((wrap64 ((rd l0 x7_1) - x6_1)) - (rd l1 x7_1)))] (fun _ => True) (fun _ => False) rfl rfl ?aP (fun _ hk => hk.elim) ?aF ?aO ?aB ?aS ?aL ?_; (case aP => exact rfl); (case aB => exact (lk HB)); (case aF => exact (fun _ _ => trivial)); (case aO => exact (rk HO_5)); (case aS => exact (below_size (lk HB))); (case aL => have := LMc9.out; omega); intro v349 w10 ho hb hg hat; rw [← Ny348.out] at ho; replace HB := am (hb); have HO350 := am (ho); clear HO_5 ho hb hg hat))
       go_roundg k1
       case measure => have := HK1.out; omega
       case rel => exact ⟨(y348), (0), (wrap64 (x7_1 + 1)), eqd, eqd, H', ⟨by have := HK1.out; omega⟩, ⟨rk HO350⟩, ⟨lk HB⟩⟩
      rw [if_neg c9] at H
      exact absurd H (by simp)
     rw [if_neg c5] at H
     have c5b0 := decide_eq_false c5
     clear c5
     by_cases c11 : (wrap64 ((rd l0 x7_1) - x6_1)) < 0
     ·
      rw [if_pos c11] at H
      have c11b0 := dt c11
      clear c11
      by_cases c12 : x5_1.length < 17592186044416
      ·
       rw [if_pos c12] at H
       have LMc12 := am c12
       clear c12
       obtain ⟨y351, hy351⟩ : ∃ y_ : List Int, y_ = (x5_1 ++ [wrap64 ((wrap64 ((rd l0 x7_1) - x6_1)) + 10000)]) := ⟨_, rfl⟩
       replace H : (r_minus.l0 k1 l0 l1 y351 1 (wrap64 (x7_1 + 1))) = some r := by first | (rw [hy351]; exact H) | exact H
       have Ny351 := am hy351
       clear hy351
       have H' := am H
       clear H
       have p343 : 0 ≤ (x7_1 : Int) := od
       have q343 : x7_1 < (l0.length : Int) := od
       obtain ⟨ad343, e343, hx343_0⟩ := Kd.at_int HR0.out x7_1 p343 q343
       cases e343
       replace hx343_0 := (HB.out.cell (World.block_lt_of_cell? w _ hx343_0)).trans hx343_0
       replace p343 := eq_true p343
       replace q343 := eq_true q343
       go_wp2_with (first | ((with_reducible refine gate_builtin (b := .append) (xs := #[.tmp 35, .tmp 37]) rfl ?_); (try (refine gate_guard (by rfl) ?_; dsimp only)); at_builtin; refine Kd.R_append (Kd.int .i64) (w0 := w) w.heap.size rfl (.tmp 35) (.tmp 37) 69 3 (.int .i64 0) 8 rfl Tryd.underlying69 info3 rfl (by decide) (by omega) u5 x5_1 (wrap64 ((wrap64 ((rd l0 x7_1) - x6_1)) + 10000)) [.int .i64 (wrap64 ((wrap64 ((rd l0 x7_1) - x6_1)) + 10000))] (fun _ => True) (fun _ => False) rfl rfl ?aP (fun _ hk => hk.elim) ?aF ?aO ?aB ?aS ?aL ?_; (case aP => exact rfl); (case aB => exact (lk HB)); (case aF => exact (fun _ _ => trivial)); (case aO => exact (rk HO_5)); (case aS => exact (below_size (lk HB))); (case aL => have := LMc12.out; omega); intro v352 w13 ho hb hg hat; rw [← Ny351.out] at ho; replace HB := am (hb); have HO353 := am (ho); clear HO_5 ho hb hg hat))
       go_roundg k1
       case measure => have := HK1.out; omega
       case rel => exact ⟨(y351), (1), (wrap64 (x7_1 + 1)), eqd, eqd, H', ⟨by have := HK1.out; omega⟩, ⟨rk HO353⟩, ⟨lk HB⟩⟩
      rw [if_neg c12] at H
      exact absurd H (by simp)
     rw [if_neg c11] at H
     have c11b0 := decide_eq_false c11
     clear c11
     by_cases c14 : x5_1.length < 17592186044416
     ·
      rw [if_pos c14] at H
      have LMc14 := am c14
      clear c14
      obtain ⟨y354, hy354⟩ : ∃ y_ : List Int, y_ = (x5_1 ++ [wrap64 ((rd l0 x7_1) - x6_1)]) := ⟨_, rfl⟩
      replace H : (r_minus.l0 k1 l0 l1 y354 0 (wrap64 (x7_1 + 1))) = some r := by first | (rw [hy354]; exact H) | exact H
      have Ny354 := am hy354
      clear hy354
      have H' := am H
      clear H
      have p343 : 0 ≤ (x7_1 : Int) := od
      have q343 : x7_1 < (l0.length : Int) := od
      obtain ⟨ad343, e343, hx343_0⟩ := Kd.at_int HR0.out x7_1 p343 q343
      cases e343
      replace hx343_0 := (HB.out.cell (World.block_lt_of_cell? w _ hx343_0)).trans hx343_0
      replace p343 := eq_true p343
      replace q343 := eq_true q343
      go_wp2_with (first | ((with_reducible refine gate_builtin (b := .append) (xs := #[.tmp 35, .tmp 37]) rfl ?_); (try (refine gate_guard (by rfl) ?_; dsimp only)); at_builtin; refine Kd.R_append (Kd.int .i64) (w0 := w) w.heap.size rfl (.tmp 35) (.tmp 37) 69 3 (.int .i64 0) 8 rfl Tryd.underlying69 info3 rfl (by decide) (by omega) u5 x5_1 (wrap64 ((rd l0 x7_1) - x6_1)) [.int .i64 (wrap64 ((rd l0 x7_1) - x6_1))] (fun _ => True) (fun _ => False) rfl rfl ?aP (fun _ hk => hk.elim) ?aF ?aO ?aB ?aS ?aL ?_; (case aP => exact rfl); (case aB => exact (lk HB)); (case aF => exact (fun _ _ => trivial)); (case aO => exact (rk HO_5)); (case aS => exact (below_size (lk HB))); (case aL => have := LMc14.out; omega); intro v355 w15 ho hb hg hat; rw [← Ny354.out] at ho; replace HB := am (hb); have HO356 := am (ho); clear HO_5 ho hb hg hat))
      go_roundg k1
      case measure => have := HK1.out; omega
      case rel => exact ⟨(y354), (0), (wrap64 (x7_1 + 1)), eqd, eqd, H', ⟨by have := HK1.out; omega⟩, ⟨rk HO356⟩, ⟨lk HB⟩⟩
     rw [if_neg c14] at H
     exact absurd H (by simp)
    rw [if_neg c4] at H
    exact absurd H (by simp)
   rw [if_neg c3] at H
   have c3b0 := decide_eq_false c3
   clear c3
   have H' := am H
   clear H
   go_wp2
   go_loopg [5] k1 (fun kq v5 w' => ∃ (x5_2 : List Int), Aside0 (r_minus.l1 kq x5_2 = some r) ∧ Aside0 (kq ≤ k1) ∧ Aside0 (Kd.R (Kd.int .i64) 3 w' w.heap.size (fun _ => True) v5 x5_2) ∧ Aside0 (Below w.heap.size w w'))
   case atStart => exact ⟨(x5_1), H', ⟨Nat.le_refl _⟩, ⟨rk HO_5⟩, ⟨lk HB⟩⟩
   case round =>
    clear H'
    obtain ⟨x5_2, HA, HK2, HO_5, HB⟩ := hrel
    cases gk with
    | zero => exact absurd HA.out (by simp [r_minus.l1])
    | succ k2 =>
     have H := HA.out
     clear HA
     simp only [r_minus.l1] at H
     by_cases c16 : (x5_2.length : Int) > 0
     ·
      rw [if_pos c16] at H
      have c16b0 : decide (0 < (x5_2.length : Int)) = true := dt c16
      have c16b1 : decide (0 < x5_2.length) = true := dt (by omega)
      clear c16
      obtain ⟨ji17, hji17⟩ : ∃ j_ : Int, (wrap64 ((x5_2.length : Int) - 1)) = j_ := ⟨_, rfl⟩
      replace H : (if 0 ≤ (ji17) then (if (ji17) < (x5_2.length : Int) then (if (rd x5_2 (ji17)) = 0 then (if (ji17) ≤ (x5_2.length : Int) then (r_minus.l1 k2 (x5_2.take ((ji17) : Int).toNat)) else (none)) else (some x5_2)) else (none)) else (none)) = some r := by first | (rw [hji17] at H; exact H) | (simp only [hji17] at H ⊢; exact H)
      have hji17w : (IntKind.i64.wrap ((x5_2.length : Int) - 1)) = ji17 := (i64_w _).trans hji17
      by_cases c18 : 0 ≤ (ji17)
      ·
       rw [if_pos c18] at H
       have c18b0 := dt c18
       clear c18
       by_cases c19 : (ji17) < (x5_2.length : Int)
       ·
        rw [if_pos c19] at H
        have c19b0 := dt c19
        clear c19
        by_cases c20 : (rd x5_2 (ji17)) = 0
        ·
         rw [if_pos c20] at H
         have c20b0 : ((rd x5_2 (ji17)) == 0) = true := beq_iff_eq.mpr c20
         have c20b1 : ((rd x5_2 (ji17)) != 0) = false := bne_eq_false_iff_eq.mpr c20
         clear c20
         by_cases c21 : (ji17) ≤ (x5_2.length : Int)
         ·
          rw [if_pos c21] at H
          have c21b0 := eq_true c21
          have c21b1 := dt c21
          clear c21
          obtain ⟨y358, hy358⟩ : ∃ y_ : List Int, y_ = (x5_2.take ((ji17) : Int).toNat) := ⟨_, rfl⟩
          replace H : (r_minus.l1 k2 y358) = some r := by first | (rw [hy358]; exact H) | exact H
          have Ny358 := am hy358
          clear hy358
          have H' := am H
          clear H
          obtain ⟨Ao22, co22, eo22⟩ := Kd.R_slice HO_5.out
          subst eo22
          have p357 : 0 ≤ ((ji17) : Int) := od
          have q357 : (ji17) < (x5_2.length : Int) := od
          obtain ⟨ad357, e357, hx357_0⟩ := Kd.at_int (Kd.R_reads' HO_5.out).2.2 (ji17) p357 q357
          cases e357
          replace p357 := eq_true p357
          replace q357 := eq_true q357
          have q23 : ((ji17) : Int) ≤ ((x5_2.length : Int) : Int) := od
          obtain ⟨i023, hi023, _, hsz23, _⟩ := info_parts info3
          have hcut23 := cut_to (P := Tryd.prog) 69 3 .i64 Tryd.underlying69 hi023 (some ad357) x5_2.length co22 (ji17) (od) q23 (Kd.R_reads' HO_5.out).2.1
          have hr23 := Kd.R_take (m := ((ji17) : Int).toNat) HO_5.out (by omega)
          have hy23 : y358.length = ((ji17) : Int).toNat := (by rw [Ny358.out, List.length_take]; omega)
          rw [← Ny358.out] at hr23
          rw [← hy23] at hr23 hcut23
          clear hy23 hi023 hsz23 HO_5
          have HO360 := am hr23
          clear hr23
          replace q23 := eq_true q23
          go_wp2
          go_roundg k2
          case measure => have := HK1.out; have := HK2.out; omega
          case rel => exact ⟨(y358), H', ⟨by have := HK1.out; have := HK2.out; omega⟩, ⟨rk HO360⟩, ⟨lk HB⟩⟩
         rw [if_neg c21] at H
         exact absurd H (by simp)
        rw [if_neg c20] at H
        have c20b0 : ((rd x5_2 (ji17)) == 0) = false := beq_eq_false_iff_ne.mpr c20
        have c20b1 : ((rd x5_2 (ji17)) != 0) = true := bne_iff_ne.mpr c20
        obtain rfl := Option.some.inj H
        obtain ⟨Ao24, co24, eo24⟩ := Kd.R_slice HO_5.out
        subst eo24
        have p357 : 0 ≤ ((ji17) : Int) := od
        have q357 : (ji17) < (x5_2.length : Int) := od
        obtain ⟨ad357, e357, hx357_0⟩ := Kd.at_int (Kd.R_reads' HO_5.out).2.2 (ji17) p357 q357
        cases e357
        replace p357 := eq_true p357
        replace q357 := eq_true q357
        go_wp2
        go_ret
        exact ⟨_, by first | rfl | (simp [errW_none, errW_some] <;> rfl) | (simp only [← hji17]; first | rfl | (simp [errW_none, errW_some] <;> rfl)) | (simp [*, errW_none, errW_some] <;> rfl), rk HO_5, lk HB⟩
       rw [if_neg c19] at H
       exact absurd H (by simp)
      rw [if_neg c18] at H
      exact absurd H (by simp)
     rw [if_neg c16] at H
     have c16b0 : decide (0 < (x5_2.length : Int)) = false := decide_eq_false c16
     have c16b1 : decide (0 < x5_2.length) = false := decide_eq_false (by omega)
     clear c16
     obtain rfl := Option.some.inj H
     obtain ⟨Ao25, co25, eo25⟩ := Kd.R_slice HO_5.out
     subst eo25
     go_wp2
     go_ret
     exact ⟨_, by first | rfl | (simp [errW_none, errW_some] <;> rfl) | (simp [*, errW_none, errW_some] <;> rfl), rk HO_5, lk HB⟩
mutual
def r_add.l0 : Nat → List Int → List Int → List Int → Int → Int → Option (List Int)
 | 0, _, _, _, _, _ => none
 | k + 1, x0, x1, x5, x6, x7 => if x7 < (x0.length : Int) then (r_add.j1 k x0 x1 x5 x6 x7 true) else (if x7 < (x1.length : Int) then (r_add.j1 k x0 x1 x5 x6 x7 true) else (r_add.j1 k x0 x1 x5 x6 x7 (decide (x6 > 0))))
def r_add.j1 : Nat → List Int → List Int → List Int → Int → Int → Bool → Option (List Int)
 | 0, _, _, _, _, _, _ => none
 | k + 1, x0, x1, x5, x6, x7, x22 => if x22 = true then (if x7 < (x0.length : Int) then (if 0 ≤ x7 then (if x7 < (x1.length : Int) then (if x5.length < 17592186044416 then (r_add.l0 k x0 x1 (x5 ++ [Int.tmod (wrap64 ((wrap64 (x6 + (rd x0 x7))) + (rd x1 x7))) 10000]) (wrap64 (Int.tdiv (wrap64 ((wrap64 (x6 + (rd x0 x7))) + (rd x1 x7))) 10000)) (wrap64 (x7 + 1))) else (none)) else (if x5.length < 17592186044416 then (r_add.l0 k x0 x1 (x5 ++ [Int.tmod (wrap64 (x6 + (rd x0 x7))) 10000]) (wrap64 (Int.tdiv (wrap64 (x6 + (rd x0 x7))) 10000)) (wrap64 (x7 + 1))) else (none))) else (none)) else (if x7 < (x1.length : Int) then (if 0 ≤ x7 then (if x5.length < 17592186044416 then (r_add.l0 k x0 x1 (x5 ++ [Int.tmod (wrap64 (x6 + (rd x1 x7))) 10000]) (wrap64 (Int.tdiv (wrap64 (x6 + (rd x1 x7))) 10000)) (wrap64 (x7 + 1))) else (none)) else (none)) else (if x5.length < 17592186044416 then (r_add.l0 k x0 x1 (x5 ++ [Int.tmod x6 10000]) (wrap64 (Int.tdiv x6 10000)) (wrap64 (x7 + 1))) else (none)))) else (some x5)
end
def r_add.f (k : Nat) (l0 : List Int) (l1 : List Int) : Option (List Int) := r_add.l0 k l0 l1 ([] : List Int) 0 0
theorem r_add.mono_l : ∀ k, (∀ y0 y1 y2 y3 y4, LeO (r_add.l0 k y0 y1 y2 y3 y4) (r_add.l0 (k + 1) y0 y1 y2 y3 y4)) ∧ (∀ y0 y1 y2 y3 y4 y5, LeO (r_add.j1 k y0 y1 y2 y3 y4 y5) (r_add.j1 (k + 1) y0 y1 y2 y3 y4 y5))
 | 0 => ⟨fun _ _ _ _ _ r h => by simp [r_add.l0] at h, fun _ _ _ _ _ _ r h => by simp [r_add.j1] at h⟩
 | k + 1 => by
  obtain ⟨ih0, ih1⟩ := r_add.mono_l k
  refine ⟨?_, ?_⟩ <;> intros <;> (first | unfold r_add.l0 | unfold r_add.j1) <;> repeat' (with_reducible first | apply ih0 | apply ih1 | apply LeO.refl | apply LeO.none | apply LeO.ite | refine LeO.bind ?_ (fun _ => ?_))
theorem r_add.mono : ∀ a0 a1 k, LeO (r_add.f k a0 a1) (r_add.f (k + 1) a0 a1) := by
 intro a0 a1 k
 obtain ⟨ih0, ih1⟩ := r_add.mono_l k
 unfold r_add.f
 repeat' (with_reducible first | apply ih0 | apply ih1 | apply LeO.refl | apply LeO.none | apply LeO.ite | refine LeO.bind ?_ (fun _ => ?_))
set_option maxHeartbeats 8000000 in
theorem r_add.calls (k : Nat) (A0 : Option Addr) (c0 : Nat) (l0 : List Int) (A1 : Option Addr) (c1 : Nat) (l1 : List Int) (r : List Int) (w : World) (hr0 : Kd.C (Kd.int .i64) w A0 l0.length l0) (hc0 : l0.length ≤ c0) (hr1 : Kd.C (Kd.int .i64) w A1 l1.length l1) (hc1 : l1.length ≤ c1) (h : r_add.f k l0 l1 = some r) :
  Calls Tryd.prog 94 #[.slice A0 l0.length c0, .slice A1 l1.length c1] w fun e w' => ∃ v0_ : Value, e = .returned (v0_) ∧ Kd.R (Kd.int .i64) 3 w' w.heap.size (fun _ => True) v0_ r ∧ Below w.heap.size w w' := by
 have HR0 := am hr0
 have HC0 := am hc0
 clear hr0 hc0
 have HR1 := am hr1
 have HC1 := am hc1
 clear hr1 hc1
 have HB := am (Below.refl w.heap.size w)
 have H : (r_add.l0 k l0 l1 ([] : List Int) 0 0) = some r := h
 clear h
 have H' := am H
 clear H
 go_enter Tryd.func94, Tryd.ntmps94
 go_wp2
 go_loopg [5, 6, 7] k (fun kq v5 v6 v7 w' => ∃ (x5_1 : List Int) (x6_1 : Int) (x7_1 : Int), v6 = .int .i64 x6_1 ∧ v7 = .int .i64 x7_1 ∧ Aside0 (r_add.l0 kq l0 l1 x5_1 x6_1 x7_1 = some r) ∧ Aside0 (kq ≤ k) ∧ Aside0 (Kd.R (Kd.int .i64) 3 w' w.heap.size (fun _ => True) v5 x5_1) ∧ Aside0 (Below w.heap.size w w'))
 case atStart => exact ⟨(([] : List Int)), (0), (0), eqd, eqd, H', ⟨Nat.le_refl _⟩, ⟨by first | exact Kd.R_nil _ _ _ _ _ | exact Kd.N_nil _ _ _ _ _ | exact Kd.V_nil _ _ _ _ _ | exact Kd.Q_nil _ _ _ _ _ | exact Kd.S_nil _ _ _ _ _⟩, ⟨lk HB⟩⟩
 case round =>
  clear H'
  obtain ⟨x5_1, x6_1, x7_1, rfl, rfl, HA, HK1, HO_5, HB⟩ := hrel
  cases gk with
  | zero => exact absurd HA.out (by simp [r_add.l0])
  | succ k1 =>
   have H := HA.out
   clear HA
   simp only [r_add.l0] at H
   have HC3 := am H
   clear H
   go_upto_region 4 with (fail)
   go_cut [22] (fun v22 wc => ∃ (kq : Nat) (x22_2 : Bool), v22 = .bool x22_2 ∧ Aside0 (r_add.j1 kq l0 l1 x5_1 x6_1 x7_1 x22_2 = some r) ∧ Aside0 (kq ≤ k1) ∧ Aside0 (Kd.R (Kd.int .i64) 3 wc w.heap.size (fun _ => True) u5 x5_1) ∧ Aside0 (Below w.heap.size w wc))
   case first =>
    have H := HC3.out
    clear HC3
    by_cases c4 : x7_1 < (l0.length : Int)
    ·
     rw [if_pos c4] at H
     have c4b0 := dt c4
     clear c4
     (first | rw [c4b0] | (simp only [i64_w, i32_w]; rw [c4b0]) | skip)
     have H' := am H
     clear H
     go_wp2
     go_meet
     case rel => exact ⟨_, (true), eqd, H', ⟨by have := HK1.out; first | omega | exact Nat.le_refl _⟩, ⟨rk HO_5⟩, ⟨lk HB⟩⟩
    rw [if_neg c4] at H
    have c4b0 := decide_eq_false c4
    clear c4
    (first | rw [c4b0] | (simp only [i64_w, i32_w]; rw [c4b0]) | skip)
    by_cases c5 : x7_1 < (l1.length : Int)
    ·
     rw [if_pos c5] at H
     have c5b0 := dt c5
     clear c5
     have H' := am H
     clear H
     go_wp2
     go_meet
     case rel => exact ⟨_, (true), eqd, H', ⟨by have := HK1.out; first | omega | exact Nat.le_refl _⟩, ⟨rk HO_5⟩, ⟨lk HB⟩⟩
    rw [if_neg c5] at H
    have c5b0 := decide_eq_false c5
    clear c5
    have H' := am H
    clear H
    go_wp2
    go_meet
    case rel => exact ⟨_, (decide (x6_1 > 0)), eqd, H', ⟨by have := HK1.out; first | omega | exact Nat.le_refl _⟩, ⟨rk HO_5⟩, ⟨lk HB⟩⟩
   case rest =>
    clear HC3
    obtain ⟨kq, x22_2, rfl, HA, HJ2, HO_5, HB⟩ := hcut
    cases kq with
    | zero => exact absurd HA.out (by simp [r_add.j1])
    | succ kj2 =>
     have H := HA.out
     clear HA
     simp only [r_add.j1] at H
     by_cases c6 : x22_2 = true
     ·
      subst c6
      rw [if_pos rfl] at H
      by_cases c7 : x7_1 < (l0.length : Int)
      ·
       rw [if_pos c7] at H
       have c7b0 := dt c7
       clear c7
       by_cases c8 : 0 ≤ x7_1
       ·
        rw [if_pos c8] at H
        have c8b0 := dt c8
        clear c8
        by_cases c9 : x7_1 < (l1.length : Int)
        ·
         rw [if_pos c9] at H
         have c9b0 := dt c9
         clear c9
         by_cases c10 : x5_1.length < 17592186044416
         ·
          rw [if_pos c10] at H
          have LMc10 := am c10
          clear c10
          obtain ⟨y416, hy416⟩ : ∃ y_ : List Int, y_ = (x5_1 ++ [Int.tmod (wrap64 ((wrap64 (x6_1 + (rd l0 x7_1))) + (rd l1 x7_1))) 10000]) := ⟨_, rfl⟩
          replace H : (r_add.l0 kj2 l0 l1 y416 (wrap64 (Int.tdiv (wrap64 ((wrap64 (x6_1 + (rd l0 x7_1))) + (rd l1 x7_1))) 10000)) (wrap64 (x7_1 + 1))) = some r := by first | (rw [hy416]; exact H) | exact H
          have Ny416 := am hy416
          clear hy416
          have H' := am H
          clear H
          have p414 : 0 ≤ (x7_1 : Int) := od
          have q414 : x7_1 < (l0.length : Int) := od
          obtain ⟨ad414, e414, hx414_0⟩ := Kd.at_int HR0.out x7_1 p414 q414
          cases e414
          replace hx414_0 := (HB.out.cell (World.block_lt_of_cell? w _ hx414_0)).trans hx414_0
          replace p414 := eq_true p414
          replace q414 := eq_true q414
          have p415 : 0 ≤ (x7_1 : Int) := od
          have q415 : x7_1 < (l1.length : Int) := od
          obtain ⟨ad415, e415, hx415_0⟩ := Kd.at_int HR1.out x7_1 p415 q415
          cases e415
          replace hx415_0 := (HB.out.cell (World.block_lt_of_cell? w _ hx415_0)).trans hx415_0
          replace p415 := eq_true p415
          replace q415 := eq_true q415
          go_wp2_with (first | ((with_reducible refine gate_builtin (b := .append) (xs := #[.tmp 46, .tmp 49]) rfl ?_); (try (refine gate_guard (by rfl) ?_; dsimp only)); at_builtin; refine Kd.R_append (Kd.int .i64) (w0 := w) w.heap.size rfl (.tmp 46) (.tmp 49) 69 3 (.int .i64 0) 8 rfl Tryd.underlying69 info3 rfl (by decide) (by omega) u5 x5_1 (Int.tmod (wrap64 ((wrap64 (x6_1 + (rd l0 x7_1))) + (rd l1 x7_1))) 10000) [.int .i64 (Int.tmod (wrap64 ((wrap64 (x6_1 + (rd l0 x7_1))) + (rd l1 x7_1))) 10000)] (fun _ => True) (fun _ => False) rfl rfl ?aP (fun _ hk => hk.elim) ?aF ?aO ?aB ?aS ?aL ?_; (case aP => exact rfl); (case aB => exact (lk HB)); (case aF => exact (fun _ _ => trivial)); (case aO => exact (rk HO_5)); (case aS => exact (below_size (lk HB))); (case aL => have := LMc10.out; omega); intro v417 w11 ho hb hg hat; rw [← Ny416.out] at ho; replace HB := am (hb); have HO418 := am (ho); clear HO_5 ho hb hg hat))
          go_roundg kj2
          case measure => have := HK1.out; have := HJ2.out; omega
          case rel => exact ⟨(y416), (wrap64 (Int.tdiv (wrap64 ((wrap64 (x6_1 + (rd l0 x7_1))) + (rd l1 x7_1))) 10000)), (wrap64 (x7_1 + 1)), eqd, eqd, H', ⟨by have := HK1.out; have := HJ2.out; omega⟩, ⟨rk HO418⟩, ⟨lk HB⟩⟩
         rw [if_neg c10] at H
         exact absurd H (by simp)
        rw [if_neg c9] at H
        have c9b0 := decide_eq_false c9
        clear c9
        by_cases c12 : x5_1.length < 17592186044416
        ·
         rw [if_pos c12] at H
         have LMc12 := am c12
         clear c12
         obtain ⟨y419, hy419⟩ : ∃ y_ : List Int, y_ = (x5_1 ++ [Int.tmod (wrap64 (x6_1 + (rd l0 x7_1))) 10000]) := ⟨_, rfl⟩
         replace H : (r_add.l0 kj2 l0 l1 y419 (wrap64 (Int.tdiv (wrap64 (x6_1 + (rd l0 x7_1))) 10000)) (wrap64 (x7_1 + 1))) = some r := by first | (rw [hy419]; exact H) | exact H
         have Ny419 := am hy419
         clear hy419
         have H' := am H
         clear H
         have p414 : 0 ≤ (x7_1 : Int) := od
         have q414 : x7_1 < (l0.length : Int) := od
         obtain ⟨ad414, e414, hx414_0⟩ := Kd.at_int HR0.out x7_1 p414 q414
         cases e414
         replace hx414_0 := (HB.out.cell (World.block_lt_of_cell? w _ hx414_0)).trans hx414_0
         replace p414 := eq_true p414
         replace q414 := eq_true q414
         go_wp2_with (first | ((with_reducible refine gate_builtin (b := .append) (xs := #[.tmp 46, .tmp 49]) rfl ?_); (try (refine gate_guard (by rfl) ?_; dsimp only)); at_builtin; refine Kd.R_append (Kd.int .i64) (w0 := w) w.heap.size rfl (.tmp 46) (.tmp 49) 69 3 (.int .i64 0) 8 rfl Tryd.underlying69 info3 rfl (by decide) (by omega) u5 x5_1 (Int.tmod (wrap64 (x6_1 + (rd l0 x7_1))) 10000) [.int .i64 (Int.tmod (wrap64 (x6_1 + (rd l0 x7_1))) 10000)] (fun _ => True) (fun _ => False) rfl rfl ?aP (fun _ hk => hk.elim) ?aF ?aO ?aB ?aS ?aL ?_; (case aP => exact rfl); (case aB => exact (lk HB)); (case aF => exact (fun _ _ => trivial)); (case aO => exact (rk HO_5)); (case aS => exact (below_size (lk HB))); (case aL => have := LMc12.out; omega); intro v420 w13 ho hb hg hat; rw [← Ny419.out] at ho; replace HB := am (hb); have HO421 := am (ho); clear HO_5 ho hb hg hat))
         go_roundg kj2
         case measure => have := HK1.out; have := HJ2.out; omega
         case rel => exact ⟨(y419), (wrap64 (Int.tdiv (wrap64 (x6_1 + (rd l0 x7_1))) 10000)), (wrap64 (x7_1 + 1)), eqd, eqd, H', ⟨by have := HK1.out; have := HJ2.out; omega⟩, ⟨rk HO421⟩, ⟨lk HB⟩⟩
        rw [if_neg c12] at H
        exact absurd H (by simp)
       rw [if_neg c8] at H
       exact absurd H (by simp)
      rw [if_neg c7] at H
      have c7b0 := decide_eq_false c7
      clear c7
      by_cases c14 : x7_1 < (l1.length : Int)
      ·
       rw [if_pos c14] at H
       have c14b0 := dt c14
       clear c14
       by_cases c15 : 0 ≤ x7_1
       ·
        rw [if_pos c15] at H
        have c15b0 := dt c15
        clear c15
        by_cases c16 : x5_1.length < 17592186044416
        ·
         rw [if_pos c16] at H
         have LMc16 := am c16
         clear c16
         obtain ⟨y423, hy423⟩ : ∃ y_ : List Int, y_ = (x5_1 ++ [Int.tmod (wrap64 (x6_1 + (rd l1 x7_1))) 10000]) := ⟨_, rfl⟩
         replace H : (r_add.l0 kj2 l0 l1 y423 (wrap64 (Int.tdiv (wrap64 (x6_1 + (rd l1 x7_1))) 10000)) (wrap64 (x7_1 + 1))) = some r := by first | (rw [hy423]; exact H) | exact H
         have Ny423 := am hy423
         clear hy423
         have H' := am H
         clear H
         have p422 : 0 ≤ (x7_1 : Int) := od
         have q422 : x7_1 < (l1.length : Int) := od
         obtain ⟨ad422, e422, hx422_0⟩ := Kd.at_int HR1.out x7_1 p422 q422
         cases e422
         replace hx422_0 := (HB.out.cell (World.block_lt_of_cell? w _ hx422_0)).trans hx422_0
         replace p422 := eq_true p422
         replace q422 := eq_true q422
         go_wp2_with (first | ((with_reducible refine gate_builtin (b := .append) (xs := #[.tmp 46, .tmp 49]) rfl ?_); (try (refine gate_guard (by rfl) ?_; dsimp only)); at_builtin; refine Kd.R_append (Kd.int .i64) (w0 := w) w.heap.size rfl (.tmp 46) (.tmp 49) 69 3 (.int .i64 0) 8 rfl Tryd.underlying69 info3 rfl (by decide) (by omega) u5 x5_1 (Int.tmod (wrap64 (x6_1 + (rd l1 x7_1))) 10000) [.int .i64 (Int.tmod (wrap64 (x6_1 + (rd l1 x7_1))) 10000)] (fun _ => True) (fun _ => False) rfl rfl ?aP (fun _ hk => hk.elim) ?aF ?aO ?aB ?aS ?aL ?_; (case aP => exact rfl); (case aB => exact (lk HB)); (case aF => exact (fun _ _ => trivial)); (case aO => exact (rk HO_5)); (case aS => exact (below_size (lk HB))); (case aL => have := LMc16.out; omega); intro v424 w17 ho hb hg hat; rw [← Ny423.out] at ho; replace HB := am (hb); have HO425 := am (ho); clear HO_5 ho hb hg hat))
         go_roundg kj2
         case measure => have := HK1.out; have := HJ2.out; omega
         case rel => exact ⟨(y423), (wrap64 (Int.tdiv (wrap64 (x6_1 + (rd l1 x7_1))) 10000)), (wrap64 (x7_1 + 1)), eqd, eqd, H', ⟨by have := HK1.out; have := HJ2.out; omega⟩, ⟨rk HO425⟩, ⟨lk HB⟩⟩
        rw [if_neg c16] at H
        exact absurd H (by simp)
       rw [if_neg c15] at H
       exact absurd H (by simp)
      rw [if_neg c14] at H
      have c14b0 := decide_eq_false c14
      clear c14
      by_cases c18 : x5_1.length < 17592186044416
      ·
       rw [if_pos c18] at H
       have LMc18 := am c18
       clear c18
       obtain ⟨y426, hy426⟩ : ∃ y_ : List Int, y_ = (x5_1 ++ [Int.tmod x6_1 10000]) := ⟨_, rfl⟩
       replace H : (r_add.l0 kj2 l0 l1 y426 (wrap64 (Int.tdiv x6_1 10000)) (wrap64 (x7_1 + 1))) = some r := by first | (rw [hy426]; exact H) | exact H
       have Ny426 := am hy426
       clear hy426
       have H' := am H
       clear H
       go_wp2_with (first | ((with_reducible refine gate_builtin (b := .append) (xs := #[.tmp 46, .tmp 49]) rfl ?_); (try (refine gate_guard (by rfl) ?_; dsimp only)); at_builtin; refine Kd.R_append (Kd.int .i64) (w0 := w) w.heap.size rfl (.tmp 46) (.tmp 49) 69 3 (.int .i64 0) 8 rfl Tryd.underlying69 info3 rfl (by decide) (by omega) u5 x5_1 (Int.tmod x6_1 10000) [.int .i64 (Int.tmod x6_1 10000)] (fun _ => True) (fun _ => False) rfl rfl ?aP (fun _ hk => hk.elim) ?aF ?aO ?aB ?aS ?aL ?_; (case aP => exact rfl); (case aB => exact (lk HB)); (case aF => exact (fun _ _ => trivial)); (case aO => exact (rk HO_5)); (case aS => exact (below_size (lk HB))); (case aL => have := LMc18.out; omega); intro v427 w19 ho hb hg hat; rw [← Ny426.out] at ho; replace HB := am (hb); have HO428 := am (ho); clear HO_5 ho hb hg hat))
       go_roundg kj2
       case measure => have := HK1.out; have := HJ2.out; omega
       case rel => exact ⟨(y426), (wrap64 (Int.tdiv x6_1 10000)), (wrap64 (x7_1 + 1)), eqd, eqd, H', ⟨by have := HK1.out; have := HJ2.out; omega⟩, ⟨rk HO428⟩, ⟨lk HB⟩⟩
      rw [if_neg c18] at H
      exact absurd H (by simp)
     replace c6 := Bool.eq_false_iff.mpr c6
     subst c6
     rw [if_neg (show ¬ (false = true) by decide)] at H
     obtain rfl := Option.some.inj H
     go_wp2
     go_ret
     exact ⟨_, by first | rfl | (simp [errW_none, errW_some] <;> rfl) | (simp [*, errW_none, errW_some] <;> rfl), rk HO_5, lk HB⟩
def r_reads.j0 : Nat → Int → Int → Bool → Int → Bool → List Int → Int → Option (Bool)
 | 0, _, _, _, _, _, _, _ => none
 | k + 1, x5, x6, x7, x8, x30, x409q0, x409q1 => if x30 = true then ((r_below.f k (wrap64 ((wrap64 (4 * x5)) - 1)) (wrap64 (x6 - 2)) x409q0 x409q1).bind fun t412 => (if x8 > 0 then (if t412 < 0 then (some true) else (if t412 = 0 then (some x7) else (some false))) else (if x8 = 0 then (if x7 = true then (if t412 < 0 then (some true) else (if t412 = 0 then (some x7) else (some false))) else (some false)) else (some false)))) else ((r_below.f k (wrap64 ((wrap64 (2 * x5)) - 1)) (wrap64 (x6 - 1)) x409q0 x409q1).bind fun t413 => (if x8 > 0 then (if t413 < 0 then (some true) else (if t413 = 0 then (some x7) else (some false))) else (if x8 = 0 then (if x7 = true then (if t413 < 0 then (some true) else (if t413 = 0 then (some x7) else (some false))) else (some false)) else (some false))))
def r_reads.f (k : Nat) (a0 : Int) (l1_0 : List Int) (a1_1 : Int) : Option (Bool) := (r_parts.f a0).bind fun bt409 => ((r_below.f k (wrap64 ((wrap64 (2 * bt409.1)) + 1)) (wrap64 (bt409.2 - 1)) l1_0 a1_1).bind fun t411 => (if bt409.1 = 4503599627370496 then (r_reads.j0 k bt409.1 bt409.2 ((Int.tmod a0 2) == 0) t411 (decide (bt409.2 > (-1074))) l1_0 a1_1) else (r_reads.j0 k bt409.1 bt409.2 ((Int.tmod a0 2) == 0) t411 false l1_0 a1_1)))
theorem r_reads.mono_l : ∀ k, (∀ y0 y1 y2 y3 y4 y5 y6, LeO (r_reads.j0 k y0 y1 y2 y3 y4 y5 y6) (r_reads.j0 (k + 1) y0 y1 y2 y3 y4 y5 y6))
 | 0 => fun _ _ _ _ _ _ _ r h => by simp [r_reads.j0] at h
 | k + 1 => by
  have ih0 := r_reads.mono_l k
  ·
   intro y0 y1 y2 y3 y4 y5 y6
   unfold r_reads.j0
   repeat' (with_reducible first | apply ih0 | apply r_below.mono | apply LeO.refl | apply LeO.none | apply LeO.ite | refine LeO.bind ?_ (fun _ => ?_))
theorem r_reads.mono : ∀ a0 a1 a2 k, LeO (r_reads.f k a0 a1 a2) (r_reads.f (k + 1) a0 a1 a2) := by
 intro a0 a1 a2 k
 have ih0 := r_reads.mono_l k
 unfold r_reads.f
 repeat' (with_reducible first | apply ih0 | apply r_below.mono | apply LeO.refl | apply LeO.none | apply LeO.ite | refine LeO.bind ?_ (fun _ => ?_))
set_option maxHeartbeats 8000000 in
theorem r_reads.calls (k : Nat) (a0 : Int) (A1_0 : Option Addr) (c1_0 : Nat) (l1_0 : List Int) (a1_1 : Int) (r : Bool) (w : World) (hr1_0 : Kd.C (Kd.int .i64) w A1_0 l1_0.length l1_0) (hc1_0 : l1_0.length ≤ c1_0) (h : r_reads.f k a0 l1_0 a1_1 = some r) :
  Calls Tryd.prog 58 #[.int .u64 a0, .agg #[.slice A1_0 l1_0.length c1_0, .int .i64 a1_1]] w fun e w' => e = .returned (.bool r) ∧ Below w.heap.size w w' := by
 have hu72 := Tryd.underlying72
 have HR1_0 := am hr1_0
 have HC1_0 := am hc1_0
 clear hr1_0 hc1_0
 have HB := am (Below.refl w.heap.size w)
 have H : ((r_parts.f a0).bind fun bt409 => ((r_below.f k (wrap64 ((wrap64 (2 * bt409.1)) + 1)) (wrap64 (bt409.2 - 1)) l1_0 a1_1).bind fun t411 => (if bt409.1 = 4503599627370496 then (r_reads.j0 k bt409.1 bt409.2 ((Int.tmod a0 2) == 0) t411 (decide (bt409.2 > (-1074))) l1_0 a1_1) else (r_reads.j0 k bt409.1 bt409.2 ((Int.tmod a0 2) == 0) t411 false l1_0 a1_1)))) = some r := h
 clear h
 replace H := bm H
 obtain ⟨⟨t409, t410⟩, A30, H⟩ := H
 replace H : ((r_below.f k (wrap64 ((wrap64 (2 * t409)) + 1)) (wrap64 (t410 - 1)) l1_0 a1_1).bind fun t411 => (if t409 = 4503599627370496 then (r_reads.j0 k t409 t410 ((Int.tmod a0 2) == 0) t411 (decide (t410 > (-1074))) l1_0 a1_1) else (r_reads.j0 k t409 t410 ((Int.tmod a0 2) == 0) t411 false l1_0 a1_1))) = some r := H
 have A3 := am A30
 clear A30
 replace H := bm H
 obtain ⟨t411, A40, H⟩ := H
 have A4 := am A40
 clear A40
 have HC5 := am H
 clear H
 go_enter Tryd.func58, Tryd.ntmps58
 go_upto_region 5 with (first | ((with_reducible refine gate_dst (N := 3) rfl ?_); refine box_event ?hg (N := 3) ?hd (cs := #[.slice A1_0 l1_0.length c1_0, .int .i64 a1_1]) (t := 72) ?hr ?_; (case hd => rfl); (case hg => rfl); (case hr => first | (go_simp; done) | (go_simp; rfl)); intro gb408 hg w6 hbox hb; have BK408 := am (hbox); have GW408 := am ((by rw [hg]; exact (below_size (lk HB)) : w.heap.size ≤ gb408)); have GE408 := GW408; replace HB := lb HB hb; clear hb hbox hg) | (refine gL (some 12) Tryd.func88 #[.int .u64 a0] ?_; (with_reducible refine (r_parts.calls a0 t409 t410 _ A3.out).mono ?_); rintro e w' ⟨rfl, ⟨nd, rfl⟩⟩; refine ⟨_, rfl, ?_⟩; have hcz7_0 : w6.cell? ⟨gb408, 0, none⟩ = some (.slice A1_0 l1_0.length c1_0) := (blk_cell BK408.out 0).trans rfl; have hcz7_1 : w6.cell? ⟨gb408, 1, none⟩ = some (.int .i64 a1_1) := (blk_cell BK408.out 1).trans rfl; have hfz7_0 := blk_frozen BK408.out 0; have hfz7_1 := blk_frozen BK408.out 1) | (refine gL (some 24) Tryd.func89 #[.int .i64 (wrap64 ((wrap64 (2 * t409)) + 1)), .int .i64 (wrap64 (t410 - 1)), .agg #[.slice A1_0 l1_0.length c1_0, .int .i64 a1_1]] ?_; (with_reducible refine (r_below.calls k (wrap64 ((wrap64 (2 * t409)) + 1)) (wrap64 (t410 - 1)) _ _ l1_0 a1_1 t411 _ ?side1 ?side2 A4.out).mono ?_); (case side1 => repeat (first | exact (Kd.C_below HR1_0.out (lk HB)) | (with_reducible refine Kd.C_alloc ?_ _) | (with_reducible refine Kd.C_drewN ?_ _) | (with_reducible refine Kd.C_drew ?_))); (case side2 => exact HC1_0.out); rintro e w8 ⟨rfl, hb⟩; refine ⟨_, rfl, ?_⟩; replace BK408 := bb BK408 hb; replace HB := lb HB hb))
 (try simp only [Act.put, List.setIfInBounds_toArray, List.set_cons_zero, List.set_cons_succ])
 go_cut [30] (fun v30 wc => ∃ (kq : Nat) (x30_4 : Bool), v30 = .bool x30_4 ∧ Aside0 (r_reads.j0 kq t409 t410 ((Int.tmod a0 2) == 0) t411 x30_4 l1_0 a1_1 = some r) ∧ Aside0 (kq ≤ k) ∧ Aside0 (wc.heap[gb408]? = some (.cells #[(.slice A1_0 l1_0.length c1_0), .int .i64 a1_1] 72 (0, 0))) ∧ Aside0 (Below w.heap.size w wc))
 case first =>
  have H := HC5.out
  clear HC5
  by_cases c9 : t409 = 4503599627370496
  ·
   rw [if_pos c9] at H
   have c9b0 : (t409 == 4503599627370496) = true := beq_iff_eq.mpr c9
   have c9b1 : (t409 != 4503599627370496) = false := bne_eq_false_iff_eq.mpr c9
   clear c9
   (first | rw [c9b0] | (simp only [i64_w, i32_w]; rw [c9b0]) | skip)
   have H' := am H
   clear H
   go_wp2
   go_meet
   case rel => exact ⟨_, (decide (t410 > (-1074))), eqd, H', ol, ⟨bk BK408⟩, ⟨lk HB⟩⟩
  rw [if_neg c9] at H
  have c9b0 : (t409 == 4503599627370496) = false := beq_eq_false_iff_ne.mpr c9
  have c9b1 : (t409 != 4503599627370496) = true := bne_iff_ne.mpr c9
  (first | rw [c9b0] | (simp only [i64_w, i32_w]; rw [c9b0]) | skip)
  have H' := am H
  clear H
  go_wp2
  go_meet
  case rel => exact ⟨_, (false), eqd, H', ol, ⟨bk BK408⟩, ⟨lk HB⟩⟩
 case rest =>
  clear HC5
  obtain ⟨kq, x30_4, rfl, HA, HJ4, BK408, HB⟩ := hcut
  cases kq with
  | zero => exact absurd HA.out (by simp [r_reads.j0])
  | succ kj4 =>
   have H := HA.out
   clear HA
   simp only [r_reads.j0] at H
   by_cases c10 : x30_4 = true
   ·
    subst c10
    rw [if_pos rfl] at H
    replace H := bm H
    obtain ⟨t412, A110, H⟩ := H
    have A11 := am A110
    clear A110
    by_cases c12 : t411 > 0
    ·
     rw [if_pos c12] at H
     have c12b0 : decide (0 < t411) = true := dt c12
     clear c12
     by_cases c13 : t412 < 0
     ·
      rw [if_pos c13] at H
      have c13b0 := dt c13
      clear c13
      obtain rfl := Option.some.inj H
      have hcz14_0 : wc.cell? ⟨gb408, 0, none⟩ = some (.slice A1_0 l1_0.length c1_0) := (blk_cell BK408.out 0).trans rfl
      have hcz14_1 : wc.cell? ⟨gb408, 1, none⟩ = some (.int .i64 a1_1) := (blk_cell BK408.out 1).trans rfl
      have hfz14_0 := blk_frozen BK408.out 0
      have hfz14_1 := blk_frozen BK408.out 1
      go_wp2_with (first | (refine gL (some 37) Tryd.func89 #[.int .i64 (wrap64 ((wrap64 (4 * t409)) - 1)), .int .i64 (wrap64 (t410 - 2)), .agg #[.slice A1_0 l1_0.length c1_0, .int .i64 a1_1]] ?_; (with_reducible refine (r_below.calls kj4 (wrap64 ((wrap64 (4 * t409)) - 1)) (wrap64 (t410 - 2)) _ _ l1_0 a1_1 t412 _ ?side1 ?side2 A11.out).mono ?_); (case side1 => exact ck (Kd.C_below HR1_0.out HB.out)); (case side2 => exact HC1_0.out); rintro e w15 ⟨rfl, hb⟩; refine ⟨_, rfl, ?_⟩; replace BK408 := bb BK408 hb; replace HB := lb HB hb))
      go_ret
      exact ex (lk HB)
     rw [if_neg c13] at H
     have c13b0 := decide_eq_false c13
     clear c13
     by_cases c16 : t412 = 0
     ·
      rw [if_pos c16] at H
      have c16b0 : (t412 == 0) = true := beq_iff_eq.mpr c16
      have c16b1 : (t412 != 0) = false := bne_eq_false_iff_eq.mpr c16
      clear c16
      obtain rfl := Option.some.inj H
      have hcz17_0 : wc.cell? ⟨gb408, 0, none⟩ = some (.slice A1_0 l1_0.length c1_0) := (blk_cell BK408.out 0).trans rfl
      have hcz17_1 : wc.cell? ⟨gb408, 1, none⟩ = some (.int .i64 a1_1) := (blk_cell BK408.out 1).trans rfl
      have hfz17_0 := blk_frozen BK408.out 0
      have hfz17_1 := blk_frozen BK408.out 1
      go_wp2_with (first | (refine gL (some 37) Tryd.func89 #[.int .i64 (wrap64 ((wrap64 (4 * t409)) - 1)), .int .i64 (wrap64 (t410 - 2)), .agg #[.slice A1_0 l1_0.length c1_0, .int .i64 a1_1]] ?_; (with_reducible refine (r_below.calls kj4 (wrap64 ((wrap64 (4 * t409)) - 1)) (wrap64 (t410 - 2)) _ _ l1_0 a1_1 t412 _ ?side1 ?side2 A11.out).mono ?_); (case side1 => exact ck (Kd.C_below HR1_0.out HB.out)); (case side2 => exact HC1_0.out); rintro e w18 ⟨rfl, hb⟩; refine ⟨_, rfl, ?_⟩; replace BK408 := bb BK408 hb; replace HB := lb HB hb))
      go_ret
      exact ex (lk HB)
     rw [if_neg c16] at H
     have c16b0 : (t412 == 0) = false := beq_eq_false_iff_ne.mpr c16
     have c16b1 : (t412 != 0) = true := bne_iff_ne.mpr c16
     obtain rfl := Option.some.inj H
     have hcz19_0 : wc.cell? ⟨gb408, 0, none⟩ = some (.slice A1_0 l1_0.length c1_0) := (blk_cell BK408.out 0).trans rfl
     have hcz19_1 : wc.cell? ⟨gb408, 1, none⟩ = some (.int .i64 a1_1) := (blk_cell BK408.out 1).trans rfl
     have hfz19_0 := blk_frozen BK408.out 0
     have hfz19_1 := blk_frozen BK408.out 1
     go_wp2_with (first | (refine gL (some 37) Tryd.func89 #[.int .i64 (wrap64 ((wrap64 (4 * t409)) - 1)), .int .i64 (wrap64 (t410 - 2)), .agg #[.slice A1_0 l1_0.length c1_0, .int .i64 a1_1]] ?_; (with_reducible refine (r_below.calls kj4 (wrap64 ((wrap64 (4 * t409)) - 1)) (wrap64 (t410 - 2)) _ _ l1_0 a1_1 t412 _ ?side1 ?side2 A11.out).mono ?_); (case side1 => exact ck (Kd.C_below HR1_0.out HB.out)); (case side2 => exact HC1_0.out); rintro e w20 ⟨rfl, hb⟩; refine ⟨_, rfl, ?_⟩; replace BK408 := bb BK408 hb; replace HB := lb HB hb))
     go_ret
     exact ex (lk HB)
    rw [if_neg c12] at H
    have c12b0 : decide (0 < t411) = false := decide_eq_false c12
    clear c12
    by_cases c21 : t411 = 0
    ·
     rw [if_pos c21] at H
     have c21b0 : (t411 == 0) = true := beq_iff_eq.mpr c21
     have c21b1 : (t411 != 0) = false := bne_eq_false_iff_eq.mpr c21
     clear c21
     by_cases c22 : ((Int.tmod a0 2) == 0) = true
     ·
      rw [if_pos c22] at H
      have c22b0 : ((Int.tmod a0 2) == 0) = true := c22
      (try (have c22b1 : decide ((Int.tmod a0 2) = 0) = true := by simpa using c22))
      (try (have c22b2 : ((Int.tmod a0 2) == 0) = true := by simpa using c22))
      clear c22
      by_cases c23 : t412 < 0
      ·
       rw [if_pos c23] at H
       have c23b0 := dt c23
       clear c23
       obtain rfl := Option.some.inj H
       have hcz24_0 : wc.cell? ⟨gb408, 0, none⟩ = some (.slice A1_0 l1_0.length c1_0) := (blk_cell BK408.out 0).trans rfl
       have hcz24_1 : wc.cell? ⟨gb408, 1, none⟩ = some (.int .i64 a1_1) := (blk_cell BK408.out 1).trans rfl
       have hfz24_0 := blk_frozen BK408.out 0
       have hfz24_1 := blk_frozen BK408.out 1
       go_wp2_with (first | (refine gL (some 37) Tryd.func89 #[.int .i64 (wrap64 ((wrap64 (4 * t409)) - 1)), .int .i64 (wrap64 (t410 - 2)), .agg #[.slice A1_0 l1_0.length c1_0, .int .i64 a1_1]] ?_; (with_reducible refine (r_below.calls kj4 (wrap64 ((wrap64 (4 * t409)) - 1)) (wrap64 (t410 - 2)) _ _ l1_0 a1_1 t412 _ ?side1 ?side2 A11.out).mono ?_); (case side1 => exact ck (Kd.C_below HR1_0.out HB.out)); (case side2 => exact HC1_0.out); rintro e w25 ⟨rfl, hb⟩; refine ⟨_, rfl, ?_⟩; replace BK408 := bb BK408 hb; replace HB := lb HB hb))
       go_ret
       exact ex (lk HB)
      rw [if_neg c23] at H
      have c23b0 := decide_eq_false c23
      clear c23
      by_cases c26 : t412 = 0
      ·
       rw [if_pos c26] at H
       have c26b0 : (t412 == 0) = true := beq_iff_eq.mpr c26
       have c26b1 : (t412 != 0) = false := bne_eq_false_iff_eq.mpr c26
       clear c26
       obtain rfl := Option.some.inj H
       have hcz27_0 : wc.cell? ⟨gb408, 0, none⟩ = some (.slice A1_0 l1_0.length c1_0) := (blk_cell BK408.out 0).trans rfl
       have hcz27_1 : wc.cell? ⟨gb408, 1, none⟩ = some (.int .i64 a1_1) := (blk_cell BK408.out 1).trans rfl
       have hfz27_0 := blk_frozen BK408.out 0
       have hfz27_1 := blk_frozen BK408.out 1
       go_wp2_with (first | (refine gL (some 37) Tryd.func89 #[.int .i64 (wrap64 ((wrap64 (4 * t409)) - 1)), .int .i64 (wrap64 (t410 - 2)), .agg #[.slice A1_0 l1_0.length c1_0, .int .i64 a1_1]] ?_; (with_reducible refine (r_below.calls kj4 (wrap64 ((wrap64 (4 * t409)) - 1)) (wrap64 (t410 - 2)) _ _ l1_0 a1_1 t412 _ ?side1 ?side2 A11.out).mono ?_); (case side1 => exact ck (Kd.C_below HR1_0.out HB.out)); (case side2 => exact HC1_0.out); rintro e w28 ⟨rfl, hb⟩; refine ⟨_, rfl, ?_⟩; replace BK408 := bb BK408 hb; replace HB := lb HB hb))
       go_ret
       exact ex (lk HB)
      rw [if_neg c26] at H
      have c26b0 : (t412 == 0) = false := beq_eq_false_iff_ne.mpr c26
      have c26b1 : (t412 != 0) = true := bne_iff_ne.mpr c26
      obtain rfl := Option.some.inj H
      have hcz29_0 : wc.cell? ⟨gb408, 0, none⟩ = some (.slice A1_0 l1_0.length c1_0) := (blk_cell BK408.out 0).trans rfl
      have hcz29_1 : wc.cell? ⟨gb408, 1, none⟩ = some (.int .i64 a1_1) := (blk_cell BK408.out 1).trans rfl
      have hfz29_0 := blk_frozen BK408.out 0
      have hfz29_1 := blk_frozen BK408.out 1
      go_wp2_with (first | (refine gL (some 37) Tryd.func89 #[.int .i64 (wrap64 ((wrap64 (4 * t409)) - 1)), .int .i64 (wrap64 (t410 - 2)), .agg #[.slice A1_0 l1_0.length c1_0, .int .i64 a1_1]] ?_; (with_reducible refine (r_below.calls kj4 (wrap64 ((wrap64 (4 * t409)) - 1)) (wrap64 (t410 - 2)) _ _ l1_0 a1_1 t412 _ ?side1 ?side2 A11.out).mono ?_); (case side1 => exact ck (Kd.C_below HR1_0.out HB.out)); (case side2 => exact HC1_0.out); rintro e w30 ⟨rfl, hb⟩; refine ⟨_, rfl, ?_⟩; replace BK408 := bb BK408 hb; replace HB := lb HB hb))
      go_ret
      exact ex (lk HB)
     rw [if_neg c22] at H
     have c22b0 : ((Int.tmod a0 2) == 0) = false := by simpa using c22
     (try (have c22b1 : decide ((Int.tmod a0 2) = 0) = false := by simpa using c22))
     (try (have c22b2 : ((Int.tmod a0 2) == 0) = false := by simpa using c22))
     (try (have c22b3 : ¬ ((Int.tmod a0 2) = 0) := by simpa using c22))
     clear c22
     obtain rfl := Option.some.inj H
     have hcz31_0 : wc.cell? ⟨gb408, 0, none⟩ = some (.slice A1_0 l1_0.length c1_0) := (blk_cell BK408.out 0).trans rfl
     have hcz31_1 : wc.cell? ⟨gb408, 1, none⟩ = some (.int .i64 a1_1) := (blk_cell BK408.out 1).trans rfl
     have hfz31_0 := blk_frozen BK408.out 0
     have hfz31_1 := blk_frozen BK408.out 1
     go_wp2_with (first | (refine gL (some 37) Tryd.func89 #[.int .i64 (wrap64 ((wrap64 (4 * t409)) - 1)), .int .i64 (wrap64 (t410 - 2)), .agg #[.slice A1_0 l1_0.length c1_0, .int .i64 a1_1]] ?_; (with_reducible refine (r_below.calls kj4 (wrap64 ((wrap64 (4 * t409)) - 1)) (wrap64 (t410 - 2)) _ _ l1_0 a1_1 t412 _ ?side1 ?side2 A11.out).mono ?_); (case side1 => exact ck (Kd.C_below HR1_0.out HB.out)); (case side2 => exact HC1_0.out); rintro e w32 ⟨rfl, hb⟩; refine ⟨_, rfl, ?_⟩; replace BK408 := bb BK408 hb; replace HB := lb HB hb))
     go_ret
     exact ex (lk HB)
    rw [if_neg c21] at H
    have c21b0 : (t411 == 0) = false := beq_eq_false_iff_ne.mpr c21
    have c21b1 : (t411 != 0) = true := bne_iff_ne.mpr c21
    obtain rfl := Option.some.inj H
    have hcz33_0 : wc.cell? ⟨gb408, 0, none⟩ = some (.slice A1_0 l1_0.length c1_0) := (blk_cell BK408.out 0).trans rfl
    have hcz33_1 : wc.cell? ⟨gb408, 1, none⟩ = some (.int .i64 a1_1) := (blk_cell BK408.out 1).trans rfl
    have hfz33_0 := blk_frozen BK408.out 0
    have hfz33_1 := blk_frozen BK408.out 1
    go_wp2_with (first | (refine gL (some 37) Tryd.func89 #[.int .i64 (wrap64 ((wrap64 (4 * t409)) - 1)), .int .i64 (wrap64 (t410 - 2)), .agg #[.slice A1_0 l1_0.length c1_0, .int .i64 a1_1]] ?_; (with_reducible refine (r_below.calls kj4 (wrap64 ((wrap64 (4 * t409)) - 1)) (wrap64 (t410 - 2)) _ _ l1_0 a1_1 t412 _ ?side1 ?side2 A11.out).mono ?_); (case side1 => exact ck (Kd.C_below HR1_0.out HB.out)); (case side2 => exact HC1_0.out); rintro e w34 ⟨rfl, hb⟩; refine ⟨_, rfl, ?_⟩; replace BK408 := bb BK408 hb; replace HB := lb HB hb))
    go_ret
    exact ex (lk HB)
   replace c10 := Bool.eq_false_iff.mpr c10
   subst c10
   rw [if_neg (show ¬ (false = true) by decide)] at H
   replace H := bm H
   obtain ⟨t413, A350, H⟩ := H
   have A35 := am A350
   clear A350
   by_cases c36 : t411 > 0
   ·
    rw [if_pos c36] at H
    have c36b0 : decide (0 < t411) = true := dt c36
    clear c36
    by_cases c37 : t413 < 0
    ·
     rw [if_pos c37] at H
     have c37b0 := dt c37
     clear c37
     obtain rfl := Option.some.inj H
     have hcz38_0 : wc.cell? ⟨gb408, 0, none⟩ = some (.slice A1_0 l1_0.length c1_0) := (blk_cell BK408.out 0).trans rfl
     have hcz38_1 : wc.cell? ⟨gb408, 1, none⟩ = some (.int .i64 a1_1) := (blk_cell BK408.out 1).trans rfl
     have hfz38_0 := blk_frozen BK408.out 0
     have hfz38_1 := blk_frozen BK408.out 1
     go_wp2_with (first | (refine gL (some 44) Tryd.func89 #[.int .i64 (wrap64 ((wrap64 (2 * t409)) - 1)), .int .i64 (wrap64 (t410 - 1)), .agg #[.slice A1_0 l1_0.length c1_0, .int .i64 a1_1]] ?_; (with_reducible refine (r_below.calls kj4 (wrap64 ((wrap64 (2 * t409)) - 1)) (wrap64 (t410 - 1)) _ _ l1_0 a1_1 t413 _ ?side1 ?side2 A35.out).mono ?_); (case side1 => exact ck (Kd.C_below HR1_0.out HB.out)); (case side2 => exact HC1_0.out); rintro e w39 ⟨rfl, hb⟩; refine ⟨_, rfl, ?_⟩; replace BK408 := bb BK408 hb; replace HB := lb HB hb))
     go_ret
     exact ex (lk HB)
    rw [if_neg c37] at H
    have c37b0 := decide_eq_false c37
    clear c37
    by_cases c40 : t413 = 0
    ·
     rw [if_pos c40] at H
     have c40b0 : (t413 == 0) = true := beq_iff_eq.mpr c40
     have c40b1 : (t413 != 0) = false := bne_eq_false_iff_eq.mpr c40
     clear c40
     obtain rfl := Option.some.inj H
     have hcz41_0 : wc.cell? ⟨gb408, 0, none⟩ = some (.slice A1_0 l1_0.length c1_0) := (blk_cell BK408.out 0).trans rfl
     have hcz41_1 : wc.cell? ⟨gb408, 1, none⟩ = some (.int .i64 a1_1) := (blk_cell BK408.out 1).trans rfl
     have hfz41_0 := blk_frozen BK408.out 0
     have hfz41_1 := blk_frozen BK408.out 1
     go_wp2_with (first | (refine gL (some 44) Tryd.func89 #[.int .i64 (wrap64 ((wrap64 (2 * t409)) - 1)), .int .i64 (wrap64 (t410 - 1)), .agg #[.slice A1_0 l1_0.length c1_0, .int .i64 a1_1]] ?_; (with_reducible refine (r_below.calls kj4 (wrap64 ((wrap64 (2 * t409)) - 1)) (wrap64 (t410 - 1)) _ _ l1_0 a1_1 t413 _ ?side1 ?side2 A35.out).mono ?_); (case side1 => exact ck (Kd.C_below HR1_0.out HB.out)); (case side2 => exact HC1_0.out); rintro e w42 ⟨rfl, hb⟩; refine ⟨_, rfl, ?_⟩; replace BK408 := bb BK408 hb; replace HB := lb HB hb))
     go_ret
     exact ex (lk HB)
    rw [if_neg c40] at H
    have c40b0 : (t413 == 0) = false := beq_eq_false_iff_ne.mpr c40
    have c40b1 : (t413 != 0) = true := bne_iff_ne.mpr c40
    obtain rfl := Option.some.inj H
    have hcz43_0 : wc.cell? ⟨gb408, 0, none⟩ = some (.slice A1_0 l1_0.length c1_0) := (blk_cell BK408.out 0).trans rfl
    have hcz43_1 : wc.cell? ⟨gb408, 1, none⟩ = some (.int .i64 a1_1) := (blk_cell BK408.out 1).trans rfl
    have hfz43_0 := blk_frozen BK408.out 0
    have hfz43_1 := blk_frozen BK408.out 1
    go_wp2_with (first | (refine gL (some 44) Tryd.func89 #[.int .i64 (wrap64 ((wrap64 (2 * t409)) - 1)), .int .i64 (wrap64 (t410 - 1)), .agg #[.slice A1_0 l1_0.length c1_0, .int .i64 a1_1]] ?_; (with_reducible refine (r_below.calls kj4 (wrap64 ((wrap64 (2 * t409)) - 1)) (wrap64 (t410 - 1)) _ _ l1_0 a1_1 t413 _ ?side1 ?side2 A35.out).mono ?_); (case side1 => exact ck (Kd.C_below HR1_0.out HB.out)); (case side2 => exact HC1_0.out); rintro e w44 ⟨rfl, hb⟩; refine ⟨_, rfl, ?_⟩; replace BK408 := bb BK408 hb; replace HB := lb HB hb))
    go_ret
    exact ex (lk HB)
   rw [if_neg c36] at H
   have c36b0 : decide (0 < t411) = false := decide_eq_false c36
   clear c36
   by_cases c45 : t411 = 0
   ·
    rw [if_pos c45] at H
    have c45b0 : (t411 == 0) = true := beq_iff_eq.mpr c45
    have c45b1 : (t411 != 0) = false := bne_eq_false_iff_eq.mpr c45
    clear c45
    by_cases c46 : ((Int.tmod a0 2) == 0) = true
    ·
     rw [if_pos c46] at H
     have c46b0 : ((Int.tmod a0 2) == 0) = true := c46
     (try (have c46b1 : decide ((Int.tmod a0 2) = 0) = true := by simpa using c46))
     (try (have c46b2 : ((Int.tmod a0 2) == 0) = true := by simpa using c46))
     clear c46
     by_cases c47 : t413 < 0
     ·
      rw [if_pos c47] at H
      have c47b0 := dt c47
      clear c47
      obtain rfl := Option.some.inj H
      have hcz48_0 : wc.cell? ⟨gb408, 0, none⟩ = some (.slice A1_0 l1_0.length c1_0) := (blk_cell BK408.out 0).trans rfl
      have hcz48_1 : wc.cell? ⟨gb408, 1, none⟩ = some (.int .i64 a1_1) := (blk_cell BK408.out 1).trans rfl
      have hfz48_0 := blk_frozen BK408.out 0
      have hfz48_1 := blk_frozen BK408.out 1
      go_wp2_with (first | (refine gL (some 44) Tryd.func89 #[.int .i64 (wrap64 ((wrap64 (2 * t409)) - 1)), .int .i64 (wrap64 (t410 - 1)), .agg #[.slice A1_0 l1_0.length c1_0, .int .i64 a1_1]] ?_; (with_reducible refine (r_below.calls kj4 (wrap64 ((wrap64 (2 * t409)) - 1)) (wrap64 (t410 - 1)) _ _ l1_0 a1_1 t413 _ ?side1 ?side2 A35.out).mono ?_); (case side1 => exact ck (Kd.C_below HR1_0.out HB.out)); (case side2 => exact HC1_0.out); rintro e w49 ⟨rfl, hb⟩; refine ⟨_, rfl, ?_⟩; replace BK408 := bb BK408 hb; replace HB := lb HB hb))
      go_ret
      exact ex (lk HB)
     rw [if_neg c47] at H
     have c47b0 := decide_eq_false c47
     clear c47
     by_cases c50 : t413 = 0
     ·
      rw [if_pos c50] at H
      have c50b0 : (t413 == 0) = true := beq_iff_eq.mpr c50
      have c50b1 : (t413 != 0) = false := bne_eq_false_iff_eq.mpr c50
      clear c50
      obtain rfl := Option.some.inj H
      have hcz51_0 : wc.cell? ⟨gb408, 0, none⟩ = some (.slice A1_0 l1_0.length c1_0) := (blk_cell BK408.out 0).trans rfl
      have hcz51_1 : wc.cell? ⟨gb408, 1, none⟩ = some (.int .i64 a1_1) := (blk_cell BK408.out 1).trans rfl
      have hfz51_0 := blk_frozen BK408.out 0
      have hfz51_1 := blk_frozen BK408.out 1
      go_wp2_with (first | (refine gL (some 44) Tryd.func89 #[.int .i64 (wrap64 ((wrap64 (2 * t409)) - 1)), .int .i64 (wrap64 (t410 - 1)), .agg #[.slice A1_0 l1_0.length c1_0, .int .i64 a1_1]] ?_; (with_reducible refine (r_below.calls kj4 (wrap64 ((wrap64 (2 * t409)) - 1)) (wrap64 (t410 - 1)) _ _ l1_0 a1_1 t413 _ ?side1 ?side2 A35.out).mono ?_); (case side1 => exact ck (Kd.C_below HR1_0.out HB.out)); (case side2 => exact HC1_0.out); rintro e w52 ⟨rfl, hb⟩; refine ⟨_, rfl, ?_⟩; replace BK408 := bb BK408 hb; replace HB := lb HB hb))
      go_ret
      exact ex (lk HB)
     rw [if_neg c50] at H
     have c50b0 : (t413 == 0) = false := beq_eq_false_iff_ne.mpr c50
     have c50b1 : (t413 != 0) = true := bne_iff_ne.mpr c50
     obtain rfl := Option.some.inj H
     have hcz53_0 : wc.cell? ⟨gb408, 0, none⟩ = some (.slice A1_0 l1_0.length c1_0) := (blk_cell BK408.out 0).trans rfl
     have hcz53_1 : wc.cell? ⟨gb408, 1, none⟩ = some (.int .i64 a1_1) := (blk_cell BK408.out 1).trans rfl
     have hfz53_0 := blk_frozen BK408.out 0
     have hfz53_1 := blk_frozen BK408.out 1
     go_wp2_with (first | (refine gL (some 44) Tryd.func89 #[.int .i64 (wrap64 ((wrap64 (2 * t409)) - 1)), .int .i64 (wrap64 (t410 - 1)), .agg #[.slice A1_0 l1_0.length c1_0, .int .i64 a1_1]] ?_; (with_reducible refine (r_below.calls kj4 (wrap64 ((wrap64 (2 * t409)) - 1)) (wrap64 (t410 - 1)) _ _ l1_0 a1_1 t413 _ ?side1 ?side2 A35.out).mono ?_); (case side1 => exact ck (Kd.C_below HR1_0.out HB.out)); (case side2 => exact HC1_0.out); rintro e w54 ⟨rfl, hb⟩; refine ⟨_, rfl, ?_⟩; replace BK408 := bb BK408 hb; replace HB := lb HB hb))
     go_ret
     exact ex (lk HB)
    rw [if_neg c46] at H
    have c46b0 : ((Int.tmod a0 2) == 0) = false := by simpa using c46
    (try (have c46b1 : decide ((Int.tmod a0 2) = 0) = false := by simpa using c46))
    (try (have c46b2 : ((Int.tmod a0 2) == 0) = false := by simpa using c46))
    (try (have c46b3 : ¬ ((Int.tmod a0 2) = 0) := by simpa using c46))
    clear c46
    obtain rfl := Option.some.inj H
    have hcz55_0 : wc.cell? ⟨gb408, 0, none⟩ = some (.slice A1_0 l1_0.length c1_0) := (blk_cell BK408.out 0).trans rfl
    have hcz55_1 : wc.cell? ⟨gb408, 1, none⟩ = some (.int .i64 a1_1) := (blk_cell BK408.out 1).trans rfl
    have hfz55_0 := blk_frozen BK408.out 0
    have hfz55_1 := blk_frozen BK408.out 1
    go_wp2_with (first | (refine gL (some 44) Tryd.func89 #[.int .i64 (wrap64 ((wrap64 (2 * t409)) - 1)), .int .i64 (wrap64 (t410 - 1)), .agg #[.slice A1_0 l1_0.length c1_0, .int .i64 a1_1]] ?_; (with_reducible refine (r_below.calls kj4 (wrap64 ((wrap64 (2 * t409)) - 1)) (wrap64 (t410 - 1)) _ _ l1_0 a1_1 t413 _ ?side1 ?side2 A35.out).mono ?_); (case side1 => exact ck (Kd.C_below HR1_0.out HB.out)); (case side2 => exact HC1_0.out); rintro e w56 ⟨rfl, hb⟩; refine ⟨_, rfl, ?_⟩; replace BK408 := bb BK408 hb; replace HB := lb HB hb))
    go_ret
    exact ex (lk HB)
   rw [if_neg c45] at H
   have c45b0 : (t411 == 0) = false := beq_eq_false_iff_ne.mpr c45
   have c45b1 : (t411 != 0) = true := bne_iff_ne.mpr c45
   obtain rfl := Option.some.inj H
   have hcz57_0 : wc.cell? ⟨gb408, 0, none⟩ = some (.slice A1_0 l1_0.length c1_0) := (blk_cell BK408.out 0).trans rfl
   have hcz57_1 : wc.cell? ⟨gb408, 1, none⟩ = some (.int .i64 a1_1) := (blk_cell BK408.out 1).trans rfl
   have hfz57_0 := blk_frozen BK408.out 0
   have hfz57_1 := blk_frozen BK408.out 1
   go_wp2_with (first | (refine gL (some 44) Tryd.func89 #[.int .i64 (wrap64 ((wrap64 (2 * t409)) - 1)), .int .i64 (wrap64 (t410 - 1)), .agg #[.slice A1_0 l1_0.length c1_0, .int .i64 a1_1]] ?_; (with_reducible refine (r_below.calls kj4 (wrap64 ((wrap64 (2 * t409)) - 1)) (wrap64 (t410 - 1)) _ _ l1_0 a1_1 t413 _ ?side1 ?side2 A35.out).mono ?_); (case side1 => exact ck (Kd.C_below HR1_0.out HB.out)); (case side2 => exact HC1_0.out); rintro e w58 ⟨rfl, hb⟩; refine ⟨_, rfl, ?_⟩; replace BK408 := bb BK408 hb; replace HB := lb HB hb))
   go_ret
   exact ex (lk HB)
def r_nearer.f (k : Nat) (a0 : Int) (l1_0 : List Int) (a1_1 : Int) (l2_0 : List Int) (a2_1 : Int) : Option (Int) := (r_parts.f a0).bind fun bt431 => ((r_add.f k l1_0 l2_0).bind fun t433 => ((r_below.f k (wrap64 (2 * bt431.1)) bt431.2 t433 a1_1).bind fun t436 => (some t436)))
theorem r_nearer.mono : ∀ a0 a1 a2 a3 a4 k, LeO (r_nearer.f k a0 a1 a2 a3 a4) (r_nearer.f (k + 1) a0 a1 a2 a3 a4) := by
 intro a0 a1 a2 a3 a4 k
 unfold r_nearer.f
 repeat' (with_reducible first | apply r_add.mono | apply r_below.mono | apply LeO.refl | apply LeO.none | apply LeO.ite | refine LeO.bind ?_ (fun _ => ?_))
set_option maxHeartbeats 8000000 in
theorem r_nearer.calls (k : Nat) (a0 : Int) (A1_0 : Option Addr) (c1_0 : Nat) (l1_0 : List Int) (a1_1 : Int) (A2_0 : Option Addr) (c2_0 : Nat) (l2_0 : List Int) (a2_1 : Int) (r : Int) (w : World) (hr1_0 : Kd.C (Kd.int .i64) w A1_0 l1_0.length l1_0) (hc1_0 : l1_0.length ≤ c1_0) (hr2_0 : Kd.C (Kd.int .i64) w A2_0 l2_0.length l2_0) (hc2_0 : l2_0.length ≤ c2_0) (h : r_nearer.f k a0 l1_0 a1_1 l2_0 a2_1 = some r) :
  Calls Tryd.prog 59 #[.int .u64 a0, .agg #[.slice A1_0 l1_0.length c1_0, .int .i64 a1_1], .agg #[.slice A2_0 l2_0.length c2_0, .int .i64 a2_1]] w fun e w' => e = .returned (.int .i64 r) ∧ Below w.heap.size w w' := by
 have hu72 := Tryd.underlying72
 have HR1_0 := am hr1_0
 have HC1_0 := am hc1_0
 clear hr1_0 hc1_0
 have HR2_0 := am hr2_0
 have HC2_0 := am hc2_0
 clear hr2_0 hc2_0
 have HB := am (Below.refl w.heap.size w)
 have H : ((r_parts.f a0).bind fun bt431 => ((r_add.f k l1_0 l2_0).bind fun t433 => ((r_below.f k (wrap64 (2 * bt431.1)) bt431.2 t433 a1_1).bind fun t436 => (some t436)))) = some r := h
 clear h
 replace H := bm H
 obtain ⟨⟨t431, t432⟩, A40, H⟩ := H
 replace H : ((r_add.f k l1_0 l2_0).bind fun t433 => ((r_below.f k (wrap64 (2 * t431)) t432 t433 a1_1).bind fun t436 => (some t436))) = some r := H
 have A4 := am A40
 clear A40
 replace H := bm H
 obtain ⟨t433, A50, H⟩ := H
 have A5 := am A50
 clear A50
 replace H := bm H
 obtain ⟨t436, A60, H⟩ := H
 replace H : (some t436) = some r := H
 have A6 := am A60
 clear A60
 obtain rfl := Option.some.inj H
 go_enter Tryd.func59, Tryd.ntmps59
 go_wp2_with (first | ((with_reducible refine gate_dst (N := 4) rfl ?_); refine box_event ?hg (N := 4) ?hd (cs := #[.slice A1_0 l1_0.length c1_0, .int .i64 a1_1]) (t := 72) ?hr ?_; (case hd => rfl); (case hg => rfl); (case hr => first | (go_simp; done) | (go_simp; rfl)); intro gb429 hg w7 hbox hb; have BK429 := am (hbox); have GW429 := am ((by rw [hg]; exact (below_size (lk HB)) : w.heap.size ≤ gb429)); have GE429 := GW429; replace HB := lb HB hb; clear hb hbox hg) | ((with_reducible refine gate_dst (N := 5) rfl ?_); refine box_event ?hg (N := 5) ?hd (cs := #[.slice A2_0 l2_0.length c2_0, .int .i64 a2_1]) (t := 72) ?hr ?_; (case hd => rfl); (case hg => rfl); (case hr => first | (go_simp; done) | (go_simp; rfl)); intro gb430 hg w8 hbox hb; have BK430 := am (hbox); have GW430 := am ((by rw [hg]; exact (below_size (lk HB)) : w.heap.size ≤ gb430)); have GE430 := GW430; replace HB := lb HB hb; have NB429_430 := am ((by rw [hg]; exact Nat.ne_of_lt (blk_lt (bk BK429)) : gb429 ≠ gb430)); have NB430_429 := am ((by rw [hg]; exact Nat.ne_of_gt (blk_lt (bk BK429)) : gb430 ≠ gb429)); replace BK429 := bb BK429 hb; clear hb hbox hg) | (refine gL (some 12) Tryd.func88 #[.int .u64 a0] ?_; (with_reducible refine (r_parts.calls a0 t431 t432 _ A4.out).mono ?_); rintro e w' ⟨rfl, ⟨nd, rfl⟩⟩; refine ⟨_, rfl, ?_⟩; have hnb9 := NB429_430.out; have hnc9 := NB430_429.out; have hcz10_0 : w8.cell? ⟨gb429, 0, none⟩ = some (.slice A1_0 l1_0.length c1_0) := (blk_cell BK429.out 0).trans rfl; have hcz10_1 : w8.cell? ⟨gb429, 1, none⟩ = some (.int .i64 a1_1) := (blk_cell BK429.out 1).trans rfl; have hfz10_0 := blk_frozen BK429.out 0; have hfz10_1 := blk_frozen BK429.out 1; have hcz11_0 : w8.cell? ⟨gb430, 0, none⟩ = some (.slice A2_0 l2_0.length c2_0) := (blk_cell BK430.out 0).trans rfl; have hcz11_1 : w8.cell? ⟨gb430, 1, none⟩ = some (.int .i64 a2_1) := (blk_cell BK430.out 1).trans rfl; have hfz11_0 := blk_frozen BK430.out 0; have hfz11_1 := blk_frozen BK430.out 1) | (refine gL (some 19) Tryd.func94 #[.slice A1_0 l1_0.length c1_0, .slice A2_0 l2_0.length c2_0] ?_; (with_reducible refine (r_add.calls k _ _ l1_0 _ _ l2_0 t433 _ ?side1 ?side2 ?side3 ?side4 A5.out).mono ?_); (case side1 => repeat (first | exact (Kd.C_below HR1_0.out (lk HB)) | (with_reducible refine Kd.C_alloc ?_ _) | (with_reducible refine Kd.C_drewN ?_ _) | (with_reducible refine Kd.C_drew ?_))); (case side2 => exact HC1_0.out); (case side3 => repeat (first | exact (Kd.C_below HR2_0.out (lk HB)) | (with_reducible refine Kd.C_alloc ?_ _) | (with_reducible refine Kd.C_drewN ?_ _) | (with_reducible refine Kd.C_drew ?_))); (case side4 => exact HC2_0.out); rintro e w12 ⟨v434, rfl, ho0, hb⟩; refine ⟨_, rfl, ?_⟩; have HO435 := am (Kd.R_lower ho0 (below_size (lk HB))); replace BK429 := bb BK429 hb; replace BK430 := bb BK430 hb; replace HB := lb HB hb; have hcz13_0 : w12.cell? ⟨gb429, 0, none⟩ = some (.slice A1_0 l1_0.length c1_0) := (blk_cell BK429.out 0).trans rfl; have hcz13_1 : w12.cell? ⟨gb429, 1, none⟩ = some (.int .i64 a1_1) := (blk_cell BK429.out 1).trans rfl; have hfz13_0 := blk_frozen BK429.out 0; have hfz13_1 := blk_frozen BK429.out 1; obtain ⟨Ao14, co14, eo14⟩ := Kd.R_slice HO435.out; subst eo14) | (refine gL (some 27) Tryd.func89 #[.int .i64 (wrap64 (2 * t431)), .int .i64 t432, .agg #[.slice Ao14 t433.length co14, .int .i64 a1_1]] ?_; (with_reducible refine (r_below.calls k (wrap64 (2 * t431)) t432 _ _ t433 a1_1 t436 _ ?side1 ?side2 A6.out).mono ?_); (case side1 => exact ck (Kd.R_reads' HO435.out).2.2); (case side2 => exact (Kd.R_reads' HO435.out).2.1); rintro e w15 ⟨rfl, hb⟩; refine ⟨_, rfl, ?_⟩; replace HO435 := am (Kd.R_below (rk HO435) hb); replace BK429 := bb BK429 hb; replace BK430 := bb BK430 hb; replace HB := lb HB hb))
 go_ret
 exact ex (lk HB)
mutual
def r_expansion.l0 : Nat → Int → Int → Int → Option (List Int × Int)
 | 0, _, _, _ => none
 | k + 1, x4, x5, x6 => if 0 ≤ x6 then (if (shl .i64 1 x6) ≤ x4 then (r_expansion.l0 k x4 x5 (wrap64 (x6 + 1))) else (r_expansion.l1 k x4 x5 (wrap64 ((wrap64 (Int.tdiv (wrap64 ((wrap64 (x5 + x6)) * 30103)) 100000)) - 2)))) else (none)
def r_expansion.l1 : Nat → Int → Int → Int → Option (List Int × Int)
 | 0, _, _, _ => none
 | k + 1, x4, x5, x7 => (r_of.f k 1).bind fun t363 => ((r_below.f k x4 x5 t363 x7).bind fun t366 => (if t366 ≥ 0 then (r_expansion.l1 k x4 x5 (wrap64 (x7 + 1))) else ((r_of.f k x4).bind fun t367 => ((r_of.f k 1).bind fun t370 => (if x5 > 0 then ((r_power.f k t367 2 x5).bind fun t373 => (r_expansion.j2 k x7 t373 t370)) else ((r_power.f k t370 2 (wrap64 (-x5))).bind fun t376 => (r_expansion.j2 k x7 t367 t376)))))))
def r_expansion.j2 : Nat → Int → List Int → List Int → Option (List Int × Int)
 | 0, _, _, _ => none
 | k + 1, x7, x8, x9 => if x7 > 0 then ((r_power.f k x9 10 x7).bind fun t379 => (r_expansion.j3 k x7 x8 t379)) else ((r_power.f k x8 10 (wrap64 (-x7))).bind fun t382 => (r_expansion.j3 k x7 t382 x9))
def r_expansion.j3 : Nat → Int → List Int → List Int → Option (List Int × Int)
 | 0, _, _, _ => none
 | k + 1, x7, x8, x9 => r_expansion.l2 k x7 x8 x9 ([] : List Int) 0
def r_expansion.l2 : Nat → Int → List Int → List Int → List Int → Int → Option (List Int × Int)
 | 0, _, _, _, _, _ => none
 | k + 1, x7, x8, x9, x10, x11 => if x11 < 18 then ((r_times.f k x8 10 0).bind fun t385 => (r_expansion.l3 k x7 t385 x9 x10 x11 0)) else (some (x10, x7))
def r_expansion.l3 : Nat → Int → List Int → List Int → List Int → Int → Int → Option (List Int × Int)
 | 0, _, _, _, _, _, _ => none
 | k + 1, x7, x8, x9, x10, x11, x12 => (r_cmp.f k x8 x9).bind fun t388 => (if t388 ≥ 0 then ((r_minus.f k x8 x9).bind fun t389 => (r_expansion.l3 k x7 t389 x9 x10 x11 (wrap64 (x12 + 1)))) else (if x10.length < 17592186044416 then (r_expansion.l2 k x7 x8 x9 (x10 ++ [x12]) (wrap64 (x11 + 1))) else (none)))
end
def r_expansion.f (k : Nat) (a0 : Int) : Option (List Int × Int) := (r_parts.f a0).bind fun bt361 => (r_expansion.l0 k bt361.1 bt361.2 0)
theorem r_expansion.mono_l : ∀ k, (∀ y0 y1 y2, LeO (r_expansion.l0 k y0 y1 y2) (r_expansion.l0 (k + 1) y0 y1 y2)) ∧ (∀ y0 y1 y2, LeO (r_expansion.l1 k y0 y1 y2) (r_expansion.l1 (k + 1) y0 y1 y2)) ∧ (∀ y0 y1 y2, LeO (r_expansion.j2 k y0 y1 y2) (r_expansion.j2 (k + 1) y0 y1 y2)) ∧ (∀ y0 y1 y2, LeO (r_expansion.j3 k y0 y1 y2) (r_expansion.j3 (k + 1) y0 y1 y2)) ∧ (∀ y0 y1 y2 y3 y4, LeO (r_expansion.l2 k y0 y1 y2 y3 y4) (r_expansion.l2 (k + 1) y0 y1 y2 y3 y4)) ∧ (∀ y0 y1 y2 y3 y4 y5, LeO (r_expansion.l3 k y0 y1 y2 y3 y4 y5) (r_expansion.l3 (k + 1) y0 y1 y2 y3 y4 y5))
 | 0 => ⟨fun _ _ _ r h => by simp [r_expansion.l0] at h, fun _ _ _ r h => by simp [r_expansion.l1] at h, fun _ _ _ r h => by simp [r_expansion.j2] at h, fun _ _ _ r h => by simp [r_expansion.j3] at h, fun _ _ _ _ _ r h => by simp [r_expansion.l2] at h, fun _ _ _ _ _ _ r h => by simp [r_expansion.l3] at h⟩
 | k + 1 => by
  obtain ⟨ih0, ih1, ih2, ih3, ih4, ih5⟩ := r_expansion.mono_l k
  refine ⟨?_, ?_, ?_, ?_, ?_, ?_⟩ <;> intros <;> (first | unfold r_expansion.l0 | unfold r_expansion.l1 | unfold r_expansion.j2 | unfold r_expansion.j3 | unfold r_expansion.l2 | unfold r_expansion.l3) <;> repeat' (with_reducible first | apply ih0 | apply ih1 | apply ih2 | apply ih3 | apply ih4 | apply ih5 | apply r_below.mono | apply r_cmp.mono | apply r_minus.mono | apply r_of.mono | apply r_power.mono | apply r_times.mono | apply LeO.refl | apply LeO.none | apply LeO.ite | refine LeO.bind ?_ (fun _ => ?_))
theorem r_expansion.mono : ∀ a0 k, LeO (r_expansion.f k a0) (r_expansion.f (k + 1) a0) := by
 intro a0 k
 obtain ⟨ih0, ih1, ih2, ih3, ih4, ih5⟩ := r_expansion.mono_l k
 unfold r_expansion.f
 repeat' (with_reducible first | apply ih0 | apply ih1 | apply ih2 | apply ih3 | apply ih4 | apply ih5 | apply r_below.mono | apply r_cmp.mono | apply r_minus.mono | apply r_of.mono | apply r_power.mono | apply r_times.mono | apply LeO.refl | apply LeO.none | apply LeO.ite | refine LeO.bind ?_ (fun _ => ?_))
set_option maxHeartbeats 8000000 in
theorem r_expansion.calls (k : Nat) (a0 : Int) (r1 : List Int) (r2 : Int) (w : World) (h : r_expansion.f k a0 = some (r1, r2)) :
  Calls Tryd.prog 55 #[.int .u64 a0] w fun e w' => ∃ v0_ : Value, e = .returned (.tuple #[v0_, .int .i64 r2]) ∧ Kd.R (Kd.int .i64) 3 w' w.heap.size (fun _ => True) v0_ r1 ∧ Below w.heap.size w w' := by
 have hu72 := Tryd.underlying72
 have HB := am (Below.refl w.heap.size w)
 have H : ((r_parts.f a0).bind fun bt361 => (r_expansion.l0 k bt361.1 bt361.2 0)) = some (r1, r2) := h
 clear h
 replace H := bm H
 obtain ⟨⟨t361, t362⟩, A20, H⟩ := H
 replace H : (r_expansion.l0 k t361 t362 0) = some (r1, r2) := H
 have A2 := am A20
 clear A20
 have H' := am H
 clear H
 go_enter Tryd.func55, Tryd.ntmps55
 go_wp2_with (first | (refine gL (some 15) Tryd.func88 #[.int .u64 a0] ?_; (with_reducible refine (r_parts.calls a0 t361 t362 _ A2.out).mono ?_); rintro e w' ⟨rfl, ⟨nd, rfl⟩⟩; refine ⟨_, rfl, ?_⟩))
 go_loopg [6] k (fun kq v6 w' => ∃ (x6_1 : Int), v6 = .int .i64 x6_1 ∧ Aside0 (r_expansion.l0 kq t361 t362 x6_1 = some (r1, r2)) ∧ Aside0 (kq ≤ k) ∧ Aside0 (Below w.heap.size w w'))
 case atStart => exact ⟨(0), eqd, H', ⟨Nat.le_refl _⟩, ⟨lk HB⟩⟩
 case round =>
  clear H'
  obtain ⟨x6_1, rfl, HA, HK1, HB⟩ := hrel
  cases gk with
  | zero => exact absurd HA.out (by simp [r_expansion.l0])
  | succ k1 =>
   have H := HA.out
   clear HA
   simp only [r_expansion.l0] at H
   by_cases c3 : 0 ≤ x6_1
   ·
    rw [if_pos c3] at H
    have c3b0 := eq_true c3
    have c3b1 := dt c3
    clear c3
    obtain ⟨ji4, hji4⟩ : ∃ j_ : Int, (shl .i64 1 x6_1) = j_ := ⟨_, rfl⟩
    replace H : (if (ji4) ≤ t361 then (r_expansion.l0 k1 t361 t362 (wrap64 (x6_1 + 1))) else (r_expansion.l1 k1 t361 t362 (wrap64 ((wrap64 (Int.tdiv (wrap64 ((wrap64 (t362 + x6_1)) * 30103)) 100000)) - 2)))) = some (r1, r2) := by first | (rw [hji4] at H; exact H) | (simp only [hji4] at H ⊢; exact H)
    have hji4_ : (IntKind.i64.wrap (1 * 2 ^ min x6_1.toNat 64)) = ji4 := hji4
    have hji4z : x6_1 ≤ 64 → (IntKind.i64.wrap (1 * 2 ^ x6_1.toNat)) = ji4 := shl_small hji4
    have hji4u : (IntKind.i64.wrap (2 ^ min x6_1.toNat 64)) = ji4 := by have h_ := hji4_; rw [Int.one_mul] at h_; exact h_
    have hji4v : x6_1 ≤ 64 → (IntKind.i64.wrap (2 ^ x6_1.toNat)) = ji4 := fun hle_ => by have h_ := hji4z hle_; rw [Int.one_mul] at h_; exact h_
    have hji4y : (wrap64 (1 * 2 ^ min x6_1.toNat 64)) = ji4 := (i64_w _).symm.trans hji4_
    have hji4x : x6_1 ≤ 64 → (wrap64 (1 * 2 ^ x6_1.toNat)) = ji4 := fun h_ => (i64_w _).symm.trans (hji4z h_)
    by_cases c5 : (ji4) ≤ t361
    ·
     rw [if_pos c5] at H
     have c5b0 := dt c5
     clear c5
     have H' := am H
     clear H
     go_wp2
     go_roundg k1
     case measure => have := HK1.out; omega
     case rel => exact ⟨(wrap64 (x6_1 + 1)), eqd, H', ⟨by have := HK1.out; omega⟩, ⟨lk HB⟩⟩
    rw [if_neg c5] at H
    have c5b0 := decide_eq_false c5
    clear c5
    have H' := am H
    clear H
    go_wp2
    go_loopg [7] k1 (fun kq v7 w' => ∃ (x7_2 : Int), v7 = .int .i64 x7_2 ∧ Aside0 (r_expansion.l1 kq t361 t362 x7_2 = some (r1, r2)) ∧ Aside0 (kq ≤ k1) ∧ Aside0 (Below w.heap.size w w'))
    case atStart => exact ⟨(wrap64 ((wrap64 (Int.tdiv (wrap64 ((wrap64 (t362 + x6_1)) * 30103)) 100000)) - 2)), eqd, H', ⟨Nat.le_refl _⟩, ⟨lk HB⟩⟩
    case round =>
     clear H'
     obtain ⟨x7_2, rfl, HA, HK2, HB⟩ := hrel
     cases gk with
     | zero => exact absurd HA.out (by simp [r_expansion.l1])
     | succ k2 =>
      have H := HA.out
      clear HA
      simp only [r_expansion.l1] at H
      replace H := bm H
      obtain ⟨t363, A60, H⟩ := H
      replace H : ((r_below.f k2 t361 t362 t363 x7_2).bind fun t366 => (if t366 ≥ 0 then (r_expansion.l1 k2 t361 t362 (wrap64 (x7_2 + 1))) else ((r_of.f k2 t361).bind fun t367 => ((r_of.f k2 1).bind fun t370 => (if t362 > 0 then ((r_power.f k2 t367 2 t362).bind fun t373 => (r_expansion.j2 k2 x7_2 t373 t370)) else ((r_power.f k2 t370 2 (wrap64 (-t362))).bind fun t376 => (r_expansion.j2 k2 x7_2 t367 t376))))))) = some (r1, r2) := H
      have A6 := am A60
      clear A60
      replace H := bm H
      obtain ⟨t366, A70, H⟩ := H
      replace H : (if t366 ≥ 0 then (r_expansion.l1 k2 t361 t362 (wrap64 (x7_2 + 1))) else ((r_of.f k2 t361).bind fun t367 => ((r_of.f k2 1).bind fun t370 => (if t362 > 0 then ((r_power.f k2 t367 2 t362).bind fun t373 => (r_expansion.j2 k2 x7_2 t373 t370)) else ((r_power.f k2 t370 2 (wrap64 (-t362))).bind fun t376 => (r_expansion.j2 k2 x7_2 t367 t376)))))) = some (r1, r2) := H
      have A7 := am A70
      clear A70
      by_cases c8 : t366 ≥ 0
      ·
       rw [if_pos c8] at H
       have c8b0 : decide (0 ≤ t366) = true := dt c8
       clear c8
       have H' := am H
       clear H
       go_wp2_with (first | (refine gL (some 32) Tryd.func90 #[.int .i64 1] ?_; (with_reducible refine (r_of.calls k2 1 t363 _ A6.out).mono ?_); rintro e w9 ⟨v364, rfl, ho0, hb⟩; refine ⟨_, rfl, ?_⟩; have HO365 := am (Kd.R_lower ho0 (below_size (lk HB))); replace HB := lb HB hb; obtain ⟨Ao10, co10, eo10⟩ := Kd.R_slice HO365.out; subst eo10) | (refine gL (some 35) Tryd.func89 #[.int .i64 t361, .int .i64 t362, .agg #[.slice Ao10 t363.length co10, .int .i64 x7_2]] ?_; (with_reducible refine (r_below.calls k2 t361 t362 _ _ t363 x7_2 t366 _ ?side1 ?side2 A7.out).mono ?_); (case side1 => exact ck (Kd.R_reads' HO365.out).2.2); (case side2 => exact (Kd.R_reads' HO365.out).2.1); rintro e w11 ⟨rfl, hb⟩; refine ⟨_, rfl, ?_⟩; replace HO365 := am (Kd.R_below (rk HO365) hb); replace HB := lb HB hb))
       go_roundg k2
       case measure => have := HK1.out; have := HK2.out; omega
       case rel => exact ⟨(wrap64 (x7_2 + 1)), eqd, H', ⟨by have := HK1.out; have := HK2.out; omega⟩, ⟨lk HB⟩⟩
      rw [if_neg c8] at H
      have c8b0 : decide (0 ≤ t366) = false := decide_eq_false c8
      clear c8
      replace H := bm H
      obtain ⟨t367, A120, H⟩ := H
      replace H : ((r_of.f k2 1).bind fun t370 => (if t362 > 0 then ((r_power.f k2 t367 2 t362).bind fun t373 => (r_expansion.j2 k2 x7_2 t373 t370)) else ((r_power.f k2 t370 2 (wrap64 (-t362))).bind fun t376 => (r_expansion.j2 k2 x7_2 t367 t376)))) = some (r1, r2) := H
      have A12 := am A120
      clear A120
      replace H := bm H
      obtain ⟨t370, A130, H⟩ := H
      replace H : (if t362 > 0 then ((r_power.f k2 t367 2 t362).bind fun t373 => (r_expansion.j2 k2 x7_2 t373 t370)) else ((r_power.f k2 t370 2 (wrap64 (-t362))).bind fun t376 => (r_expansion.j2 k2 x7_2 t367 t376))) = some (r1, r2) := H
      have A13 := am A130
      clear A130
      have HC14 := am H
      clear H
      go_upto_if 43 with (first | (refine gL (some 32) Tryd.func90 #[.int .i64 1] ?_; (with_reducible refine (r_of.calls k2 1 t363 _ A6.out).mono ?_); rintro e w15 ⟨v364, rfl, ho0, hb⟩; refine ⟨_, rfl, ?_⟩; have HO365 := am (Kd.R_lower ho0 (below_size (lk HB))); replace HB := lb HB hb; obtain ⟨Ao16, co16, eo16⟩ := Kd.R_slice HO365.out; subst eo16) | (refine gL (some 35) Tryd.func89 #[.int .i64 t361, .int .i64 t362, .agg #[.slice Ao16 t363.length co16, .int .i64 x7_2]] ?_; (with_reducible refine (r_below.calls k2 t361 t362 _ _ t363 x7_2 t366 _ ?side1 ?side2 A7.out).mono ?_); (case side1 => exact ck (Kd.R_reads' HO365.out).2.2); (case side2 => exact (Kd.R_reads' HO365.out).2.1); rintro e w17 ⟨rfl, hb⟩; refine ⟨_, rfl, ?_⟩; replace HO365 := am (Kd.R_below (rk HO365) hb); replace HB := lb HB hb) | (refine gL (some 40) Tryd.func90 #[.int .i64 t361] ?_; (with_reducible refine (r_of.calls k2 t361 t367 _ A12.out).mono ?_); rintro e w18 ⟨v368, rfl, ho0, hb⟩; refine ⟨_, rfl, ?_⟩; have HO369 := am (Kd.R_lower (Kd.R_new' ho0 (Kd.R_lt (rk HO365))) (below_size (lk HB))); replace HO365 := am (Kd.R_elder' (rk HO365) (Kd.R_base ho0) hb); replace HB := lb HB hb) | (refine gL (some 41) Tryd.func90 #[.int .i64 1] ?_; (with_reducible refine (r_of.calls k2 1 t370 _ A13.out).mono ?_); rintro e w19 ⟨v371, rfl, ho0, hb⟩; refine ⟨_, rfl, ?_⟩; have HO372 := am (Kd.R_lower (Kd.R_new' (Kd.R_new' ho0 (Kd.R_lt (rk HO365))) (Kd.R_lt (rk HO369))) (below_size (lk HB))); replace HO365 := am (Kd.R_elder' (rk HO365) (Kd.R_base ho0) hb); replace HO369 := am (Kd.R_elder' (rk HO369) (Kd.R_base ho0) hb); replace HB := lb HB hb))
      (try simp only [Act.put, List.setIfInBounds_toArray, List.set_cons_zero, List.set_cons_succ])
      go_cut [8, 9] (fun v8 v9 wc => ∃ (kq : Nat) (x8_13 : List Int) (x9_13 : List Int), Aside0 (r_expansion.j2 kq x7_2 x8_13 x9_13 = some (r1, r2)) ∧ Aside0 (kq ≤ k2) ∧ Aside0 (Kd.V (Kd.int .i64) 3 wc w.heap.size (fun _ => True) v8 x8_13) ∧ Aside0 (Kd.V (Kd.int .i64) 3 wc w.heap.size (fun _ => True) v9 x9_13) ∧ Aside0 (Below w.heap.size w wc))
      case first =>
       have H := HC14.out
       clear HC14
       by_cases c20 : t362 > 0
       ·
        rw [if_pos c20] at H
        have c20b0 : decide (0 < t362) = true := dt c20
        clear c20
        (first | rw [c20b0] | (simp only [i64_w, i32_w]; rw [c20b0]) | skip)
        replace H := bm H
        obtain ⟨t373, A210, H⟩ := H
        replace H : (r_expansion.j2 k2 x7_2 t373 t370) = some (r1, r2) := H
        have A21 := am A210
        clear A210
        have H' := am H
        clear H
        obtain ⟨Ao22, co22, eo22⟩ := Kd.R_slice HO369.out
        subst eo22
        go_wp2_with (first | (refine gL (some 46) Tryd.func91 #[.slice Ao22 t367.length co22, .int .i64 2, .int .i64 t362] ?_; (with_reducible refine (r_power.calls k2 (fun k_ => some k_ = (.slice Ao22 t367.length co22 : Value).ownBlock) _ _ t367 2 t362 t373 _ ?side1 A21.out).mono ?_); (case side1 => exact Kd.R_V (Kd.R_tight rfl (HO369.out))); rintro e w23 ⟨v374, rfl, ho0, hb⟩; refine ⟨_, rfl, ?_⟩; have HO375 := am (Kd.V_lower (Kd.V_mono (ok' := fun k_ => some k_ ≠ (.slice Ao16 t363.length co16 : Value).ownBlock ∧ some k_ ≠ (v371 : Value).ownBlock) ho0 (fun k_ hk_ => ⟨Or.elim hk_ (fun hs_ => ((HO369.out).1 k_ hs_.symm).1.2) (fun hn_ => (Kd.fresh' (Kd.R_lt (rk HO365)) k_ hn_)), Or.elim hk_ (fun hs_ => ((HO369.out).1 k_ hs_.symm).2) (fun hn_ => (Kd.fresh' (Kd.R_lt (rk HO372)) k_ hn_))⟩)) (below_size (lk HB))); replace HO365 := am (Kd.R_below (rk HO365) hb); replace HO369 := am (Kd.R_below (rk HO369) hb); replace HO372 := am (Kd.R_below (rk HO372) hb); replace HB := lb HB hb))
        go_meet
        case rel => exact ⟨_, (t373), (t370), H', ⟨by have := HK1.out; have := HK2.out; first | omega | exact Nat.le_refl _⟩, ⟨by exact vy <| Kd.V_mono HO375.out (fun _ hk => trivial)⟩, ⟨Kd.R_V (by exact ry <| Kd.R_mono HO372.out (fun _ hk => trivial))⟩, ⟨lk HB⟩⟩
       rw [if_neg c20] at H
       have c20b0 : decide (0 < t362) = false := decide_eq_false c20
       clear c20
       (first | rw [c20b0] | (simp only [i64_w, i32_w]; rw [c20b0]) | skip)
       replace H := bm H
       obtain ⟨t376, A240, H⟩ := H
       replace H : (r_expansion.j2 k2 x7_2 t367 t376) = some (r1, r2) := H
       have A24 := am A240
       clear A240
       have H' := am H
       clear H
       obtain ⟨Ao25, co25, eo25⟩ := Kd.R_slice HO372.out
       subst eo25
       go_wp2_with (first | (refine gL (some 50) Tryd.func91 #[.slice Ao25 t370.length co25, .int .i64 2, .int .i64 (wrap64 (-t362))] ?_; (with_reducible refine (r_power.calls k2 (fun k_ => some k_ = (.slice Ao25 t370.length co25 : Value).ownBlock) _ _ t370 2 (wrap64 (-t362)) t376 _ ?side1 A24.out).mono ?_); (case side1 => exact Kd.R_V (Kd.R_tight rfl (HO372.out))); rintro e w26 ⟨v377, rfl, ho0, hb⟩; refine ⟨_, rfl, ?_⟩; have HO378 := am (Kd.V_lower (Kd.V_mono (ok' := fun k_ => some k_ ≠ (.slice Ao16 t363.length co16 : Value).ownBlock ∧ some k_ ≠ (v368 : Value).ownBlock) ho0 (fun k_ hk_ => ⟨Or.elim hk_ (fun hs_ => ((HO372.out).1 k_ hs_.symm).1.2) (fun hn_ => (Kd.fresh' (Kd.R_lt (rk HO365)) k_ hn_)), Or.elim hk_ (fun hs_ => ((HO372.out).1 k_ hs_.symm).2) (fun hn_ => (Kd.fresh' (Kd.R_lt (rk HO369)) k_ hn_))⟩)) (below_size (lk HB))); replace HO365 := am (Kd.R_below (rk HO365) hb); replace HO369 := am (Kd.R_below (rk HO369) hb); replace HO372 := am (Kd.R_below (rk HO372) hb); replace HB := lb HB hb))
       go_meet
       case rel => exact ⟨_, (t367), (t376), H', ⟨by have := HK1.out; have := HK2.out; first | omega | exact Nat.le_refl _⟩, ⟨Kd.R_V (by exact ry <| Kd.R_mono HO369.out (fun _ hk => trivial))⟩, ⟨by exact vy <| Kd.V_mono HO378.out (fun _ hk => trivial)⟩, ⟨lk HB⟩⟩
      case rest =>
       clear HC14
       obtain ⟨kq, x8_13, x9_13, HA, HJ13, HO_8, HO_9, HB⟩ := hcut
       cases kq with
       | zero => exact absurd HA.out (by simp [r_expansion.j2])
       | succ kj13 =>
        have H := HA.out
        clear HA
        simp only [r_expansion.j2] at H
        have HC27 := am H
        clear H
        go_upto_if 52 with (fail)
        go_cut [8, 9] (fun v8 v9 wc => ∃ (kq : Nat) (x8_26 : List Int) (x9_26 : List Int), Aside0 (r_expansion.j3 kq x7_2 x8_26 x9_26 = some (r1, r2)) ∧ Aside0 (kq ≤ kj13) ∧ Aside0 (Kd.V (Kd.int .i64) 3 wc w.heap.size (fun _ => True) v8 x8_26) ∧ Aside0 (Kd.V (Kd.int .i64) 3 wc w.heap.size (fun _ => True) v9 x9_26) ∧ Aside0 (Below w.heap.size w wc))
        case first =>
         have H := HC27.out
         clear HC27
         by_cases c28 : x7_2 > 0
         ·
          rw [if_pos c28] at H
          have c28b0 : decide (0 < x7_2) = true := dt c28
          clear c28
          (first | rw [c28b0] | (simp only [i64_w, i32_w]; rw [c28b0]) | skip)
          replace H := bm H
          obtain ⟨t379, A290, H⟩ := H
          replace H : (r_expansion.j3 kj13 x7_2 x8_13 t379) = some (r1, r2) := H
          have A29 := am A290
          clear A290
          have H' := am H
          clear H
          obtain ⟨Ao30, co30, eo30⟩ := Kd.V_slice HO_9.out
          subst eo30
          go_wp2_with (first | (refine gL (some 55) Tryd.func91 #[.slice Ao30 x9_13.length co30, .int .i64 10, .int .i64 x7_2] ?_; (with_reducible refine (r_power.calls kj13 (fun k_ => True) _ _ x9_13 10 x7_2 t379 _ ?side1 A29.out).mono ?_); (case side1 => exact HO_9.out); rintro e w31 ⟨v380, rfl, ho0, hb⟩; refine ⟨_, rfl, ?_⟩; replace HO_8 := vb HO_8 hb; replace HO_9 := vb HO_9 hb; have HO381 := am (Kd.V_lower (Kd.V_mono (ok' := fun k_ => True) ho0 (fun k_ hk_ => trivial)) (below_size (lk HB))); replace HB := lb HB hb))
          go_meet
          case rel => exact ⟨_, (x8_13), (t379), H', ⟨by have := HK1.out; have := HK2.out; have := HJ13.out; first | omega | exact Nat.le_refl _⟩, ⟨vk HO_8⟩, ⟨vk HO381⟩, ⟨lk HB⟩⟩
         rw [if_neg c28] at H
         have c28b0 : decide (0 < x7_2) = false := decide_eq_false c28
         clear c28
         (first | rw [c28b0] | (simp only [i64_w, i32_w]; rw [c28b0]) | skip)
         replace H := bm H
         obtain ⟨t382, A320, H⟩ := H
         replace H : (r_expansion.j3 kj13 x7_2 t382 x9_13) = some (r1, r2) := H
         have A32 := am A320
         clear A320
         have H' := am H
         clear H
         obtain ⟨Ao33, co33, eo33⟩ := Kd.V_slice HO_8.out
         subst eo33
         go_wp2_with (first | (refine gL (some 59) Tryd.func91 #[.slice Ao33 x8_13.length co33, .int .i64 10, .int .i64 (wrap64 (-x7_2))] ?_; (with_reducible refine (r_power.calls kj13 (fun k_ => True) _ _ x8_13 10 (wrap64 (-x7_2)) t382 _ ?side1 A32.out).mono ?_); (case side1 => exact HO_8.out); rintro e w34 ⟨v383, rfl, ho0, hb⟩; refine ⟨_, rfl, ?_⟩; replace HO_8 := vb HO_8 hb; replace HO_9 := vb HO_9 hb; have HO384 := am (Kd.V_lower (Kd.V_mono (ok' := fun k_ => True) ho0 (fun k_ hk_ => trivial)) (below_size (lk HB))); replace HB := lb HB hb))
         go_meet
         case rel => exact ⟨_, (t382), (x9_13), H', ⟨by have := HK1.out; have := HK2.out; have := HJ13.out; first | omega | exact Nat.le_refl _⟩, ⟨vk HO384⟩, ⟨vk HO_9⟩, ⟨lk HB⟩⟩
        case rest =>
         clear HC27
         obtain ⟨kq, x8_26, x9_26, HA, HJ26, HO_8, HO_9, HB⟩ := hcut
         cases kq with
         | zero => exact absurd HA.out (by simp [r_expansion.j3])
         | succ kj26 =>
          have H := HA.out
          clear HA
          simp only [r_expansion.j3] at H
          have H' := am H
          clear H
          go_wp2
          go_loopg [8, 10, 11] kj26 (fun kq v8 v10 v11 w' => ∃ (x8_5 : List Int) (x10_5 : List Int) (x11_5 : Int), v11 = .int .i64 x11_5 ∧ Aside0 (r_expansion.l2 kq x7_2 x8_5 x9_26 x10_5 x11_5 = some (r1, r2)) ∧ Aside0 (kq ≤ kj26) ∧ Aside0 (Kd.V (Kd.int .i64) 3 w' w.heap.size (fun k_ => some k_ ≠ (v10 : Value).ownBlock) v8 x8_5) ∧ Aside0 (Kd.V (Kd.int .i64) 3 w' w.heap.size (fun k_ => some k_ ≠ (v10 : Value).ownBlock) u9 x9_26) ∧ Aside0 (Kd.R (Kd.int .i64) 3 w' w.heap.size (fun _ => True) v10 x10_5) ∧ Aside0 (Below w.heap.size w w'))
          case atStart => exact ⟨(x8_26), (([] : List Int)), (0), eqd, H', ⟨Nat.le_refl _⟩, ⟨by exact vy <| Kd.V_mono HO_8.out (fun _ hk => (by simp [Value.ownBlock]))⟩, ⟨by exact vy <| Kd.V_mono HO_9.out (fun _ hk => (by simp [Value.ownBlock]))⟩, ⟨by first | exact Kd.R_nil _ _ _ _ _ | exact Kd.N_nil _ _ _ _ _ | exact Kd.V_nil _ _ _ _ _ | exact Kd.Q_nil _ _ _ _ _ | exact Kd.S_nil _ _ _ _ _⟩, ⟨lk HB⟩⟩
          case round =>
           clear H'
           obtain ⟨x8_5, x10_5, x11_5, rfl, HA, HK5, HO_8, HO_9, HO_10, HB⟩ := hrel
           cases gk with
           | zero => exact absurd HA.out (by simp [r_expansion.l2])
           | succ k5 =>
            have H := HA.out
            clear HA
            simp only [r_expansion.l2] at H
            by_cases c35 : x11_5 < 18
            ·
             rw [if_pos c35] at H
             have c35b0 := dt c35
             clear c35
             replace H := bm H
             obtain ⟨t385, A360, H⟩ := H
             replace H : (r_expansion.l3 k5 x7_2 t385 x9_26 x10_5 x11_5 0) = some (r1, r2) := H
             have A36 := am A360
             clear A360
             have H' := am H
             clear H
             obtain ⟨Ao37, co37, eo37⟩ := Kd.V_slice HO_8.out
             subst eo37
             go_wp2_with (first | (refine gL (some 65) Tryd.func56 #[.slice Ao37 x8_5.length co37, .int .i64 10, .int .i64 0] ?_; (with_reducible refine (r_times.calls k5 _ _ x8_5 10 0 t385 _ ?side1 ?side2 A36.out).mono ?_); (case side1 => exact ck (Kd.V_reads' HO_8.out).2.2); (case side2 => exact (Kd.V_reads' HO_8.out).2.1); rintro e w38 ⟨v386, rfl, ho0, hb⟩; refine ⟨_, rfl, ?_⟩; replace HO_8 := am (Kd.V_elder' (vk HO_8) (Kd.R_base ho0) hb); replace HO_9 := am (Kd.V_elder' (vk HO_9) (Kd.R_base ho0) hb); have HO387 := am (Kd.R_lower (Kd.R_new' ho0 (Kd.R_lt (rk HO_10))) (below_size (lk HB))); replace HO_10 := am (Kd.R_elder' (rk HO_10) (Kd.R_base ho0) hb); replace HB := lb HB hb))
             go_loopg [8, 12] k5 (fun kq v8 v12 w' => ∃ (x8_6 : List Int) (x12_6 : Int), v12 = .int .i64 x12_6 ∧ Aside0 (r_expansion.l3 kq x7_2 x8_6 x9_26 x10_5 x11_5 x12_6 = some (r1, r2)) ∧ Aside0 (kq ≤ k5) ∧ Aside0 (Kd.R (Kd.int .i64) 3 w' w.heap.size (fun k_ => some k_ ≠ (u10 : Value).ownBlock) v8 x8_6) ∧ Aside0 (Kd.V (Kd.int .i64) 3 w' w.heap.size (fun k_ => some k_ ≠ (v8 : Value).ownBlock ∧ some k_ ≠ (u10 : Value).ownBlock) u9 x9_26) ∧ Aside0 (Kd.R (Kd.int .i64) 3 w' w.heap.size (fun k_ => some k_ ≠ (v8 : Value).ownBlock) u10 x10_5) ∧ Aside0 (Below w.heap.size w w'))
             case atStart => exact ⟨(t385), (0), eqd, H', ⟨Nat.le_refl _⟩, ⟨by exact ry <| Kd.R_mono HO387.out (fun _ hk => hk.2)⟩, ⟨by exact vy <| Kd.V_mono HO_9.out (fun _ hk => ⟨hk.2, hk.1⟩)⟩, ⟨by exact ry <| Kd.R_mono HO_10.out (fun _ hk => hk.2)⟩, ⟨lk HB⟩⟩
             case round =>
              clear H'
              obtain ⟨x8_6, x12_6, rfl, HA, HK6, HO_8, HO_9, HO_10, HB⟩ := hrel
              cases gk with
              | zero => exact absurd HA.out (by simp [r_expansion.l3])
              | succ k6 =>
               have H := HA.out
               clear HA
               simp only [r_expansion.l3] at H
               replace H := bm H
               obtain ⟨t388, A390, H⟩ := H
               replace H : (if t388 ≥ 0 then ((r_minus.f k6 x8_6 x9_26).bind fun t389 => (r_expansion.l3 k6 x7_2 t389 x9_26 x10_5 x11_5 (wrap64 (x12_6 + 1)))) else (if x10_5.length < 17592186044416 then (r_expansion.l2 k6 x7_2 x8_6 x9_26 (x10_5 ++ [x12_6]) (wrap64 (x11_5 + 1))) else (none))) = some (r1, r2) := H
               have A39 := am A390
               clear A390
               by_cases c40 : t388 ≥ 0
               ·
                rw [if_pos c40] at H
                have c40b0 : decide (0 ≤ t388) = true := dt c40
                clear c40
                replace H := bm H
                obtain ⟨t389, A410, H⟩ := H
                replace H : (r_expansion.l3 k6 x7_2 t389 x9_26 x10_5 x11_5 (wrap64 (x12_6 + 1))) = some (r1, r2) := H
                have A41 := am A410
                clear A410
                have H' := am H
                clear H
                obtain ⟨Ao42, co42, eo42⟩ := Kd.R_slice HO_8.out
                subst eo42
                obtain ⟨Ao43, co43, eo43⟩ := Kd.V_slice HO_9.out
                subst eo43
                go_wp2_with (first | (refine gL (some 68) Tryd.func92 #[.slice Ao42 x8_6.length co42, .slice Ao43 x9_26.length co43] ?_; (with_reducible refine (r_cmp.calls k6 _ _ x8_6 _ _ x9_26 t388 _ ?side1 ?side2 ?side3 ?side4 A39.out).mono ?_); (case side1 => exact ck (Kd.R_reads' HO_8.out).2.2); (case side2 => exact (Kd.R_reads' HO_8.out).2.1); (case side3 => exact ck (Kd.V_reads' HO_9.out).2.2); (case side4 => exact (Kd.V_reads' HO_9.out).2.1); rintro e w' ⟨rfl, ⟨nd, rfl⟩⟩; refine ⟨_, rfl, ?_⟩) | (refine gL (some 72) Tryd.func93 #[.slice Ao42 x8_6.length co42, .slice Ao43 x9_26.length co43] ?_; (with_reducible refine (r_minus.calls k6 _ _ x8_6 _ _ x9_26 t389 _ ?side1 ?side2 ?side3 ?side4 A41.out).mono ?_); (case side1 => exact ck (Kd.R_reads' HO_8.out).2.2); (case side2 => exact (Kd.R_reads' HO_8.out).2.1); (case side3 => exact ck (Kd.V_reads' HO_9.out).2.2); (case side4 => exact (Kd.V_reads' HO_9.out).2.1); rintro e w44 ⟨v390, rfl, ho0, hb⟩; refine ⟨_, rfl, ?_⟩; replace HO_9 := am (Kd.V_elder' (vk HO_9) (Kd.R_base ho0) hb); have HO391 := am (Kd.R_lower (Kd.R_new' (Kd.R_new' ho0 (Kd.R_lt (rk HO_8))) (Kd.R_lt (rk HO_10))) (below_size (lk HB))); replace HO_8 := am (Kd.R_elder' (rk HO_8) (Kd.R_base ho0) hb); replace HO_10 := am (Kd.R_elder' (rk HO_10) (Kd.R_base ho0) hb); replace HB := lb HB hb))
                go_roundg k6
                case measure => have := HK1.out; have := HK2.out; have := HJ13.out; have := HJ26.out; have := HK5.out; have := HK6.out; omega
                case rel => exact ⟨(t389), (wrap64 (x12_6 + 1)), eqd, H', ⟨by have := HK1.out; have := HK2.out; have := HJ13.out; have := HJ26.out; have := HK5.out; have := HK6.out; omega⟩, ⟨by exact ry <| Kd.R_mono HO391.out (fun _ hk => hk.2)⟩, ⟨by exact vy <| Kd.V_mono HO_9.out (fun _ hk => ⟨hk.2, hk.1.2⟩)⟩, ⟨by exact ry <| Kd.R_mono HO_10.out (fun _ hk => hk.2)⟩, ⟨lk HB⟩⟩
               rw [if_neg c40] at H
               have c40b0 : decide (0 ≤ t388) = false := decide_eq_false c40
               clear c40
               by_cases c45 : x10_5.length < 17592186044416
               ·
                rw [if_pos c45] at H
                have LMc45 := am c45
                clear c45
                obtain ⟨y392, hy392⟩ : ∃ y_ : List Int, y_ = (x10_5 ++ [x12_6]) := ⟨_, rfl⟩
                replace H : (r_expansion.l2 k6 x7_2 x8_6 x9_26 y392 (wrap64 (x11_5 + 1))) = some (r1, r2) := by first | (rw [hy392]; exact H) | exact H
                have Ny392 := am hy392
                clear hy392
                have H' := am H
                clear H
                obtain ⟨Ao46, co46, eo46⟩ := Kd.R_slice HO_8.out
                subst eo46
                obtain ⟨Ao47, co47, eo47⟩ := Kd.V_slice HO_9.out
                subst eo47
                go_wp2_with (first | (refine gL (some 68) Tryd.func92 #[.slice Ao46 x8_6.length co46, .slice Ao47 x9_26.length co47] ?_; (with_reducible refine (r_cmp.calls k6 _ _ x8_6 _ _ x9_26 t388 _ ?side1 ?side2 ?side3 ?side4 A39.out).mono ?_); (case side1 => exact ck (Kd.R_reads' HO_8.out).2.2); (case side2 => exact (Kd.R_reads' HO_8.out).2.1); (case side3 => exact ck (Kd.V_reads' HO_9.out).2.2); (case side4 => exact (Kd.V_reads' HO_9.out).2.1); rintro e w' ⟨rfl, ⟨nd, rfl⟩⟩; refine ⟨_, rfl, ?_⟩) | ((with_reducible refine gate_builtin (b := .append) (xs := #[.tmp 75, .tmp 77]) rfl ?_); at_builtin; refine Kd.R_append (Kd.int .i64) (w0 := w) w.heap.size rfl (.tmp 75) (.tmp 77) 66 3 (.int .i64 0) 8 rfl Tryd.underlying66 info3 rfl (by decide) (by omega) u10 x10_5 x12_6 [.int .i64 x12_6] (fun k_ => some k_ ≠ (.slice Ao46 x8_6.length co46 : Value).ownBlock) (fun _ => False) rfl rfl ?aP (fun _ hk => hk.elim) ?aF ?aO ?aB ?aS ?aL ?_; (case aP => exact rfl); (case aB => exact (lk HB)); (case aF => exact (fun k_ hk => Kd.fresh' (Kd.R_lt (rk HO_8)) k_ hk)); (case aO => exact (rk HO_10)); (case aS => exact (below_size (lk HB))); (case aL => have := LMc45.out; omega); intro v393 w48 ho hb hg hat; rw [← Ny392.out] at ho; replace HO_8 := am (Kd.R_after (ok := (fun _ => True)) (by exact ry <| Kd.R_mono HO_8.out (fun _ hk => ⟨trivial, hk⟩)) hg hat); replace HO_9 := am (Kd.V_afterv (ok := (fun k_ => some k_ ≠ (.slice Ao46 x8_6.length co46 : Value).ownBlock)) (vk HO_9) hg hat); replace HB := am (hb); have HO394 := am (ho); clear HO_10 ho hb hg hat))
                go_roundg k6
                case measure => have := HK1.out; have := HK2.out; have := HJ13.out; have := HJ26.out; have := HK5.out; have := HK6.out; omega
                case rel => exact ⟨(x8_6), (y392), (wrap64 (x11_5 + 1)), eqd, H', ⟨by have := HK1.out; have := HK2.out; have := HJ13.out; have := HJ26.out; have := HK5.out; have := HK6.out; omega⟩, ⟨Kd.R_V (by exact ry <| Kd.R_mono HO_8.out (fun _ hk => hk.2))⟩, ⟨by exact vy <| Kd.V_mono HO_9.out (fun _ hk => hk.2)⟩, ⟨by exact ry <| Kd.R_mono HO394.out (fun _ hk => trivial)⟩, ⟨lk HB⟩⟩
               rw [if_neg c45] at H
               exact absurd H (by simp)
            rw [if_neg c35] at H
            have c35b0 := decide_eq_false c35
            clear c35
            simp only [Option.some.injEq, Prod.mk.injEq] at H
            obtain ⟨rfl, rfl⟩ := H
            go_wp2
            go_ret2
            exact ⟨_, by first | rfl | (simp [errW_none, errW_some] <;> rfl) | (simp only [← hji4]; first | rfl | (simp [errW_none, errW_some] <;> rfl)) | (simp [*, errW_none, errW_some] <;> rfl), rk HO_10, lk HB⟩
   rw [if_neg c3] at H
   exact absurd H (by simp)
end Go.Proofs.YtjlnfnfdibfniaaDoor.F

