/- Words and walked functions of the proof (part 2). -/
import Derived.Test.YtjlnfnfdibfniaaDoorCDura1
namespace Go.Proofs.YtjlnfnfdibfniaaDoor.F
open Go.RowKit Go.Proofs.YW.PWords Go.Proofs.YW.PLast Go.Proofs.YW.PMore
attribute [local go_sem] max2_int min2_int max_two min_two max_three min_three max_four min_four
set_option linter.unusedVariables false
set_option linter.unusedSimpArgs false
set_option maxRecDepth 100000
mutual
def num_nat_plus.l0 : Nat → List Int → List Int → List Int → Int → List Int → Int → Int → Option (List Int)
 | 0, _, _, _, _, _, _, _ => none
 | k + 1, x0, x1, x5, x6, x20, x21, x22 => if x22 < x21 then (if 0 ≤ x22 then (if x22 < (x20.length : Int) then (if x22 < (x1.length : Int) then (if x22 < (x5.length : Int) then (num_nat_plus.l0 k x0 x1 (x5.set (x22 : Int).toNat ((IntKind.u64.wrap ((IntKind.u64.wrap (x6 + (IntKind.u64.wrap (rd x20 x22)))) + (IntKind.u64.wrap (rd x1 x22)))) % 4294967296)) ((IntKind.u64.wrap ((IntKind.u64.wrap (x6 + (IntKind.u64.wrap (rd x20 x22)))) + (IntKind.u64.wrap (rd x1 x22)))) / 4294967296) x20 x21 (wrap64 (x22 + 1))) else (none)) else (if x22 < (x5.length : Int) then (num_nat_plus.l0 k x0 x1 (x5.set (x22 : Int).toNat ((IntKind.u64.wrap (x6 + (IntKind.u64.wrap (rd x20 x22)))) % 4294967296)) ((IntKind.u64.wrap (x6 + (IntKind.u64.wrap (rd x20 x22)))) / 4294967296) x20 x21 (wrap64 (x22 + 1))) else (none))) else (none)) else (none)) else (if 0 ≤ (x0.length : Int) then (if (x0.length : Int) < (x5.length : Int) then ((num_nat_trim.f k (x5.set ((x0.length : Int) : Int).toNat ((x6) % 4294967296))).bind fun t152 => (some t152)) else (none)) else (none))
def num_nat_plus.l101 : Nat → List Int → List Int → List Int → Int → List Int → Int → Int → Option (List Int)
 | 0, _, _, _, _, _, _, _ => none
 | k + 1, x0, x1, x5, x6, x20, x21, x22 => if x22 < x21 then (if 0 ≤ x22 then (if x22 < (x20.length : Int) then (if x22 < (x1.length : Int) then (if x22 < (x5.length : Int) then (num_nat_plus.l101 k x0 x1 (x5.set (x22 : Int).toNat ((IntKind.u64.wrap ((IntKind.u64.wrap (x6 + (IntKind.u64.wrap (rd x20 x22)))) + (IntKind.u64.wrap (rd x1 x22)))) % 4294967296)) ((IntKind.u64.wrap ((IntKind.u64.wrap (x6 + (IntKind.u64.wrap (rd x20 x22)))) + (IntKind.u64.wrap (rd x1 x22)))) / 4294967296) x20 x21 (wrap64 (x22 + 1))) else (none)) else (if x22 < (x5.length : Int) then (num_nat_plus.l101 k x0 x1 (x5.set (x22 : Int).toNat ((IntKind.u64.wrap (x6 + (IntKind.u64.wrap (rd x20 x22)))) % 4294967296)) ((IntKind.u64.wrap (x6 + (IntKind.u64.wrap (rd x20 x22)))) / 4294967296) x20 x21 (wrap64 (x22 + 1))) else (none))) else (none)) else (none)) else (if 0 ≤ (x0.length : Int) then (if (x0.length : Int) < (x5.length : Int) then ((num_nat_trim.f k (x5.set ((x0.length : Int) : Int).toNat ((x6) % 4294967296))).bind fun t163 => (some t163)) else (none)) else (none))
end
def num_nat_plus.f (k : Nat) (l0 : List Int) (l1 : List Int) : Option (List Int) := if (l0.length : Int) < (l1.length : Int) then (if 0 ≤ (wrap64 ((l1.length : Int) + 1)) then (if (wrap64 ((l1.length : Int) + 1) : Int).toNat ≤ 70368744177664 then (num_nat_plus.l0 k l1 l0 (List.replicate (wrap64 ((l1.length : Int) + 1) : Int).toNat 0) 0 l1 (l1.length : Int) 0) else (none)) else (none)) else (if 0 ≤ (wrap64 ((l0.length : Int) + 1)) then (if (wrap64 ((l0.length : Int) + 1) : Int).toNat ≤ 70368744177664 then (num_nat_plus.l101 k l0 l1 (List.replicate (wrap64 ((l0.length : Int) + 1) : Int).toNat 0) 0 l0 (l0.length : Int) 0) else (none)) else (none))
theorem num_nat_plus.mono_l : ∀ k, (∀ y0 y1 y2 y3 y4 y5 y6, LeO (num_nat_plus.l0 k y0 y1 y2 y3 y4 y5 y6) (num_nat_plus.l0 (k + 1) y0 y1 y2 y3 y4 y5 y6)) ∧ (∀ y0 y1 y2 y3 y4 y5 y6, LeO (num_nat_plus.l101 k y0 y1 y2 y3 y4 y5 y6) (num_nat_plus.l101 (k + 1) y0 y1 y2 y3 y4 y5 y6))
 | 0 => ⟨fun _ _ _ _ _ _ _ r h => by simp [num_nat_plus.l0] at h, fun _ _ _ _ _ _ _ r h => by simp [num_nat_plus.l101] at h⟩
 | k + 1 => by
  obtain ⟨ih0, ih1⟩ := num_nat_plus.mono_l k
  refine ⟨?_, ?_⟩ <;> intros <;> (first | unfold num_nat_plus.l0 | unfold num_nat_plus.l101) <;> repeat' (with_reducible first | apply ih0 | apply ih1 | apply num_nat_trim.mono | apply LeO.refl | apply LeO.none | apply LeO.ite | refine LeO.bind ?_ (fun _ => ?_))
theorem num_nat_plus.mono : ∀ a0 a1 k, LeO (num_nat_plus.f k a0 a1) (num_nat_plus.f (k + 1) a0 a1) := by
 intro a0 a1 k
 obtain ⟨ih0, ih1⟩ := num_nat_plus.mono_l k
 unfold num_nat_plus.f
 repeat' (with_reducible first | apply ih0 | apply ih1 | apply num_nat_trim.mono | apply LeO.refl | apply LeO.none | apply LeO.ite | refine LeO.bind ?_ (fun _ => ?_))
set_option maxHeartbeats 8000000 in
theorem num_nat_plus.calls (k : Nat) (A0 : Option Addr) (c0 : Nat) (l0 : List Int) (A1 : Option Addr) (c1 : Nat) (l1 : List Int) (r : List Int) (w : World) (hr0 : Kd.C (Kd.int .u32) w A0 l0.length l0) (hc0 : l0.length ≤ c0) (hr1 : Kd.C (Kd.int .u32) w A1 l1.length l1) (hc1 : l1.length ≤ c1) (h : num_nat_plus.f k l0 l1 = some r) :
  Calls Tryd.prog 48 #[.slice A0 l0.length c0, .slice A1 l1.length c1] w fun e w' => ∃ v0_ : Value, e = .returned (v0_) ∧ Kd.V (Kd.int .u32) 102 w' w.heap.size (fun k_ => (w.heap.size ≤ k_)) v0_ r ∧ Below w.heap.size w w' := by
 have HR0 := am hr0
 have HC0 := am hc0
 clear hr0 hc0
 have HR1 := am hr1
 have HC1 := am hc1
 clear hr1 hc1
 have HB := am (Below.refl w.heap.size w)
 have H : (if (l0.length : Int) < (l1.length : Int) then (if 0 ≤ (wrap64 ((l1.length : Int) + 1)) then (if (wrap64 ((l1.length : Int) + 1) : Int).toNat ≤ 70368744177664 then (num_nat_plus.l0 k l1 l0 (List.replicate (wrap64 ((l1.length : Int) + 1) : Int).toNat 0) 0 l1 (l1.length : Int) 0) else (none)) else (none)) else (if 0 ≤ (wrap64 ((l0.length : Int) + 1)) then (if (wrap64 ((l0.length : Int) + 1) : Int).toNat ≤ 70368744177664 then (num_nat_plus.l101 k l0 l1 (List.replicate (wrap64 ((l0.length : Int) + 1) : Int).toNat 0) 0 l0 (l0.length : Int) 0) else (none)) else (none))) = some r := h
 clear h
 by_cases c3 : (l0.length : Int) < (l1.length : Int)
 ·
  rw [if_pos c3] at H
  have c3b0 := dt c3
  have c3b1 : decide (l0.length < l1.length) = true := dt (Int.ofNat_lt.mp c3)
  clear c3
  obtain ⟨ji4, hji4⟩ : ∃ j_ : Int, (wrap64 ((l1.length : Int) + 1)) = j_ := ⟨_, rfl⟩
  replace H : (if 0 ≤ (ji4) then (if (ji4 : Int).toNat ≤ 70368744177664 then (num_nat_plus.l0 k l1 l0 (List.replicate (ji4 : Int).toNat 0) 0 l1 (l1.length : Int) 0) else (none)) else (none)) = some r := by first | (rw [hji4] at H; exact H) | (simp only [hji4] at H ⊢; exact H)
  have hji4w : (IntKind.i64.wrap ((l1.length : Int) + 1)) = ji4 := (i64_w _).trans hji4
  by_cases c5 : 0 ≤ (ji4)
  ·
   rw [if_pos c5] at H
   have c5b0 := eq_true c5
   have c5b1 := dt c5
   clear c5
   by_cases c6 : (ji4 : Int).toNat ≤ 70368744177664
   ·
    rw [if_pos c6] at H
    have c6b0 := eq_true c6
    have c6b1 := dt c6
    clear c6
    obtain ⟨y144, hy144⟩ : ∃ y_ : List Int, y_ = (List.replicate (ji4 : Int).toNat 0) := ⟨_, rfl⟩
    replace H : (num_nat_plus.l0 k l1 l0 y144 0 l1 (l1.length : Int) 0) = some r := by first | (rw [hy144]; exact H) | exact H
    have Ny144 := am hy144
    clear hy144
    have H' := am H
    clear H
    go_enter Tryd.func48, Tryd.ntmps48
    go_wp2_with (first | ((with_reducible refine gate_dst (N := 19) rfl ?_); refine Kd.R_make (Kd.int .u32) _ 102 rfl (N := 19) rfl 56 _ _ rfl ji4 rfl rfl Tryd.underlying56 (.int .u32 0) 4 info102 rfl (by decide) (by omega) 0 (ok := fun _ => True) (okp := fun _ => True) rfl (fun _ hk => hk) trivial (od) (Nat.le_trans (Nat.mul_le_mul_right _ (od : ji4.toNat ≤ 70368744177664)) (by omega)) (Below.refl _ _) (Nat.le_refl _) ?_; intro v145 w7 ho8 hb hg_ hnew_; clear hg_ hnew_; (first | rw [← Ny144.out] at ho8 | (simp only [Int.reduceToNat] at ho8; rw [← Ny144.out] at ho8)); have HO146 := am (Kd.R_lower (Kd.R_newM (M := fun k_ => (w.heap.size ≤ k_)) ho8 (below_size (lk HB)) (fun k_ h_ => h_)) (below_size (lk HB))); replace HB := lb HB hb; clear hb ho8))
    go_loopg [6, 22] k (fun kq v6 v22 w' => ∃ (x5_1 : List Int) (x6_1 : Int) (x22_1 : Int), v6 = .int .u64 x6_1 ∧ v22 = .int .i64 x22_1 ∧ Aside0 (num_nat_plus.l0 kq l1 l0 x5_1 x6_1 l1 (l1.length : Int) x22_1 = some r) ∧ Aside0 (kq ≤ k) ∧ Aside0 (Kd.R (Kd.int .u32) 102 w' w.heap.size (fun k_ => (w.heap.size ≤ k_)) v145 x5_1) ∧ Aside0 (Below w.heap.size w w'))
    case atStart => exact ⟨(y144), (0), (0), eqd, eqd, H', ⟨Nat.le_refl _⟩, ⟨by exact ry <| Kd.R_mono HO146.out (fun _ hk => hk.1)⟩, ⟨lk HB⟩⟩
    case round =>
     clear H'
     obtain ⟨x5_1, x6_1, x22_1, rfl, rfl, HA, HK1, HO_5, HB⟩ := hrel
     cases gk with
     | zero => exact absurd HA.out (by simp [num_nat_plus.l0])
     | succ k1 =>
      have H := HA.out
      clear HA
      simp only [num_nat_plus.l0] at H
      by_cases c9 : x22_1 < (l1.length : Int)
      ·
       rw [if_pos c9] at H
       have c9b0 := dt c9
       clear c9
       by_cases c10 : 0 ≤ x22_1
       ·
        rw [if_pos c10] at H
        have c10b0 := dt c10
        clear c10
        by_cases c11 : x22_1 < (l1.length : Int)
        ·
         rw [if_pos c11] at H
         have c11b0 := dt c11
         clear c11
         by_cases c12 : x22_1 < (l0.length : Int)
         ·
          rw [if_pos c12] at H
          have c12b0 := dt c12
          clear c12
          by_cases c13 : x22_1 < (x5_1.length : Int)
          ·
           rw [if_pos c13] at H
           have c13b0 := dt c13
           clear c13
           obtain ⟨y149, hy149⟩ : ∃ y_ : List Int, y_ = (x5_1.set (x22_1 : Int).toNat ((IntKind.u64.wrap ((IntKind.u64.wrap (x6_1 + (IntKind.u64.wrap (rd l1 x22_1)))) + (IntKind.u64.wrap (rd l0 x22_1)))) % 4294967296)) := ⟨_, rfl⟩
           replace H : (num_nat_plus.l0 k1 l1 l0 y149 ((IntKind.u64.wrap ((IntKind.u64.wrap (x6_1 + (IntKind.u64.wrap (rd l1 x22_1)))) + (IntKind.u64.wrap (rd l0 x22_1)))) / 4294967296) l1 (l1.length : Int) (wrap64 (x22_1 + 1))) = some r := by first | (rw [hy149]; exact H) | exact H
           have Ny149 := am hy149
           clear hy149
           have H' := am H
           clear H
           have p147 : 0 ≤ (x22_1 : Int) := od
           have q147 : x22_1 < (l1.length : Int) := od
           obtain ⟨ad147, e147, hx147_0⟩ := Kd.at_int HR1.out x22_1 p147 q147
           cases e147
           replace hx147_0 := (HB.out.cell (World.block_lt_of_cell? w _ hx147_0)).trans hx147_0
           replace p147 := eq_true p147
           replace q147 := eq_true q147
           have p148 : 0 ≤ (x22_1 : Int) := od
           have q148 : x22_1 < (l0.length : Int) := od
           obtain ⟨ad148, e148, hx148_0⟩ := Kd.at_int HR0.out x22_1 p148 q148
           cases e148
           replace hx148_0 := (HB.out.cell (World.block_lt_of_cell? w _ hx148_0)).trans hx148_0
           replace p148 := eq_true p148
           replace q148 := eq_true q148
           have p14 : 0 ≤ (x22_1 : Int) := od
           have q14 : (x22_1 : Int) < ((x5_1.length : Int) : Int) := od
           obtain ⟨go14, co14, eo14, gb14, gl14, cl14, HG14⟩ := Kd.R_form HO_5.out (by omega)
           (first | cases eo14 | (injection eo14 with ea_ en_ ec_; (first | subst ea_ | (injection ea_ with ea_; subst ea_)); subst ec_; clear en_))
           have GB14 := am gb14
           have GG14 := am HG14
           clear gb14 gl14 HG14
           obtain ⟨hx14_0, hf14_0⟩ := Kd.R_celln 0 HO_5.out (x22_1 : Int) p14 q14
           replace p14 := eq_true p14
           replace q14 := eq_true q14
           have HP15 := Kd.R_putg HO_5.out (x22_1 : Int) ((IntKind.u64.wrap ((IntKind.u64.wrap (x6_1 + (IntKind.u64.wrap (rd l1 x22_1)))) + (IntKind.u64.wrap (rd l0 x22_1)))) % 4294967296)
           go_wp2_with (first | ((with_reducible refine gate_store (t := 102) (p := 46) rfl ?_); refine store_event (t := 102) (p := 46) (v := ?vo_w16) (w1 := (wr.setCell ⟨go14, (x22_1 : Int).toNat, none⟩ (.int .u32 ((IntKind.u64.wrap ((IntKind.u64.wrap (x6_1 + (IntKind.u64.wrap (rd l1 x22_1)))) + (IntKind.u64.wrap (rd l0 x22_1)))) % 4294967296)))) ?hg ?ho ?hn ?hr ?_; (case ho => rfl); (case hg => rfl); (case hn => rfl); (case hr => first | (go_simp; done) | (go_simp; rfl)); intro w16 hw; have hg : wr.grownBy w16 (some go14) := (by rw [hw]; exact HP15.2); have hp_ : Kd.R (Kd.int .u32) 102 w16 w.heap.size (fun k_ => (w.heap.size ≤ k_)) (.slice (some ⟨go14, 0, none⟩) x5_1.length co14) y149 := (by rw [hw, Ny149.out]; exact HP15.1); clear HP15; replace HO_5 := am (hp_); replace HB := am ((by rw [hw]; exact below_set (HB.out) GB14.out : Below w.heap.size w w16)); clear hg hw hp_))
           go_roundg k1
           case measure => have := HK1.out; omega
           case rel => exact ⟨(y149), ((IntKind.u64.wrap ((IntKind.u64.wrap (x6_1 + (IntKind.u64.wrap (rd l1 x22_1)))) + (IntKind.u64.wrap (rd l0 x22_1)))) / 4294967296), (wrap64 (x22_1 + 1)), eqd, eqd, H', ⟨by have := HK1.out; omega⟩, ⟨rk HO_5⟩, ⟨lk HB⟩⟩
          rw [if_neg c13] at H
          exact absurd H (by simp)
         rw [if_neg c12] at H
         have c12b0 := decide_eq_false c12
         clear c12
         by_cases c17 : x22_1 < (x5_1.length : Int)
         ·
          rw [if_pos c17] at H
          have c17b0 := dt c17
          clear c17
          obtain ⟨y150, hy150⟩ : ∃ y_ : List Int, y_ = (x5_1.set (x22_1 : Int).toNat ((IntKind.u64.wrap (x6_1 + (IntKind.u64.wrap (rd l1 x22_1)))) % 4294967296)) := ⟨_, rfl⟩
          replace H : (num_nat_plus.l0 k1 l1 l0 y150 ((IntKind.u64.wrap (x6_1 + (IntKind.u64.wrap (rd l1 x22_1)))) / 4294967296) l1 (l1.length : Int) (wrap64 (x22_1 + 1))) = some r := by first | (rw [hy150]; exact H) | exact H
          have Ny150 := am hy150
          clear hy150
          have H' := am H
          clear H
          have p147 : 0 ≤ (x22_1 : Int) := od
          have q147 : x22_1 < (l1.length : Int) := od
          obtain ⟨ad147, e147, hx147_0⟩ := Kd.at_int HR1.out x22_1 p147 q147
          cases e147
          replace hx147_0 := (HB.out.cell (World.block_lt_of_cell? w _ hx147_0)).trans hx147_0
          replace p147 := eq_true p147
          replace q147 := eq_true q147
          have p18 : 0 ≤ (x22_1 : Int) := od
          have q18 : (x22_1 : Int) < ((x5_1.length : Int) : Int) := od
          obtain ⟨go18, co18, eo18, gb18, gl18, cl18, HG18⟩ := Kd.R_form HO_5.out (by omega)
          (first | cases eo18 | (injection eo18 with ea_ en_ ec_; (first | subst ea_ | (injection ea_ with ea_; subst ea_)); subst ec_; clear en_))
          have GB18 := am gb18
          have GG18 := am HG18
          clear gb18 gl18 HG18
          obtain ⟨hx18_0, hf18_0⟩ := Kd.R_celln 0 HO_5.out (x22_1 : Int) p18 q18
          replace p18 := eq_true p18
          replace q18 := eq_true q18
          have HP19 := Kd.R_putg HO_5.out (x22_1 : Int) ((IntKind.u64.wrap (x6_1 + (IntKind.u64.wrap (rd l1 x22_1)))) % 4294967296)
          go_wp2_with (first | ((with_reducible refine gate_store (t := 102) (p := 46) rfl ?_); refine store_event (t := 102) (p := 46) (v := ?vo_w20) (w1 := (wr.setCell ⟨go18, (x22_1 : Int).toNat, none⟩ (.int .u32 ((IntKind.u64.wrap (x6_1 + (IntKind.u64.wrap (rd l1 x22_1)))) % 4294967296)))) ?hg ?ho ?hn ?hr ?_; (case ho => rfl); (case hg => rfl); (case hn => rfl); (case hr => first | (go_simp; done) | (go_simp; rfl)); intro w20 hw; have hg : wr.grownBy w20 (some go18) := (by rw [hw]; exact HP19.2); have hp_ : Kd.R (Kd.int .u32) 102 w20 w.heap.size (fun k_ => (w.heap.size ≤ k_)) (.slice (some ⟨go18, 0, none⟩) x5_1.length co18) y150 := (by rw [hw, Ny150.out]; exact HP19.1); clear HP19; replace HO_5 := am (hp_); replace HB := am ((by rw [hw]; exact below_set (HB.out) GB18.out : Below w.heap.size w w20)); clear hg hw hp_))
          go_roundg k1
          case measure => have := HK1.out; omega
          case rel => exact ⟨(y150), ((IntKind.u64.wrap (x6_1 + (IntKind.u64.wrap (rd l1 x22_1)))) / 4294967296), (wrap64 (x22_1 + 1)), eqd, eqd, H', ⟨by have := HK1.out; omega⟩, ⟨rk HO_5⟩, ⟨lk HB⟩⟩
         rw [if_neg c17] at H
         exact absurd H (by simp)
        rw [if_neg c11] at H
        exact absurd H (by simp)
       rw [if_neg c10] at H
       exact absurd H (by simp)
      rw [if_neg c9] at H
      have c9b0 := decide_eq_false c9
      clear c9
      by_cases c21 : 0 ≤ (l1.length : Int)
      ·
       rw [if_pos c21] at H
       have c21b0 := dt c21
       have c21b1 : decide (0 ≤ l1.length) = true := dt (by omega)
       clear c21
       by_cases c22 : (l1.length : Int) < (x5_1.length : Int)
       ·
        rw [if_pos c22] at H
        have c22b0 := dt c22
        have c22b1 : decide (l1.length < x5_1.length) = true := dt (Int.ofNat_lt.mp c22)
        clear c22
        obtain ⟨y151, hy151⟩ : ∃ y_ : List Int, y_ = (x5_1.set ((l1.length : Int) : Int).toNat ((x6_1) % 4294967296)) := ⟨_, rfl⟩
        replace H : ((num_nat_trim.f k1 y151).bind fun t152 => (some t152)) = some r := by first | (rw [hy151]; exact H) | exact H
        have Ny151 := am hy151
        clear hy151
        replace H := bm H
        obtain ⟨t152, A240, H⟩ := H
        replace H : (some t152) = some r := H
        have A24 := am A240
        clear A240
        obtain rfl := Option.some.inj H
        have p23 : 0 ≤ ((l1.length : Int) : Int) := od
        have q23 : ((l1.length : Int) : Int) < ((x5_1.length : Int) : Int) := od
        obtain ⟨go23, co23, eo23, gb23, gl23, cl23, HG23⟩ := Kd.R_form HO_5.out (by omega)
        (first | cases eo23 | (injection eo23 with ea_ en_ ec_; (first | subst ea_ | (injection ea_ with ea_; subst ea_)); subst ec_; clear en_))
        have GB23 := am gb23
        have GG23 := am HG23
        clear gb23 gl23 HG23
        obtain ⟨hx23_0, hf23_0⟩ := Kd.R_celln 0 HO_5.out ((l1.length : Int) : Int) p23 q23
        (try simp only [Int.toNat_natCast] at hx23_0 hf23_0)
        replace p23 := eq_true p23
        replace q23 := eq_true q23
        have HP25 := Kd.R_putg HO_5.out ((l1.length : Int) : Int) ((x6_1) % 4294967296)
        go_wp2_with (first | ((with_reducible refine gate_store (t := 102) (p := 55) rfl ?_); refine store_event (t := 102) (p := 55) (v := ?vo_w26) (w1 := (wr.setCell ⟨go23, ((l1.length : Int) : Int).toNat, none⟩ (.int .u32 ((x6_1) % 4294967296)))) ?hg ?ho ?hn ?hr ?_; (case ho => rfl); (case hg => rfl); (case hn => rfl); (case hr => first | (go_simp; done) | (go_simp; rfl)); intro w26 hw; have hg : wr.grownBy w26 (some go23) := (by rw [hw]; exact HP25.2); have hp_ : Kd.R (Kd.int .u32) 102 w26 w.heap.size (fun k_ => (w.heap.size ≤ k_)) (.slice (some ⟨go23, 0, none⟩) x5_1.length co23) y151 := (by rw [hw, Ny151.out]; exact HP25.1); clear HP25; replace HO_5 := am (hp_); replace HB := am ((by rw [hw]; exact below_set (HB.out) GB23.out : Below w.heap.size w w26)); clear hg hw hp_) | ((with_reducible refine gate_callee (f := 82) rfl ?_); refine goesL_ (some 57) rfl rfl Tryd.func82 (by kernel_rfl) rfl #[.slice (some ⟨go23, 0, none⟩) y151.length co23] rfl (by (try simp only [List.map_toArray, List.map_cons, List.map_nil]); first | done | (rw [show y151.length = x5_1.length from (Kd.R_reads' HO_5.out).1.symm] <;> rfl) | rfl | (simp only [List.length_drop, List.length_take]; rfl)) ?_; (with_reducible refine (num_nat_trim.calls k1 (fun k_ => some k_ = (.slice (some ⟨go23, 0, none⟩) x5_1.length co23 : Value).ownBlock) _ _ y151 t152 _ ?side1 A24.out).mono ?_); (case side1 => rw [show y151.length = x5_1.length from (Kd.R_reads' HO_5.out).1.symm]; exact Kd.R_V (Kd.R_tight rfl (HO_5.out))); rintro e w27 ⟨v153, rfl, ho0, hb⟩; refine ⟨_, rfl, ?_⟩; have HO154 := am (Kd.V_lower (Kd.V_mono (ok' := fun k_ => (w.heap.size ≤ k_)) ho0 (fun k_ hk_ => Or.elim hk_ (fun hs_ => ((HO_5.out).1 k_ hs_.symm)) (fun hn_ => (Nat.le_trans (below_size (lk HB)) hn_)))) (below_size (lk HB))); replace HO_5 := am (Kd.R_below (rk HO_5) hb); replace HB := lb HB hb))
        go_ret
        exact ⟨_, by first | rfl | (simp [errW_none, errW_some] <;> rfl) | (simp only [← hji4]; first | rfl | (simp [errW_none, errW_some] <;> rfl)) | (simp [*, errW_none, errW_some] <;> rfl), vk HO154, lk HB⟩
       rw [if_neg c22] at H
       exact absurd H (by simp)
      rw [if_neg c21] at H
      exact absurd H (by simp)
   rw [if_neg c6] at H
   exact absurd H (by simp)
  rw [if_neg c5] at H
  exact absurd H (by simp)
 rw [if_neg c3] at H
 have c3b0 := decide_eq_false c3
 have c3b1 : decide (l0.length < l1.length) = false := decide_eq_false (fun h => c3 (Int.ofNat_lt.mpr h))
 clear c3
 obtain ⟨ji28, hji28⟩ : ∃ j_ : Int, (wrap64 ((l0.length : Int) + 1)) = j_ := ⟨_, rfl⟩
 replace H : (if 0 ≤ (ji28) then (if (ji28 : Int).toNat ≤ 70368744177664 then (num_nat_plus.l101 k l0 l1 (List.replicate (ji28 : Int).toNat 0) 0 l0 (l0.length : Int) 0) else (none)) else (none)) = some r := by first | (rw [hji28] at H; exact H) | (simp only [hji28] at H ⊢; exact H)
 have hji28w : (IntKind.i64.wrap ((l0.length : Int) + 1)) = ji28 := (i64_w _).trans hji28
 by_cases c29 : 0 ≤ (ji28)
 ·
  rw [if_pos c29] at H
  have c29b0 := eq_true c29
  have c29b1 := dt c29
  clear c29
  by_cases c30 : (ji28 : Int).toNat ≤ 70368744177664
  ·
   rw [if_pos c30] at H
   have c30b0 := eq_true c30
   have c30b1 := dt c30
   clear c30
   obtain ⟨y155, hy155⟩ : ∃ y_ : List Int, y_ = (List.replicate (ji28 : Int).toNat 0) := ⟨_, rfl⟩
   replace H : (num_nat_plus.l101 k l0 l1 y155 0 l0 (l0.length : Int) 0) = some r := by first | (rw [hy155]; exact H) | exact H
   have Ny155 := am hy155
   clear hy155
   have H' := am H
   clear H
   go_enter Tryd.func48, Tryd.ntmps48
   go_wp2_with (first | ((with_reducible refine gate_dst (N := 19) rfl ?_); refine Kd.R_make (Kd.int .u32) _ 102 rfl (N := 19) rfl 56 _ _ rfl ji28 rfl rfl Tryd.underlying56 (.int .u32 0) 4 info102 rfl (by decide) (by omega) 0 (ok := fun _ => True) (okp := fun _ => True) rfl (fun _ hk => hk) trivial (od) (Nat.le_trans (Nat.mul_le_mul_right _ (od : ji28.toNat ≤ 70368744177664)) (by omega)) (Below.refl _ _) (Nat.le_refl _) ?_; intro v156 w31 ho32 hb hg_ hnew_; clear hg_ hnew_; (first | rw [← Ny155.out] at ho32 | (simp only [Int.reduceToNat] at ho32; rw [← Ny155.out] at ho32)); have HO157 := am (Kd.R_lower (Kd.R_newM (M := fun k_ => (w.heap.size ≤ k_)) ho32 (below_size (lk HB)) (fun k_ h_ => h_)) (below_size (lk HB))); replace HB := lb HB hb; clear hb ho32))
   go_loopg [6, 22] k (fun kq v6 v22 w' => ∃ (x5_1 : List Int) (x6_1 : Int) (x22_1 : Int), v6 = .int .u64 x6_1 ∧ v22 = .int .i64 x22_1 ∧ Aside0 (num_nat_plus.l101 kq l0 l1 x5_1 x6_1 l0 (l0.length : Int) x22_1 = some r) ∧ Aside0 (kq ≤ k) ∧ Aside0 (Kd.R (Kd.int .u32) 102 w' w.heap.size (fun k_ => (w.heap.size ≤ k_)) v156 x5_1) ∧ Aside0 (Below w.heap.size w w'))
   case atStart => exact ⟨(y155), (0), (0), eqd, eqd, H', ⟨Nat.le_refl _⟩, ⟨by exact ry <| Kd.R_mono HO157.out (fun _ hk => hk.1)⟩, ⟨lk HB⟩⟩
   case round =>
    clear H'
    obtain ⟨x5_1, x6_1, x22_1, rfl, rfl, HA, HK1, HO_5, HB⟩ := hrel
    cases gk with
    | zero => exact absurd HA.out (by simp [num_nat_plus.l101])
    | succ k1 =>
     have H := HA.out
     clear HA
     simp only [num_nat_plus.l101] at H
     by_cases c33 : x22_1 < (l0.length : Int)
     ·
      rw [if_pos c33] at H
      have c33b0 := dt c33
      clear c33
      by_cases c34 : 0 ≤ x22_1
      ·
       rw [if_pos c34] at H
       have c34b0 := dt c34
       clear c34
       by_cases c35 : x22_1 < (l0.length : Int)
       ·
        rw [if_pos c35] at H
        have c35b0 := dt c35
        clear c35
        by_cases c36 : x22_1 < (l1.length : Int)
        ·
         rw [if_pos c36] at H
         have c36b0 := dt c36
         clear c36
         by_cases c37 : x22_1 < (x5_1.length : Int)
         ·
          rw [if_pos c37] at H
          have c37b0 := dt c37
          clear c37
          obtain ⟨y160, hy160⟩ : ∃ y_ : List Int, y_ = (x5_1.set (x22_1 : Int).toNat ((IntKind.u64.wrap ((IntKind.u64.wrap (x6_1 + (IntKind.u64.wrap (rd l0 x22_1)))) + (IntKind.u64.wrap (rd l1 x22_1)))) % 4294967296)) := ⟨_, rfl⟩
          replace H : (num_nat_plus.l101 k1 l0 l1 y160 ((IntKind.u64.wrap ((IntKind.u64.wrap (x6_1 + (IntKind.u64.wrap (rd l0 x22_1)))) + (IntKind.u64.wrap (rd l1 x22_1)))) / 4294967296) l0 (l0.length : Int) (wrap64 (x22_1 + 1))) = some r := by first | (rw [hy160]; exact H) | exact H
          have Ny160 := am hy160
          clear hy160
          have H' := am H
          clear H
          have p158 : 0 ≤ (x22_1 : Int) := od
          have q158 : x22_1 < (l0.length : Int) := od
          obtain ⟨ad158, e158, hx158_0⟩ := Kd.at_int HR0.out x22_1 p158 q158
          cases e158
          replace hx158_0 := (HB.out.cell (World.block_lt_of_cell? w _ hx158_0)).trans hx158_0
          replace p158 := eq_true p158
          replace q158 := eq_true q158
          have p159 : 0 ≤ (x22_1 : Int) := od
          have q159 : x22_1 < (l1.length : Int) := od
          obtain ⟨ad159, e159, hx159_0⟩ := Kd.at_int HR1.out x22_1 p159 q159
          cases e159
          replace hx159_0 := (HB.out.cell (World.block_lt_of_cell? w _ hx159_0)).trans hx159_0
          replace p159 := eq_true p159
          replace q159 := eq_true q159
          have p38 : 0 ≤ (x22_1 : Int) := od
          have q38 : (x22_1 : Int) < ((x5_1.length : Int) : Int) := od
          obtain ⟨go38, co38, eo38, gb38, gl38, cl38, HG38⟩ := Kd.R_form HO_5.out (by omega)
          (first | cases eo38 | (injection eo38 with ea_ en_ ec_; (first | subst ea_ | (injection ea_ with ea_; subst ea_)); subst ec_; clear en_))
          have GB38 := am gb38
          have GG38 := am HG38
          clear gb38 gl38 HG38
          obtain ⟨hx38_0, hf38_0⟩ := Kd.R_celln 0 HO_5.out (x22_1 : Int) p38 q38
          replace p38 := eq_true p38
          replace q38 := eq_true q38
          have HP39 := Kd.R_putg HO_5.out (x22_1 : Int) ((IntKind.u64.wrap ((IntKind.u64.wrap (x6_1 + (IntKind.u64.wrap (rd l0 x22_1)))) + (IntKind.u64.wrap (rd l1 x22_1)))) % 4294967296)
          go_wp2_with (first | ((with_reducible refine gate_store (t := 102) (p := 46) rfl ?_); refine store_event (t := 102) (p := 46) (v := ?vo_w40) (w1 := (wr.setCell ⟨go38, (x22_1 : Int).toNat, none⟩ (.int .u32 ((IntKind.u64.wrap ((IntKind.u64.wrap (x6_1 + (IntKind.u64.wrap (rd l0 x22_1)))) + (IntKind.u64.wrap (rd l1 x22_1)))) % 4294967296)))) ?hg ?ho ?hn ?hr ?_; (case ho => rfl); (case hg => rfl); (case hn => rfl); (case hr => first | (go_simp; done) | (go_simp; rfl)); intro w40 hw; have hg : wr.grownBy w40 (some go38) := (by rw [hw]; exact HP39.2); have hp_ : Kd.R (Kd.int .u32) 102 w40 w.heap.size (fun k_ => (w.heap.size ≤ k_)) (.slice (some ⟨go38, 0, none⟩) x5_1.length co38) y160 := (by rw [hw, Ny160.out]; exact HP39.1); clear HP39; replace HO_5 := am (hp_); replace HB := am ((by rw [hw]; exact below_set (HB.out) GB38.out : Below w.heap.size w w40)); clear hg hw hp_))
          go_roundg k1
          case measure => have := HK1.out; omega
          case rel => exact ⟨(y160), ((IntKind.u64.wrap ((IntKind.u64.wrap (x6_1 + (IntKind.u64.wrap (rd l0 x22_1)))) + (IntKind.u64.wrap (rd l1 x22_1)))) / 4294967296), (wrap64 (x22_1 + 1)), eqd, eqd, H', ⟨by have := HK1.out; omega⟩, ⟨rk HO_5⟩, ⟨lk HB⟩⟩
         rw [if_neg c37] at H
         exact absurd H (by simp)
        rw [if_neg c36] at H
        have c36b0 := decide_eq_false c36
        clear c36
        by_cases c41 : x22_1 < (x5_1.length : Int)
        ·
         rw [if_pos c41] at H
         have c41b0 := dt c41
         clear c41
         obtain ⟨y161, hy161⟩ : ∃ y_ : List Int, y_ = (x5_1.set (x22_1 : Int).toNat ((IntKind.u64.wrap (x6_1 + (IntKind.u64.wrap (rd l0 x22_1)))) % 4294967296)) := ⟨_, rfl⟩
         replace H : (num_nat_plus.l101 k1 l0 l1 y161 ((IntKind.u64.wrap (x6_1 + (IntKind.u64.wrap (rd l0 x22_1)))) / 4294967296) l0 (l0.length : Int) (wrap64 (x22_1 + 1))) = some r := by first | (rw [hy161]; exact H) | exact H
         have Ny161 := am hy161
         clear hy161
         have H' := am H
         clear H
         have p158 : 0 ≤ (x22_1 : Int) := od
         have q158 : x22_1 < (l0.length : Int) := od
         obtain ⟨ad158, e158, hx158_0⟩ := Kd.at_int HR0.out x22_1 p158 q158
         cases e158
         replace hx158_0 := (HB.out.cell (World.block_lt_of_cell? w _ hx158_0)).trans hx158_0
         replace p158 := eq_true p158
         replace q158 := eq_true q158
         have p42 : 0 ≤ (x22_1 : Int) := od
         have q42 : (x22_1 : Int) < ((x5_1.length : Int) : Int) := od
         obtain ⟨go42, co42, eo42, gb42, gl42, cl42, HG42⟩ := Kd.R_form HO_5.out (by omega)
         (first | cases eo42 | (injection eo42 with ea_ en_ ec_; (first | subst ea_ | (injection ea_ with ea_; subst ea_)); subst ec_; clear en_))
         have GB42 := am gb42
         have GG42 := am HG42
         clear gb42 gl42 HG42
         obtain ⟨hx42_0, hf42_0⟩ := Kd.R_celln 0 HO_5.out (x22_1 : Int) p42 q42
         replace p42 := eq_true p42
         replace q42 := eq_true q42
         have HP43 := Kd.R_putg HO_5.out (x22_1 : Int) ((IntKind.u64.wrap (x6_1 + (IntKind.u64.wrap (rd l0 x22_1)))) % 4294967296)
         go_wp2_with (first | ((with_reducible refine gate_store (t := 102) (p := 46) rfl ?_); refine store_event (t := 102) (p := 46) (v := ?vo_w44) (w1 := (wr.setCell ⟨go42, (x22_1 : Int).toNat, none⟩ (.int .u32 ((IntKind.u64.wrap (x6_1 + (IntKind.u64.wrap (rd l0 x22_1)))) % 4294967296)))) ?hg ?ho ?hn ?hr ?_; (case ho => rfl); (case hg => rfl); (case hn => rfl); (case hr => first | (go_simp; done) | (go_simp; rfl)); intro w44 hw; have hg : wr.grownBy w44 (some go42) := (by rw [hw]; exact HP43.2); have hp_ : Kd.R (Kd.int .u32) 102 w44 w.heap.size (fun k_ => (w.heap.size ≤ k_)) (.slice (some ⟨go42, 0, none⟩) x5_1.length co42) y161 := (by rw [hw, Ny161.out]; exact HP43.1); clear HP43; replace HO_5 := am (hp_); replace HB := am ((by rw [hw]; exact below_set (HB.out) GB42.out : Below w.heap.size w w44)); clear hg hw hp_))
         go_roundg k1
         case measure => have := HK1.out; omega
         case rel => exact ⟨(y161), ((IntKind.u64.wrap (x6_1 + (IntKind.u64.wrap (rd l0 x22_1)))) / 4294967296), (wrap64 (x22_1 + 1)), eqd, eqd, H', ⟨by have := HK1.out; omega⟩, ⟨rk HO_5⟩, ⟨lk HB⟩⟩
        rw [if_neg c41] at H
        exact absurd H (by simp)
       rw [if_neg c35] at H
       exact absurd H (by simp)
      rw [if_neg c34] at H
      exact absurd H (by simp)
     rw [if_neg c33] at H
     have c33b0 := decide_eq_false c33
     clear c33
     by_cases c45 : 0 ≤ (l0.length : Int)
     ·
      rw [if_pos c45] at H
      have c45b0 := dt c45
      have c45b1 : decide (0 ≤ l0.length) = true := dt (by omega)
      clear c45
      by_cases c46 : (l0.length : Int) < (x5_1.length : Int)
      ·
       rw [if_pos c46] at H
       have c46b0 := dt c46
       have c46b1 : decide (l0.length < x5_1.length) = true := dt (Int.ofNat_lt.mp c46)
       clear c46
       obtain ⟨y162, hy162⟩ : ∃ y_ : List Int, y_ = (x5_1.set ((l0.length : Int) : Int).toNat ((x6_1) % 4294967296)) := ⟨_, rfl⟩
       replace H : ((num_nat_trim.f k1 y162).bind fun t163 => (some t163)) = some r := by first | (rw [hy162]; exact H) | exact H
       have Ny162 := am hy162
       clear hy162
       replace H := bm H
       obtain ⟨t163, A480, H⟩ := H
       replace H : (some t163) = some r := H
       have A48 := am A480
       clear A480
       obtain rfl := Option.some.inj H
       have p47 : 0 ≤ ((l0.length : Int) : Int) := od
       have q47 : ((l0.length : Int) : Int) < ((x5_1.length : Int) : Int) := od
       obtain ⟨go47, co47, eo47, gb47, gl47, cl47, HG47⟩ := Kd.R_form HO_5.out (by omega)
       (first | cases eo47 | (injection eo47 with ea_ en_ ec_; (first | subst ea_ | (injection ea_ with ea_; subst ea_)); subst ec_; clear en_))
       have GB47 := am gb47
       have GG47 := am HG47
       clear gb47 gl47 HG47
       obtain ⟨hx47_0, hf47_0⟩ := Kd.R_celln 0 HO_5.out ((l0.length : Int) : Int) p47 q47
       (try simp only [Int.toNat_natCast] at hx47_0 hf47_0)
       replace p47 := eq_true p47
       replace q47 := eq_true q47
       have HP49 := Kd.R_putg HO_5.out ((l0.length : Int) : Int) ((x6_1) % 4294967296)
       go_wp2_with (first | ((with_reducible refine gate_store (t := 102) (p := 55) rfl ?_); refine store_event (t := 102) (p := 55) (v := ?vo_w50) (w1 := (wr.setCell ⟨go47, ((l0.length : Int) : Int).toNat, none⟩ (.int .u32 ((x6_1) % 4294967296)))) ?hg ?ho ?hn ?hr ?_; (case ho => rfl); (case hg => rfl); (case hn => rfl); (case hr => first | (go_simp; done) | (go_simp; rfl)); intro w50 hw; have hg : wr.grownBy w50 (some go47) := (by rw [hw]; exact HP49.2); have hp_ : Kd.R (Kd.int .u32) 102 w50 w.heap.size (fun k_ => (w.heap.size ≤ k_)) (.slice (some ⟨go47, 0, none⟩) x5_1.length co47) y162 := (by rw [hw, Ny162.out]; exact HP49.1); clear HP49; replace HO_5 := am (hp_); replace HB := am ((by rw [hw]; exact below_set (HB.out) GB47.out : Below w.heap.size w w50)); clear hg hw hp_) | ((with_reducible refine gate_callee (f := 82) rfl ?_); refine goesL_ (some 57) rfl rfl Tryd.func82 (by kernel_rfl) rfl #[.slice (some ⟨go47, 0, none⟩) y162.length co47] rfl (by (try simp only [List.map_toArray, List.map_cons, List.map_nil]); first | done | (rw [show y162.length = x5_1.length from (Kd.R_reads' HO_5.out).1.symm] <;> rfl) | rfl | (simp only [List.length_drop, List.length_take]; rfl)) ?_; (with_reducible refine (num_nat_trim.calls k1 (fun k_ => some k_ = (.slice (some ⟨go47, 0, none⟩) x5_1.length co47 : Value).ownBlock) _ _ y162 t163 _ ?side1 A48.out).mono ?_); (case side1 => rw [show y162.length = x5_1.length from (Kd.R_reads' HO_5.out).1.symm]; exact Kd.R_V (Kd.R_tight rfl (HO_5.out))); rintro e w51 ⟨v164, rfl, ho0, hb⟩; refine ⟨_, rfl, ?_⟩; have HO165 := am (Kd.V_lower (Kd.V_mono (ok' := fun k_ => (w.heap.size ≤ k_)) ho0 (fun k_ hk_ => Or.elim hk_ (fun hs_ => ((HO_5.out).1 k_ hs_.symm)) (fun hn_ => (Nat.le_trans (below_size (lk HB)) hn_)))) (below_size (lk HB))); replace HO_5 := am (Kd.R_below (rk HO_5) hb); replace HB := lb HB hb))
       go_ret
       exact ⟨_, by first | rfl | (simp [errW_none, errW_some] <;> rfl) | (simp only [← hji28]; first | rfl | (simp [errW_none, errW_some] <;> rfl)) | (simp [*, errW_none, errW_some] <;> rfl), vk HO165, lk HB⟩
      rw [if_neg c46] at H
      exact absurd H (by simp)
     rw [if_neg c45] at H
     exact absurd H (by simp)
  rw [if_neg c30] at H
  exact absurd H (by simp)
 rw [if_neg c29] at H
 exact absurd H (by simp)
def num_nat_less.l0 : Nat → List Int → List Int → Int → List Int → Int → Int → Option (List Int)
 | 0, _, _, _, _, _, _ => none
 | k + 1, x1, x5, x6, x13, x14, x15 => if x15 < x14 then (if 0 ≤ x15 then (if x15 < (x13.length : Int) then (if x15 < (x1.length : Int) then (if x15 < (x5.length : Int) then (num_nat_less.l0 k x1 (x5.set (x15 : Int).toNat ((IntKind.u64.wrap ((IntKind.u64.wrap ((IntKind.u64.wrap (rd x13 x15)) - x6)) - (IntKind.u64.wrap (rd x1 x15)))) % 4294967296)) ((IntKind.u64.wrap ((IntKind.u64.wrap ((IntKind.u64.wrap (rd x13 x15)) - x6)) - (IntKind.u64.wrap (rd x1 x15)))) / 9223372036854775808) x13 x14 (wrap64 (x15 + 1))) else (none)) else (if x15 < (x5.length : Int) then (num_nat_less.l0 k x1 (x5.set (x15 : Int).toNat ((IntKind.u64.wrap ((IntKind.u64.wrap (rd x13 x15)) - x6)) % 4294967296)) ((IntKind.u64.wrap ((IntKind.u64.wrap (rd x13 x15)) - x6)) / 9223372036854775808) x13 x14 (wrap64 (x15 + 1))) else (none))) else (none)) else (none)) else ((num_nat_trim.f k x5).bind fun t177 => (some t177))
def num_nat_less.f (k : Nat) (l0 : List Int) (l1 : List Int) : Option (List Int) := if 0 ≤ (l0.length : Int) then (if ((l0.length : Int) : Int).toNat ≤ 70368744177664 then (num_nat_less.l0 k l1 (List.replicate ((l0.length : Int) : Int).toNat 0) 0 l0 (l0.length : Int) 0) else (none)) else (none)
theorem num_nat_less.mono_l : ∀ k, (∀ y0 y1 y2 y3 y4 y5, LeO (num_nat_less.l0 k y0 y1 y2 y3 y4 y5) (num_nat_less.l0 (k + 1) y0 y1 y2 y3 y4 y5))
 | 0 => fun _ _ _ _ _ _ r h => by simp [num_nat_less.l0] at h
 | k + 1 => by
  have ih0 := num_nat_less.mono_l k
  ·
   intro y0 y1 y2 y3 y4 y5
   unfold num_nat_less.l0
   repeat' (with_reducible first | apply ih0 | apply num_nat_trim.mono | apply LeO.refl | apply LeO.none | apply LeO.ite | refine LeO.bind ?_ (fun _ => ?_))
theorem num_nat_less.mono : ∀ a0 a1 k, LeO (num_nat_less.f k a0 a1) (num_nat_less.f (k + 1) a0 a1) := by
 intro a0 a1 k
 have ih0 := num_nat_less.mono_l k
 unfold num_nat_less.f
 repeat' (with_reducible first | apply ih0 | apply num_nat_trim.mono | apply LeO.refl | apply LeO.none | apply LeO.ite | refine LeO.bind ?_ (fun _ => ?_))
set_option maxHeartbeats 8000000 in
theorem num_nat_less.calls (k : Nat) (A0 : Option Addr) (c0 : Nat) (l0 : List Int) (A1 : Option Addr) (c1 : Nat) (l1 : List Int) (r : List Int) (w : World) (hr0 : Kd.C (Kd.int .u32) w A0 l0.length l0) (hc0 : l0.length ≤ c0) (hr1 : Kd.C (Kd.int .u32) w A1 l1.length l1) (hc1 : l1.length ≤ c1) (h : num_nat_less.f k l0 l1 = some r) :
  Calls Tryd.prog 87 #[.slice A0 l0.length c0, .slice A1 l1.length c1] w fun e w' => ∃ v0_ : Value, e = .returned (v0_) ∧ Kd.V (Kd.int .u32) 102 w' w.heap.size (fun k_ => (w.heap.size ≤ k_)) v0_ r ∧ Below w.heap.size w w' := by
 have HR0 := am hr0
 have HC0 := am hc0
 clear hr0 hc0
 have HR1 := am hr1
 have HC1 := am hc1
 clear hr1 hc1
 have HB := am (Below.refl w.heap.size w)
 have H : (if 0 ≤ (l0.length : Int) then (if ((l0.length : Int) : Int).toNat ≤ 70368744177664 then (num_nat_less.l0 k l1 (List.replicate ((l0.length : Int) : Int).toNat 0) 0 l0 (l0.length : Int) 0) else (none)) else (none)) = some r := h
 clear h
 by_cases c3 : 0 ≤ (l0.length : Int)
 ·
  rw [if_pos c3] at H
  have c3b0 := eq_true c3
  have c3b1 := dt c3
  clear c3
  by_cases c4 : ((l0.length : Int) : Int).toNat ≤ 70368744177664
  ·
   rw [if_pos c4] at H
   have c4b0 := eq_true c4
   have c4b1 := dt c4
   clear c4
   obtain ⟨y170, hy170⟩ : ∃ y_ : List Int, y_ = (List.replicate ((l0.length : Int) : Int).toNat 0) := ⟨_, rfl⟩
   replace H : (num_nat_less.l0 k l1 y170 0 l0 (l0.length : Int) 0) = some r := by first | (rw [hy170]; exact H) | exact H
   have Ny170 := am hy170
   clear hy170
   have H' := am H
   clear H
   go_enter Tryd.func87, Tryd.ntmps87
   go_wp2_with (first | ((with_reducible refine gate_dst (N := 12) rfl ?_); refine Kd.R_make (Kd.int .u32) _ 102 rfl (N := 12) rfl 56 _ _ rfl (l0.length : Int) rfl rfl Tryd.underlying56 (.int .u32 0) 4 info102 rfl (by decide) (by omega) 0 (ok := fun _ => True) (okp := fun _ => True) rfl (fun _ hk => hk) trivial (od) (Nat.le_trans (Nat.mul_le_mul_right _ (od : (l0.length : Int).toNat ≤ 70368744177664)) (by omega)) (Below.refl _ _) (Nat.le_refl _) ?_; intro v171 w5 ho6 hb hg_ hnew_; clear hg_ hnew_; (first | rw [← Ny170.out] at ho6 | (simp only [Int.reduceToNat] at ho6; rw [← Ny170.out] at ho6)); have HO172 := am (Kd.R_lower (Kd.R_newM (M := fun k_ => (w.heap.size ≤ k_)) ho6 (below_size (lk HB)) (fun k_ h_ => h_)) (below_size (lk HB))); replace HB := lb HB hb; clear hb ho6))
   go_loopg [6, 15] k (fun kq v6 v15 w' => ∃ (x5_1 : List Int) (x6_1 : Int) (x15_1 : Int), v6 = .int .u64 x6_1 ∧ v15 = .int .i64 x15_1 ∧ Aside0 (num_nat_less.l0 kq l1 x5_1 x6_1 l0 (l0.length : Int) x15_1 = some r) ∧ Aside0 (kq ≤ k) ∧ Aside0 (Kd.R (Kd.int .u32) 102 w' w.heap.size (fun k_ => (w.heap.size ≤ k_)) v171 x5_1) ∧ Aside0 (Below w.heap.size w w'))
   case atStart => exact ⟨(y170), (0), (0), eqd, eqd, H', ⟨Nat.le_refl _⟩, ⟨by exact ry <| Kd.R_mono HO172.out (fun _ hk => hk.1)⟩, ⟨lk HB⟩⟩
   case round =>
    clear H'
    obtain ⟨x5_1, x6_1, x15_1, rfl, rfl, HA, HK1, HO_5, HB⟩ := hrel
    cases gk with
    | zero => exact absurd HA.out (by simp [num_nat_less.l0])
    | succ k1 =>
     have H := HA.out
     clear HA
     simp only [num_nat_less.l0] at H
     by_cases c7 : x15_1 < (l0.length : Int)
     ·
      rw [if_pos c7] at H
      have c7b0 := dt c7
      clear c7
      by_cases c8 : 0 ≤ x15_1
      ·
       rw [if_pos c8] at H
       have c8b0 := dt c8
       clear c8
       by_cases c9 : x15_1 < (l0.length : Int)
       ·
        rw [if_pos c9] at H
        have c9b0 := dt c9
        clear c9
        by_cases c10 : x15_1 < (l1.length : Int)
        ·
         rw [if_pos c10] at H
         have c10b0 := dt c10
         clear c10
         by_cases c11 : x15_1 < (x5_1.length : Int)
         ·
          rw [if_pos c11] at H
          have c11b0 := dt c11
          clear c11
          obtain ⟨y175, hy175⟩ : ∃ y_ : List Int, y_ = (x5_1.set (x15_1 : Int).toNat ((IntKind.u64.wrap ((IntKind.u64.wrap ((IntKind.u64.wrap (rd l0 x15_1)) - x6_1)) - (IntKind.u64.wrap (rd l1 x15_1)))) % 4294967296)) := ⟨_, rfl⟩
          replace H : (num_nat_less.l0 k1 l1 y175 ((IntKind.u64.wrap ((IntKind.u64.wrap ((IntKind.u64.wrap (rd l0 x15_1)) - x6_1)) - (IntKind.u64.wrap (rd l1 x15_1)))) / 9223372036854775808) l0 (l0.length : Int) (wrap64 (x15_1 + 1))) = some r := by first | (rw [hy175]; exact H) | exact H
          have Ny175 := am hy175
          clear hy175
          have H' := am H
          clear H
          have p173 : 0 ≤ (x15_1 : Int) := od
          have q173 : x15_1 < (l0.length : Int) := od
          obtain ⟨ad173, e173, hx173_0⟩ := Kd.at_int HR0.out x15_1 p173 q173
          cases e173
          replace hx173_0 := (HB.out.cell (World.block_lt_of_cell? w _ hx173_0)).trans hx173_0
          replace p173 := eq_true p173
          replace q173 := eq_true q173
          have p174 : 0 ≤ (x15_1 : Int) := od
          have q174 : x15_1 < (l1.length : Int) := od
          obtain ⟨ad174, e174, hx174_0⟩ := Kd.at_int HR1.out x15_1 p174 q174
          cases e174
          replace hx174_0 := (HB.out.cell (World.block_lt_of_cell? w _ hx174_0)).trans hx174_0
          replace p174 := eq_true p174
          replace q174 := eq_true q174
          have p12 : 0 ≤ (x15_1 : Int) := od
          have q12 : (x15_1 : Int) < ((x5_1.length : Int) : Int) := od
          obtain ⟨go12, co12, eo12, gb12, gl12, cl12, HG12⟩ := Kd.R_form HO_5.out (by omega)
          (first | cases eo12 | (injection eo12 with ea_ en_ ec_; (first | subst ea_ | (injection ea_ with ea_; subst ea_)); subst ec_; clear en_))
          have GB12 := am gb12
          have GG12 := am HG12
          clear gb12 gl12 HG12
          obtain ⟨hx12_0, hf12_0⟩ := Kd.R_celln 0 HO_5.out (x15_1 : Int) p12 q12
          replace p12 := eq_true p12
          replace q12 := eq_true q12
          have HP13 := Kd.R_putg HO_5.out (x15_1 : Int) ((IntKind.u64.wrap ((IntKind.u64.wrap ((IntKind.u64.wrap (rd l0 x15_1)) - x6_1)) - (IntKind.u64.wrap (rd l1 x15_1)))) % 4294967296)
          go_wp2_with (first | ((with_reducible refine gate_store (t := 102) (p := 39) rfl ?_); refine store_event (t := 102) (p := 39) (v := ?vo_w14) (w1 := (wr.setCell ⟨go12, (x15_1 : Int).toNat, none⟩ (.int .u32 ((IntKind.u64.wrap ((IntKind.u64.wrap ((IntKind.u64.wrap (rd l0 x15_1)) - x6_1)) - (IntKind.u64.wrap (rd l1 x15_1)))) % 4294967296)))) ?hg ?ho ?hn ?hr ?_; (case ho => rfl); (case hg => rfl); (case hn => rfl); (case hr => first | (go_simp; done) | (go_simp; rfl)); intro w14 hw; have hg : wr.grownBy w14 (some go12) := (by rw [hw]; exact HP13.2); have hp_ : Kd.R (Kd.int .u32) 102 w14 w.heap.size (fun k_ => (w.heap.size ≤ k_)) (.slice (some ⟨go12, 0, none⟩) x5_1.length co12) y175 := (by rw [hw, Ny175.out]; exact HP13.1); clear HP13; replace HO_5 := am (hp_); replace HB := am ((by rw [hw]; exact below_set (HB.out) GB12.out : Below w.heap.size w w14)); clear hg hw hp_))
          go_roundg k1
          case measure => have := HK1.out; omega
          case rel => exact ⟨(y175), ((IntKind.u64.wrap ((IntKind.u64.wrap ((IntKind.u64.wrap (rd l0 x15_1)) - x6_1)) - (IntKind.u64.wrap (rd l1 x15_1)))) / 9223372036854775808), (wrap64 (x15_1 + 1)), eqd, eqd, H', ⟨by have := HK1.out; omega⟩, ⟨rk HO_5⟩, ⟨lk HB⟩⟩
         rw [if_neg c11] at H
         exact absurd H (by simp)
        rw [if_neg c10] at H
        have c10b0 := decide_eq_false c10
        clear c10
        by_cases c15 : x15_1 < (x5_1.length : Int)
        ·
         rw [if_pos c15] at H
         have c15b0 := dt c15
         clear c15
         obtain ⟨y176, hy176⟩ : ∃ y_ : List Int, y_ = (x5_1.set (x15_1 : Int).toNat ((IntKind.u64.wrap ((IntKind.u64.wrap (rd l0 x15_1)) - x6_1)) % 4294967296)) := ⟨_, rfl⟩
         replace H : (num_nat_less.l0 k1 l1 y176 ((IntKind.u64.wrap ((IntKind.u64.wrap (rd l0 x15_1)) - x6_1)) / 9223372036854775808) l0 (l0.length : Int) (wrap64 (x15_1 + 1))) = some r := by first | (rw [hy176]; exact H) | exact H
         have Ny176 := am hy176
         clear hy176
         have H' := am H
         clear H
         have p173 : 0 ≤ (x15_1 : Int) := od
         have q173 : x15_1 < (l0.length : Int) := od
         obtain ⟨ad173, e173, hx173_0⟩ := Kd.at_int HR0.out x15_1 p173 q173
         cases e173
         replace hx173_0 := (HB.out.cell (World.block_lt_of_cell? w _ hx173_0)).trans hx173_0
         replace p173 := eq_true p173
         replace q173 := eq_true q173
         have p16 : 0 ≤ (x15_1 : Int) := od
         have q16 : (x15_1 : Int) < ((x5_1.length : Int) : Int) := od
         obtain ⟨go16, co16, eo16, gb16, gl16, cl16, HG16⟩ := Kd.R_form HO_5.out (by omega)
         (first | cases eo16 | (injection eo16 with ea_ en_ ec_; (first | subst ea_ | (injection ea_ with ea_; subst ea_)); subst ec_; clear en_))
         have GB16 := am gb16
         have GG16 := am HG16
         clear gb16 gl16 HG16
         obtain ⟨hx16_0, hf16_0⟩ := Kd.R_celln 0 HO_5.out (x15_1 : Int) p16 q16
         replace p16 := eq_true p16
         replace q16 := eq_true q16
         have HP17 := Kd.R_putg HO_5.out (x15_1 : Int) ((IntKind.u64.wrap ((IntKind.u64.wrap (rd l0 x15_1)) - x6_1)) % 4294967296)
         go_wp2_with (first | ((with_reducible refine gate_store (t := 102) (p := 39) rfl ?_); refine store_event (t := 102) (p := 39) (v := ?vo_w18) (w1 := (wr.setCell ⟨go16, (x15_1 : Int).toNat, none⟩ (.int .u32 ((IntKind.u64.wrap ((IntKind.u64.wrap (rd l0 x15_1)) - x6_1)) % 4294967296)))) ?hg ?ho ?hn ?hr ?_; (case ho => rfl); (case hg => rfl); (case hn => rfl); (case hr => first | (go_simp; done) | (go_simp; rfl)); intro w18 hw; have hg : wr.grownBy w18 (some go16) := (by rw [hw]; exact HP17.2); have hp_ : Kd.R (Kd.int .u32) 102 w18 w.heap.size (fun k_ => (w.heap.size ≤ k_)) (.slice (some ⟨go16, 0, none⟩) x5_1.length co16) y176 := (by rw [hw, Ny176.out]; exact HP17.1); clear HP17; replace HO_5 := am (hp_); replace HB := am ((by rw [hw]; exact below_set (HB.out) GB16.out : Below w.heap.size w w18)); clear hg hw hp_))
         go_roundg k1
         case measure => have := HK1.out; omega
         case rel => exact ⟨(y176), ((IntKind.u64.wrap ((IntKind.u64.wrap (rd l0 x15_1)) - x6_1)) / 9223372036854775808), (wrap64 (x15_1 + 1)), eqd, eqd, H', ⟨by have := HK1.out; omega⟩, ⟨rk HO_5⟩, ⟨lk HB⟩⟩
        rw [if_neg c15] at H
        exact absurd H (by simp)
       rw [if_neg c9] at H
       exact absurd H (by simp)
      rw [if_neg c8] at H
      exact absurd H (by simp)
     rw [if_neg c7] at H
     have c7b0 := decide_eq_false c7
     clear c7
     replace H := bm H
     obtain ⟨t177, A190, H⟩ := H
     replace H : (some t177) = some r := H
     have A19 := am A190
     clear A190
     obtain rfl := Option.some.inj H
     obtain ⟨Ao20, co20, eo20⟩ := Kd.R_slice HO_5.out
     subst eo20
     go_wp2_with (first | (refine gL (some 44) Tryd.func82 #[.slice Ao20 x5_1.length co20] ?_; (with_reducible refine (num_nat_trim.calls k1 (fun k_ => some k_ = (.slice Ao20 x5_1.length co20 : Value).ownBlock) _ _ x5_1 t177 _ ?side1 A19.out).mono ?_); (case side1 => exact Kd.R_V (Kd.R_tight rfl (HO_5.out))); rintro e w21 ⟨v178, rfl, ho0, hb⟩; refine ⟨_, rfl, ?_⟩; have HO179 := am (Kd.V_lower (Kd.V_mono (ok' := fun k_ => (w.heap.size ≤ k_)) ho0 (fun k_ hk_ => Or.elim hk_ (fun hs_ => ((HO_5.out).1 k_ hs_.symm)) (fun hn_ => (Nat.le_trans (below_size (lk HB)) hn_)))) (below_size (lk HB))); replace HO_5 := am (Kd.R_below (rk HO_5) hb); replace HB := lb HB hb))
     go_ret
     exact ⟨_, by first | rfl | (simp [errW_none, errW_some] <;> rfl) | (simp [*, errW_none, errW_some] <;> rfl), vk HO179, lk HB⟩
  rw [if_neg c4] at H
  exact absurd H (by simp)
 rw [if_neg c3] at H
 exact absurd H (by simp)
def num_nat_against.l0 : Nat → List Int → List Int → Int → Option (Int)
 | 0, _, _, _ => none
 | k + 1, x0, x1, x5 => if x5 ≥ 0 then (if 0 ≤ x5 then (if x5 < (x0.length : Int) then (if x5 < (x1.length : Int) then (if (rd x0 x5) < (rd x1 x5) then (some (-1)) else (if (rd x0 x5) > (rd x1 x5) then (some 1) else (num_nat_against.l0 k x0 x1 (wrap64 (x5 - 1))))) else (none)) else (none)) else (none)) else (some 0)
def num_nat_against.f (k : Nat) (l0 : List Int) (l1 : List Int) : Option (Int) := if (l0.length : Int) < (l1.length : Int) then (some (-1)) else (if (l0.length : Int) > (l1.length : Int) then (some 1) else (num_nat_against.l0 k l0 l1 (wrap64 ((l0.length : Int) - 1))))
theorem num_nat_against.mono_l : ∀ k, (∀ y0 y1 y2, LeO (num_nat_against.l0 k y0 y1 y2) (num_nat_against.l0 (k + 1) y0 y1 y2))
 | 0 => fun _ _ _ r h => by simp [num_nat_against.l0] at h
 | k + 1 => by
  have ih0 := num_nat_against.mono_l k
  ·
   intro y0 y1 y2
   unfold num_nat_against.l0
   repeat' (with_reducible first | apply ih0 | apply LeO.refl | apply LeO.none | apply LeO.ite | refine LeO.bind ?_ (fun _ => ?_))
theorem num_nat_against.mono : ∀ a0 a1 k, LeO (num_nat_against.f k a0 a1) (num_nat_against.f (k + 1) a0 a1) := by
 intro a0 a1 k
 have ih0 := num_nat_against.mono_l k
 unfold num_nat_against.f
 repeat' (with_reducible first | apply ih0 | apply LeO.refl | apply LeO.none | apply LeO.ite | refine LeO.bind ?_ (fun _ => ?_))
set_option maxHeartbeats 8000000 in
theorem num_nat_against.calls (k : Nat) (A0 : Option Addr) (c0 : Nat) (l0 : List Int) (A1 : Option Addr) (c1 : Nat) (l1 : List Int) (r : Int) (w : World) (hr0 : Kd.C (Kd.int .u32) w A0 l0.length l0) (hc0 : l0.length ≤ c0) (hr1 : Kd.C (Kd.int .u32) w A1 l1.length l1) (hc1 : l1.length ≤ c1) (h : num_nat_against.f k l0 l1 = some r) :
  Calls Tryd.prog 49 #[.slice A0 l0.length c0, .slice A1 l1.length c1] w fun e w' => e = .returned (.int .i64 r) ∧ Drawn0 w w' := by
 have HR0 := am hr0
 have HC0 := am hc0
 clear hr0 hc0
 have HR1 := am hr1
 have HC1 := am hc1
 clear hr1 hc1
 have H : (if (l0.length : Int) < (l1.length : Int) then (some (-1)) else (if (l0.length : Int) > (l1.length : Int) then (some 1) else (num_nat_against.l0 k l0 l1 (wrap64 ((l0.length : Int) - 1))))) = some r := h
 clear h
 by_cases c3 : (l0.length : Int) < (l1.length : Int)
 ·
  rw [if_pos c3] at H
  have c3b0 := dt c3
  have c3b1 : decide (l0.length < l1.length) = true := dt (Int.ofNat_lt.mp c3)
  clear c3
  obtain rfl := Option.some.inj H
  go_enter Tryd.func49, Tryd.ntmps49
  go_wp2
  repeat (go_quiet (fail); try go_wp2)
  go_ret
  exact ⟨by first | rfl | (simp; done) | (simp [*]; done), by repeat (first | exact Drawn0.refl _ | apply Drawn0.step)⟩
 rw [if_neg c3] at H
 have c3b0 := decide_eq_false c3
 have c3b1 : decide (l0.length < l1.length) = false := decide_eq_false (fun h => c3 (Int.ofNat_lt.mpr h))
 clear c3
 by_cases c4 : (l0.length : Int) > (l1.length : Int)
 ·
  rw [if_pos c4] at H
  have c4b0 : decide ((l1.length : Int) < (l0.length : Int)) = true := dt c4
  have c4b1 : decide (l1.length < l0.length) = true := dt (Int.ofNat_lt.mp c4)
  clear c4
  obtain rfl := Option.some.inj H
  go_enter Tryd.func49, Tryd.ntmps49
  go_wp2
  repeat (go_quiet (fail); try go_wp2)
  go_ret
  exact ⟨by first | rfl | (simp; done) | (simp [*]; done), by repeat (first | exact Drawn0.refl _ | apply Drawn0.step)⟩
 rw [if_neg c4] at H
 have c4b0 : decide ((l1.length : Int) < (l0.length : Int)) = false := decide_eq_false c4
 have c4b1 : decide (l1.length < l0.length) = false := decide_eq_false (fun h => c4 (Int.ofNat_lt.mpr h))
 clear c4
 have H' := am H
 clear H
 go_enter Tryd.func49, Tryd.ntmps49
 go_wp2
 repeat (go_quiet (fail); try go_wp2)
 go_loopg [5] k (fun kq v5 w' => ∃ (x5_1 : Int), v5 = .int .i64 x5_1 ∧ Aside0 (num_nat_against.l0 kq l0 l1 x5_1 = some r) ∧ Aside0 (kq ≤ k) ∧ Drawn0 w w')
 case atStart => exact ⟨(wrap64 ((l0.length : Int) - 1)), eqd, H', ⟨Nat.le_refl _⟩, by repeat (first | exact Drawn0.refl _ | apply Drawn0.step)⟩
 case round =>
  clear H'
  obtain ⟨x5_1, rfl, HA, HK1, ⟨m1, rfl⟩⟩ := hrel
  cases gk with
  | zero => exact absurd HA.out (by simp [num_nat_against.l0])
  | succ k1 =>
   have H := HA.out
   clear HA
   simp only [num_nat_against.l0] at H
   by_cases c5 : x5_1 ≥ 0
   ·
    rw [if_pos c5] at H
    have c5b0 : decide (0 ≤ x5_1) = true := dt c5
    clear c5
    by_cases c6 : 0 ≤ x5_1
    ·
     rw [if_pos c6] at H
     have c6b0 := dt c6
     clear c6
     by_cases c7 : x5_1 < (l0.length : Int)
     ·
      rw [if_pos c7] at H
      have c7b0 := dt c7
      clear c7
      by_cases c8 : x5_1 < (l1.length : Int)
      ·
       rw [if_pos c8] at H
       have c8b0 := dt c8
       clear c8
       by_cases c9 : (rd l0 x5_1) < (rd l1 x5_1)
       ·
        rw [if_pos c9] at H
        have c9b0 := dt c9
        clear c9
        obtain rfl := Option.some.inj H
        have p166 : 0 ≤ (x5_1 : Int) := od
        have q166 : x5_1 < (l0.length : Int) := od
        obtain ⟨ad166, e166, hx166_0⟩ := Kd.at_int HR0.out x5_1 p166 q166
        cases e166
        replace p166 := eq_true p166
        replace q166 := eq_true q166
        have p167 : 0 ≤ (x5_1 : Int) := od
        have q167 : x5_1 < (l1.length : Int) := od
        obtain ⟨ad167, e167, hx167_0⟩ := Kd.at_int HR1.out x5_1 p167 q167
        cases e167
        replace p167 := eq_true p167
        replace q167 := eq_true q167
        go_wp2
        repeat (go_quiet (fail); try go_wp2)
        go_ret
        exact ⟨by first | rfl | (simp; done) | (simp [*]; done), by repeat (first | exact Drawn0.refl _ | apply Drawn0.step)⟩
       rw [if_neg c9] at H
       have c9b0 := decide_eq_false c9
       clear c9
       by_cases c10 : (rd l0 x5_1) > (rd l1 x5_1)
       ·
        rw [if_pos c10] at H
        have c10b0 : decide ((rd l1 x5_1) < (rd l0 x5_1)) = true := dt c10
        clear c10
        obtain rfl := Option.some.inj H
        have p166 : 0 ≤ (x5_1 : Int) := od
        have q166 : x5_1 < (l0.length : Int) := od
        obtain ⟨ad166, e166, hx166_0⟩ := Kd.at_int HR0.out x5_1 p166 q166
        cases e166
        replace p166 := eq_true p166
        replace q166 := eq_true q166
        have p167 : 0 ≤ (x5_1 : Int) := od
        have q167 : x5_1 < (l1.length : Int) := od
        obtain ⟨ad167, e167, hx167_0⟩ := Kd.at_int HR1.out x5_1 p167 q167
        cases e167
        replace p167 := eq_true p167
        replace q167 := eq_true q167
        have p168 : 0 ≤ (x5_1 : Int) := od
        have q168 : x5_1 < (l0.length : Int) := od
        obtain ⟨ad168, e168, hx168_0⟩ := Kd.at_int HR0.out x5_1 p168 q168
        obtain rfl : ad166 = ad168 := (by injection e168)
        replace p168 := eq_true p168
        replace q168 := eq_true q168
        have p169 : 0 ≤ (x5_1 : Int) := od
        have q169 : x5_1 < (l1.length : Int) := od
        obtain ⟨ad169, e169, hx169_0⟩ := Kd.at_int HR1.out x5_1 p169 q169
        obtain rfl : ad167 = ad169 := (by injection e169)
        replace p169 := eq_true p169
        replace q169 := eq_true q169
        go_wp2
        repeat (go_quiet (fail); try go_wp2)
        go_ret
        exact ⟨by first | rfl | (simp; done) | (simp [*]; done), by repeat (first | exact Drawn0.refl _ | apply Drawn0.step)⟩
       rw [if_neg c10] at H
       have c10b0 : decide ((rd l1 x5_1) < (rd l0 x5_1)) = false := decide_eq_false c10
       clear c10
       have H' := am H
       clear H
       have p166 : 0 ≤ (x5_1 : Int) := od
       have q166 : x5_1 < (l0.length : Int) := od
       obtain ⟨ad166, e166, hx166_0⟩ := Kd.at_int HR0.out x5_1 p166 q166
       cases e166
       replace p166 := eq_true p166
       replace q166 := eq_true q166
       have p167 : 0 ≤ (x5_1 : Int) := od
       have q167 : x5_1 < (l1.length : Int) := od
       obtain ⟨ad167, e167, hx167_0⟩ := Kd.at_int HR1.out x5_1 p167 q167
       cases e167
       replace p167 := eq_true p167
       replace q167 := eq_true q167
       have p168 : 0 ≤ (x5_1 : Int) := od
       have q168 : x5_1 < (l0.length : Int) := od
       obtain ⟨ad168, e168, hx168_0⟩ := Kd.at_int HR0.out x5_1 p168 q168
       obtain rfl : ad166 = ad168 := (by injection e168)
       replace p168 := eq_true p168
       replace q168 := eq_true q168
       have p169 : 0 ≤ (x5_1 : Int) := od
       have q169 : x5_1 < (l1.length : Int) := od
       obtain ⟨ad169, e169, hx169_0⟩ := Kd.at_int HR1.out x5_1 p169 q169
       obtain rfl : ad167 = ad169 := (by injection e169)
       replace p169 := eq_true p169
       replace q169 := eq_true q169
       go_wp2
       repeat (go_quiet (fail); try go_wp2)
       go_roundg k1
       case measure => have := HK1.out; omega
       case rel => exact ⟨(wrap64 (x5_1 - 1)), eqd, H', ⟨by have := HK1.out; omega⟩, by repeat (first | exact Drawn0.refl _ | apply Drawn0.step)⟩
      rw [if_neg c8] at H
      exact absurd H (by simp)
     rw [if_neg c7] at H
     exact absurd H (by simp)
    rw [if_neg c6] at H
    exact absurd H (by simp)
   rw [if_neg c5] at H
   have c5b0 : decide (0 ≤ x5_1) = false := decide_eq_false c5
   clear c5
   obtain rfl := Option.some.inj H
   go_wp2
   repeat (go_quiet (fail); try go_wp2)
   go_ret
   exact ⟨by first | rfl | (simp; done) | (simp [*]; done), by repeat (first | exact Drawn0.refl _ | apply Drawn0.step)⟩
def r_parts.f (a0 : Int) : Option (Int × Int) := if (wrap64 (Go.bits .and .u64 (a0 / 4503599627370496) 2047)) = 0 then (some (wrap64 (Go.bits .and .u64 a0 4503599627370495), (-1074))) else (some (wrap64 ((wrap64 (Go.bits .and .u64 a0 4503599627370495)) + 4503599627370496), wrap64 ((wrap64 (Go.bits .and .u64 (a0 / 4503599627370496) 2047)) - 1075)))
set_option maxHeartbeats 8000000 in
theorem r_parts.calls (a0 : Int) (r1 : Int) (r2 : Int) (w : World) (h : r_parts.f a0 = some (r1, r2)) :
  Calls Tryd.prog 88 #[.int .u64 a0] w fun e w' => e = .returned (.tuple #[.int .i64 r1, .int .i64 r2]) ∧ Drawn0 w w' := by
 have H : (if (wrap64 (Go.bits .and .u64 (a0 / 4503599627370496) 2047)) = 0 then (some (wrap64 (Go.bits .and .u64 a0 4503599627370495), (-1074))) else (some (wrap64 ((wrap64 (Go.bits .and .u64 a0 4503599627370495)) + 4503599627370496), wrap64 ((wrap64 (Go.bits .and .u64 (a0 / 4503599627370496) 2047)) - 1075)))) = some (r1, r2) := h
 clear h
 by_cases c2 : (wrap64 (Go.bits .and .u64 (a0 / 4503599627370496) 2047)) = 0
 ·
  rw [if_pos c2] at H
  have c2b0 : ((wrap64 (Go.bits .and .u64 (a0 / 4503599627370496) 2047)) == 0) = true := beq_iff_eq.mpr c2
  have c2b1 : ((wrap64 (Go.bits .and .u64 (a0 / 4503599627370496) 2047)) != 0) = false := bne_eq_false_iff_eq.mpr c2
  clear c2
  simp only [Option.some.injEq, Prod.mk.injEq] at H
  obtain ⟨rfl, rfl⟩ := H
  go_enter Tryd.func88, Tryd.ntmps88
  go_wp2
  go_ret2
  exact ⟨by first | rfl | (simp; done) | (simp [*]; done), by repeat (first | exact Drawn0.refl _ | apply Drawn0.step)⟩
 rw [if_neg c2] at H
 have c2b0 : ((wrap64 (Go.bits .and .u64 (a0 / 4503599627370496) 2047)) == 0) = false := beq_eq_false_iff_ne.mpr c2
 have c2b1 : ((wrap64 (Go.bits .and .u64 (a0 / 4503599627370496) 2047)) != 0) = true := bne_iff_ne.mpr c2
 simp only [Option.some.injEq, Prod.mk.injEq] at H
 obtain ⟨rfl, rfl⟩ := H
 go_enter Tryd.func88, Tryd.ntmps88
 go_wp2
 go_ret2
 exact ⟨by first | rfl | (simp; done) | (simp [*]; done), by repeat (first | exact Drawn0.refl _ | apply Drawn0.step)⟩
mutual
def r_times.l0 : Nat → List Int → Int → List Int → Int → Int → Option (List Int)
 | 0, _, _, _, _, _ => none
 | k + 1, x0, x1, x7, x8, x9 => if x9 < (x0.length : Int) then (if 0 ≤ x9 then (if x7.length < 17592186044416 then (r_times.l0 k x0 x1 (x7 ++ [Int.tmod (wrap64 ((wrap64 ((rd x0 x9) * x1)) + x8)) 10000]) (wrap64 (Int.tdiv (wrap64 ((wrap64 ((rd x0 x9) * x1)) + x8)) 10000)) (wrap64 (x9 + 1))) else (none)) else (none)) else (r_times.l1 k x7 x8)
def r_times.l1 : Nat → List Int → Int → Option (List Int)
 | 0, _, _ => none
 | k + 1, x7, x8 => if x8 > 0 then (if x7.length < 17592186044416 then (r_times.l1 k (x7 ++ [Int.tmod x8 10000]) (wrap64 (Int.tdiv x8 10000))) else (none)) else (some x7)
end
def r_times.f (k : Nat) (l0 : List Int) (a1 : Int) (a2 : Int) : Option (List Int) := r_times.l0 k l0 a1 ([] : List Int) a2 0
theorem r_times.mono_l : ∀ k, (∀ y0 y1 y2 y3 y4, LeO (r_times.l0 k y0 y1 y2 y3 y4) (r_times.l0 (k + 1) y0 y1 y2 y3 y4)) ∧ (∀ y0 y1, LeO (r_times.l1 k y0 y1) (r_times.l1 (k + 1) y0 y1))
 | 0 => ⟨fun _ _ _ _ _ r h => by simp [r_times.l0] at h, fun _ _ r h => by simp [r_times.l1] at h⟩
 | k + 1 => by
  obtain ⟨ih0, ih1⟩ := r_times.mono_l k
  refine ⟨?_, ?_⟩ <;> intros <;> (first | unfold r_times.l0 | unfold r_times.l1) <;> repeat' (with_reducible first | apply ih0 | apply ih1 | apply LeO.refl | apply LeO.none | apply LeO.ite | refine LeO.bind ?_ (fun _ => ?_))
theorem r_times.mono : ∀ a0 a1 a2 k, LeO (r_times.f k a0 a1 a2) (r_times.f (k + 1) a0 a1 a2) := by
 intro a0 a1 a2 k
 obtain ⟨ih0, ih1⟩ := r_times.mono_l k
 unfold r_times.f
 repeat' (with_reducible first | apply ih0 | apply ih1 | apply LeO.refl | apply LeO.none | apply LeO.ite | refine LeO.bind ?_ (fun _ => ?_))
set_option maxHeartbeats 8000000 in
theorem r_times.calls (k : Nat) (A0 : Option Addr) (c0 : Nat) (l0 : List Int) (a1 : Int) (a2 : Int) (r : List Int) (w : World) (hr0 : Kd.C (Kd.int .i64) w A0 l0.length l0) (hc0 : l0.length ≤ c0) (h : r_times.f k l0 a1 a2 = some r) :
  Calls Tryd.prog 56 #[.slice A0 l0.length c0, .int .i64 a1, .int .i64 a2] w fun e w' => ∃ v0_ : Value, e = .returned (v0_) ∧ Kd.R (Kd.int .i64) 3 w' w.heap.size (fun _ => True) v0_ r ∧ Below w.heap.size w w' := by
 have HR0 := am hr0
 have HC0 := am hc0
 clear hr0 hc0
 have HB := am (Below.refl w.heap.size w)
 have H : (r_times.l0 k l0 a1 ([] : List Int) a2 0) = some r := h
 clear h
 have H' := am H
 clear H
 go_enter Tryd.func56, Tryd.ntmps56
 go_wp2
 go_loopg [7, 8, 9] k (fun kq v7 v8 v9 w' => ∃ (x7_1 : List Int) (x8_1 : Int) (x9_1 : Int), v8 = .int .i64 x8_1 ∧ v9 = .int .i64 x9_1 ∧ Aside0 (r_times.l0 kq l0 a1 x7_1 x8_1 x9_1 = some r) ∧ Aside0 (kq ≤ k) ∧ Aside0 (Kd.R (Kd.int .i64) 3 w' w.heap.size (fun _ => True) v7 x7_1) ∧ Aside0 (Below w.heap.size w w'))
 case atStart => exact ⟨(([] : List Int)), (a2), (0), eqd, eqd, H', ⟨Nat.le_refl _⟩, ⟨by first | exact Kd.R_nil _ _ _ _ _ | exact Kd.N_nil _ _ _ _ _ | exact Kd.V_nil _ _ _ _ _ | exact Kd.Q_nil _ _ _ _ _ | exact Kd.S_nil _ _ _ _ _⟩, ⟨lk HB⟩⟩
 case round =>
  clear H'
  obtain ⟨x7_1, x8_1, x9_1, rfl, rfl, HA, HK1, HO_7, HB⟩ := hrel
  cases gk with
  | zero => exact absurd HA.out (by simp [r_times.l0])
  | succ k1 =>
   have H := HA.out
   clear HA
   simp only [r_times.l0] at H
   by_cases c4 : x9_1 < (l0.length : Int)
   ·
    rw [if_pos c4] at H
    have c4b0 := dt c4
    clear c4
    by_cases c5 : 0 ≤ x9_1
    ·
     rw [if_pos c5] at H
     have c5b0 := dt c5
     clear c5
     by_cases c6 : x7_1.length < 17592186044416
     ·
      rw [if_pos c6] at H
      have LMc6 := am c6
      clear c6
      obtain ⟨y292, hy292⟩ : ∃ y_ : List Int, y_ = (x7_1 ++ [Int.tmod (wrap64 ((wrap64 ((rd l0 x9_1) * a1)) + x8_1)) 10000]) := ⟨_, rfl⟩
      replace H : (r_times.l0 k1 l0 a1 y292 (wrap64 (Int.tdiv (wrap64 ((wrap64 ((rd l0 x9_1) * a1)) + x8_1)) 10000)) (wrap64 (x9_1 + 1))) = some r := by first | (rw [hy292]; exact H) | exact H
      have Ny292 := am hy292
      clear hy292
      have H' := am H
      clear H
      have p291 : 0 ≤ (x9_1 : Int) := od
      have q291 : x9_1 < (l0.length : Int) := od
      obtain ⟨ad291, e291, hx291_0⟩ := Kd.at_int HR0.out x9_1 p291 q291
      cases e291
      replace hx291_0 := (HB.out.cell (World.block_lt_of_cell? w _ hx291_0)).trans hx291_0
      replace p291 := eq_true p291
      replace q291 := eq_true q291
      go_wp2_with (first | ((with_reducible refine gate_builtin (b := .append) (xs := #[.tmp 26, .tmp 29]) rfl ?_); at_builtin; refine Kd.R_append (Kd.int .i64) (w0 := w) w.heap.size rfl (.tmp 26) (.tmp 29) 69 3 (.int .i64 0) 8 rfl Tryd.underlying69 info3 rfl (by decide) (by omega) u7 x7_1 (Int.tmod (wrap64 ((wrap64 ((rd l0 x9_1) * a1)) + x8_1)) 10000) [.int .i64 (Int.tmod (wrap64 ((wrap64 ((rd l0 x9_1) * a1)) + x8_1)) 10000)] (fun _ => True) (fun _ => False) rfl rfl ?aP (fun _ hk => hk.elim) ?aF ?aO ?aB ?aS ?aL ?_; (case aP => exact rfl); (case aB => exact (lk HB)); (case aF => exact (fun _ _ => trivial)); (case aO => exact (rk HO_7)); (case aS => exact (below_size (lk HB))); (case aL => have := LMc6.out; omega); intro v293 w7 ho hb hg hat; rw [← Ny292.out] at ho; replace HB := am (hb); have HO294 := am (ho); clear HO_7 ho hb hg hat))
      go_roundg k1
      case measure => have := HK1.out; omega
      case rel => exact ⟨(y292), (wrap64 (Int.tdiv (wrap64 ((wrap64 ((rd l0 x9_1) * a1)) + x8_1)) 10000)), (wrap64 (x9_1 + 1)), eqd, eqd, H', ⟨by have := HK1.out; omega⟩, ⟨rk HO294⟩, ⟨lk HB⟩⟩
     rw [if_neg c6] at H
     exact absurd H (by simp)
    rw [if_neg c5] at H
    exact absurd H (by simp)
   rw [if_neg c4] at H
   have c4b0 := decide_eq_false c4
   clear c4
   have H' := am H
   clear H
   go_wp2
   go_loopg [7, 8] k1 (fun kq v7 v8 w' => ∃ (x7_2 : List Int) (x8_2 : Int), v8 = .int .i64 x8_2 ∧ Aside0 (r_times.l1 kq x7_2 x8_2 = some r) ∧ Aside0 (kq ≤ k1) ∧ Aside0 (Kd.R (Kd.int .i64) 3 w' w.heap.size (fun _ => True) v7 x7_2) ∧ Aside0 (Below w.heap.size w w'))
   case atStart => exact ⟨(x7_1), (x8_1), eqd, H', ⟨Nat.le_refl _⟩, ⟨rk HO_7⟩, ⟨lk HB⟩⟩
   case round =>
    clear H'
    obtain ⟨x7_2, x8_2, rfl, HA, HK2, HO_7, HB⟩ := hrel
    cases gk with
    | zero => exact absurd HA.out (by simp [r_times.l1])
    | succ k2 =>
     have H := HA.out
     clear HA
     simp only [r_times.l1] at H
     by_cases c8 : x8_2 > 0
     ·
      rw [if_pos c8] at H
      have c8b0 : decide (0 < x8_2) = true := dt c8
      clear c8
      by_cases c9 : x7_2.length < 17592186044416
      ·
       rw [if_pos c9] at H
       have LMc9 := am c9
       clear c9
       obtain ⟨y295, hy295⟩ : ∃ y_ : List Int, y_ = (x7_2 ++ [Int.tmod x8_2 10000]) := ⟨_, rfl⟩
       replace H : (r_times.l1 k2 y295 (wrap64 (Int.tdiv x8_2 10000))) = some r := by first | (rw [hy295]; exact H) | exact H
       have Ny295 := am hy295
       clear hy295
       have H' := am H
       clear H
       go_wp2_with (first | ((with_reducible refine gate_builtin (b := .append) (xs := #[.tmp 35, .tmp 38]) rfl ?_); at_builtin; refine Kd.R_append (Kd.int .i64) (w0 := w) w.heap.size rfl (.tmp 35) (.tmp 38) 69 3 (.int .i64 0) 8 rfl Tryd.underlying69 info3 rfl (by decide) (by omega) u7 x7_2 (Int.tmod x8_2 10000) [.int .i64 (Int.tmod x8_2 10000)] (fun _ => True) (fun _ => False) rfl rfl ?aP (fun _ hk => hk.elim) ?aF ?aO ?aB ?aS ?aL ?_; (case aP => exact rfl); (case aB => exact (lk HB)); (case aF => exact (fun _ _ => trivial)); (case aO => exact (rk HO_7)); (case aS => exact (below_size (lk HB))); (case aL => have := LMc9.out; omega); intro v296 w10 ho hb hg hat; rw [← Ny295.out] at ho; replace HB := am (hb); have HO297 := am (ho); clear HO_7 ho hb hg hat))
       go_roundg k2
       case measure => have := HK1.out; have := HK2.out; omega
       case rel => exact ⟨(y295), (wrap64 (Int.tdiv x8_2 10000)), eqd, H', ⟨by have := HK1.out; have := HK2.out; omega⟩, ⟨rk HO297⟩, ⟨lk HB⟩⟩
      rw [if_neg c9] at H
      exact absurd H (by simp)
     rw [if_neg c8] at H
     have c8b0 : decide (0 < x8_2) = false := decide_eq_false c8
     clear c8
     obtain rfl := Option.some.inj H
     go_wp2
     go_ret
     exact ⟨_, by first | rfl | (simp [errW_none, errW_some] <;> rfl) | (simp [*, errW_none, errW_some] <;> rfl), rk HO_7, lk HB⟩
def r_of.f (k : Nat) (a0 : Int) : Option (List Int) := (r_times.f k ([] : List Int) 1 a0).bind fun t298 => (some t298)
theorem r_of.mono : ∀ a0 k, LeO (r_of.f k a0) (r_of.f (k + 1) a0) := by
 intro a0 k
 unfold r_of.f
 repeat' (with_reducible first | apply r_times.mono | apply LeO.refl | apply LeO.none | apply LeO.ite | refine LeO.bind ?_ (fun _ => ?_))
set_option maxHeartbeats 8000000 in
theorem r_of.calls (k : Nat) (a0 : Int) (r : List Int) (w : World) (h : r_of.f k a0 = some r) :
  Calls Tryd.prog 90 #[.int .i64 a0] w fun e w' => ∃ v0_ : Value, e = .returned (v0_) ∧ Kd.R (Kd.int .i64) 3 w' w.heap.size (fun _ => True) v0_ r ∧ Below w.heap.size w w' := by
 have HB := am (Below.refl w.heap.size w)
 have H : ((r_times.f k ([] : List Int) 1 a0).bind fun t298 => (some t298)) = some r := h
 clear h
 replace H := bm H
 obtain ⟨t298, A20, H⟩ := H
 replace H : (some t298) = some r := H
 have A2 := am A20
 clear A20
 obtain rfl := Option.some.inj H
 go_enter Tryd.func90, Tryd.ntmps90
 go_wp2_with (first | (refine gL (some 4) Tryd.func56 #[.slice none 0 0, .int .i64 1, .int .i64 a0] ?_; (refine (r_times.calls k _ _ ([] : List Int) 1 a0 t298 _ ?side1 ?side2 A2.out).mono ?_); (case side1 => exact Kd.C_nil _ _); (case side2 => exact Nat.le_refl _); rintro e w3 ⟨v299, rfl, ho0, hb⟩; refine ⟨_, rfl, ?_⟩; have HO300 := am (Kd.R_lower ho0 (below_size (lk HB))); replace HB := lb HB hb))
 go_ret
 exact ⟨_, by first | rfl | (simp [errW_none, errW_some] <;> rfl) | (simp [*, errW_none, errW_some] <;> rfl), rk HO300, lk HB⟩
mutual
def r_power.j1 : Nat → List Int → Int → Int → Option (List Int)
 | 0, _, _, _ => none
 | k + 1, x0, x1, x2 => if x1 = 10 then (if x2 ≥ 4 then (r_power.j2 k x0 x1 x2 (decide (0 < x0.length))) else (r_power.j2 k x0 x1 x2 false)) else (r_power.j2 k x0 x1 x2 false)
def r_power.j2 : Nat → List Int → Int → Int → Bool → Option (List Int)
 | 0, _, _, _, _ => none
 | k + 1, x0, x1, x2, x28 => if x28 = true then (if 0 ≤ (wrap64 (Int.tdiv x2 4)) then (if (wrap64 (Int.tdiv x2 4) : Int).toNat ≤ 35184372088832 then ((some (List.replicate (wrap64 (Int.tdiv x2 4) : Int).toNat 0 : List Int)).bind fun y304 => (if y304.length + x0.length < 17592186044416 then (r_power.j3 k (y304 ++ x0) x1 (Int.tmod x2 4)) else (none))) else (none)) else (none)) else (r_power.j3 k x0 x1 x2)
def r_power.j3 : Nat → List Int → Int → Int → Option (List Int)
 | 0, _, _, _ => none
 | k + 1, x0, x1, x2 => r_power.l1 k x0 x1 x2 0
def r_power.l1 : Nat → List Int → Int → Int → Int → Option (List Int)
 | 0, _, _, _, _ => none
 | k + 1, x0, x1, x2, x7 => if x7 < x2 then (if (x0.length : Int) > 0 then ((r_times.f k x0 x1 0).bind fun t310 => (r_power.l1 k t310 x1 x2 (wrap64 (x7 + 1)))) else (some x0)) else (some x0)
def r_power.l0 : Nat → List Int → Int → Int → Option (List Int)
 | 0, _, _, _ => none
 | k + 1, x0, x1, x2 => if x1 = 2 then (if x2 ≥ 13 then ((r_times.f k x0 8192 0).bind fun t301 => (r_power.l0 k t301 x1 (wrap64 (x2 - 13)))) else (r_power.j1 k x0 x1 x2)) else (r_power.j1 k x0 x1 x2)
end
def r_power.f (k : Nat) (l0 : List Int) (a1 : Int) (a2 : Int) : Option (List Int) := r_power.l0 k l0 a1 a2
theorem r_power.mono_l : ∀ k, (∀ y0 y1 y2, LeO (r_power.j1 k y0 y1 y2) (r_power.j1 (k + 1) y0 y1 y2)) ∧ (∀ y0 y1 y2 y3, LeO (r_power.j2 k y0 y1 y2 y3) (r_power.j2 (k + 1) y0 y1 y2 y3)) ∧ (∀ y0 y1 y2, LeO (r_power.j3 k y0 y1 y2) (r_power.j3 (k + 1) y0 y1 y2)) ∧ (∀ y0 y1 y2 y3, LeO (r_power.l1 k y0 y1 y2 y3) (r_power.l1 (k + 1) y0 y1 y2 y3)) ∧ (∀ y0 y1 y2, LeO (r_power.l0 k y0 y1 y2) (r_power.l0 (k + 1) y0 y1 y2))
 | 0 => ⟨fun _ _ _ r h => by simp [r_power.j1] at h, fun _ _ _ _ r h => by simp [r_power.j2] at h, fun _ _ _ r h => by simp [r_power.j3] at h, fun _ _ _ _ r h => by simp [r_power.l1] at h, fun _ _ _ r h => by simp [r_power.l0] at h⟩
 | k + 1 => by
  obtain ⟨ih0, ih1, ih2, ih3, ih4⟩ := r_power.mono_l k
  refine ⟨?_, ?_, ?_, ?_, ?_⟩ <;> intros <;> (first | unfold r_power.j1 | unfold r_power.j2 | unfold r_power.j3 | unfold r_power.l1 | unfold r_power.l0) <;> repeat' (with_reducible first | apply ih0 | apply ih1 | apply ih2 | apply ih3 | apply ih4 | apply r_times.mono | apply LeO.refl | apply LeO.none | apply LeO.ite | refine LeO.bind ?_ (fun _ => ?_))
theorem r_power.mono : ∀ a0 a1 a2 k, LeO (r_power.f k a0 a1 a2) (r_power.f (k + 1) a0 a1 a2) := by
 intro a0 a1 a2 k
 obtain ⟨ih0, ih1, ih2, ih3, ih4⟩ := r_power.mono_l k
 unfold r_power.f
 repeat' (with_reducible first | apply ih0 | apply ih1 | apply ih2 | apply ih3 | apply ih4 | apply r_times.mono | apply LeO.refl | apply LeO.none | apply LeO.ite | refine LeO.bind ?_ (fun _ => ?_))
set_option maxHeartbeats 8000000 in
theorem r_power.calls (k : Nat) (P0_ : Nat → Prop) (A0 : Option Addr) (c0 : Nat) (l0 : List Int) (a1 : Int) (a2 : Int) (r : List Int) (w : World) (hs0 : Kd.V (Kd.int .i64) 3 w w.heap.size (fun k_ => P0_ k_) (.slice A0 l0.length c0) l0) (h : r_power.f k l0 a1 a2 = some r) :
  Calls Tryd.prog 91 #[.slice A0 l0.length c0, .int .i64 a1, .int .i64 a2] w fun e w' => ∃ v0_ : Value, e = .returned (v0_) ∧ Kd.V (Kd.int .i64) 3 w' w.heap.size (fun k_ => (P0_ k_ ∨ w.heap.size ≤ k_)) v0_ r ∧ Below w.heap.size w w' := by
 have HO0 := am (show Kd.V (Kd.int .i64) 3 w w.heap.size (fun k_ => (P0_ k_ ∨ w.heap.size ≤ k_)) (.slice A0 l0.length c0) l0 from Kd.V_mono hs0 (fun k_ hk => .inl hk))
 have HB := am (Below.refl w.heap.size w)
 have H : (r_power.l0 k l0 a1 a2) = some r := h
 clear h
 have HC4 := am H
 clear H
 go_enter Tryd.func91, Tryd.ntmps91
 go_upto_block 0 with (fail)
 go_cut [0, 2] (fun v0 v2 wc => ∃ (kq : Nat) (x0_3 : List Int) (x2_3 : Int), v2 = .int .i64 x2_3 ∧ Aside0 (r_power.j1 kq x0_3 a1 x2_3 = some r) ∧ Aside0 (kq ≤ k) ∧ Aside0 (Kd.V (Kd.int .i64) 3 wc w.heap.size (fun k_ => (P0_ k_ ∨ w.heap.size ≤ k_)) v0 x0_3) ∧ Aside0 (Below w.heap.size w wc))
 case first =>
  have H := HC4.out
  clear HC4
  have H' := am H
  clear H
  go_wp2
  go_loopg [0, 2] k (fun kq v0 v2 w' => ∃ (x0_1 : List Int) (x2_1 : Int), v2 = .int .i64 x2_1 ∧ Aside0 (r_power.l0 kq x0_1 a1 x2_1 = some r) ∧ Aside0 (kq ≤ k) ∧ Aside0 (Kd.V (Kd.int .i64) 3 w' w.heap.size (fun k_ => (P0_ k_ ∨ w.heap.size ≤ k_)) v0 x0_1) ∧ Aside0 (Below w.heap.size w w'))
  case atStart => exact ⟨(l0), (a2), eqd, H', ⟨Nat.le_refl _⟩, ⟨vk HO0⟩, ⟨lk HB⟩⟩
  case round =>
   clear H'
   obtain ⟨x0_1, x2_1, rfl, HA, HK1, HO_0, HB⟩ := hrel
   cases gk with
   | zero => exact absurd HA.out (by simp [r_power.l0])
   | succ k1 =>
    have H := HA.out
    clear HA
    simp only [r_power.l0] at H
    by_cases c5 : a1 = 2
    ·
     rw [if_pos c5] at H
     have c5b0 : (a1 == 2) = true := beq_iff_eq.mpr c5
     have c5b1 : (a1 != 2) = false := bne_eq_false_iff_eq.mpr c5
     clear c5
     (first | rw [c5b0] | (simp only [i64_w, i32_w]; rw [c5b0]) | skip)
     by_cases c6 : x2_1 ≥ 13
     ·
      rw [if_pos c6] at H
      have c6b0 : decide (13 ≤ x2_1) = true := dt c6
      clear c6
      replace H := bm H
      obtain ⟨t301, A70, H⟩ := H
      have A7 := am A70
      clear A70
      have H' := am H
      clear H
      obtain ⟨Ao8, co8, eo8⟩ := Kd.V_slice HO_0.out
      subst eo8
      go_wp2_with (first | (refine gL (some 17) Tryd.func56 #[.slice Ao8 x0_1.length co8, .int .i64 8192, .int .i64 0] ?_; (with_reducible refine (r_times.calls k1 _ _ x0_1 8192 0 t301 _ ?side1 ?side2 A7.out).mono ?_); (case side1 => exact ck (Kd.V_reads' HO_0.out).2.2); (case side2 => exact (Kd.V_reads' HO_0.out).2.1); rintro e w9 ⟨v302, rfl, ho0, hb⟩; refine ⟨_, rfl, ?_⟩; replace HO_0 := am (Kd.V_elder' (vk HO_0) (Kd.R_base ho0) hb); have HO303 := am (Kd.R_lower (Kd.R_newM (M := fun k_ => (w.heap.size ≤ k_)) ho0 (below_size (lk HB)) (fun k_ h_ => h_)) (below_size (lk HB))); replace HB := lb HB hb))
      go_roundg k1
      case measure => have := HK1.out; omega
      case rel => exact ⟨(t301), (wrap64 (x2_1 - 13)), eqd, H', ⟨by have := HK1.out; omega⟩, ⟨Kd.V_mono (Kd.R_V (by exact ry <| Kd.R_mono HO303.out (fun _ hk => hk.1))) (fun k_ hk => by first | exact ⟨(.inr (hk.1)), hk.2⟩ | exact (.inr (hk)))⟩, ⟨lk HB⟩⟩
     rw [if_neg c6] at H
     have c6b0 : decide (13 ≤ x2_1) = false := decide_eq_false c6
     clear c6
     have H' := am H
     clear H
     go_wp2
     go_meet
     case rel => exact ⟨_, (x0_1), (x2_1), eqd, H', ⟨by have := HK1.out; first | omega | exact Nat.le_refl _⟩, ⟨vk HO_0⟩, ⟨lk HB⟩⟩
    rw [if_neg c5] at H
    have c5b0 : (a1 == 2) = false := beq_eq_false_iff_ne.mpr c5
    have c5b1 : (a1 != 2) = true := bne_iff_ne.mpr c5
    (first | rw [c5b0] | (simp only [i64_w, i32_w]; rw [c5b0]) | skip)
    have H' := am H
    clear H
    go_wp2
    go_meet
    case rel => exact ⟨_, (x0_1), (x2_1), eqd, H', ⟨by have := HK1.out; first | omega | exact Nat.le_refl _⟩, ⟨vk HO_0⟩, ⟨lk HB⟩⟩
 case rest =>
  clear HC4
  obtain ⟨kq, x0_3, x2_3, rfl, HA, HJ3, HO_0, HB⟩ := hcut
  cases kq with
  | zero => exact absurd HA.out (by simp [r_power.j1])
  | succ kj3 =>
   have H := HA.out
   clear HA
   simp only [r_power.j1] at H
   have HC10 := am H
   clear H
   go_upto_region 4 with (fail)
   go_cut [28] (fun v28 wc => ∃ (kq : Nat) (x28_9 : Bool), v28 = .bool x28_9 ∧ Aside0 (r_power.j2 kq x0_3 a1 x2_3 x28_9 = some r) ∧ Aside0 (kq ≤ kj3) ∧ Aside0 (Kd.V (Kd.int .i64) 3 wc w.heap.size (fun k_ => (P0_ k_ ∨ w.heap.size ≤ k_)) u0 x0_3) ∧ Aside0 (Below w.heap.size w wc))
   case first =>
    have H := HC10.out
    clear HC10
    by_cases c11 : a1 = 10
    ·
     rw [if_pos c11] at H
     have c11b0 : (a1 == 10) = true := beq_iff_eq.mpr c11
     have c11b1 : (a1 != 10) = false := bne_eq_false_iff_eq.mpr c11
     clear c11
     (first | rw [c11b0] | (simp only [i64_w, i32_w]; rw [c11b0]) | skip)
     by_cases c12 : x2_3 ≥ 4
     ·
      rw [if_pos c12] at H
      have c12b0 : decide (4 ≤ x2_3) = true := dt c12
      clear c12
      have H' := am H
      clear H
      obtain ⟨Ao13, co13, eo13⟩ := Kd.V_slice HO_0.out
      subst eo13
      go_wp2
      go_meet
      case rel => exact ⟨_, (decide (0 < x0_3.length)), eqd, H', ⟨by have := HJ3.out; first | omega | exact Nat.le_refl _⟩, ⟨vk HO_0⟩, ⟨lk HB⟩⟩
     rw [if_neg c12] at H
     have c12b0 : decide (4 ≤ x2_3) = false := decide_eq_false c12
     clear c12
     have H' := am H
     clear H
     go_wp2
     go_meet
     case rel => exact ⟨_, (false), eqd, H', ⟨by have := HJ3.out; first | omega | exact Nat.le_refl _⟩, ⟨vk HO_0⟩, ⟨lk HB⟩⟩
    rw [if_neg c11] at H
    have c11b0 : (a1 == 10) = false := beq_eq_false_iff_ne.mpr c11
    have c11b1 : (a1 != 10) = true := bne_iff_ne.mpr c11
    (first | rw [c11b0] | (simp only [i64_w, i32_w]; rw [c11b0]) | skip)
    have H' := am H
    clear H
    go_wp2
    go_meet
    case rel => exact ⟨_, (false), eqd, H', ⟨by have := HJ3.out; first | omega | exact Nat.le_refl _⟩, ⟨vk HO_0⟩, ⟨lk HB⟩⟩
   case rest =>
    clear HC10
    obtain ⟨kq, x28_9, rfl, HA, HJ9, HO_0, HB⟩ := hcut
    cases kq with
    | zero => exact absurd HA.out (by simp [r_power.j2])
    | succ kj9 =>
     have H := HA.out
     clear HA
     simp only [r_power.j2] at H
     have HC14 := am H
     clear H
     go_upto_if 28 with (fail)
     go_cut [0, 2] (fun v0 v2 wc => ∃ (kq : Nat) (x0_13 : List Int) (x2_13 : Int), v2 = .int .i64 x2_13 ∧ Aside0 (r_power.j3 kq x0_13 a1 x2_13 = some r) ∧ Aside0 (kq ≤ kj9) ∧ Aside0 (Kd.V (Kd.int .i64) 3 wc w.heap.size (fun k_ => (P0_ k_ ∨ w.heap.size ≤ k_)) v0 x0_13) ∧ Aside0 (Below w.heap.size w wc))
     case first =>
      have H := HC14.out
      clear HC14
      by_cases c15 : x28_9 = true
      ·
       subst c15
       rw [if_pos rfl] at H
       obtain ⟨ji16, hji16⟩ : ∃ j_ : Int, (wrap64 (Int.tdiv x2_3 4)) = j_ := ⟨_, rfl⟩
       replace H : (if 0 ≤ (ji16) then (if (ji16 : Int).toNat ≤ 35184372088832 then ((some (List.replicate (ji16 : Int).toNat 0 : List Int)).bind fun y304 => (if y304.length + x0_3.length < 17592186044416 then (r_power.j3 kj9 (y304 ++ x0_3) a1 (Int.tmod x2_3 4)) else (none))) else (none)) else (none)) = some r := by first | (rw [hji16] at H; exact H) | (simp only [hji16] at H ⊢; exact H)
       have hji16w : (IntKind.i64.wrap (Int.tdiv x2_3 4)) = ji16 := (i64_w _).trans hji16
       by_cases c17 : 0 ≤ (ji16)
       ·
        rw [if_pos c17] at H
        have c17b0 := eq_true c17
        have c17b1 := dt c17
        clear c17
        by_cases c18 : (ji16 : Int).toNat ≤ 35184372088832
        ·
         rw [if_pos c18] at H
         have c18b0 := eq_true c18
         have c18b1 := dt c18
         clear c18
         obtain ⟨y304, Ny304, H⟩ := yb H
         by_cases c19 : y304.length + x0_3.length < 17592186044416
         ·
          rw [if_pos c19] at H
          have LMc19 := am c19
          clear c19
          obtain ⟨y307, hy307⟩ : ∃ y_ : List Int, y_ = (y304 ++ x0_3) := ⟨_, rfl⟩
          replace H : (r_power.j3 kj9 y307 a1 (Int.tmod x2_3 4)) = some r := by first | (rw [hy307]; exact H) | exact H
          have Ny307 := am hy307
          clear hy307
          have H' := am H
          clear H
          go_wp2_with (first | ((with_reducible refine gate_dst (N := 31) rfl ?_); (try (refine gate_guard (by rfl) ?_; dsimp only)); refine Kd.R_make (Kd.int .i64) _ 3 rfl (N := 31) rfl 69 _ _ rfl ji16 rfl rfl Tryd.underlying69 (.int .i64 0) 8 info3 rfl (by decide) (by omega) 0 (ok := fun _ => True) (okp := fun _ => True) rfl (fun _ hk => hk) trivial (od) (Nat.le_trans (Nat.mul_le_mul_right _ (od : ji16.toNat ≤ 35184372088832)) (by omega)) (Below.refl _ _) (Nat.le_refl _) ?_; intro v305 w20 ho21 hb hg_ hnew_; clear hg_ hnew_; (first | rw [← Ny304.out] at ho21 | (simp only [Int.reduceToNat] at ho21; rw [← Ny304.out] at ho21)); replace HO_0 := am (Kd.V_elder' (vk HO_0) (Kd.R_base ho21) hb); have HO306 := am (Kd.R_lower (Kd.R_newM (M := fun k_ => (w.heap.size ≤ k_)) ho21 (below_size (lk HB)) (fun k_ h_ => h_)) (below_size (lk HB))); replace HB := lb HB hb; clear hb ho21; obtain ⟨Ao23, co23, eo23⟩ := Kd.V_slice HO_0.out; subst eo23) | ((with_reducible refine gate_builtin (b := .append) (xs := #[.tmp 31, .tmp 32]) rfl ?_); (try (refine gate_guard (by rfl) ?_; dsimp only)); at_builtin; refine Kd.R_append_rows (Kd.int .i64) (w0 := w) w.heap.size rfl (.tmp 31) (.tmp 32) 69 3 (.int .i64 0) 8 rfl Tryd.underlying69 info3 rfl (by decide) (by omega) v305 y304 x0_3 _ _ _ (fun k_ => (w.heap.size ≤ k_)) (fun _ => False) rfl rfl ?aO ?aR (fun _ _ h => h) (fun _ h => h.elim) ?aF ?aB ?aS ?aL ?_; (case aR => repeat (first | exact (Kd.V_reads' HO_0.out).2.2 | (with_reducible refine Kd.C_alloc ?_ _) | (with_reducible refine Kd.C_drewN ?_ _) | (with_reducible refine Kd.C_drew ?_))); (case aB => exact (lk HB)); (case aF => exact (fun k_ hk => (Nat.le_trans (below_size (lk HB)) hk))); (case aO => exact (by exact ry <| Kd.R_mono HO306.out (fun _ hk => hk.1))); (case aS => exact (below_size (lk HB))); (case aL => have := LMc19.out; omega); intro v308 w22 ho hb hg hat; rw [← Ny307.out] at ho; replace HO_0 := am (Kd.V_afterv (ok := (fun k_ => (P0_ k_ ∨ w.heap.size ≤ k_))) (vk HO_0) hg hat); replace HB := am (hb); have HO309 := am (ho); clear HO306 ho hb hg hat))
          go_meet
          case rel => exact ⟨_, (y307), (Int.tmod x2_3 4), eqd, H', ⟨by have := HJ3.out; have := HJ9.out; first | omega | exact Nat.le_refl _⟩, ⟨Kd.V_mono (Kd.R_V (rk HO309)) (fun k_ hk => by first | exact ⟨(.inr (hk.1)), hk.2⟩ | exact (.inr (hk)))⟩, ⟨lk HB⟩⟩
         rw [if_neg c19] at H
         exact absurd H (by simp)
        rw [if_neg c18] at H
        exact absurd H (by simp)
       rw [if_neg c17] at H
       exact absurd H (by simp)
      replace c15 := Bool.eq_false_iff.mpr c15
      subst c15
      rw [if_neg (show ¬ (false = true) by decide)] at H
      have H' := am H
      clear H
      go_wp2
      go_meet
      case rel => exact ⟨_, (x0_3), (x2_3), eqd, H', ⟨by have := HJ3.out; have := HJ9.out; first | omega | exact Nat.le_refl _⟩, ⟨vk HO_0⟩, ⟨lk HB⟩⟩
     case rest =>
      clear HC14
      obtain ⟨kq, x0_13, x2_13, rfl, HA, HJ13, HO_0, HB⟩ := hcut
      cases kq with
      | zero => exact absurd HA.out (by simp [r_power.j3])
      | succ kj13 =>
       have H := HA.out
       clear HA
       simp only [r_power.j3] at H
       have H' := am H
       clear H
       go_wp2
       go_loopg [0, 7] kj13 (fun kq v0 v7 w' => ∃ (x0_4 : List Int) (x7_4 : Int), v7 = .int .i64 x7_4 ∧ Aside0 (r_power.l1 kq x0_4 a1 x2_13 x7_4 = some r) ∧ Aside0 (kq ≤ kj13) ∧ Aside0 (Kd.V (Kd.int .i64) 3 w' w.heap.size (fun k_ => (P0_ k_ ∨ w.heap.size ≤ k_)) v0 x0_4) ∧ Aside0 (Below w.heap.size w w'))
       case atStart => exact ⟨(x0_13), (0), eqd, H', ⟨Nat.le_refl _⟩, ⟨vk HO_0⟩, ⟨lk HB⟩⟩
       case round =>
        clear H'
        obtain ⟨x0_4, x7_4, rfl, HA, HK4, HO_0, HB⟩ := hrel
        cases gk with
        | zero => exact absurd HA.out (by simp [r_power.l1])
        | succ k4 =>
         have H := HA.out
         clear HA
         simp only [r_power.l1] at H
         by_cases c24 : x7_4 < x2_13
         ·
          rw [if_pos c24] at H
          have c24b0 := dt c24
          clear c24
          by_cases c25 : (x0_4.length : Int) > 0
          ·
           rw [if_pos c25] at H
           have c25b0 : decide (0 < (x0_4.length : Int)) = true := dt c25
           have c25b1 : decide (0 < x0_4.length) = true := dt (by omega)
           clear c25
           replace H := bm H
           obtain ⟨t310, A260, H⟩ := H
           have A26 := am A260
           clear A260
           have H' := am H
           clear H
           obtain ⟨Ao27, co27, eo27⟩ := Kd.V_slice HO_0.out
           subst eo27
           go_wp2_with (first | (refine gL (some 48) Tryd.func56 #[.slice Ao27 x0_4.length co27, .int .i64 a1, .int .i64 0] ?_; (with_reducible refine (r_times.calls k4 _ _ x0_4 a1 0 t310 _ ?side1 ?side2 A26.out).mono ?_); (case side1 => exact ck (Kd.V_reads' HO_0.out).2.2); (case side2 => exact (Kd.V_reads' HO_0.out).2.1); rintro e w28 ⟨v311, rfl, ho0, hb⟩; refine ⟨_, rfl, ?_⟩; replace HO_0 := am (Kd.V_elder' (vk HO_0) (Kd.R_base ho0) hb); have HO312 := am (Kd.R_lower (Kd.R_newM (M := fun k_ => (w.heap.size ≤ k_)) ho0 (below_size (lk HB)) (fun k_ h_ => h_)) (below_size (lk HB))); replace HB := lb HB hb))
           go_roundg k4
           case measure => have := HJ3.out; have := HJ9.out; have := HJ13.out; have := HK4.out; omega
           case rel => exact ⟨(t310), (wrap64 (x7_4 + 1)), eqd, H', ⟨by have := HJ3.out; have := HJ9.out; have := HJ13.out; have := HK4.out; omega⟩, ⟨Kd.V_mono (Kd.R_V (by exact ry <| Kd.R_mono HO312.out (fun _ hk => hk.1))) (fun k_ hk => by first | exact ⟨(.inr (hk.1)), hk.2⟩ | exact (.inr (hk)))⟩, ⟨lk HB⟩⟩
          rw [if_neg c25] at H
          have c25b0 : decide (0 < (x0_4.length : Int)) = false := decide_eq_false c25
          have c25b1 : decide (0 < x0_4.length) = false := decide_eq_false (by omega)
          clear c25
          obtain rfl := Option.some.inj H
          obtain ⟨Ao29, co29, eo29⟩ := Kd.V_slice HO_0.out
          subst eo29
          go_wp2
          go_ret
          exact ⟨_, by first | rfl | (simp [errW_none, errW_some] <;> rfl) | (simp [*, errW_none, errW_some] <;> rfl), vk HO_0, lk HB⟩
         rw [if_neg c24] at H
         have c24b0 := decide_eq_false c24
         clear c24
         obtain rfl := Option.some.inj H
         go_wp2
         go_ret
         exact ⟨_, by first | rfl | (simp [errW_none, errW_some] <;> rfl) | (simp [*, errW_none, errW_some] <;> rfl), vk HO_0, lk HB⟩
def r_cmp.l0 : Nat → List Int → List Int → Int → Option (Int)
 | 0, _, _, _ => none
 | k + 1, x0, x1, x5 => if x5 ≥ 0 then (if 0 ≤ x5 then (if x5 < (x0.length : Int) then (if x5 < (x1.length : Int) then (if (rd x0 x5) = (rd x1 x5) then (r_cmp.l0 k x0 x1 (wrap64 (x5 - 1))) else (if (rd x0 x5) < (rd x1 x5) then (some (-1)) else (some 1))) else (none)) else (none)) else (none)) else (some 0)
def r_cmp.f (k : Nat) (l0 : List Int) (l1 : List Int) : Option (Int) := if (l0.length : Int) = (l1.length : Int) then (r_cmp.l0 k l0 l1 (wrap64 ((l0.length : Int) - 1))) else (if (l0.length : Int) < (l1.length : Int) then (some (-1)) else (some 1))
theorem r_cmp.mono_l : ∀ k, (∀ y0 y1 y2, LeO (r_cmp.l0 k y0 y1 y2) (r_cmp.l0 (k + 1) y0 y1 y2))
 | 0 => fun _ _ _ r h => by simp [r_cmp.l0] at h
 | k + 1 => by
  have ih0 := r_cmp.mono_l k
  ·
   intro y0 y1 y2
   unfold r_cmp.l0
   repeat' (with_reducible first | apply ih0 | apply LeO.refl | apply LeO.none | apply LeO.ite | refine LeO.bind ?_ (fun _ => ?_))
theorem r_cmp.mono : ∀ a0 a1 k, LeO (r_cmp.f k a0 a1) (r_cmp.f (k + 1) a0 a1) := by
 intro a0 a1 k
 have ih0 := r_cmp.mono_l k
 unfold r_cmp.f
 repeat' (with_reducible first | apply ih0 | apply LeO.refl | apply LeO.none | apply LeO.ite | refine LeO.bind ?_ (fun _ => ?_))
set_option maxHeartbeats 8000000 in
theorem r_cmp.calls (k : Nat) (A0 : Option Addr) (c0 : Nat) (l0 : List Int) (A1 : Option Addr) (c1 : Nat) (l1 : List Int) (r : Int) (w : World) (hr0 : Kd.C (Kd.int .i64) w A0 l0.length l0) (hc0 : l0.length ≤ c0) (hr1 : Kd.C (Kd.int .i64) w A1 l1.length l1) (hc1 : l1.length ≤ c1) (h : r_cmp.f k l0 l1 = some r) :
  Calls Tryd.prog 92 #[.slice A0 l0.length c0, .slice A1 l1.length c1] w fun e w' => e = .returned (.int .i64 r) ∧ Drawn0 w w' := by
 have HR0 := am hr0
 have HC0 := am hc0
 clear hr0 hc0
 have HR1 := am hr1
 have HC1 := am hc1
 clear hr1 hc1
 have H : (if (l0.length : Int) = (l1.length : Int) then (r_cmp.l0 k l0 l1 (wrap64 ((l0.length : Int) - 1))) else (if (l0.length : Int) < (l1.length : Int) then (some (-1)) else (some 1))) = some r := h
 clear h
 by_cases c3 : (l0.length : Int) = (l1.length : Int)
 ·
  rw [if_pos c3] at H
  have c3b0 : ((l0.length : Int) == (l1.length : Int)) = true := beq_iff_eq.mpr c3
  have c3b1 : ((l0.length : Int) != (l1.length : Int)) = false := bne_eq_false_iff_eq.mpr c3
  have c3b2 : (l0.length == l1.length) = true := by first | simpa using c3 | (simp at c3 ⊢; omega)
  clear c3
  have H' := am H
  clear H
  go_enter Tryd.func92, Tryd.ntmps92
  go_wp2
  repeat (go_quiet (fail); try go_wp2)
  go_loopg [5] k (fun kq v5 w' => ∃ (x5_1 : Int), v5 = .int .i64 x5_1 ∧ Aside0 (r_cmp.l0 kq l0 l1 x5_1 = some r) ∧ Aside0 (kq ≤ k) ∧ Drawn0 w w')
  case atStart => exact ⟨(wrap64 ((l0.length : Int) - 1)), eqd, H', ⟨Nat.le_refl _⟩, by repeat (first | exact Drawn0.refl _ | apply Drawn0.step)⟩
  case round =>
   clear H'
   obtain ⟨x5_1, rfl, HA, HK1, ⟨m1, rfl⟩⟩ := hrel
   cases gk with
   | zero => exact absurd HA.out (by simp [r_cmp.l0])
   | succ k1 =>
    have H := HA.out
    clear HA
    simp only [r_cmp.l0] at H
    by_cases c4 : x5_1 ≥ 0
    ·
     rw [if_pos c4] at H
     have c4b0 : decide (0 ≤ x5_1) = true := dt c4
     clear c4
     by_cases c5 : 0 ≤ x5_1
     ·
      rw [if_pos c5] at H
      have c5b0 := dt c5
      clear c5
      by_cases c6 : x5_1 < (l0.length : Int)
      ·
       rw [if_pos c6] at H
       have c6b0 := dt c6
       clear c6
       by_cases c7 : x5_1 < (l1.length : Int)
       ·
        rw [if_pos c7] at H
        have c7b0 := dt c7
        clear c7
        by_cases c8 : (rd l0 x5_1) = (rd l1 x5_1)
        ·
         rw [if_pos c8] at H
         have c8b0 : ((rd l0 x5_1) == (rd l1 x5_1)) = true := beq_iff_eq.mpr c8
         have c8b1 : ((rd l0 x5_1) != (rd l1 x5_1)) = false := bne_eq_false_iff_eq.mpr c8
         clear c8
         have H' := am H
         clear H
         have p313 : 0 ≤ (x5_1 : Int) := od
         have q313 : x5_1 < (l0.length : Int) := od
         obtain ⟨ad313, e313, hx313_0⟩ := Kd.at_int HR0.out x5_1 p313 q313
         cases e313
         replace p313 := eq_true p313
         replace q313 := eq_true q313
         have p314 : 0 ≤ (x5_1 : Int) := od
         have q314 : x5_1 < (l1.length : Int) := od
         obtain ⟨ad314, e314, hx314_0⟩ := Kd.at_int HR1.out x5_1 p314 q314
         cases e314
         replace p314 := eq_true p314
         replace q314 := eq_true q314
         go_wp2
         repeat (go_quiet (fail); try go_wp2)
         go_roundg k1
         case measure => have := HK1.out; omega
         case rel => exact ⟨(wrap64 (x5_1 - 1)), eqd, H', ⟨by have := HK1.out; omega⟩, by repeat (first | exact Drawn0.refl _ | apply Drawn0.step)⟩
        rw [if_neg c8] at H
        have c8b0 : ((rd l0 x5_1) == (rd l1 x5_1)) = false := beq_eq_false_iff_ne.mpr c8
        have c8b1 : ((rd l0 x5_1) != (rd l1 x5_1)) = true := bne_iff_ne.mpr c8
        by_cases c9 : (rd l0 x5_1) < (rd l1 x5_1)
        ·
         rw [if_pos c9] at H
         have c9b0 := dt c9
         clear c9
         obtain rfl := Option.some.inj H
         have p313 : 0 ≤ (x5_1 : Int) := od
         have q313 : x5_1 < (l0.length : Int) := od
         obtain ⟨ad313, e313, hx313_0⟩ := Kd.at_int HR0.out x5_1 p313 q313
         cases e313
         replace p313 := eq_true p313
         replace q313 := eq_true q313
         have p314 : 0 ≤ (x5_1 : Int) := od
         have q314 : x5_1 < (l1.length : Int) := od
         obtain ⟨ad314, e314, hx314_0⟩ := Kd.at_int HR1.out x5_1 p314 q314
         cases e314
         replace p314 := eq_true p314
         replace q314 := eq_true q314
         have p315 : 0 ≤ (x5_1 : Int) := od
         have q315 : x5_1 < (l0.length : Int) := od
         obtain ⟨ad315, e315, hx315_0⟩ := Kd.at_int HR0.out x5_1 p315 q315
         obtain rfl : ad313 = ad315 := (by injection e315)
         replace p315 := eq_true p315
         replace q315 := eq_true q315
         have p316 : 0 ≤ (x5_1 : Int) := od
         have q316 : x5_1 < (l1.length : Int) := od
         obtain ⟨ad316, e316, hx316_0⟩ := Kd.at_int HR1.out x5_1 p316 q316
         obtain rfl : ad314 = ad316 := (by injection e316)
         replace p316 := eq_true p316
         replace q316 := eq_true q316
         go_wp2
         repeat (go_quiet (fail); try go_wp2)
         go_ret
         exact ⟨by first | rfl | (simp; done) | (simp [*]; done), by repeat (first | exact Drawn0.refl _ | apply Drawn0.step)⟩
        rw [if_neg c9] at H
        have c9b0 := decide_eq_false c9
        clear c9
        obtain rfl := Option.some.inj H
        have p313 : 0 ≤ (x5_1 : Int) := od
        have q313 : x5_1 < (l0.length : Int) := od
        obtain ⟨ad313, e313, hx313_0⟩ := Kd.at_int HR0.out x5_1 p313 q313
        cases e313
        replace p313 := eq_true p313
        replace q313 := eq_true q313
        have p314 : 0 ≤ (x5_1 : Int) := od
        have q314 : x5_1 < (l1.length : Int) := od
        obtain ⟨ad314, e314, hx314_0⟩ := Kd.at_int HR1.out x5_1 p314 q314
        cases e314
        replace p314 := eq_true p314
        replace q314 := eq_true q314
        have p315 : 0 ≤ (x5_1 : Int) := od
        have q315 : x5_1 < (l0.length : Int) := od
        obtain ⟨ad315, e315, hx315_0⟩ := Kd.at_int HR0.out x5_1 p315 q315
        obtain rfl : ad313 = ad315 := (by injection e315)
        replace p315 := eq_true p315
        replace q315 := eq_true q315
        have p316 : 0 ≤ (x5_1 : Int) := od
        have q316 : x5_1 < (l1.length : Int) := od
        obtain ⟨ad316, e316, hx316_0⟩ := Kd.at_int HR1.out x5_1 p316 q316
        obtain rfl : ad314 = ad316 := (by injection e316)
        replace p316 := eq_true p316
        replace q316 := eq_true q316
        go_wp2
        repeat (go_quiet (fail); try go_wp2)
        go_ret
        exact ⟨by first | rfl | (simp; done) | (simp [*]; done), by repeat (first | exact Drawn0.refl _ | apply Drawn0.step)⟩
       rw [if_neg c7] at H
       exact absurd H (by simp)
      rw [if_neg c6] at H
      exact absurd H (by simp)
     rw [if_neg c5] at H
     exact absurd H (by simp)
    rw [if_neg c4] at H
    have c4b0 : decide (0 ≤ x5_1) = false := decide_eq_false c4
    clear c4
    obtain rfl := Option.some.inj H
    go_wp2
    repeat (go_quiet (fail); try go_wp2)
    go_ret
    exact ⟨by first | rfl | (simp; done) | (simp [*]; done), by repeat (first | exact Drawn0.refl _ | apply Drawn0.step)⟩
 rw [if_neg c3] at H
 have c3b0 : ((l0.length : Int) == (l1.length : Int)) = false := beq_eq_false_iff_ne.mpr c3
 have c3b1 : ((l0.length : Int) != (l1.length : Int)) = true := bne_iff_ne.mpr c3
 have c3b2 : (l0.length == l1.length) = false := by first | simpa using c3 | (simp at c3 ⊢; omega)
 by_cases c10 : (l0.length : Int) < (l1.length : Int)
 ·
  rw [if_pos c10] at H
  have c10b0 := dt c10
  have c10b1 : decide (l0.length < l1.length) = true := dt (Int.ofNat_lt.mp c10)
  clear c10
  obtain rfl := Option.some.inj H
  go_enter Tryd.func92, Tryd.ntmps92
  go_wp2
  repeat (go_quiet (fail); try go_wp2)
  go_ret
  exact ⟨by first | rfl | (simp; done) | (simp [*]; done), by repeat (first | exact Drawn0.refl _ | apply Drawn0.step)⟩
 rw [if_neg c10] at H
 have c10b0 := decide_eq_false c10
 have c10b1 : decide (l0.length < l1.length) = false := decide_eq_false (fun h => c10 (Int.ofNat_lt.mpr h))
 clear c10
 obtain rfl := Option.some.inj H
 go_enter Tryd.func92, Tryd.ntmps92
 go_wp2
 repeat (go_quiet (fail); try go_wp2)
 go_ret
 exact ⟨by first | rfl | (simp; done) | (simp [*]; done), by repeat (first | exact Drawn0.refl _ | apply Drawn0.step)⟩
def r_below.f (k : Nat) (a0 : Int) (a1 : Int) (l2_0 : List Int) (a2_1 : Int) : Option (Int) := (r_of.f k a0).bind fun t318 => (if a1 > 0 then ((r_power.f k t318 2 a1).bind fun t321 => (if a2_1 > 0 then ((r_power.f k l2_0 10 a2_1).bind fun t324 => ((r_cmp.f k t321 t324).bind fun t327 => (some t327))) else ((r_power.f k t321 10 (wrap64 (-a2_1))).bind fun t328 => ((r_cmp.f k t328 l2_0).bind fun t331 => (some t331))))) else ((r_power.f k l2_0 2 (wrap64 (-a1))).bind fun t332 => (if a2_1 > 0 then ((r_power.f k t332 10 a2_1).bind fun t335 => ((r_cmp.f k t318 t335).bind fun t338 => (some t338))) else ((r_power.f k t318 10 (wrap64 (-a2_1))).bind fun t339 => ((r_cmp.f k t339 t332).bind fun t342 => (some t342))))))
theorem r_below.mono : ∀ a0 a1 a2 a3 k, LeO (r_below.f k a0 a1 a2 a3) (r_below.f (k + 1) a0 a1 a2 a3) := by
 intro a0 a1 a2 a3 k
 unfold r_below.f
 repeat' (with_reducible first | apply r_cmp.mono | apply r_of.mono | apply r_power.mono | apply LeO.refl | apply LeO.none | apply LeO.ite | refine LeO.bind ?_ (fun _ => ?_))
set_option maxHeartbeats 8000000 in
theorem r_below.calls (k : Nat) (a0 : Int) (a1 : Int) (A2_0 : Option Addr) (c2_0 : Nat) (l2_0 : List Int) (a2_1 : Int) (r : Int) (w : World) (hr2_0 : Kd.C (Kd.int .i64) w A2_0 l2_0.length l2_0) (hc2_0 : l2_0.length ≤ c2_0) (h : r_below.f k a0 a1 l2_0 a2_1 = some r) :
  Calls Tryd.prog 89 #[.int .i64 a0, .int .i64 a1, .agg #[.slice A2_0 l2_0.length c2_0, .int .i64 a2_1]] w fun e w' => e = .returned (.int .i64 r) ∧ Below w.heap.size w w' := by
 have hu72 := Tryd.underlying72
 have HR2_0 := am hr2_0
 have HC2_0 := am hc2_0
 clear hr2_0 hc2_0
 have HB := am (Below.refl w.heap.size w)
 have H : ((r_of.f k a0).bind fun t318 => (if a1 > 0 then ((r_power.f k t318 2 a1).bind fun t321 => (if a2_1 > 0 then ((r_power.f k l2_0 10 a2_1).bind fun t324 => ((r_cmp.f k t321 t324).bind fun t327 => (some t327))) else ((r_power.f k t321 10 (wrap64 (-a2_1))).bind fun t328 => ((r_cmp.f k t328 l2_0).bind fun t331 => (some t331))))) else ((r_power.f k l2_0 2 (wrap64 (-a1))).bind fun t332 => (if a2_1 > 0 then ((r_power.f k t332 10 a2_1).bind fun t335 => ((r_cmp.f k t318 t335).bind fun t338 => (some t338))) else ((r_power.f k t318 10 (wrap64 (-a2_1))).bind fun t339 => ((r_cmp.f k t339 t332).bind fun t342 => (some t342))))))) = some r := h
 clear h
 replace H := bm H
 obtain ⟨t318, A40, H⟩ := H
 have A4 := am A40
 clear A40
 by_cases c5 : a1 > 0
 ·
  rw [if_pos c5] at H
  have c5b0 : decide (0 < a1) = true := dt c5
  clear c5
  replace H := bm H
  obtain ⟨t321, A60, H⟩ := H
  have A6 := am A60
  clear A60
  by_cases c7 : a2_1 > 0
  ·
   rw [if_pos c7] at H
   have c7b0 : decide (0 < a2_1) = true := dt c7
   clear c7
   replace H := bm H
   obtain ⟨t324, A80, H⟩ := H
   have A8 := am A80
   clear A80
   replace H := bm H
   obtain ⟨t327, A90, H⟩ := H
   replace H : (some t327) = some r := H
   have A9 := am A90
   clear A90
   obtain rfl := Option.some.inj H
   go_enter Tryd.func89, Tryd.ntmps89
   try go_wp2_with (first | ((with_reducible refine gate_dst (N := 5) rfl ?_); refine box_event ?hg (N := 5) ?hd (cs := #[.slice A2_0 l2_0.length c2_0, .int .i64 a2_1]) (t := 72) ?hr ?_; (case hd => rfl); (case hg => rfl); (case hr => first | (go_simp; done) | (go_simp; rfl)); intro gb317 hg w10 hbox hb; have BK317 := am (hbox); have GW317 := am ((by rw [hg]; exact (below_size (lk HB)) : w.heap.size ≤ gb317)); have GE317 := GW317; replace HB := lb HB hb; clear hb hbox hg))
   have n0_ := am (blk_drew BK317.out)
   have n1_ := am (below_drew1 HB.out)
   clear BK317
   clear HB
   have BK317 := n0_
   have HB := n1_
   clear n0_ n1_
   refine start_ (n := 6) (S := fun w' => w'.cell? ⟨gb317, 0, none⟩ = some (.slice A2_0 l2_0.length c2_0) ∧ w'.cell? ⟨gb317, 1, none⟩ = some (.int .i64 a2_1)) (ds := []) #[false, false, false, false, false, false] (by kernel_rfl) rfl rfl ⟨(blk_cell BK317.out 0).trans rfl, (blk_cell BK317.out 1).trans rfl⟩ (fun hHeld => ?_)
   generalize w10.drew = w11 at BK317 HB hHeld ⊢
   refine pure_ (i := 0) (N := some 9) (v := ?_) (a' := ?_) #[true, false, false, false, false, false] rfl rfl (by kernel_rfl) (fun _ _ _ h => h) (Or.inl ⟨by rfl, ?_⟩) ?_ ?_
   rotate_left
   ·
    intro w'
    go_simp
    with_reducible rfl
   rotate_left
   ·
    exact pz
   refine pure_ (i := 2) (N := some 11) (v := ?_) (a' := ?_) #[true, false, true, false, false, false] rfl rfl (by kernel_rfl) (fun _ _ _ h => h) (Or.inl ⟨by rfl, ?_⟩) ?_ ?_
   rotate_left
   ·
    intro w'
    go_simp
    with_reducible rfl
   rotate_left
   ·
    exact pz
   refine take_ (i := 3) (N := some 12) (v := ?_) (a' := ?_) #[true, false, true, true, false, false] rfl rfl (by kernel_rfl) (fun _ _ _ h => h) (Or.inl ⟨by rfl, ?_⟩) hHeld ?_ ?_
   rotate_left
   ·
    rintro w' ⟨s0, s1⟩
    go_simp
    with_reducible rfl
   rotate_left
   ·
    exact pz
   refine one_ (i := 1) (N := some 10) #[true, true, true, true, false, false] rfl rfl (by kernel_rfl) (by decide) (fun K hK => ?_)
   refine goes_ Tryd.func90 (by kernel_rfl) rfl #[.int .i64 a0] (by rfl) rfl rfl (by (try simp only [List.map_toArray, List.map_cons, List.map_nil]); first | done | rfl | (simp only [List.length_drop, List.length_take]; rfl) | (simp [Act.eval, Hd.wrap_u8]; done)) ?_
   with_reducible refine (r_of.calls k a0 t318 _ A4.out).mono ?_
   rintro e w12 ⟨v319, rfl, ho0, hb⟩
   refine ⟨_, rfl, ?_⟩
   have n0_ := am (Kd.R_lower ho0 (below_size (lk HB)))
   have n1_ := bb BK317 hb
   have n2_ := lb HB hb
   clear BK317
   clear HB
   have HO320 := n0_
   have BK317 := n1_
   have HB := n2_
   clear n0_ n1_ n2_
   (try clear hb)
   (try clear hb2)
   (try clear hk)
   (try clear hi)
   (try clear ho0)
   refine hK.out _ _ ⟨(blk_cell BK317.out 0).trans rfl, (blk_cell BK317.out 1).trans rfl⟩ (fun hHeld => ?_)
   clear hK K
   refine norm_ (a' := ?_) ?_ ?_
   rotate_left
   ·
    show Act.put _ (some 10) _ = _
    exact pz
   refine pure_ (i := 4) (N := some 7) (v := ?_) (a' := ?_) #[true, true, true, true, true, false] rfl rfl (by kernel_rfl) (fun _ _ _ h => h) (Or.inl ⟨by rfl, ?_⟩) ?_ ?_
   rotate_left
   ·
    intro w'
    go_simp
    with_reducible rfl
   rotate_left
   ·
    exact pz
   refine pure_ (i := 5) (N := some 8) (v := ?_) (a' := ?_) #[true, true, true, true, true, true] rfl rfl (by kernel_rfl) (fun _ _ _ h => h) (Or.inl ⟨by rfl, ?_⟩) ?_ ?_
   rotate_left
   ·
    intro w'
    go_simp
    with_reducible rfl
   rotate_left
   ·
    exact pz
   refine done_ (by kernel_rfl) ?_
   obtain ⟨Ao13, co13, eo13⟩ := Kd.R_slice HO320.out
   subst eo13
   try go_wp2_with (first | (refine gL (some 17) Tryd.func91 #[.slice Ao13 t318.length co13, .int .i64 2, .int .i64 a1] ?_; (with_reducible refine (r_power.calls k (fun k_ => some k_ = (.slice Ao13 t318.length co13 : Value).ownBlock) _ _ t318 2 a1 t321 _ ?side1 A6.out).mono ?_); (case side1 => exact Kd.R_V (Kd.R_tight rfl (Kd.R_types (HO320.out) BK317.out (by decide)))); rintro e w14 ⟨v322, rfl, ho0, hb⟩; refine ⟨_, rfl, ?_⟩; have HO323 := am (Kd.V_lower (Kd.V_mono (ok' := fun k_ => k_ ≠ gb317) ho0 (fun k_ hk_ => Or.elim hk_ (fun hs_ => ((Kd.R_types (HO320.out) BK317.out (by decide)).1 k_ hs_.symm).2) (fun hn_ => (Kd.freshB (bk BK317) k_ hn_)))) (below_size (lk HB))); replace HO320 := am (Kd.R_below (rk HO320) hb); replace BK317 := bb BK317 hb; replace HB := lb HB hb; have hcz15_0 : w14.cell? ⟨gb317, 0, none⟩ = some (.slice A2_0 l2_0.length c2_0) := (blk_cell BK317.out 0).trans rfl; have hcz15_1 : w14.cell? ⟨gb317, 1, none⟩ = some (.int .i64 a2_1) := (blk_cell BK317.out 1).trans rfl; have hfz15_0 := blk_frozen BK317.out 0; have hfz15_1 := blk_frozen BK317.out 1) | (refine gL (some 28) Tryd.func91 #[.slice A2_0 l2_0.length c2_0, .int .i64 10, .int .i64 a2_1] ?_; (with_reducible refine (r_power.calls k (fun k_ => k_ < w.heap.size) _ _ l2_0 10 a2_1 t324 _ ?side1 A8.out).mono ?_); (case side1 => exact Kd.V_mk HC2_0.out (Kd.F_below (Kd.C_F (Kd.heap_int .i64) HR2_0.out) (lk HB))); rintro e w16 ⟨v325, rfl, ho0, hb⟩; refine ⟨_, rfl, ?_⟩; replace HO323 := vb HO323 hb; have HO326 := am (Kd.V_lower (Kd.V_mono (ok' := fun k_ => some k_ ≠ (.slice Ao13 t318.length co13 : Value).ownBlock ∧ k_ ≠ gb317) ho0 (fun k_ hk_ => ⟨Or.elim hk_ (fun hs_ => fun e_ => Nat.not_le.2 hs_ (Kd.R_base HO320.out k_ e_.symm)) (fun hn_ => (Kd.fresh' (Kd.R_lt (rk HO320)) k_ hn_)), Or.elim hk_ (fun hs_ => fun e_ => Nat.not_le.2 hs_ (by rw [e_]; exact GW317.out)) (fun hn_ => (Kd.freshB (bk BK317) k_ hn_))⟩)) (below_size (lk HB))); replace HO320 := am (Kd.R_below (rk HO320) hb); replace BK317 := bb BK317 hb; replace HB := lb HB hb; obtain ⟨Ao17, co17, eo17⟩ := Kd.V_slice HO323.out; subst eo17; obtain ⟨Ao18, co18, eo18⟩ := Kd.V_slice HO326.out; subst eo18) | (refine gL (some 36) Tryd.func92 #[.slice Ao17 t321.length co17, .slice Ao18 t324.length co18] ?_; (with_reducible refine (r_cmp.calls k _ _ t321 _ _ t324 t327 _ ?side1 ?side2 ?side3 ?side4 A9.out).mono ?_); (case side1 => exact ck (Kd.V_reads' HO323.out).2.2); (case side2 => exact (Kd.V_reads' HO323.out).2.1); (case side3 => exact ck (Kd.V_reads' HO326.out).2.2); (case side4 => exact (Kd.V_reads' HO326.out).2.1); rintro e w' ⟨rfl, ⟨nd, rfl⟩⟩; refine ⟨_, rfl, ?_⟩))
   go_ret
   exact ex (lk HB)
  rw [if_neg c7] at H
  have c7b0 : decide (0 < a2_1) = false := decide_eq_false c7
  clear c7
  replace H := bm H
  obtain ⟨t328, A190, H⟩ := H
  have A19 := am A190
  clear A190
  replace H := bm H
  obtain ⟨t331, A200, H⟩ := H
  replace H : (some t331) = some r := H
  have A20 := am A200
  clear A200
  obtain rfl := Option.some.inj H
  go_enter Tryd.func89, Tryd.ntmps89
  try go_wp2_with (first | ((with_reducible refine gate_dst (N := 5) rfl ?_); refine box_event ?hg (N := 5) ?hd (cs := #[.slice A2_0 l2_0.length c2_0, .int .i64 a2_1]) (t := 72) ?hr ?_; (case hd => rfl); (case hg => rfl); (case hr => first | (go_simp; done) | (go_simp; rfl)); intro gb317 hg w21 hbox hb; have BK317 := am (hbox); have GW317 := am ((by rw [hg]; exact (below_size (lk HB)) : w.heap.size ≤ gb317)); have GE317 := GW317; replace HB := lb HB hb; clear hb hbox hg))
  have n0_ := am (blk_drew BK317.out)
  have n1_ := am (below_drew1 HB.out)
  clear BK317
  clear HB
  have BK317 := n0_
  have HB := n1_
  clear n0_ n1_
  refine start_ (n := 6) (S := fun w' => w'.cell? ⟨gb317, 0, none⟩ = some (.slice A2_0 l2_0.length c2_0) ∧ w'.cell? ⟨gb317, 1, none⟩ = some (.int .i64 a2_1)) (ds := []) #[false, false, false, false, false, false] (by kernel_rfl) rfl rfl ⟨(blk_cell BK317.out 0).trans rfl, (blk_cell BK317.out 1).trans rfl⟩ (fun hHeld => ?_)
  generalize w21.drew = w22 at BK317 HB hHeld ⊢
  refine pure_ (i := 0) (N := some 9) (v := ?_) (a' := ?_) #[true, false, false, false, false, false] rfl rfl (by kernel_rfl) (fun _ _ _ h => h) (Or.inl ⟨by rfl, ?_⟩) ?_ ?_
  rotate_left
  ·
   intro w'
   go_simp
   with_reducible rfl
  rotate_left
  ·
   exact pz
  refine pure_ (i := 2) (N := some 11) (v := ?_) (a' := ?_) #[true, false, true, false, false, false] rfl rfl (by kernel_rfl) (fun _ _ _ h => h) (Or.inl ⟨by rfl, ?_⟩) ?_ ?_
  rotate_left
  ·
   intro w'
   go_simp
   with_reducible rfl
  rotate_left
  ·
   exact pz
  refine take_ (i := 3) (N := some 12) (v := ?_) (a' := ?_) #[true, false, true, true, false, false] rfl rfl (by kernel_rfl) (fun _ _ _ h => h) (Or.inl ⟨by rfl, ?_⟩) hHeld ?_ ?_
  rotate_left
  ·
   rintro w' ⟨s0, s1⟩
   go_simp
   with_reducible rfl
  rotate_left
  ·
   exact pz
  refine one_ (i := 1) (N := some 10) #[true, true, true, true, false, false] rfl rfl (by kernel_rfl) (by decide) (fun K hK => ?_)
  refine goes_ Tryd.func90 (by kernel_rfl) rfl #[.int .i64 a0] (by rfl) rfl rfl (by (try simp only [List.map_toArray, List.map_cons, List.map_nil]); first | done | rfl | (simp only [List.length_drop, List.length_take]; rfl) | (simp [Act.eval, Hd.wrap_u8]; done)) ?_
  with_reducible refine (r_of.calls k a0 t318 _ A4.out).mono ?_
  rintro e w23 ⟨v319, rfl, ho0, hb⟩
  refine ⟨_, rfl, ?_⟩
  have n0_ := am (Kd.R_lower ho0 (below_size (lk HB)))
  have n1_ := bb BK317 hb
  have n2_ := lb HB hb
  clear BK317
  clear HB
  have HO320 := n0_
  have BK317 := n1_
  have HB := n2_
  clear n0_ n1_ n2_
  (try clear hb)
  (try clear hb2)
  (try clear hk)
  (try clear hi)
  (try clear ho0)
  refine hK.out _ _ ⟨(blk_cell BK317.out 0).trans rfl, (blk_cell BK317.out 1).trans rfl⟩ (fun hHeld => ?_)
  clear hK K
  refine norm_ (a' := ?_) ?_ ?_
  rotate_left
  ·
   show Act.put _ (some 10) _ = _
   exact pz
  refine pure_ (i := 4) (N := some 7) (v := ?_) (a' := ?_) #[true, true, true, true, true, false] rfl rfl (by kernel_rfl) (fun _ _ _ h => h) (Or.inl ⟨by rfl, ?_⟩) ?_ ?_
  rotate_left
  ·
   intro w'
   go_simp
   with_reducible rfl
  rotate_left
  ·
   exact pz
  refine pure_ (i := 5) (N := some 8) (v := ?_) (a' := ?_) #[true, true, true, true, true, true] rfl rfl (by kernel_rfl) (fun _ _ _ h => h) (Or.inl ⟨by rfl, ?_⟩) ?_ ?_
  rotate_left
  ·
   intro w'
   go_simp
   with_reducible rfl
  rotate_left
  ·
   exact pz
  refine done_ (by kernel_rfl) ?_
  obtain ⟨Ao24, co24, eo24⟩ := Kd.R_slice HO320.out
  subst eo24
  try go_wp2_with (first | (refine gL (some 17) Tryd.func91 #[.slice Ao24 t318.length co24, .int .i64 2, .int .i64 a1] ?_; (with_reducible refine (r_power.calls k (fun k_ => some k_ = (.slice Ao24 t318.length co24 : Value).ownBlock) _ _ t318 2 a1 t321 _ ?side1 A6.out).mono ?_); (case side1 => exact Kd.R_V (Kd.R_tight rfl (Kd.R_types (HO320.out) BK317.out (by decide)))); rintro e w25 ⟨v322, rfl, ho0, hb⟩; refine ⟨_, rfl, ?_⟩; have HO323 := am (Kd.V_lower (Kd.V_mono (ok' := fun k_ => k_ ≠ gb317) ho0 (fun k_ hk_ => Or.elim hk_ (fun hs_ => ((Kd.R_types (HO320.out) BK317.out (by decide)).1 k_ hs_.symm).2) (fun hn_ => (Kd.freshB (bk BK317) k_ hn_)))) (below_size (lk HB))); replace HO320 := am (Kd.R_below (rk HO320) hb); replace BK317 := bb BK317 hb; replace HB := lb HB hb; have hcz26_0 : w25.cell? ⟨gb317, 0, none⟩ = some (.slice A2_0 l2_0.length c2_0) := (blk_cell BK317.out 0).trans rfl; have hcz26_1 : w25.cell? ⟨gb317, 1, none⟩ = some (.int .i64 a2_1) := (blk_cell BK317.out 1).trans rfl; have hfz26_0 := blk_frozen BK317.out 0; have hfz26_1 := blk_frozen BK317.out 1; obtain ⟨Ao27, co27, eo27⟩ := Kd.V_slice HO323.out; subst eo27) | (refine gL (some 33) Tryd.func91 #[.slice Ao27 t321.length co27, .int .i64 10, .int .i64 (wrap64 (-a2_1))] ?_; (with_reducible refine (r_power.calls k (fun k_ => k_ ≠ gb317) _ _ t321 10 (wrap64 (-a2_1)) t328 _ ?side1 A19.out).mono ?_); (case side1 => exact HO323.out); rintro e w28 ⟨v329, rfl, ho0, hb⟩; refine ⟨_, rfl, ?_⟩; replace HO320 := am (Kd.R_below (rk HO320) hb); replace HO323 := vb HO323 hb; have HO330 := am (Kd.V_lower (Kd.V_mono (ok' := fun k_ => k_ ≠ gb317) ho0 (fun k_ hk_ => Or.elim hk_ (fun hs_ => hs_) (fun hn_ => (Kd.freshB (bk BK317) k_ hn_)))) (below_size (lk HB))); replace BK317 := bb BK317 hb; replace HB := lb HB hb; obtain ⟨Ao29, co29, eo29⟩ := Kd.V_slice HO330.out; subst eo29) | (refine gL (some 36) Tryd.func92 #[.slice Ao29 t328.length co29, .slice A2_0 l2_0.length c2_0] ?_; (with_reducible refine (r_cmp.calls k _ _ t328 _ _ l2_0 t331 _ ?side1 ?side2 ?side3 ?side4 A20.out).mono ?_); (case side1 => exact ck (Kd.V_reads' HO330.out).2.2); (case side2 => exact (Kd.V_reads' HO330.out).2.1); (case side3 => exact ck (Kd.C_below HR2_0.out HB.out)); (case side4 => exact HC2_0.out); rintro e w' ⟨rfl, ⟨nd, rfl⟩⟩; refine ⟨_, rfl, ?_⟩))
  go_ret
  exact ex (lk HB)
 rw [if_neg c5] at H
 have c5b0 : decide (0 < a1) = false := decide_eq_false c5
 clear c5
 replace H := bm H
 obtain ⟨t332, A300, H⟩ := H
 have A30 := am A300
 clear A300
 by_cases c31 : a2_1 > 0
 ·
  rw [if_pos c31] at H
  have c31b0 : decide (0 < a2_1) = true := dt c31
  clear c31
  replace H := bm H
  obtain ⟨t335, A320, H⟩ := H
  have A32 := am A320
  clear A320
  replace H := bm H
  obtain ⟨t338, A330, H⟩ := H
  replace H : (some t338) = some r := H
  have A33 := am A330
  clear A330
  obtain rfl := Option.some.inj H
  go_enter Tryd.func89, Tryd.ntmps89
  try go_wp2_with (first | ((with_reducible refine gate_dst (N := 5) rfl ?_); refine box_event ?hg (N := 5) ?hd (cs := #[.slice A2_0 l2_0.length c2_0, .int .i64 a2_1]) (t := 72) ?hr ?_; (case hd => rfl); (case hg => rfl); (case hr => first | (go_simp; done) | (go_simp; rfl)); intro gb317 hg w34 hbox hb; have BK317 := am (hbox); have GW317 := am ((by rw [hg]; exact (below_size (lk HB)) : w.heap.size ≤ gb317)); have GE317 := GW317; replace HB := lb HB hb; clear hb hbox hg))
  have n0_ := am (blk_drew BK317.out)
  have n1_ := am (below_drew1 HB.out)
  clear BK317
  clear HB
  have BK317 := n0_
  have HB := n1_
  clear n0_ n1_
  refine start_ (n := 6) (S := fun w' => w'.cell? ⟨gb317, 0, none⟩ = some (.slice A2_0 l2_0.length c2_0) ∧ w'.cell? ⟨gb317, 1, none⟩ = some (.int .i64 a2_1)) (ds := []) #[false, false, false, false, false, false] (by kernel_rfl) rfl rfl ⟨(blk_cell BK317.out 0).trans rfl, (blk_cell BK317.out 1).trans rfl⟩ (fun hHeld => ?_)
  generalize w34.drew = w35 at BK317 HB hHeld ⊢
  refine pure_ (i := 0) (N := some 9) (v := ?_) (a' := ?_) #[true, false, false, false, false, false] rfl rfl (by kernel_rfl) (fun _ _ _ h => h) (Or.inl ⟨by rfl, ?_⟩) ?_ ?_
  rotate_left
  ·
   intro w'
   go_simp
   with_reducible rfl
  rotate_left
  ·
   exact pz
  refine pure_ (i := 2) (N := some 11) (v := ?_) (a' := ?_) #[true, false, true, false, false, false] rfl rfl (by kernel_rfl) (fun _ _ _ h => h) (Or.inl ⟨by rfl, ?_⟩) ?_ ?_
  rotate_left
  ·
   intro w'
   go_simp
   with_reducible rfl
  rotate_left
  ·
   exact pz
  refine take_ (i := 3) (N := some 12) (v := ?_) (a' := ?_) #[true, false, true, true, false, false] rfl rfl (by kernel_rfl) (fun _ _ _ h => h) (Or.inl ⟨by rfl, ?_⟩) hHeld ?_ ?_
  rotate_left
  ·
   rintro w' ⟨s0, s1⟩
   go_simp
   with_reducible rfl
  rotate_left
  ·
   exact pz
  refine one_ (i := 1) (N := some 10) #[true, true, true, true, false, false] rfl rfl (by kernel_rfl) (by decide) (fun K hK => ?_)
  refine goes_ Tryd.func90 (by kernel_rfl) rfl #[.int .i64 a0] (by rfl) rfl rfl (by (try simp only [List.map_toArray, List.map_cons, List.map_nil]); first | done | rfl | (simp only [List.length_drop, List.length_take]; rfl) | (simp [Act.eval, Hd.wrap_u8]; done)) ?_
  with_reducible refine (r_of.calls k a0 t318 _ A4.out).mono ?_
  rintro e w36 ⟨v319, rfl, ho0, hb⟩
  refine ⟨_, rfl, ?_⟩
  have n0_ := am (Kd.R_lower ho0 (below_size (lk HB)))
  have n1_ := bb BK317 hb
  have n2_ := lb HB hb
  clear BK317
  clear HB
  have HO320 := n0_
  have BK317 := n1_
  have HB := n2_
  clear n0_ n1_ n2_
  (try clear hb)
  (try clear hb2)
  (try clear hk)
  (try clear hi)
  (try clear ho0)
  refine hK.out _ _ ⟨(blk_cell BK317.out 0).trans rfl, (blk_cell BK317.out 1).trans rfl⟩ (fun hHeld => ?_)
  clear hK K
  refine norm_ (a' := ?_) ?_ ?_
  rotate_left
  ·
   show Act.put _ (some 10) _ = _
   exact pz
  refine pure_ (i := 4) (N := some 7) (v := ?_) (a' := ?_) #[true, true, true, true, true, false] rfl rfl (by kernel_rfl) (fun _ _ _ h => h) (Or.inl ⟨by rfl, ?_⟩) ?_ ?_
  rotate_left
  ·
   intro w'
   go_simp
   with_reducible rfl
  rotate_left
  ·
   exact pz
  refine pure_ (i := 5) (N := some 8) (v := ?_) (a' := ?_) #[true, true, true, true, true, true] rfl rfl (by kernel_rfl) (fun _ _ _ h => h) (Or.inl ⟨by rfl, ?_⟩) ?_ ?_
  rotate_left
  ·
   intro w'
   go_simp
   with_reducible rfl
  rotate_left
  ·
   exact pz
  refine done_ (by kernel_rfl) ?_
  try go_wp2_with (first | (refine gL (some 21) Tryd.func91 #[.slice A2_0 l2_0.length c2_0, .int .i64 2, .int .i64 (wrap64 (-a1))] ?_; (with_reducible refine (r_power.calls k (fun k_ => k_ < w.heap.size) _ _ l2_0 2 (wrap64 (-a1)) t332 _ ?side1 A30.out).mono ?_); (case side1 => exact Kd.V_mk HC2_0.out (Kd.F_below (Kd.C_F (Kd.heap_int .i64) HR2_0.out) (lk HB))); rintro e w37 ⟨v333, rfl, ho0, hb⟩; refine ⟨_, rfl, ?_⟩; have HO334 := am (Kd.V_lower (Kd.V_mono (ok' := fun k_ => some k_ ≠ (v319 : Value).ownBlock ∧ k_ ≠ gb317) ho0 (fun k_ hk_ => ⟨Or.elim hk_ (fun hs_ => fun e_ => Nat.not_le.2 hs_ (Kd.R_base HO320.out k_ e_.symm)) (fun hn_ => (Kd.fresh' (Kd.R_lt (rk HO320)) k_ hn_)), Or.elim hk_ (fun hs_ => fun e_ => Nat.not_le.2 hs_ (by rw [e_]; exact GW317.out)) (fun hn_ => (Kd.freshB (bk BK317) k_ hn_))⟩)) (below_size (lk HB))); replace HO320 := am (Kd.R_below (rk HO320) hb); replace BK317 := bb BK317 hb; replace HB := lb HB hb; have hcz38_0 : w37.cell? ⟨gb317, 0, none⟩ = some (.slice A2_0 l2_0.length c2_0) := (blk_cell BK317.out 0).trans rfl; have hcz38_1 : w37.cell? ⟨gb317, 1, none⟩ = some (.int .i64 a2_1) := (blk_cell BK317.out 1).trans rfl; have hfz38_0 := blk_frozen BK317.out 0; have hfz38_1 := blk_frozen BK317.out 1; obtain ⟨Ao39, co39, eo39⟩ := Kd.V_slice HO334.out; subst eo39) | (refine gL (some 28) Tryd.func91 #[.slice Ao39 t332.length co39, .int .i64 10, .int .i64 a2_1] ?_; (with_reducible refine (r_power.calls k (fun k_ => (some k_ ≠ (v319 : Value).ownBlock ∧ k_ ≠ gb317)) _ _ t332 10 a2_1 t335 _ ?side1 A32.out).mono ?_); (case side1 => exact HO334.out); rintro e w40 ⟨v336, rfl, ho0, hb⟩; refine ⟨_, rfl, ?_⟩; replace HO334 := vb HO334 hb; have HO337 := am (Kd.V_lower (Kd.V_mono (ok' := fun k_ => some k_ ≠ (v319 : Value).ownBlock ∧ k_ ≠ gb317) ho0 (fun k_ hk_ => ⟨Or.elim hk_ (fun hs_ => hs_.1) (fun hn_ => (Kd.fresh' (Kd.R_lt (rk HO320)) k_ hn_)), Or.elim hk_ (fun hs_ => hs_.2) (fun hn_ => (Kd.freshB (bk BK317) k_ hn_))⟩)) (below_size (lk HB))); replace HO320 := am (Kd.R_below (rk HO320) hb); replace BK317 := bb BK317 hb; replace HB := lb HB hb; obtain ⟨Ao41, co41, eo41⟩ := Kd.R_slice HO320.out; subst eo41; obtain ⟨Ao42, co42, eo42⟩ := Kd.V_slice HO337.out; subst eo42) | (refine gL (some 36) Tryd.func92 #[.slice Ao41 t318.length co41, .slice Ao42 t335.length co42] ?_; (with_reducible refine (r_cmp.calls k _ _ t318 _ _ t335 t338 _ ?side1 ?side2 ?side3 ?side4 A33.out).mono ?_); (case side1 => exact ck (Kd.R_reads' HO320.out).2.2); (case side2 => exact (Kd.R_reads' HO320.out).2.1); (case side3 => exact ck (Kd.V_reads' HO337.out).2.2); (case side4 => exact (Kd.V_reads' HO337.out).2.1); rintro e w' ⟨rfl, ⟨nd, rfl⟩⟩; refine ⟨_, rfl, ?_⟩))
  go_ret
  exact ex (lk HB)
 rw [if_neg c31] at H
 have c31b0 : decide (0 < a2_1) = false := decide_eq_false c31
 clear c31
 replace H := bm H
 obtain ⟨t339, A430, H⟩ := H
 have A43 := am A430
 clear A430
 replace H := bm H
 obtain ⟨t342, A440, H⟩ := H
 replace H : (some t342) = some r := H
 have A44 := am A440
 clear A440
 obtain rfl := Option.some.inj H
 go_enter Tryd.func89, Tryd.ntmps89
 try go_wp2_with (first | ((with_reducible refine gate_dst (N := 5) rfl ?_); refine box_event ?hg (N := 5) ?hd (cs := #[.slice A2_0 l2_0.length c2_0, .int .i64 a2_1]) (t := 72) ?hr ?_; (case hd => rfl); (case hg => rfl); (case hr => first | (go_simp; done) | (go_simp; rfl)); intro gb317 hg w45 hbox hb; have BK317 := am (hbox); have GW317 := am ((by rw [hg]; exact (below_size (lk HB)) : w.heap.size ≤ gb317)); have GE317 := GW317; replace HB := lb HB hb; clear hb hbox hg))
 have n0_ := am (blk_drew BK317.out)
 have n1_ := am (below_drew1 HB.out)
 clear BK317
 clear HB
 have BK317 := n0_
 have HB := n1_
 clear n0_ n1_
 refine start_ (n := 6) (S := fun w' => w'.cell? ⟨gb317, 0, none⟩ = some (.slice A2_0 l2_0.length c2_0) ∧ w'.cell? ⟨gb317, 1, none⟩ = some (.int .i64 a2_1)) (ds := []) #[false, false, false, false, false, false] (by kernel_rfl) rfl rfl ⟨(blk_cell BK317.out 0).trans rfl, (blk_cell BK317.out 1).trans rfl⟩ (fun hHeld => ?_)
 generalize w45.drew = w46 at BK317 HB hHeld ⊢
 refine pure_ (i := 0) (N := some 9) (v := ?_) (a' := ?_) #[true, false, false, false, false, false] rfl rfl (by kernel_rfl) (fun _ _ _ h => h) (Or.inl ⟨by rfl, ?_⟩) ?_ ?_
 rotate_left
 ·
  intro w'
  go_simp
  with_reducible rfl
 rotate_left
 ·
  exact pz
 refine pure_ (i := 2) (N := some 11) (v := ?_) (a' := ?_) #[true, false, true, false, false, false] rfl rfl (by kernel_rfl) (fun _ _ _ h => h) (Or.inl ⟨by rfl, ?_⟩) ?_ ?_
 rotate_left
 ·
  intro w'
  go_simp
  with_reducible rfl
 rotate_left
 ·
  exact pz
 refine take_ (i := 3) (N := some 12) (v := ?_) (a' := ?_) #[true, false, true, true, false, false] rfl rfl (by kernel_rfl) (fun _ _ _ h => h) (Or.inl ⟨by rfl, ?_⟩) hHeld ?_ ?_
 rotate_left
 ·
  rintro w' ⟨s0, s1⟩
  go_simp
  with_reducible rfl
 rotate_left
 ·
  exact pz
 refine one_ (i := 1) (N := some 10) #[true, true, true, true, false, false] rfl rfl (by kernel_rfl) (by decide) (fun K hK => ?_)
 refine goes_ Tryd.func90 (by kernel_rfl) rfl #[.int .i64 a0] (by rfl) rfl rfl (by (try simp only [List.map_toArray, List.map_cons, List.map_nil]); first | done | rfl | (simp only [List.length_drop, List.length_take]; rfl) | (simp [Act.eval, Hd.wrap_u8]; done)) ?_
 with_reducible refine (r_of.calls k a0 t318 _ A4.out).mono ?_
 rintro e w47 ⟨v319, rfl, ho0, hb⟩
 refine ⟨_, rfl, ?_⟩
 have n0_ := am (Kd.R_lower ho0 (below_size (lk HB)))
 have n1_ := bb BK317 hb
 have n2_ := lb HB hb
 clear BK317
 clear HB
 have HO320 := n0_
 have BK317 := n1_
 have HB := n2_
 clear n0_ n1_ n2_
 (try clear hb)
 (try clear hb2)
 (try clear hk)
 (try clear hi)
 (try clear ho0)
 refine hK.out _ _ ⟨(blk_cell BK317.out 0).trans rfl, (blk_cell BK317.out 1).trans rfl⟩ (fun hHeld => ?_)
 clear hK K
 refine norm_ (a' := ?_) ?_ ?_
 rotate_left
 ·
  show Act.put _ (some 10) _ = _
  exact pz
 refine pure_ (i := 4) (N := some 7) (v := ?_) (a' := ?_) #[true, true, true, true, true, false] rfl rfl (by kernel_rfl) (fun _ _ _ h => h) (Or.inl ⟨by rfl, ?_⟩) ?_ ?_
 rotate_left
 ·
  intro w'
  go_simp
  with_reducible rfl
 rotate_left
 ·
  exact pz
 refine pure_ (i := 5) (N := some 8) (v := ?_) (a' := ?_) #[true, true, true, true, true, true] rfl rfl (by kernel_rfl) (fun _ _ _ h => h) (Or.inl ⟨by rfl, ?_⟩) ?_ ?_
 rotate_left
 ·
  intro w'
  go_simp
  with_reducible rfl
 rotate_left
 ·
  exact pz
 refine done_ (by kernel_rfl) ?_
 try go_wp2_with (first | (refine gL (some 21) Tryd.func91 #[.slice A2_0 l2_0.length c2_0, .int .i64 2, .int .i64 (wrap64 (-a1))] ?_; (with_reducible refine (r_power.calls k (fun k_ => k_ < w.heap.size) _ _ l2_0 2 (wrap64 (-a1)) t332 _ ?side1 A30.out).mono ?_); (case side1 => exact Kd.V_mk HC2_0.out (Kd.F_below (Kd.C_F (Kd.heap_int .i64) HR2_0.out) (lk HB))); rintro e w48 ⟨v333, rfl, ho0, hb⟩; refine ⟨_, rfl, ?_⟩; have HO334 := am (Kd.V_lower (Kd.V_mono (ok' := fun k_ => some k_ ≠ (v319 : Value).ownBlock ∧ k_ ≠ gb317) ho0 (fun k_ hk_ => ⟨Or.elim hk_ (fun hs_ => fun e_ => Nat.not_le.2 hs_ (Kd.R_base HO320.out k_ e_.symm)) (fun hn_ => (Kd.fresh' (Kd.R_lt (rk HO320)) k_ hn_)), Or.elim hk_ (fun hs_ => fun e_ => Nat.not_le.2 hs_ (by rw [e_]; exact GW317.out)) (fun hn_ => (Kd.freshB (bk BK317) k_ hn_))⟩)) (below_size (lk HB))); replace HO320 := am (Kd.R_below (rk HO320) hb); replace BK317 := bb BK317 hb; replace HB := lb HB hb; have hcz49_0 : w48.cell? ⟨gb317, 0, none⟩ = some (.slice A2_0 l2_0.length c2_0) := (blk_cell BK317.out 0).trans rfl; have hcz49_1 : w48.cell? ⟨gb317, 1, none⟩ = some (.int .i64 a2_1) := (blk_cell BK317.out 1).trans rfl; have hfz49_0 := blk_frozen BK317.out 0; have hfz49_1 := blk_frozen BK317.out 1; obtain ⟨Ao50, co50, eo50⟩ := Kd.R_slice HO320.out; subst eo50) | (refine gL (some 33) Tryd.func91 #[.slice Ao50 t318.length co50, .int .i64 10, .int .i64 (wrap64 (-a2_1))] ?_; (with_reducible refine (r_power.calls k (fun k_ => some k_ = (.slice Ao50 t318.length co50 : Value).ownBlock) _ _ t318 10 (wrap64 (-a2_1)) t339 _ ?side1 A43.out).mono ?_); (case side1 => exact Kd.R_V (Kd.R_tight rfl (Kd.R_types (HO320.out) BK317.out (by decide)))); rintro e w51 ⟨v340, rfl, ho0, hb⟩; refine ⟨_, rfl, ?_⟩; replace HO334 := vb HO334 hb; have HO341 := am (Kd.V_lower (Kd.V_mono (ok' := fun k_ => k_ ≠ gb317) ho0 (fun k_ hk_ => Or.elim hk_ (fun hs_ => ((Kd.R_types (HO320.out) BK317.out (by decide)).1 k_ hs_.symm).2) (fun hn_ => (Kd.freshB (bk BK317) k_ hn_)))) (below_size (lk HB))); replace HO320 := am (Kd.R_below (rk HO320) hb); replace BK317 := bb BK317 hb; replace HB := lb HB hb; obtain ⟨Ao52, co52, eo52⟩ := Kd.V_slice HO341.out; subst eo52; obtain ⟨Ao53, co53, eo53⟩ := Kd.V_slice HO334.out; subst eo53) | (refine gL (some 36) Tryd.func92 #[.slice Ao52 t339.length co52, .slice Ao53 t332.length co53] ?_; (with_reducible refine (r_cmp.calls k _ _ t339 _ _ t332 t342 _ ?side1 ?side2 ?side3 ?side4 A44.out).mono ?_); (case side1 => exact ck (Kd.V_reads' HO341.out).2.2); (case side2 => exact (Kd.V_reads' HO341.out).2.1); (case side3 => exact ck (Kd.V_reads' HO334.out).2.2); (case side4 => exact (Kd.V_reads' HO334.out).2.1); rintro e w' ⟨rfl, ⟨nd, rfl⟩⟩; refine ⟨_, rfl, ?_⟩))
 go_ret
 exact ex (lk HB)
mutual
def r_nearest.j0 : Nat → Int → Bool → List Int → Int → Option (Int)
 | 0, _, _, _, _ => none
 | k + 1, x1, x23, x635q0, x635q1 => if x23 = true then (some 0) else (if (wrap64 (x1 + x635q1)) > 320 then (some 9218868437227405312) else (r_nearest.l0 k 0 9218868437227405312 x635q0 x635q1))
def r_nearest.l0 : Nat → Int → Int → List Int → Int → Option (Int)
 | 0, _, _, _, _ => none
 | k + 1, x5, x6, x635q0, x635q1 => if (IntKind.u64.wrap (x6 - x5)) > 1 then ((r_parts.f (IntKind.u64.wrap (x5 + (IntKind.u64.wrap (Int.tdiv (IntKind.u64.wrap (x6 - x5)) 2))))).bind fun bt635 => ((r_below.f k bt635.1 bt635.2 x635q0 x635q1).bind fun t637 => (if t637 ≤ 0 then (r_nearest.l0 k (IntKind.u64.wrap (x5 + (IntKind.u64.wrap (Int.tdiv (IntKind.u64.wrap (x6 - x5)) 2)))) x6 x635q0 x635q1) else (r_nearest.l0 k x5 (IntKind.u64.wrap (x5 + (IntKind.u64.wrap (Int.tdiv (IntKind.u64.wrap (x6 - x5)) 2)))) x635q0 x635q1)))) else ((r_parts.f x5).bind fun bt638 => ((r_below.f k (wrap64 ((wrap64 (2 * bt638.1)) + 1)) (wrap64 (bt638.2 - 1)) x635q0 x635q1).bind fun t640 => (if t640 < 0 then (some (IntKind.u64.wrap (x5 + 1))) else (if t640 = 0 then (if (Int.tmod x5 2) = 1 then (some (IntKind.u64.wrap (x5 + 1))) else (some x5)) else (some x5)))))
end
def r_nearest.f (k : Nat) (l0_0 : List Int) (a0_1 : Int) (a1 : Int) : Option (Int) := if (l0_0.length : Int) = 0 then (r_nearest.j0 k a1 true l0_0 a0_1) else (r_nearest.j0 k a1 (decide ((wrap64 (a1 + a0_1)) < (-340))) l0_0 a0_1)
theorem r_nearest.mono_l : ∀ k, (∀ y0 y1 y2 y3, LeO (r_nearest.j0 k y0 y1 y2 y3) (r_nearest.j0 (k + 1) y0 y1 y2 y3)) ∧ (∀ y0 y1 y2 y3, LeO (r_nearest.l0 k y0 y1 y2 y3) (r_nearest.l0 (k + 1) y0 y1 y2 y3))
 | 0 => ⟨fun _ _ _ _ r h => by simp [r_nearest.j0] at h, fun _ _ _ _ r h => by simp [r_nearest.l0] at h⟩
 | k + 1 => by
  obtain ⟨ih0, ih1⟩ := r_nearest.mono_l k
  refine ⟨?_, ?_⟩ <;> intros <;> (first | unfold r_nearest.j0 | unfold r_nearest.l0) <;> repeat' (with_reducible first | apply ih0 | apply ih1 | apply r_below.mono | apply LeO.refl | apply LeO.none | apply LeO.ite | refine LeO.bind ?_ (fun _ => ?_))
theorem r_nearest.mono : ∀ a0 a1 a2 k, LeO (r_nearest.f k a0 a1 a2) (r_nearest.f (k + 1) a0 a1 a2) := by
 intro a0 a1 a2 k
 obtain ⟨ih0, ih1⟩ := r_nearest.mono_l k
 unfold r_nearest.f
 repeat' (with_reducible first | apply ih0 | apply ih1 | apply r_below.mono | apply LeO.refl | apply LeO.none | apply LeO.ite | refine LeO.bind ?_ (fun _ => ?_))
set_option maxHeartbeats 8000000 in
theorem r_nearest.calls (k : Nat) (A0_0 : Option Addr) (c0_0 : Nat) (l0_0 : List Int) (a0_1 : Int) (a1 : Int) (r : Int) (w : World) (hr0_0 : Kd.C (Kd.int .i64) w A0_0 l0_0.length l0_0) (hc0_0 : l0_0.length ≤ c0_0) (h : r_nearest.f k l0_0 a0_1 a1 = some r) :
  Calls Tryd.prog 73 #[.agg #[.slice A0_0 l0_0.length c0_0, .int .i64 a0_1], .int .i64 a1] w fun e w' => e = .returned (.int .u64 r) ∧ Below w.heap.size w w' := by
 have hu72 := Tryd.underlying72
 have HR0_0 := am hr0_0
 have HC0_0 := am hc0_0
 clear hr0_0 hc0_0
 have HB := am (Below.refl w.heap.size w)
 have H : (if (l0_0.length : Int) = 0 then (r_nearest.j0 k a1 true l0_0 a0_1) else (r_nearest.j0 k a1 (decide ((wrap64 (a1 + a0_1)) < (-340))) l0_0 a0_1)) = some r := h
 clear h
 have HC3 := am H
 clear H
 go_enter Tryd.func73, Tryd.ntmps73
 go_upto_region 1 with (first | ((with_reducible refine gate_dst (N := 2) rfl ?_); refine box_event ?hg (N := 2) ?hd (cs := #[.slice A0_0 l0_0.length c0_0, .int .i64 a0_1]) (t := 72) ?hr ?_; (case hd => rfl); (case hg => rfl); (case hr => first | (go_simp; done) | (go_simp; rfl)); intro gb634 hg w4 hbox hb; have BK634 := am (hbox); have GW634 := am ((by rw [hg]; exact (below_size (lk HB)) : w.heap.size ≤ gb634)); have GE634 := GW634; replace HB := lb HB hb; clear hb hbox hg))
 (try simp only [Act.put, List.setIfInBounds_toArray, List.set_cons_zero, List.set_cons_succ])
 go_cut [23] (fun v23 wc => ∃ (kq : Nat) (x23_2 : Bool), v23 = .bool x23_2 ∧ Aside0 (r_nearest.j0 kq a1 x23_2 l0_0 a0_1 = some r) ∧ Aside0 (kq ≤ k) ∧ Aside0 (wc.heap[gb634]? = some (.cells #[(.slice A0_0 l0_0.length c0_0), .int .i64 a0_1] 72 (0, 0))) ∧ Aside0 (Below w.heap.size w wc))
 case first =>
  have H := HC3.out
  clear HC3
  by_cases c5 : (l0_0.length : Int) = 0
  ·
   rw [if_pos c5] at H
   have c5b0 : ((l0_0.length : Int) == 0) = true := beq_iff_eq.mpr c5
   have c5b1 : ((l0_0.length : Int) != 0) = false := bne_eq_false_iff_eq.mpr c5
   clear c5
   (first | rw [c5b0] | (simp only [i64_w, i32_w]; rw [c5b0]) | skip)
   have H' := am H
   clear H
   have hcz6_0 : w4.cell? ⟨gb634, 0, none⟩ = some (.slice A0_0 l0_0.length c0_0) := (blk_cell BK634.out 0).trans rfl
   have hcz6_1 : w4.cell? ⟨gb634, 1, none⟩ = some (.int .i64 a0_1) := (blk_cell BK634.out 1).trans rfl
   have hfz6_0 := blk_frozen BK634.out 0
   have hfz6_1 := blk_frozen BK634.out 1
   go_wp2
   go_meet
   case rel => exact ⟨_, (true), eqd, H', ol, ⟨bk BK634⟩, ⟨lk HB⟩⟩
  rw [if_neg c5] at H
  have c5b0 : ((l0_0.length : Int) == 0) = false := beq_eq_false_iff_ne.mpr c5
  have c5b1 : ((l0_0.length : Int) != 0) = true := bne_iff_ne.mpr c5
  have c5b2 : ¬ (l0_0 = []) := fun h_ => c5 (by rw [h_]; rfl)
  (first | rw [c5b0] | (simp only [i64_w, i32_w]; rw [c5b0]) | skip)
  have H' := am H
  clear H
  have hcz7_0 : w4.cell? ⟨gb634, 0, none⟩ = some (.slice A0_0 l0_0.length c0_0) := (blk_cell BK634.out 0).trans rfl
  have hcz7_1 : w4.cell? ⟨gb634, 1, none⟩ = some (.int .i64 a0_1) := (blk_cell BK634.out 1).trans rfl
  have hfz7_0 := blk_frozen BK634.out 0
  have hfz7_1 := blk_frozen BK634.out 1
  go_wp2
  go_meet
  case rel => exact ⟨_, (decide ((wrap64 (a1 + a0_1)) < (-340))), eqd, H', ol, ⟨bk BK634⟩, ⟨lk HB⟩⟩
 case rest =>
  clear HC3
  obtain ⟨kq, x23_2, rfl, HA, HJ2, BK634, HB⟩ := hcut
  cases kq with
  | zero => exact absurd HA.out (by simp [r_nearest.j0])
  | succ kj2 =>
   have H := HA.out
   clear HA
   simp only [r_nearest.j0] at H
   by_cases c8 : x23_2 = true
   ·
    subst c8
    rw [if_pos rfl] at H
    obtain rfl := Option.some.inj H
    go_wp2
    go_ret
    exact ex (lk HB)
   replace c8 := Bool.eq_false_iff.mpr c8
   subst c8
   rw [if_neg (show ¬ (false = true) by decide)] at H
   by_cases c9 : (wrap64 (a1 + a0_1)) > 320
   ·
    rw [if_pos c9] at H
    have c9b0 : decide (320 < (wrap64 (a1 + a0_1))) = true := dt c9
    clear c9
    obtain rfl := Option.some.inj H
    have hcz10_0 : wc.cell? ⟨gb634, 0, none⟩ = some (.slice A0_0 l0_0.length c0_0) := (blk_cell BK634.out 0).trans rfl
    have hcz10_1 : wc.cell? ⟨gb634, 1, none⟩ = some (.int .i64 a0_1) := (blk_cell BK634.out 1).trans rfl
    have hfz10_0 := blk_frozen BK634.out 0
    have hfz10_1 := blk_frozen BK634.out 1
    go_wp2
    go_ret
    exact ex (lk HB)
   rw [if_neg c9] at H
   have c9b0 : decide (320 < (wrap64 (a1 + a0_1))) = false := decide_eq_false c9
   clear c9
   have H' := am H
   clear H
   have hcz11_0 : wc.cell? ⟨gb634, 0, none⟩ = some (.slice A0_0 l0_0.length c0_0) := (blk_cell BK634.out 0).trans rfl
   have hcz11_1 : wc.cell? ⟨gb634, 1, none⟩ = some (.int .i64 a0_1) := (blk_cell BK634.out 1).trans rfl
   have hfz11_0 := blk_frozen BK634.out 0
   have hfz11_1 := blk_frozen BK634.out 1
   go_wp2
   go_loopg [5, 6] kj2 (fun kq v5 v6 w' => ∃ (x5_2 : Int) (x6_2 : Int), v5 = .int .u64 x5_2 ∧ v6 = .int .u64 x6_2 ∧ Aside0 (r_nearest.l0 kq x5_2 x6_2 l0_0 a0_1 = some r) ∧ Aside0 (kq ≤ kj2) ∧ Aside0 (w'.heap[gb634]? = some (.cells #[(.slice A0_0 l0_0.length c0_0), .int .i64 a0_1] 72 (0, 0))) ∧ Aside0 (Below w.heap.size w w'))
   case atStart => exact ⟨(0), (9218868437227405312), eqd, eqd, H', ⟨Nat.le_refl _⟩, ⟨bk BK634⟩, ⟨lk HB⟩⟩
   case round =>
    clear H'
    obtain ⟨x5_2, x6_2, rfl, rfl, HA, HK2, BK634, HB⟩ := hrel
    cases gk with
    | zero => exact absurd HA.out (by simp [r_nearest.l0])
    | succ k2 =>
     have H := HA.out
     clear HA
     simp only [r_nearest.l0] at H
     by_cases c12 : (IntKind.u64.wrap (x6_2 - x5_2)) > 1
     ·
      rw [if_pos c12] at H
      have c12b0 : decide (1 < (IntKind.u64.wrap (x6_2 - x5_2))) = true := dt c12
      clear c12
      replace H := bm H
      obtain ⟨⟨t635, t636⟩, A130, H⟩ := H
      replace H : ((r_below.f k2 t635 t636 l0_0 a0_1).bind fun t637 => (if t637 ≤ 0 then (r_nearest.l0 k2 (IntKind.u64.wrap (x5_2 + (IntKind.u64.wrap (Int.tdiv (IntKind.u64.wrap (x6_2 - x5_2)) 2)))) x6_2 l0_0 a0_1) else (r_nearest.l0 k2 x5_2 (IntKind.u64.wrap (x5_2 + (IntKind.u64.wrap (Int.tdiv (IntKind.u64.wrap (x6_2 - x5_2)) 2)))) l0_0 a0_1))) = some r := H
      have A13 := am A130
      clear A130
      replace H := bm H
      obtain ⟨t637, A140, H⟩ := H
      have A14 := am A140
      clear A140
      by_cases c15 : t637 ≤ 0
      ·
       rw [if_pos c15] at H
       have c15b0 := dt c15
       clear c15
       have H' := am H
       clear H
       go_wp2_with (first | (refine gL (some 41) Tryd.func88 #[.int .u64 (IntKind.u64.wrap (x5_2 + (IntKind.u64.wrap (Int.tdiv (IntKind.u64.wrap (x6_2 - x5_2)) 2))))] ?_; (with_reducible refine (r_parts.calls (IntKind.u64.wrap (x5_2 + (IntKind.u64.wrap (Int.tdiv (IntKind.u64.wrap (x6_2 - x5_2)) 2)))) t635 t636 _ A13.out).mono ?_); rintro e w' ⟨rfl, ⟨nd, rfl⟩⟩; refine ⟨_, rfl, ?_⟩; have hcz16_0 : wr.cell? ⟨gb634, 0, none⟩ = some (.slice A0_0 l0_0.length c0_0) := (blk_cell BK634.out 0).trans rfl; have hcz16_1 : wr.cell? ⟨gb634, 1, none⟩ = some (.int .i64 a0_1) := (blk_cell BK634.out 1).trans rfl; have hfz16_0 := blk_frozen BK634.out 0; have hfz16_1 := blk_frozen BK634.out 1) | (refine gL (some 47) Tryd.func89 #[.int .i64 t635, .int .i64 t636, .agg #[.slice A0_0 l0_0.length c0_0, .int .i64 a0_1]] ?_; (with_reducible refine (r_below.calls k2 t635 t636 _ _ l0_0 a0_1 t637 _ ?side1 ?side2 A14.out).mono ?_); (case side1 => repeat (first | exact (Kd.C_below HR0_0.out (lk HB)) | (with_reducible refine Kd.C_alloc ?_ _) | (with_reducible refine Kd.C_drewN ?_ _) | (with_reducible refine Kd.C_drew ?_))); (case side2 => exact HC0_0.out); rintro e w17 ⟨rfl, hb⟩; refine ⟨_, rfl, ?_⟩; replace BK634 := bb BK634 hb; replace HB := lb HB hb))
       go_roundg k2
       case measure => have := HJ2.out; have := HK2.out; omega
       case rel => exact ⟨(IntKind.u64.wrap (x5_2 + (IntKind.u64.wrap (Int.tdiv (IntKind.u64.wrap (x6_2 - x5_2)) 2)))), (x6_2), eqd, eqd, H', ⟨by have := HJ2.out; have := HK2.out; omega⟩, ⟨bk BK634⟩, ⟨lk HB⟩⟩
      rw [if_neg c15] at H
      have c15b0 := decide_eq_false c15
      clear c15
      have H' := am H
      clear H
      go_wp2_with (first | (refine gL (some 41) Tryd.func88 #[.int .u64 (IntKind.u64.wrap (x5_2 + (IntKind.u64.wrap (Int.tdiv (IntKind.u64.wrap (x6_2 - x5_2)) 2))))] ?_; (with_reducible refine (r_parts.calls (IntKind.u64.wrap (x5_2 + (IntKind.u64.wrap (Int.tdiv (IntKind.u64.wrap (x6_2 - x5_2)) 2)))) t635 t636 _ A13.out).mono ?_); rintro e w' ⟨rfl, ⟨nd, rfl⟩⟩; refine ⟨_, rfl, ?_⟩; have hcz18_0 : wr.cell? ⟨gb634, 0, none⟩ = some (.slice A0_0 l0_0.length c0_0) := (blk_cell BK634.out 0).trans rfl; have hcz18_1 : wr.cell? ⟨gb634, 1, none⟩ = some (.int .i64 a0_1) := (blk_cell BK634.out 1).trans rfl; have hfz18_0 := blk_frozen BK634.out 0; have hfz18_1 := blk_frozen BK634.out 1) | (refine gL (some 47) Tryd.func89 #[.int .i64 t635, .int .i64 t636, .agg #[.slice A0_0 l0_0.length c0_0, .int .i64 a0_1]] ?_; (with_reducible refine (r_below.calls k2 t635 t636 _ _ l0_0 a0_1 t637 _ ?side1 ?side2 A14.out).mono ?_); (case side1 => repeat (first | exact (Kd.C_below HR0_0.out (lk HB)) | (with_reducible refine Kd.C_alloc ?_ _) | (with_reducible refine Kd.C_drewN ?_ _) | (with_reducible refine Kd.C_drew ?_))); (case side2 => exact HC0_0.out); rintro e w19 ⟨rfl, hb⟩; refine ⟨_, rfl, ?_⟩; replace BK634 := bb BK634 hb; replace HB := lb HB hb))
      go_roundg k2
      case measure => have := HJ2.out; have := HK2.out; omega
      case rel => exact ⟨(x5_2), (IntKind.u64.wrap (x5_2 + (IntKind.u64.wrap (Int.tdiv (IntKind.u64.wrap (x6_2 - x5_2)) 2)))), eqd, eqd, H', ⟨by have := HJ2.out; have := HK2.out; omega⟩, ⟨bk BK634⟩, ⟨lk HB⟩⟩
     rw [if_neg c12] at H
     have c12b0 : decide (1 < (IntKind.u64.wrap (x6_2 - x5_2))) = false := decide_eq_false c12
     clear c12
     replace H := bm H
     obtain ⟨⟨t638, t639⟩, A200, H⟩ := H
     replace H : ((r_below.f k2 (wrap64 ((wrap64 (2 * t638)) + 1)) (wrap64 (t639 - 1)) l0_0 a0_1).bind fun t640 => (if t640 < 0 then (some (IntKind.u64.wrap (x5_2 + 1))) else (if t640 = 0 then (if (Int.tmod x5_2 2) = 1 then (some (IntKind.u64.wrap (x5_2 + 1))) else (some x5_2)) else (some x5_2)))) = some r := H
     have A20 := am A200
     clear A200
     replace H := bm H
     obtain ⟨t640, A210, H⟩ := H
     have A21 := am A210
     clear A210
     by_cases c22 : t640 < 0
     ·
      rw [if_pos c22] at H
      have c22b0 := dt c22
      clear c22
      obtain rfl := Option.some.inj H
      go_wp2_with (first | (refine gL (some 53) Tryd.func88 #[.int .u64 x5_2] ?_; (with_reducible refine (r_parts.calls x5_2 t638 t639 _ A20.out).mono ?_); rintro e w' ⟨rfl, ⟨nd, rfl⟩⟩; refine ⟨_, rfl, ?_⟩; have hcz23_0 : wr.cell? ⟨gb634, 0, none⟩ = some (.slice A0_0 l0_0.length c0_0) := (blk_cell BK634.out 0).trans rfl; have hcz23_1 : wr.cell? ⟨gb634, 1, none⟩ = some (.int .i64 a0_1) := (blk_cell BK634.out 1).trans rfl; have hfz23_0 := blk_frozen BK634.out 0; have hfz23_1 := blk_frozen BK634.out 1) | (refine gL (some 62) Tryd.func89 #[.int .i64 (wrap64 ((wrap64 (2 * t638)) + 1)), .int .i64 (wrap64 (t639 - 1)), .agg #[.slice A0_0 l0_0.length c0_0, .int .i64 a0_1]] ?_; (with_reducible refine (r_below.calls k2 (wrap64 ((wrap64 (2 * t638)) + 1)) (wrap64 (t639 - 1)) _ _ l0_0 a0_1 t640 _ ?side1 ?side2 A21.out).mono ?_); (case side1 => repeat (first | exact (Kd.C_below HR0_0.out (lk HB)) | (with_reducible refine Kd.C_alloc ?_ _) | (with_reducible refine Kd.C_drewN ?_ _) | (with_reducible refine Kd.C_drew ?_))); (case side2 => exact HC0_0.out); rintro e w24 ⟨rfl, hb⟩; refine ⟨_, rfl, ?_⟩; replace BK634 := bb BK634 hb; replace HB := lb HB hb))
      go_ret
      exact ex (lk HB)
     rw [if_neg c22] at H
     have c22b0 := decide_eq_false c22
     clear c22
     by_cases c25 : t640 = 0
     ·
      rw [if_pos c25] at H
      have c25b0 : (t640 == 0) = true := beq_iff_eq.mpr c25
      have c25b1 : (t640 != 0) = false := bne_eq_false_iff_eq.mpr c25
      clear c25
      by_cases c26 : (Int.tmod x5_2 2) = 1
      ·
       rw [if_pos c26] at H
       have c26b0 : ((Int.tmod x5_2 2) == 1) = true := beq_iff_eq.mpr c26
       have c26b1 : ((Int.tmod x5_2 2) != 1) = false := bne_eq_false_iff_eq.mpr c26
       clear c26
       obtain rfl := Option.some.inj H
       go_wp2_with (first | (refine gL (some 53) Tryd.func88 #[.int .u64 x5_2] ?_; (with_reducible refine (r_parts.calls x5_2 t638 t639 _ A20.out).mono ?_); rintro e w' ⟨rfl, ⟨nd, rfl⟩⟩; refine ⟨_, rfl, ?_⟩; have hcz27_0 : wr.cell? ⟨gb634, 0, none⟩ = some (.slice A0_0 l0_0.length c0_0) := (blk_cell BK634.out 0).trans rfl; have hcz27_1 : wr.cell? ⟨gb634, 1, none⟩ = some (.int .i64 a0_1) := (blk_cell BK634.out 1).trans rfl; have hfz27_0 := blk_frozen BK634.out 0; have hfz27_1 := blk_frozen BK634.out 1) | (refine gL (some 62) Tryd.func89 #[.int .i64 (wrap64 ((wrap64 (2 * t638)) + 1)), .int .i64 (wrap64 (t639 - 1)), .agg #[.slice A0_0 l0_0.length c0_0, .int .i64 a0_1]] ?_; (with_reducible refine (r_below.calls k2 (wrap64 ((wrap64 (2 * t638)) + 1)) (wrap64 (t639 - 1)) _ _ l0_0 a0_1 t640 _ ?side1 ?side2 A21.out).mono ?_); (case side1 => repeat (first | exact (Kd.C_below HR0_0.out (lk HB)) | (with_reducible refine Kd.C_alloc ?_ _) | (with_reducible refine Kd.C_drewN ?_ _) | (with_reducible refine Kd.C_drew ?_))); (case side2 => exact HC0_0.out); rintro e w28 ⟨rfl, hb⟩; refine ⟨_, rfl, ?_⟩; replace BK634 := bb BK634 hb; replace HB := lb HB hb))
       go_ret
       exact ex (lk HB)
      rw [if_neg c26] at H
      have c26b0 : ((Int.tmod x5_2 2) == 1) = false := beq_eq_false_iff_ne.mpr c26
      have c26b1 : ((Int.tmod x5_2 2) != 1) = true := bne_iff_ne.mpr c26
      obtain rfl := Option.some.inj H
      go_wp2_with (first | (refine gL (some 53) Tryd.func88 #[.int .u64 x5_2] ?_; (with_reducible refine (r_parts.calls x5_2 t638 t639 _ A20.out).mono ?_); rintro e w' ⟨rfl, ⟨nd, rfl⟩⟩; refine ⟨_, rfl, ?_⟩; have hcz29_0 : wr.cell? ⟨gb634, 0, none⟩ = some (.slice A0_0 l0_0.length c0_0) := (blk_cell BK634.out 0).trans rfl; have hcz29_1 : wr.cell? ⟨gb634, 1, none⟩ = some (.int .i64 a0_1) := (blk_cell BK634.out 1).trans rfl; have hfz29_0 := blk_frozen BK634.out 0; have hfz29_1 := blk_frozen BK634.out 1) | (refine gL (some 62) Tryd.func89 #[.int .i64 (wrap64 ((wrap64 (2 * t638)) + 1)), .int .i64 (wrap64 (t639 - 1)), .agg #[.slice A0_0 l0_0.length c0_0, .int .i64 a0_1]] ?_; (with_reducible refine (r_below.calls k2 (wrap64 ((wrap64 (2 * t638)) + 1)) (wrap64 (t639 - 1)) _ _ l0_0 a0_1 t640 _ ?side1 ?side2 A21.out).mono ?_); (case side1 => repeat (first | exact (Kd.C_below HR0_0.out (lk HB)) | (with_reducible refine Kd.C_alloc ?_ _) | (with_reducible refine Kd.C_drewN ?_ _) | (with_reducible refine Kd.C_drew ?_))); (case side2 => exact HC0_0.out); rintro e w30 ⟨rfl, hb⟩; refine ⟨_, rfl, ?_⟩; replace BK634 := bb BK634 hb; replace HB := lb HB hb))
      go_ret
      exact ex (lk HB)
     rw [if_neg c25] at H
     have c25b0 : (t640 == 0) = false := beq_eq_false_iff_ne.mpr c25
     have c25b1 : (t640 != 0) = true := bne_iff_ne.mpr c25
     obtain rfl := Option.some.inj H
     go_wp2_with (first | (refine gL (some 53) Tryd.func88 #[.int .u64 x5_2] ?_; (with_reducible refine (r_parts.calls x5_2 t638 t639 _ A20.out).mono ?_); rintro e w' ⟨rfl, ⟨nd, rfl⟩⟩; refine ⟨_, rfl, ?_⟩; have hcz31_0 : wr.cell? ⟨gb634, 0, none⟩ = some (.slice A0_0 l0_0.length c0_0) := (blk_cell BK634.out 0).trans rfl; have hcz31_1 : wr.cell? ⟨gb634, 1, none⟩ = some (.int .i64 a0_1) := (blk_cell BK634.out 1).trans rfl; have hfz31_0 := blk_frozen BK634.out 0; have hfz31_1 := blk_frozen BK634.out 1) | (refine gL (some 62) Tryd.func89 #[.int .i64 (wrap64 ((wrap64 (2 * t638)) + 1)), .int .i64 (wrap64 (t639 - 1)), .agg #[.slice A0_0 l0_0.length c0_0, .int .i64 a0_1]] ?_; (with_reducible refine (r_below.calls k2 (wrap64 ((wrap64 (2 * t638)) + 1)) (wrap64 (t639 - 1)) _ _ l0_0 a0_1 t640 _ ?side1 ?side2 A21.out).mono ?_); (case side1 => repeat (first | exact (Kd.C_below HR0_0.out (lk HB)) | (with_reducible refine Kd.C_alloc ?_ _) | (with_reducible refine Kd.C_drewN ?_ _) | (with_reducible refine Kd.C_drew ?_))); (case side2 => exact HC0_0.out); rintro e w32 ⟨rfl, hb⟩; refine ⟨_, rfl, ?_⟩; replace BK634 := bb BK634 hb; replace HB := lb HB hb))
     go_ret
     exact ex (lk HB)
def num_digit.f (a0 : Int) : Option (Bool) := if a0 ≥ 48 then (some (decide (a0 ≤ 57))) else (some false)
set_option maxHeartbeats 8000000 in
theorem num_digit.calls (a0 : Int) (r : Bool) (w : World) (h : num_digit.f a0 = some r) :
  Calls Tryd.prog 104 #[.int .u8 a0] w fun e w' => e = .returned (.bool r) ∧ Drawn0 w w' := by
 have H : (if a0 ≥ 48 then (some (decide (a0 ≤ 57))) else (some false)) = some r := h
 clear h
 by_cases c2 : a0 ≥ 48
 ·
  rw [if_pos c2] at H
  have c2b0 : decide (48 ≤ a0) = true := dt c2
  clear c2
  obtain rfl := Option.some.inj H
  go_enter Tryd.func104, Tryd.ntmps104
  go_wp2
  go_ret
  exact ⟨by first | rfl | (simp; done) | (simp [*]; done), by repeat (first | exact Drawn0.refl _ | apply Drawn0.step)⟩
 rw [if_neg c2] at H
 have c2b0 : decide (48 ≤ a0) = false := decide_eq_false c2
 clear c2
 obtain rfl := Option.some.inj H
 go_enter Tryd.func104, Tryd.ntmps104
 go_wp2
 go_ret
 exact ⟨by first | rfl | (simp; done) | (simp [*]; done), by repeat (first | exact Drawn0.refl _ | apply Drawn0.step)⟩
def num_run.l0 : Nat → ByteArray → Int → Option (Int)
 | 0, _, _ => none
 | k + 1, x0, x3 => if x3 < (x0.size : Int) then (if 0 ≤ x3 then ((num_digit.f (bt x0 x3)).bind fun t549 => (if t549 = true then (num_run.l0 k x0 (wrap64 (x3 + 1))) else (some x3))) else (none)) else (some x3)
def num_run.f (k : Nat) (a0 : ByteArray) : Option (Int) := num_run.l0 k a0 0
theorem num_run.mono_l : ∀ k, (∀ y0 y1, LeO (num_run.l0 k y0 y1) (num_run.l0 (k + 1) y0 y1))
 | 0 => fun _ _ r h => by simp [num_run.l0] at h
 | k + 1 => by
  have ih0 := num_run.mono_l k
  ·
   intro y0 y1
   unfold num_run.l0
   repeat' (with_reducible first | apply ih0 | apply LeO.refl | apply LeO.none | apply LeO.ite | refine LeO.bind ?_ (fun _ => ?_))
theorem num_run.mono : ∀ a0 k, LeO (num_run.f k a0) (num_run.f (k + 1) a0) := by
 intro a0 k
 have ih0 := num_run.mono_l k
 unfold num_run.f
 repeat' (with_reducible first | apply ih0 | apply LeO.refl | apply LeO.none | apply LeO.ite | refine LeO.bind ?_ (fun _ => ?_))
set_option maxHeartbeats 8000000 in
theorem num_run.calls (k : Nat) (a0 : ByteArray) (r : Int) (w : World) (h : num_run.f k a0 = some r) :
  Calls Tryd.prog 76 #[.string a0] w fun e w' => e = .returned (.int .i64 r) ∧ Drawn0 w w' := by
 have H : (num_run.l0 k a0 0) = some r := h
 clear h
 have H' := am H
 clear H
 go_enter Tryd.func76, Tryd.ntmps76
 go_wp2
 go_loopg [3] k (fun kq v3 w' => ∃ (x3_1 : Int), v3 = .int .i64 x3_1 ∧ Aside0 (num_run.l0 kq a0 x3_1 = some r) ∧ Aside0 (kq ≤ k) ∧ Drawn0 w w')
 case atStart => exact ⟨(0), eqd, H', ⟨Nat.le_refl _⟩, by repeat (first | exact Drawn0.refl _ | apply Drawn0.step)⟩
 case round =>
  clear H'
  obtain ⟨x3_1, rfl, HA, HK1, ⟨m1, rfl⟩⟩ := hrel
  cases gk with
  | zero => exact absurd HA.out (by simp [num_run.l0])
  | succ k1 =>
   have H := HA.out
   clear HA
   simp only [num_run.l0] at H
   by_cases c2 : x3_1 < (a0.size : Int)
   ·
    rw [if_pos c2] at H
    have c2b0 := dt c2
    clear c2
    by_cases c3 : 0 ≤ x3_1
    ·
     rw [if_pos c3] at H
     have c3b0 := dt c3
     clear c3
     replace H := bm H
     obtain ⟨t549, A50, H⟩ := H
     have A5 := am A50
     clear A50
     by_cases c6 : t549 = true
     ·
      subst c6
      rw [if_pos rfl] at H
      have H' := am H
      clear H
      have p4 : 0 ≤ (x3_1 : Int) := od
      have q4 : x3_1 < (a0.size : Int) := od
      have hx4 := bt_at a0 x3_1
      replace p4 := eq_true p4
      replace q4 := eq_true q4
      go_wp2_with (first | (go_at_call 104; (with_reducible refine (num_digit.calls (bt a0 x3_1) true _ A5.out).mono ?_); rintro e w' ⟨rfl, ⟨nd, rfl⟩⟩))
      go_roundg k1
      case measure => have := HK1.out; omega
      case rel => exact ⟨(wrap64 (x3_1 + 1)), eqd, H', ⟨by have := HK1.out; omega⟩, by repeat (first | exact Drawn0.refl _ | apply Drawn0.step)⟩
     replace c6 := Bool.eq_false_iff.mpr c6
     subst c6
     rw [if_neg (show ¬ (false = true) by decide)] at H
     obtain rfl := Option.some.inj H
     have p4 : 0 ≤ (x3_1 : Int) := od
     have q4 : x3_1 < (a0.size : Int) := od
     have hx4 := bt_at a0 x3_1
     replace p4 := eq_true p4
     replace q4 := eq_true q4
     go_wp2_with (first | (go_at_call 104; (with_reducible refine (num_digit.calls (bt a0 x3_1) false _ A5.out).mono ?_); rintro e w' ⟨rfl, ⟨nd, rfl⟩⟩))
     go_ret
     exact ⟨by first | rfl | (simp; done) | (simp [*]; done), by repeat (first | exact Drawn0.refl _ | apply Drawn0.step)⟩
    rw [if_neg c3] at H
    exact absurd H (by simp)
   rw [if_neg c2] at H
   have c2b0 := decide_eq_false c2
   clear c2
   obtain rfl := Option.some.inj H
   go_wp2
   go_ret
   exact ⟨by first | rfl | (simp; done) | (simp [*]; done), by repeat (first | exact Drawn0.refl _ | apply Drawn0.step)⟩
def r_digit.f (a0 : Int) : Option (Bool) := if a0 ≥ 48 then (some (decide (a0 ≤ 57))) else (some false)
set_option maxHeartbeats 8000000 in
theorem r_digit.calls (a0 : Int) (r : Bool) (w : World) (h : r_digit.f a0 = some r) :
  Calls Tryd.prog 71 #[.int .u8 a0] w fun e w' => e = .returned (.bool r) ∧ Drawn0 w w' := by
 have H : (if a0 ≥ 48 then (some (decide (a0 ≤ 57))) else (some false)) = some r := h
 clear h
 by_cases c2 : a0 ≥ 48
 ·
  rw [if_pos c2] at H
  have c2b0 : decide (48 ≤ a0) = true := dt c2
  clear c2
  obtain rfl := Option.some.inj H
  go_enter Tryd.func71, Tryd.ntmps71
  go_wp2
  go_ret
  exact ⟨by first | rfl | (simp; done) | (simp [*]; done), by repeat (first | exact Drawn0.refl _ | apply Drawn0.step)⟩
 rw [if_neg c2] at H
 have c2b0 : decide (48 ≤ a0) = false := decide_eq_false c2
 clear c2
 obtain rfl := Option.some.inj H
 go_enter Tryd.func71, Tryd.ntmps71
 go_wp2
 go_ret
 exact ⟨by first | rfl | (simp; done) | (simp [*]; done), by repeat (first | exact Drawn0.refl _ | apply Drawn0.step)⟩
def stringslite_HasPrefix.f (a0 : ByteArray) (a1 : ByteArray) : Option (Bool) := if (a0.size : Int) ≥ (a1.size : Int) then (if 0 ≤ (a1.size : Int) then (if (a1.size : Int) ≤ (a0.size : Int) then (some ((a0.extract 0 ((a1.size : Int) : Int).toNat).toList == a1.toList)) else (none)) else (none)) else (some false)
set_option maxHeartbeats 8000000 in
theorem stringslite_HasPrefix.calls (a0 : ByteArray) (a1 : ByteArray) (r : Bool) (w : World) (h : stringslite_HasPrefix.f a0 a1 = some r) :
  Calls Tryd.prog 113 #[.string a0, .string a1] w fun e w' => e = .returned (.bool r) ∧ Drawn0 w w' := by
 have H : (if (a0.size : Int) ≥ (a1.size : Int) then (if 0 ≤ (a1.size : Int) then (if (a1.size : Int) ≤ (a0.size : Int) then (some ((a0.extract 0 ((a1.size : Int) : Int).toNat).toList == a1.toList)) else (none)) else (none)) else (some false)) = some r := h
 clear h
 by_cases c3 : (a0.size : Int) ≥ (a1.size : Int)
 ·
  rw [if_pos c3] at H
  have c3b0 : decide ((a1.size : Int) ≤ (a0.size : Int)) = true := dt c3
  have c3b1 : decide (a1.size ≤ a0.size) = true := dt (Int.ofNat_le.mp c3)
  clear c3
  by_cases c4 : 0 ≤ (a1.size : Int)
  ·
   rw [if_pos c4] at H
   have c4b0 := eq_true c4
   have c4b1 := dt c4
   clear c4
   by_cases c5 : (a1.size : Int) ≤ (a0.size : Int)
   ·
    rw [if_pos c5] at H
    have c5b0 := eq_true c5
    have c5b1 := dt c5
    clear c5
    obtain ⟨y490, hy490⟩ : ∃ y_ : ByteArray, y_ = (a0.extract 0 ((a1.size : Int) : Int).toNat) := ⟨_, rfl⟩
    replace H : (some (y490.toList == a1.toList)) = some r := by first | (rw [hy490]; exact H) | exact H
    have Ny490 := am hy490
    clear hy490
    obtain rfl := Option.some.inj H
    have hcs6 := Hd.str_to (P := Tryd.prog) (k := .i64) Tryd.underlying9 (j := (a1.size : Int)) (s := a0) (y := y490) oo oo Ny490.out
    go_enter Tryd.func113, Tryd.ntmps113
    go_wp2
    go_ret
    exact ⟨by first | rfl | (simp; done) | (simp [*]; done), by repeat (first | exact Drawn0.refl _ | apply Drawn0.step)⟩
   rw [if_neg c5] at H
   exact absurd H (by simp)
  rw [if_neg c4] at H
  exact absurd H (by simp)
 rw [if_neg c3] at H
 have c3b0 : decide ((a1.size : Int) ≤ (a0.size : Int)) = false := decide_eq_false c3
 have c3b1 : decide (a1.size ≤ a0.size) = false := decide_eq_false (fun h => c3 (Int.ofNat_le.mpr h))
 clear c3
 obtain rfl := Option.some.inj H
 go_enter Tryd.func113, Tryd.ntmps113
 go_wp2
 go_ret
 exact ⟨by first | rfl | (simp; done) | (simp [*]; done), by repeat (first | exact Drawn0.refl _ | apply Drawn0.step)⟩
def strings_HasPrefix.f (a0 : ByteArray) (a1 : ByteArray) : Option (Bool) := (stringslite_HasPrefix.f a0 a1).bind fun t491 => (some t491)
set_option maxHeartbeats 8000000 in
theorem strings_HasPrefix.calls (a0 : ByteArray) (a1 : ByteArray) (r : Bool) (w : World) (h : strings_HasPrefix.f a0 a1 = some r) :
  Calls Tryd.prog 96 #[.string a0, .string a1] w fun e w' => e = .returned (.bool r) ∧ Drawn0 w w' := by
 have H : ((stringslite_HasPrefix.f a0 a1).bind fun t491 => (some t491)) = some r := h
 clear h
 replace H := bm H
 obtain ⟨t491, A30, H⟩ := H
 replace H : (some t491) = some r := H
 have A3 := am A30
 clear A30
 obtain rfl := Option.some.inj H
 go_enter Tryd.func96, Tryd.ntmps96
 go_wp2_with (first | (refine gL (some 7) Tryd.func113 #[.string a0, .string a1] ?_; (with_reducible refine (stringslite_HasPrefix.calls a0 a1 t491 _ A3.out).mono ?_); rintro e w' ⟨rfl, ⟨nd, rfl⟩⟩; refine ⟨_, rfl, ?_⟩))
 go_ret
 exact ⟨by first | rfl | (simp; done) | (simp [*]; done), by repeat (first | exact Drawn0.refl _ | apply Drawn0.step)⟩
def strings_trimLeftByte.l0 : Nat → ByteArray → Int → Option (ByteArray)
 | 0, _, _ => none
 | k + 1, x0, x1 => if (x0.size : Int) > 0 then (if 0 < (x0.size : Int) then (if (bt x0 0) = x1 then (if 1 ≤ (x0.size : Int) then (strings_trimLeftByte.l0 k (x0.extract 1 x0.size) x1) else (none)) else (some x0)) else (none)) else (some x0)
def strings_trimLeftByte.f (k : Nat) (a0 : ByteArray) (a1 : Int) : Option (ByteArray) := strings_trimLeftByte.l0 k a0 a1
theorem strings_trimLeftByte.mono_l : ∀ k, (∀ y0 y1, LeO (strings_trimLeftByte.l0 k y0 y1) (strings_trimLeftByte.l0 (k + 1) y0 y1))
 | 0 => fun _ _ r h => by simp [strings_trimLeftByte.l0] at h
 | k + 1 => by
  have ih0 := strings_trimLeftByte.mono_l k
  ·
   intro y0 y1
   unfold strings_trimLeftByte.l0
   repeat' (with_reducible first | apply ih0 | apply LeO.refl | apply LeO.none | apply LeO.ite | refine LeO.bind ?_ (fun _ => ?_))
theorem strings_trimLeftByte.mono : ∀ a0 a1 k, LeO (strings_trimLeftByte.f k a0 a1) (strings_trimLeftByte.f (k + 1) a0 a1) := by
 intro a0 a1 k
 have ih0 := strings_trimLeftByte.mono_l k
 unfold strings_trimLeftByte.f
 repeat' (with_reducible first | apply ih0 | apply LeO.refl | apply LeO.none | apply LeO.ite | refine LeO.bind ?_ (fun _ => ?_))
set_option maxHeartbeats 8000000 in
theorem strings_trimLeftByte.calls (k : Nat) (a0 : ByteArray) (a1 : Int) (r : ByteArray) (w : World) (h : strings_trimLeftByte.f k a0 a1 = some r) :
  Calls Tryd.prog 116 #[.string a0, .int .u8 a1] w fun e w' => e = .returned (.string r) ∧ Drawn0 w w' := by
 have H : (strings_trimLeftByte.l0 k a0 a1) = some r := h
 clear h
 have H' := am H
 clear H
 go_enter Tryd.func116, Tryd.ntmps116
 go_wp2
 go_loopg [0] k (fun kq v0 w' => ∃ (x0_1 : ByteArray), v0 = .string x0_1 ∧ Aside0 (strings_trimLeftByte.l0 kq x0_1 a1 = some r) ∧ Aside0 (kq ≤ k) ∧ Drawn0 w w')
 case atStart => exact ⟨(a0), eqd, H', ⟨Nat.le_refl _⟩, by repeat (first | exact Drawn0.refl _ | apply Drawn0.step)⟩
 case round =>
  clear H'
  obtain ⟨x0_1, rfl, HA, HK1, ⟨m1, rfl⟩⟩ := hrel
  cases gk with
  | zero => exact absurd HA.out (by simp [strings_trimLeftByte.l0])
  | succ k1 =>
   have H := HA.out
   clear HA
   simp only [strings_trimLeftByte.l0] at H
   by_cases c3 : (x0_1.size : Int) > 0
   ·
    rw [if_pos c3] at H
    have c3b0 : decide (0 < (x0_1.size : Int)) = true := dt c3
    have c3b1 : decide (0 < x0_1.size) = true := dt (by omega)
    clear c3
    by_cases c4 : 0 < (x0_1.size : Int)
    ·
     rw [if_pos c4] at H
     have c4b0 := dt c4
     have c4b1 : decide (0 < x0_1.size) = true := dt (by omega)
     clear c4
     by_cases c6 : (bt x0_1 0) = a1
     ·
      rw [if_pos c6] at H
      have c6b0 : ((bt x0_1 0) == a1) = true := beq_iff_eq.mpr c6
      have c6b1 : ((bt x0_1 0) != a1) = false := bne_eq_false_iff_eq.mpr c6
      clear c6
      by_cases c7 : 1 ≤ (x0_1.size : Int)
      ·
       rw [if_pos c7] at H
       have c7b0 := eq_true c7
       have c7b1 := dt c7
       clear c7
       obtain ⟨y550, hy550⟩ : ∃ y_ : ByteArray, y_ = (x0_1.extract 1 x0_1.size) := ⟨_, rfl⟩
       replace H : (strings_trimLeftByte.l0 k1 y550 a1) = some r := by first | (rw [hy550]; exact H) | exact H
       have Ny550 := am hy550
       clear hy550
       have H' := am H
       clear H
       have p5 : 0 ≤ (0 : Int) := (by omega)
       have q5 : 0 < x0_1.size := (by have : (0 : Int) < (x0_1.size : Int) := od; omega)
       have hx5 : ∀ h : 0 < x0_1.size, ((x0_1[0]'h).toNat : Int) = bt x0_1 0 := bt_at x0_1 0
       clear p5
       have qi5 : (0 < (x0_1.size : Int)) = True := eq_true (od)
       replace q5 := eq_true q5
       have hcs8 := Hd.str_from (P := Tryd.prog) (k := .i64) Tryd.underlying9 (i := 1) (s := x0_1) (y := y550) oo oo Ny550.out
       go_wp2
       go_roundg k1
       case measure => have := HK1.out; omega
       case rel => exact ⟨(y550), eqd, H', ⟨by have := HK1.out; omega⟩, by repeat (first | exact Drawn0.refl _ | apply Drawn0.step)⟩
      rw [if_neg c7] at H
      exact absurd H (by simp)
     rw [if_neg c6] at H
     have c6b0 : ((bt x0_1 0) == a1) = false := beq_eq_false_iff_ne.mpr c6
     have c6b1 : ((bt x0_1 0) != a1) = true := bne_iff_ne.mpr c6
     obtain rfl := Option.some.inj H
     have p5 : 0 ≤ (0 : Int) := (by omega)
     have q5 : 0 < x0_1.size := (by have : (0 : Int) < (x0_1.size : Int) := od; omega)
     have hx5 : ∀ h : 0 < x0_1.size, ((x0_1[0]'h).toNat : Int) = bt x0_1 0 := bt_at x0_1 0
     clear p5
     have qi5 : (0 < (x0_1.size : Int)) = True := eq_true (od)
     replace q5 := eq_true q5
     go_wp2
     go_ret
     exact ⟨by first | rfl | (simp; done) | (simp [*]; done), by repeat (first | exact Drawn0.refl _ | apply Drawn0.step)⟩
    rw [if_neg c4] at H
    exact absurd H (by simp)
   rw [if_neg c3] at H
   have c3b0 : decide (0 < (x0_1.size : Int)) = false := decide_eq_false c3
   have c3b1 : decide (0 < x0_1.size) = false := decide_eq_false (by omega)
   clear c3
   obtain rfl := Option.some.inj H
   go_wp2
   go_ret
   exact ⟨by first | rfl | (simp; done) | (simp [*]; done), by repeat (first | exact Drawn0.refl _ | apply Drawn0.step)⟩
mutual
def strings_TrimLeft.j0 : Nat → ByteArray → ByteArray → Bool → Option (ByteArray)
 | 0, _, _, _ => none
 | k + 1, x0, x1, x12 => if x12 = true then (some x0) else (if (x1.size : Int) = 1 then (if 0 < (x1.size : Int) then (strings_TrimLeft.j1 k x0 x1 (decide ((bt x1 0) < 128))) else (none)) else (strings_TrimLeft.j1 k x0 x1 false))
def strings_TrimLeft.j1 : Nat → ByteArray → ByteArray → Bool → Option (ByteArray)
 | 0, _, _, _ => none
 | k + 1, x0, x1, x21 => if x21 = true then (if 0 < (x1.size : Int) then ((strings_trimLeftByte.f k x0 (bt x1 0)).bind fun t551 => (some t551)) else (none)) else (none)
end
def strings_TrimLeft.f (k : Nat) (a0 : ByteArray) (a1 : ByteArray) : Option (ByteArray) := if a0.toList = ([] : List UInt8) then (strings_TrimLeft.j0 k a0 a1 true) else (strings_TrimLeft.j0 k a0 a1 (a1.toList == ([] : List UInt8)))
theorem strings_TrimLeft.mono_l : ∀ k, (∀ y0 y1 y2, LeO (strings_TrimLeft.j0 k y0 y1 y2) (strings_TrimLeft.j0 (k + 1) y0 y1 y2)) ∧ (∀ y0 y1 y2, LeO (strings_TrimLeft.j1 k y0 y1 y2) (strings_TrimLeft.j1 (k + 1) y0 y1 y2))
 | 0 => ⟨fun _ _ _ r h => by simp [strings_TrimLeft.j0] at h, fun _ _ _ r h => by simp [strings_TrimLeft.j1] at h⟩
 | k + 1 => by
  obtain ⟨ih0, ih1⟩ := strings_TrimLeft.mono_l k
  refine ⟨?_, ?_⟩ <;> intros <;> (first | unfold strings_TrimLeft.j0 | unfold strings_TrimLeft.j1) <;> repeat' (with_reducible first | apply ih0 | apply ih1 | apply strings_trimLeftByte.mono | apply LeO.refl | apply LeO.none | apply LeO.ite | refine LeO.bind ?_ (fun _ => ?_))
theorem strings_TrimLeft.mono : ∀ a0 a1 k, LeO (strings_TrimLeft.f k a0 a1) (strings_TrimLeft.f (k + 1) a0 a1) := by
 intro a0 a1 k
 obtain ⟨ih0, ih1⟩ := strings_TrimLeft.mono_l k
 unfold strings_TrimLeft.f
 repeat' (with_reducible first | apply ih0 | apply ih1 | apply strings_trimLeftByte.mono | apply LeO.refl | apply LeO.none | apply LeO.ite | refine LeO.bind ?_ (fun _ => ?_))
set_option maxHeartbeats 8000000 in
theorem strings_TrimLeft.calls (k : Nat) (a0 : ByteArray) (a1 : ByteArray) (r : ByteArray) (w : World) (h : strings_TrimLeft.f k a0 a1 = some r) :
  Calls Tryd.prog 101 #[.string a0, .string a1] w fun e w' => e = .returned (.string r) ∧ Below w.heap.size w w' := by
 have HB := am (Below.refl w.heap.size w)
 have H : (if a0.toList = ([] : List UInt8) then (strings_TrimLeft.j0 k a0 a1 true) else (strings_TrimLeft.j0 k a0 a1 (a1.toList == ([] : List UInt8)))) = some r := h
 clear h
 have HC3 := am H
 clear H
 go_enter Tryd.func101, Tryd.ntmps101
 go_upto_region 1 with (fail)
 go_cut [12] (fun v12 wc => ∃ (kq : Nat) (x12_2 : Bool), v12 = .bool x12_2 ∧ Aside0 (strings_TrimLeft.j0 kq a0 a1 x12_2 = some r) ∧ Aside0 (kq ≤ k) ∧ Aside0 (Below w.heap.size w wc))
 case first =>
  have H := HC3.out
  clear HC3
  by_cases c4 : a0.toList = ([] : List UInt8)
  ·
   rw [if_pos c4] at H
   have c4b0 : (a0.toList == ([] : List UInt8)) = true := beq_iff_eq.mpr c4
   have c4b1 : (a0.toList != ([] : List UInt8)) = false := bne_eq_false_iff_eq.mpr c4
   clear c4
   (first | rw [c4b0] | (simp only [i64_w, i32_w]; rw [c4b0]) | skip)
   have H' := am H
   clear H
   go_wp2
   go_meet
   case rel => exact ⟨_, (true), eqd, H', ol, ⟨lk HB⟩⟩
  rw [if_neg c4] at H
  have c4b0 : (a0.toList == ([] : List UInt8)) = false := beq_eq_false_iff_ne.mpr c4
  have c4b1 : (a0.toList != ([] : List UInt8)) = true := bne_iff_ne.mpr c4
  (first | rw [c4b0] | (simp only [i64_w, i32_w]; rw [c4b0]) | skip)
  have H' := am H
  clear H
  go_wp2
  go_meet
  case rel => exact ⟨_, ((a1.toList == ([] : List UInt8))), eqd, H', ol, ⟨lk HB⟩⟩
 case rest =>
  clear HC3
  obtain ⟨kq, x12_2, rfl, HA, HJ2, HB⟩ := hcut
  cases kq with
  | zero => exact absurd HA.out (by simp [strings_TrimLeft.j0])
  | succ kj2 =>
   have H := HA.out
   clear HA
   simp only [strings_TrimLeft.j0] at H
   by_cases c5 : x12_2 = true
   ·
    subst c5
    rw [if_pos rfl] at H
    obtain rfl := Option.some.inj H
    go_wp2
    go_ret
    exact ex (lk HB)
   replace c5 := Bool.eq_false_iff.mpr c5
   subst c5
   rw [if_neg (show ¬ (false = true) by decide)] at H
   have HC6 := am H
   clear H
   go_upto_region 3 with (fail)
   go_cut [21] (fun v21 wc => ∃ (kq : Nat) (x21_5 : Bool), v21 = .bool x21_5 ∧ Aside0 (strings_TrimLeft.j1 kq a0 a1 x21_5 = some r) ∧ Aside0 (kq ≤ kj2) ∧ Aside0 (Below w.heap.size w wc))
   case first =>
    have H := HC6.out
    clear HC6
    by_cases c7 : (a1.size : Int) = 1
    ·
     rw [if_pos c7] at H
     have c7b0 : ((a1.size : Int) == 1) = true := beq_iff_eq.mpr c7
     have c7b1 : ((a1.size : Int) != 1) = false := bne_eq_false_iff_eq.mpr c7
     clear c7
     (first | rw [c7b0] | (simp only [i64_w, i32_w]; rw [c7b0]) | skip)
     by_cases c8 : 0 < (a1.size : Int)
     ·
      rw [if_pos c8] at H
      have c8b0 := dt c8
      have c8b1 : decide (0 < a1.size) = true := dt (by omega)
      clear c8
      have H' := am H
      clear H
      have p9 : 0 ≤ (0 : Int) := (by omega)
      have q9 : 0 < a1.size := (by have : (0 : Int) < (a1.size : Int) := od; omega)
      have hx9 : ∀ h : 0 < a1.size, ((a1[0]'h).toNat : Int) = bt a1 0 := bt_at a1 0
      clear p9
      have qi9 : (0 < (a1.size : Int)) = True := eq_true (od)
      replace q9 := eq_true q9
      go_wp2
      go_meet
      case rel => exact ⟨_, (decide ((bt a1 0) < 128)), eqd, H', ⟨by have := HJ2.out; first | omega | exact Nat.le_refl _⟩, ⟨lk HB⟩⟩
     rw [if_neg c8] at H
     exact absurd H (by simp)
    rw [if_neg c7] at H
    have c7b0 : ((a1.size : Int) == 1) = false := beq_eq_false_iff_ne.mpr c7
    have c7b1 : ((a1.size : Int) != 1) = true := bne_iff_ne.mpr c7
    (first | rw [c7b0] | (simp only [i64_w, i32_w]; rw [c7b0]) | skip)
    have H' := am H
    clear H
    go_wp2
    go_meet
    case rel => exact ⟨_, (false), eqd, H', ⟨by have := HJ2.out; first | omega | exact Nat.le_refl _⟩, ⟨lk HB⟩⟩
   case rest =>
    clear HC6
    obtain ⟨kq, x21_5, rfl, HA, HJ5, HB⟩ := hcut
    cases kq with
    | zero => exact absurd HA.out (by simp [strings_TrimLeft.j1])
    | succ kj5 =>
     have H := HA.out
     clear HA
     simp only [strings_TrimLeft.j1] at H
     by_cases c10 : x21_5 = true
     ·
      subst c10
      rw [if_pos rfl] at H
      by_cases c11 : 0 < (a1.size : Int)
      ·
       rw [if_pos c11] at H
       have c11b0 := dt c11
       have c11b1 : decide (0 < a1.size) = true := dt (by omega)
       clear c11
       replace H := bm H
       obtain ⟨t551, A130, H⟩ := H
       replace H : (some t551) = some r := H
       have A13 := am A130
       clear A130
       obtain rfl := Option.some.inj H
       have p12 : 0 ≤ (0 : Int) := (by omega)
       have q12 : 0 < a1.size := (by have : (0 : Int) < (a1.size : Int) := od; omega)
       have hx12 : ∀ h : 0 < a1.size, ((a1[0]'h).toNat : Int) = bt a1 0 := bt_at a1 0
       clear p12
       have qi12 : (0 < (a1.size : Int)) = True := eq_true (od)
       replace q12 := eq_true q12
       go_wp2_with (first | (refine gL (some 25) Tryd.func116 #[.string a0, .int .u8 (bt a1 0)] ?_; (with_reducible refine (strings_trimLeftByte.calls kj5 a0 (bt a1 0) t551 _ A13.out).mono ?_); rintro e w' ⟨rfl, ⟨nd, rfl⟩⟩; refine ⟨_, rfl, ?_⟩))
       go_ret
       exact ex (lk HB)
      rw [if_neg c11] at H
      exact absurd H (by simp)
     replace c10 := Bool.eq_false_iff.mpr c10
     subst c10
     rw [if_neg (show ¬ (false = true) by decide)] at H
     exact absurd H (by simp)
mutual
def num_read.j0 : Nat → ByteArray → ByteArray → Int → Option (ByteArray × Int × Bool)
 | 0, _, _, _ => none
 | k + 1, x0, x556q0, x556q1 => if x556q0.toList = ([] : List UInt8) then (some (x556q0, x556q1, false)) else ((strings_TrimLeft.f k x556q0 (⟨#[48]⟩ : ByteArray)).bind fun t563 => (if x0.toList = ([] : List UInt8) then (some (t563, x556q1, true)) else (if 0 < (x0.size : Int) then (if (bt x0 0) = 101 then (num_read.j1 k x0 false t563 x556q1) else (num_read.j1 k x0 ((bt x0 0) != 69) t563 x556q1)) else (none))))
def num_read.j1 : Nat → ByteArray → Bool → ByteArray → Int → Option (ByteArray × Int × Bool)
 | 0, _, _, _, _ => none
 | k + 1, x0, x56, x556q0, x556q1 => if x56 = true then (some (x556q0, x556q1, false)) else (if 1 ≤ (x0.size : Int) then ((some (x0.extract 1 x0.size : ByteArray)).bind fun y564 => (if y564.toList = ([] : List UInt8) then (num_read.j2 k y564 1 false x556q0 x556q1) else (if 0 < (y564.size : Int) then (if (bt y564 0) = 43 then (num_read.j2 k y564 1 true x556q0 x556q1) else (num_read.j2 k y564 1 ((bt y564 0) == 45) x556q0 x556q1)) else (none)))) else (none))
def num_read.j2 : Nat → ByteArray → Int → Bool → ByteArray → Int → Option (ByteArray × Int × Bool)
 | 0, _, _, _, _, _ => none
 | k + 1, x0, x6, x71, x556q0, x556q1 => if x71 = true then (if 0 < (x0.size : Int) then (if (bt x0 0) = 45 then (if 1 ≤ (x0.size : Int) then (num_read.j3 k (x0.extract 1 x0.size) (-1) x556q0 x556q1) else (none)) else (if 1 ≤ (x0.size : Int) then (num_read.j3 k (x0.extract 1 x0.size) x6 x556q0 x556q1) else (none))) else (none)) else (num_read.j3 k x0 x6 x556q0 x556q1)
def num_read.j3 : Nat → ByteArray → Int → ByteArray → Int → Option (ByteArray × Int × Bool)
 | 0, _, _, _, _ => none
 | k + 1, x0, x6, x556q0, x556q1 => if x0.toList = ([] : List UInt8) then (num_read.j4 k x0 x6 true x556q0 x556q1) else ((num_run.f k x0).bind fun t567 => (num_read.j4 k x0 x6 (t567 != (x0.size : Int)) x556q0 x556q1))
def num_read.j4 : Nat → ByteArray → Int → Bool → ByteArray → Int → Option (ByteArray × Int × Bool)
 | 0, _, _, _, _, _ => none
 | k + 1, x0, x6, x85, x556q0, x556q1 => if x85 = true then (some (x556q0, x556q1, false)) else (num_read.l0 k x0 x6 0 (x0.size : Int) 0 x556q0 x556q1)
def num_read.l0 : Nat → ByteArray → Int → Int → Int → Int → ByteArray → Int → Option (ByteArray × Int × Bool)
 | 0, _, _, _, _, _, _, _ => none
 | k + 1, x0, x6, x7, x88, x89, x556q0, x556q1 => if x89 < x88 then (if 0 ≤ x89 then (if x89 < (x0.size : Int) then (num_read.l0 k x0 x6 (mn (wrap64 ((wrap64 (10 * x7)) + (((bt x0 x89) - 48) % 256))) 100000) x88 (wrap64 (x89 + 1)) x556q0 x556q1) else (none)) else (none)) else (some (x556q0, wrap64 (x556q1 + (wrap64 (x6 * x7))), true))
end
def num_read.f (k : Nat) (a0 : ByteArray) : Option (ByteArray × Int × Bool) := (num_run.f k a0).bind fun t553 => (if 0 ≤ t553 then (if t553 ≤ (a0.size : Int) then ((some (a0.extract 0 (t553 : Int).toNat : ByteArray)).bind fun y554 => ((some (a0.extract (t553 : Int).toNat a0.size : ByteArray)).bind fun y556 => ((strings_HasPrefix.f y556 (⟨#[46]⟩ : ByteArray)).bind fun t557 => (if t557 = true then (if 1 ≤ (y556.size : Int) then ((num_run.f k (y556.extract 1 y556.size)).bind fun t559 => (if 1 ≤ (wrap64 (1 + t559)) then (if (wrap64 (1 + t559)) ≤ (y556.size : Int) then ((some (y556.extract 1 ((wrap64 (1 + t559)) : Int).toNat : ByteArray)).bind fun y560 => (if y554.size + y560.size ≤ 9223372036854775807 then (if 0 ≤ (wrap64 (1 + t559)) then (num_read.j0 k (y556.extract ((wrap64 (1 + t559)) : Int).toNat y556.size) (y554 ++ y560) (wrap64 (-t559))) else (none)) else (none))) else (none)) else (none))) else (none)) else (num_read.j0 k y556 y554 0))))) else (none)) else (none))
theorem num_read.mono_l : ∀ k, (∀ y0 y1 y2, LeO (num_read.j0 k y0 y1 y2) (num_read.j0 (k + 1) y0 y1 y2)) ∧ (∀ y0 y1 y2 y3, LeO (num_read.j1 k y0 y1 y2 y3) (num_read.j1 (k + 1) y0 y1 y2 y3)) ∧ (∀ y0 y1 y2 y3 y4, LeO (num_read.j2 k y0 y1 y2 y3 y4) (num_read.j2 (k + 1) y0 y1 y2 y3 y4)) ∧ (∀ y0 y1 y2 y3, LeO (num_read.j3 k y0 y1 y2 y3) (num_read.j3 (k + 1) y0 y1 y2 y3)) ∧ (∀ y0 y1 y2 y3 y4, LeO (num_read.j4 k y0 y1 y2 y3 y4) (num_read.j4 (k + 1) y0 y1 y2 y3 y4)) ∧ (∀ y0 y1 y2 y3 y4 y5 y6, LeO (num_read.l0 k y0 y1 y2 y3 y4 y5 y6) (num_read.l0 (k + 1) y0 y1 y2 y3 y4 y5 y6))
 | 0 => ⟨fun _ _ _ r h => by simp [num_read.j0] at h, fun _ _ _ _ r h => by simp [num_read.j1] at h, fun _ _ _ _ _ r h => by simp [num_read.j2] at h, fun _ _ _ _ r h => by simp [num_read.j3] at h, fun _ _ _ _ _ r h => by simp [num_read.j4] at h, fun _ _ _ _ _ _ _ r h => by simp [num_read.l0] at h⟩
 | k + 1 => by
  obtain ⟨ih0, ih1, ih2, ih3, ih4, ih5⟩ := num_read.mono_l k
  refine ⟨?_, ?_, ?_, ?_, ?_, ?_⟩ <;> intros <;> (first | unfold num_read.j0 | unfold num_read.j1 | unfold num_read.j2 | unfold num_read.j3 | unfold num_read.j4 | unfold num_read.l0) <;> repeat' (with_reducible first | apply ih0 | apply ih1 | apply ih2 | apply ih3 | apply ih4 | apply ih5 | apply num_run.mono | apply strings_TrimLeft.mono | apply LeO.refl | apply LeO.none | apply LeO.ite | refine LeO.bind ?_ (fun _ => ?_))
theorem num_read.mono : ∀ a0 k, LeO (num_read.f k a0) (num_read.f (k + 1) a0) := by
 intro a0 k
 obtain ⟨ih0, ih1, ih2, ih3, ih4, ih5⟩ := num_read.mono_l k
 unfold num_read.f
 repeat' (with_reducible first | apply ih0 | apply ih1 | apply ih2 | apply ih3 | apply ih4 | apply ih5 | apply num_run.mono | apply strings_TrimLeft.mono | apply LeO.refl | apply LeO.none | apply LeO.ite | refine LeO.bind ?_ (fun _ => ?_))
def num_read.T6 : Bool × List (List Nat × List Nat) := (true, [([], []), ([0], [0]), ([], []), ([], []), ([3], [3]), ([2, 4], [2, 4]), ([1, 5], [1, 5]), ([0, 1, 2, 3, 4, 5, 6], []), ([7, 6, 0, 1, 2, 3, 4, 5, 6], [6, 7])])
def num_read.B6 : List Nat := [0, 1, 0, 0, 8, 28, 63, 127, 255]
theorem num_read.tab6 : rtab .any (opsOf Tryd.f66 6) = num_read.T6 := by kernel_rfl
theorem num_read.bits6 : waitsOk num_read.T6.2 num_read.B6 = true := by kernel_rfl
set_option maxHeartbeats 8000000 in
theorem num_read.calls (k : Nat) (a0 : ByteArray) (r1 : ByteArray) (r2 : Int) (r3 : Bool) (w : World) (h : num_read.f k a0 = some (r1, r2, r3)) :
  Calls Tryd.prog 66 #[.string a0] w fun e w' => e = .returned (.tuple #[.agg #[.string r1, .int .i64 r2], .bool r3]) ∧ Below w.heap.size w w' := by
 have hu79 := Tryd.underlying79
 have HB := am (Below.refl w.heap.size w)
 have H : ((num_run.f k a0).bind fun t553 => (if 0 ≤ t553 then (if t553 ≤ (a0.size : Int) then ((some (a0.extract 0 (t553 : Int).toNat : ByteArray)).bind fun y554 => ((some (a0.extract (t553 : Int).toNat a0.size : ByteArray)).bind fun y556 => ((strings_HasPrefix.f y556 (⟨#[46]⟩ : ByteArray)).bind fun t557 => (if t557 = true then (if 1 ≤ (y556.size : Int) then ((num_run.f k (y556.extract 1 y556.size)).bind fun t559 => (if 1 ≤ (wrap64 (1 + t559)) then (if (wrap64 (1 + t559)) ≤ (y556.size : Int) then ((some (y556.extract 1 ((wrap64 (1 + t559)) : Int).toNat : ByteArray)).bind fun y560 => (if y554.size + y560.size ≤ 9223372036854775807 then (if 0 ≤ (wrap64 (1 + t559)) then (num_read.j0 k (y556.extract ((wrap64 (1 + t559)) : Int).toNat y556.size) (y554 ++ y560) (wrap64 (-t559))) else (none)) else (none))) else (none)) else (none))) else (none)) else (num_read.j0 k y556 y554 0))))) else (none)) else (none))) = some (r1, r2, r3) := h
 clear h
 replace H := bm H
 obtain ⟨t553, A20, H⟩ := H
 replace H : (if 0 ≤ t553 then (if t553 ≤ (a0.size : Int) then ((some (a0.extract 0 (t553 : Int).toNat : ByteArray)).bind fun y554 => ((some (a0.extract (t553 : Int).toNat a0.size : ByteArray)).bind fun y556 => ((strings_HasPrefix.f y556 (⟨#[46]⟩ : ByteArray)).bind fun t557 => (if t557 = true then (if 1 ≤ (y556.size : Int) then ((num_run.f k (y556.extract 1 y556.size)).bind fun t559 => (if 1 ≤ (wrap64 (1 + t559)) then (if (wrap64 (1 + t559)) ≤ (y556.size : Int) then ((some (y556.extract 1 ((wrap64 (1 + t559)) : Int).toNat : ByteArray)).bind fun y560 => (if y554.size + y560.size ≤ 9223372036854775807 then (if 0 ≤ (wrap64 (1 + t559)) then (num_read.j0 k (y556.extract ((wrap64 (1 + t559)) : Int).toNat y556.size) (y554 ++ y560) (wrap64 (-t559))) else (none)) else (none))) else (none)) else (none))) else (none)) else (num_read.j0 k y556 y554 0))))) else (none)) else (none)) = some (r1, r2, r3) := H
 have A2 := am A20
 clear A20
 by_cases c3 : 0 ≤ t553
 ·
  rw [if_pos c3] at H
  have c3b0 := eq_true c3
  have c3b1 := dt c3
  clear c3
  by_cases c4 : t553 ≤ (a0.size : Int)
  ·
   rw [if_pos c4] at H
   have c4b0 := eq_true c4
   have c4b1 := dt c4
   clear c4
   obtain ⟨y554, Ny554, H⟩ := yb H
   have c5b0 := eq_true (od : 0 ≤ t553)
   have c6b0 := eq_true (od : t553 ≤ (a0.size : Int))
   obtain ⟨y556, Ny556, H⟩ := yb H
   replace H := bm H
   obtain ⟨t557, A70, H⟩ := H
   replace H : (if t557 = true then (if 1 ≤ (y556.size : Int) then ((num_run.f k (y556.extract 1 y556.size)).bind fun t559 => (if 1 ≤ (wrap64 (1 + t559)) then (if (wrap64 (1 + t559)) ≤ (y556.size : Int) then ((some (y556.extract 1 ((wrap64 (1 + t559)) : Int).toNat : ByteArray)).bind fun y560 => (if y554.size + y560.size ≤ 9223372036854775807 then (if 0 ≤ (wrap64 (1 + t559)) then (num_read.j0 k (y556.extract ((wrap64 (1 + t559)) : Int).toNat y556.size) (y554 ++ y560) (wrap64 (-t559))) else (none)) else (none))) else (none)) else (none))) else (none)) else (num_read.j0 k y556 y554 0)) = some (r1, r2, r3) := H
   have A7 := am A70
   clear A70
   have HC8 := am H
   clear H
   go_enter Tryd.func66, Tryd.ntmps66
   go_upto_if 19 with (first | ((with_reducible refine gate_dst (N := 2) rfl ?_); (try (refine gate_guard (by rfl) ?_; dsimp only)); refine box_event ?hg (N := 2) ?hd (cs := #[.string (⟨#[]⟩ : ByteArray), .int .i64 0]) (t := 79) ?hr ?_; (case hd => rfl); (case hg => rfl); (case hr => first | (go_simp; done) | (go_simp; rfl)); intro gb552 hg w9 hbox hb; have BK552 := am (hbox); have GW552 := am ((by rw [hg]; exact (below_size (lk HB)) : w.heap.size ≤ gb552)); have GE552 := GW552; replace HB := lb HB hb; clear hb hbox hg) | (refine gL (some 10) Tryd.func76 #[.string a0] ?_; (with_reducible refine (num_run.calls k a0 t553 _ A2.out).mono ?_); rintro e w' ⟨rfl, ⟨nd, rfl⟩⟩; refine ⟨_, rfl, ?_⟩; (try (rw [drewN_self w9]; generalize hq_ : World.drewN w9 _ = w9; have n0_ : Aside0 (w9.heap[gb552]? = some (.cells #[.string (⟨#[]⟩ : ByteArray), .int .i64 0] 79 (0, 0))) := ⟨by rw [← hq_]; exact (bk BK552)⟩; have n1_ : Aside0 (Below w.heap.size w w9) := ⟨by rw [← hq_]; exact (lk HB)⟩; clear BK552 HB hq_; have BK552 := n0_; have HB := n1_; clear n0_ n1_)); have hcs10 := Hd.str_to (P := Tryd.prog) (k := .i64) Tryd.underlying9 (j := t553) (s := a0) (y := y554) oo oo Ny554.out) | ((with_reducible refine gate_dst (N := 5) rfl ?_); (try (refine gate_guard (by rfl) ?_; dsimp only)); refine box_event ?hg (N := 5) ?hd (cs := #[.string (⟨#[]⟩ : ByteArray), .int .i64 0]) (t := 79) ?hr ?_; (case hd => rfl); (case hg => rfl); (case hr => first | (go_simp; done) | (go_simp; rfl)); intro gb555 hg w11 hbox hb; have BK555 := am (hbox); have GW555 := am ((by rw [hg]; exact (below_size (lk HB)) : w.heap.size ≤ gb555)); have GE555 := GW555; replace HB := lb HB hb; have NB552_555 := am ((by rw [hg]; exact Nat.ne_of_lt (blk_lt (bk BK552)) : gb552 ≠ gb555)); have NB555_552 := am ((by rw [hg]; exact Nat.ne_of_gt (blk_lt (bk BK552)) : gb555 ≠ gb552)); replace BK552 := bb BK552 hb; clear hb hbox hg; have hnb12 := NB555_552.out; have hnc12 := NB552_555.out; have hcz13_0 : w11.cell? ⟨gb555, 0, none⟩ = some (.string (⟨#[]⟩ : ByteArray)) := (blk_cell BK555.out 0).trans rfl; have hcz13_1 : w11.cell? ⟨gb555, 1, none⟩ = some (.int .i64 0) := (blk_cell BK555.out 1).trans rfl; have hfz13_0 := blk_frozen BK555.out 0; have hfz13_1 := blk_frozen BK555.out 1; have hcs14 := Hd.str_from (P := Tryd.prog) (k := .i64) Tryd.underlying9 (i := t553) (s := a0) (y := y556) oo oo Ny556.out) | (refine gL (some 19) Tryd.func96 #[.string y556, .string (⟨#[46]⟩ : ByteArray)] ?_; (with_reducible refine (strings_HasPrefix.calls y556 (⟨#[46]⟩ : ByteArray) t557 _ A7.out).mono ?_); rintro e w' ⟨rfl, ⟨nd, rfl⟩⟩; refine ⟨_, rfl, ?_⟩))
   (try simp only [Act.put, List.setIfInBounds_toArray, List.set_cons_zero, List.set_cons_succ])
   go_cut [0] (fun v0 wc => ∃ (kq : Nat) (x0_7 : ByteArray) (x556q0_7 : ByteArray) (x556q1_7 : Int), v0 = .string x0_7 ∧ Aside0 (num_read.j0 kq x0_7 x556q0_7 x556q1_7 = some (r1, r2, r3)) ∧ Aside0 (kq ≤ k) ∧ Aside0 (wc.heap[gb552]? = some (.cells #[.string (⟨#[]⟩ : ByteArray), .int .i64 0] 79 (0, 0))) ∧ Aside0 (wc.heap[gb555]? = some (.cells #[.string x556q0_7, .int .i64 x556q1_7] 79 (0, 0))) ∧ Aside0 (Below w.heap.size w wc))
   case first =>
    have H := HC8.out
    clear HC8
    by_cases c15 : t557 = true
    ·
     subst c15
     have H1 : (if 1 ≤ (y556.size : Int) then ((num_run.f k (y556.extract 1 y556.size)).bind fun t559 => (if 1 ≤ (wrap64 (1 + t559)) then (if (wrap64 (1 + t559)) ≤ (y556.size : Int) then ((some (y556.extract 1 ((wrap64 (1 + t559)) : Int).toNat : ByteArray)).bind fun y560 => (if y554.size + y560.size ≤ 9223372036854775807 then (if 0 ≤ (wrap64 (1 + t559)) then (num_read.j0 k (y556.extract ((wrap64 (1 + t559)) : Int).toNat y556.size) (y554 ++ y560) (wrap64 (-t559))) else (none)) else (none))) else (none)) else (none))) else (none)) = some (r1, r2, r3) := by rw [if_pos rfl] at H; exact H
     clear H
     have H := H1
     clear H1
     by_cases c16 : 1 ≤ (y556.size : Int)
     ·
      rw [if_pos c16] at H
      have c16b0 := eq_true c16
      have c16b1 := dt c16
      clear c16
      obtain ⟨y558, hy558⟩ : ∃ y_ : ByteArray, y_ = (y556.extract 1 y556.size) := ⟨_, rfl⟩
      replace H : ((num_run.f k y558).bind fun t559 => (if 1 ≤ (wrap64 (1 + t559)) then (if (wrap64 (1 + t559)) ≤ (y556.size : Int) then ((some (y556.extract 1 ((wrap64 (1 + t559)) : Int).toNat : ByteArray)).bind fun y560 => (if y554.size + y560.size ≤ 9223372036854775807 then (if 0 ≤ (wrap64 (1 + t559)) then (num_read.j0 k (y556.extract ((wrap64 (1 + t559)) : Int).toNat y556.size) (y554 ++ y560) (wrap64 (-t559))) else (none)) else (none))) else (none)) else (none))) = some (r1, r2, r3) := by first | (rw [hy558]; exact H) | exact H
      have Ny558 := am hy558
      clear hy558
      replace H := bm H
      obtain ⟨t559, A170, H⟩ := H
      replace H : (if 1 ≤ (wrap64 (1 + t559)) then (if (wrap64 (1 + t559)) ≤ (y556.size : Int) then ((some (y556.extract 1 ((wrap64 (1 + t559)) : Int).toNat : ByteArray)).bind fun y560 => (if y554.size + y560.size ≤ 9223372036854775807 then (if 0 ≤ (wrap64 (1 + t559)) then (num_read.j0 k (y556.extract ((wrap64 (1 + t559)) : Int).toNat y556.size) (y554 ++ y560) (wrap64 (-t559))) else (none)) else (none))) else (none)) else (none)) = some (r1, r2, r3) := H
      have A17 := am A170
      clear A170
      by_cases c18 : 1 ≤ (wrap64 (1 + t559))
      ·
       rw [if_pos c18] at H
       have c18b0 := eq_true c18
       have c18b1 := dt c18
       by_cases c19 : (wrap64 (1 + t559)) ≤ (y556.size : Int)
       ·
        rw [if_pos c19] at H
        have c19b0 := eq_true c19
        have c19b1 := dt c19
        obtain ⟨y560, Ny560, H⟩ := yb H
        by_cases c20 : y554.size + y560.size ≤ 9223372036854775807
        ·
         rw [if_pos c20] at H
         have c20b0 := eq_true c20
         have c20b1 := dt c20
         obtain ⟨y561, hy561⟩ : ∃ y_ : ByteArray, y_ = (y554 ++ y560) := ⟨_, rfl⟩
         replace H : (if 0 ≤ (wrap64 (1 + t559)) then (num_read.j0 k (y556.extract ((wrap64 (1 + t559)) : Int).toNat y556.size) y561 (wrap64 (-t559))) else (none)) = some (r1, r2, r3) := by first | (rw [hy561]; exact H) | exact H
         have Ny561 := am hy561
         clear hy561
         obtain ⟨ji21, hji21⟩ : ∃ j_ : Int, (wrap64 (1 + t559)) = j_ := ⟨_, rfl⟩
         replace H : (if 0 ≤ (ji21) then (num_read.j0 k (y556.extract ((ji21) : Int).toNat y556.size) y561 (wrap64 (-t559))) else (none)) = some (r1, r2, r3) := by first | (rw [hji21] at H; exact H) | (simp only [hji21] at H ⊢; exact H)
         (try rw [hji21] at c18b0)
         (try rw [hji21] at c18b1)
         (try rw [hji21] at c18)
         (try rw [hji21] at c19b0)
         (try rw [hji21] at c19b1)
         (try rw [hji21] at c19)
         (try rw [hji21] at A17)
         (try rw [hji21] at Ny560)
         have hji21w : (IntKind.i64.wrap (1 + t559)) = ji21 := (i64_w _).trans hji21
         by_cases c22 : 0 ≤ (ji21)
         ·
          rw [if_pos c22] at H
          have c22b0 := eq_true c22
          have c22b1 := dt c22
          clear c22
          have c23b0 := eq_true (od : (ji21) ≤ (y556.size : Int))
          obtain ⟨y562, hy562⟩ : ∃ y_ : ByteArray, y_ = (y556.extract ((ji21) : Int).toNat y556.size) := ⟨_, rfl⟩
          replace H : (num_read.j0 k y562 y561 (wrap64 (-t559))) = some (r1, r2, r3) := by first | (rw [hy562]; exact H) | exact H
          have Ny562 := am hy562
          clear hy562
          have H' := am H
          clear H
          have hcs24 := Hd.str_from (P := Tryd.prog) (k := .i64) Tryd.underlying9 (i := 1) (s := y556) (y := y558) oo oo Ny558.out
          try go_wp2_with (first | (refine gL (some 22) Tryd.func76 #[.string y558] ?_; (with_reducible refine (num_run.calls k y558 t559 _ A17.out).mono ?_); rintro e w' ⟨rfl, ⟨nd, rfl⟩⟩; refine ⟨_, rfl, ?_⟩))
          (first | refine Hd.letter_ (fun w25 hw => ?_) | refine Hd.letterL_ (fun w25 hw => ?_) | refine Hd.letterE_ (fun w25 hw => ?_))
          have n0_ : Aside0 (w25.heap[gb552]? = some (.cells #[.string (⟨#[]⟩ : ByteArray), .int .i64 0] 79 (0, 0))) := ⟨by rw [hw]; exact (by refine bf NB552_555 ?_; refine bf NB552_555 ?_; exact bk BK552)⟩
          have n1_ : Aside0 (w25.heap[gb555]? = some (.cells #[.string y554, .int .i64 0] 79 (0, 0))) := ⟨by rw [hw]; exact (by (with_reducible repeat (first | refine blk_drewN ?_ _ | refine blk_drew ?_ | refine blk_alloc ?_ _)); refine blk_put (cs := #[.string y554, .int .i64 0]) ?_ 1 _ rfl; (with_reducible repeat (first | refine blk_drewN ?_ _ | refine blk_drew ?_ | refine blk_alloc ?_ _)); refine blk_put (cs := #[.string (⟨#[]⟩ : ByteArray), .int .i64 0]) ?_ 0 _ rfl; exact bk BK555)⟩
          have n2_ : Aside0 (Below w.heap.size w w25) := ⟨by rw [hw]; exact (lk HB)⟩
          clear hw
          (try clear BK552)
          (try clear BK555)
          (try clear HB)
          have BK552 := n0_
          have BK555 := n1_
          have HB := n2_
          clear n0_ n1_ n2_
          (try (rw [drewN_self w25]; generalize hq_ : World.drewN w25 _ = w25; have n0_ : Aside0 (w25.heap[gb552]? = some (.cells #[.string (⟨#[]⟩ : ByteArray), .int .i64 0] 79 (0, 0))) := ⟨by rw [← hq_]; exact (bk BK552)⟩; have n1_ : Aside0 (w25.heap[gb555]? = some (.cells #[.string y554, .int .i64 0] 79 (0, 0))) := ⟨by rw [← hq_]; exact (bk BK555)⟩; have n2_ : Aside0 (Below w.heap.size w w25) := ⟨by rw [← hq_]; exact (lk HB)⟩; clear BK552 BK555 HB hq_; have BK552 := n0_; have BK555 := n1_; have HB := n2_; clear n0_ n1_ n2_))
          have n0_ := am (blk_drew BK552.out)
          have n1_ := am (blk_drew BK555.out)
          have n2_ := am (below_drew1 HB.out)
          clear BK552
          clear BK555
          clear HB
          have BK552 := n0_
          have BK555 := n1_
          have HB := n2_
          clear n0_ n1_ n2_
          have hcs27 := Hd.str_cut (P := Tryd.prog) (k := .i64) (k' := .i64) Tryd.underlying9 (i := 1) (j := (ji21)) (s := y556) (y := y560) oo oo oo Ny560.out
          obtain ⟨hcs28, hcs28'⟩ := sc Ny561
          refine start_ (n := 9) (S := fun w' => w'.cell? ⟨gb555, 0, none⟩ = some (.string y554) ∧ w'.cell? ⟨gb555, 1, none⟩ = some (.int .i64 0)) (ds := [8]) #[false, false, false, false, false, false, false, false, false] (by kernel_rfl) rfl rfl ⟨(blk_cell BK555.out 0).trans rfl, (blk_cell BK555.out 1).trans rfl⟩ (fun hHeld => ?_); refine with_tabW num_read.tab6 num_read.bits6 (fun HT_ HW_ => ?_)
          generalize w25.drew = w26 at BK552 BK555 HB hHeld ⊢
          refine pure_ (i := 0) (N := some 23) (v := ?_) (a' := ?_) #[true, false, false, false, false, false, false, false, false] rfl rfl (any_of HT_.out (by kernel_rfl)) (fun _ _ _ h => h) (Or.inl ⟨by rfl, ?_⟩) ?_ ?_
          rotate_left
          ·
           intro w'
           go_simp
           with_reducible rfl
          rotate_left
          ·
           exact pz
          refine pure_ (i := 2) (N := some 25) (v := ?_) (a' := ?_) #[true, false, true, false, false, false, false, false, false] rfl rfl (any_of HT_.out (by kernel_rfl)) (fun _ _ _ h => h) (Or.inl ⟨by rfl, ?_⟩) ?_ ?_
          rotate_left
          ·
           intro w'
           go_simp
           with_reducible rfl
          rotate_left
          ·
           exact pz
          refine pure_ (i := 3) (N := some 26) (v := ?_) (a' := ?_) #[true, false, true, true, false, false, false, false, false] rfl rfl (any_of HT_.out (by kernel_rfl)) (fun _ _ _ h => h) (Or.inl ⟨by rfl, ?_⟩) ?_ ?_
          rotate_left
          ·
           intro w'
           go_simp
           with_reducible rfl
          rotate_left
          ·
           exact pz
          refine pure_ (i := 4) (N := some 27) (v := ?_) (a' := ?_) #[true, false, true, true, true, false, false, false, false] rfl rfl (any_of HT_.out (by kernel_rfl)) (fun _ _ _ h => h) (Or.inl ⟨by rfl, ?_⟩) ?_ ?_
          rotate_left
          ·
           intro w'
           go_simp
           with_reducible rfl
          rotate_left
          ·
           exact pz
          refine pure_ (i := 5) (N := some 28) (v := ?_) (a' := ?_) #[true, false, true, true, true, true, false, false, false] rfl rfl (any_of HT_.out (by kernel_rfl)) (fun _ _ _ h => h) (Or.inl ⟨by rfl, ?_⟩) ?_ ?_
          rotate_left
          ·
           intro w'
           go_simp
           with_reducible rfl
          rotate_left
          ·
           exact pz
          refine take_ (i := 1) (N := some 24) (v := ?_) (a' := ?_) #[true, true, true, true, true, true, false, false, false] rfl rfl (take_ofW HT_.out HW_.out (by kernel_rfl)) (fun _ _ _ h => h) (Or.inl ⟨by rfl, ?_⟩) hHeld ?_ ?_
          rotate_left
          ·
           rintro w' ⟨s0, s1⟩
           go_simp
           with_reducible rfl
          rotate_left
          ·
           exact pz
          refine pure_ (i := 6) (N := some 29) (v := ?_) (a' := ?_) #[true, true, true, true, true, true, true, false, false] rfl rfl (any_of HT_.out (by kernel_rfl)) (fun _ _ _ h => h) (Or.inl ⟨by rfl, ?_⟩) ?_ ?_
          rotate_left
          ·
           intro w'
           go_simp
           with_reducible rfl
          rotate_left
          ·
           exact pz
          refine pure_ (i := 7) (N := some 30) (v := ?_) (a' := ?_) #[true, true, true, true, true, true, true, true, false] rfl rfl (any_of HT_.out (by kernel_rfl)) (fun _ _ _ h => h) (Or.inl ⟨by rfl, ?_⟩) ?_ ?_
          rotate_left
          ·
           intro w'
           go_simp
           with_reducible rfl
          rotate_left
          ·
           exact pz
          refine last_ (i := 8) (N := none) #[true, true, true, true, true, true, true, true, true] rfl rfl (one_of HT_.out (by kernel_rfl)) (by decide) (fun K hK => ?_)
          have hs29 : w26.cell? ⟨gb555, 0, none⟩ = some (.string y554) := (blk_cell BK555.out 0).trans rfl
          have hfs29 := blk_frozen BK555.out 0
          have hns29_0 := NB552_555.out
          have hms29_0 := NB555_552.out
          refine skip_ (w1 := ?_) (by rfl) rfl ?_ ?_
          rotate_left
          ·
           go_simp
           rfl
          refine hK.out _ _ ?_
          clear hK K
          refine done_ (done_of HT_.out (by kernel_rfl)) ?_
          have hnb30 := NB555_552.out
          have hnc30 := NB552_555.out
          have hcz31_0 : w26.cell? ⟨gb555, 0, none⟩ = some (.string y554) := (blk_cell BK555.out 0).trans rfl
          have hcz31_1 : w26.cell? ⟨gb555, 1, none⟩ = some (.int .i64 0) := (blk_cell BK555.out 1).trans rfl
          have hfz31_0 := blk_frozen BK555.out 0
          have hfz31_1 := blk_frozen BK555.out 1
          have hcs32 := Hd.str_from (P := Tryd.prog) (k := .i64) Tryd.underlying9 (i := (ji21)) (s := y556) (y := y562) oo oo Ny562.out
          try go_wp2
          go_meet
          case rel => exact ⟨_, (y562), (y561), (wrap64 (-t559)), eqd, H', ol, ⟨by refine bf NB552_555 ?_; refine bf NB552_555 ?_; exact bk BK552⟩, ⟨by (with_reducible repeat (first | refine blk_drewN ?_ _ | refine blk_drew ?_ | refine blk_alloc ?_ _)); refine blk_put (cs := #[.string y561, .int .i64 0]) ?_ 1 _ rfl; (with_reducible repeat (first | refine blk_drewN ?_ _ | refine blk_drew ?_ | refine blk_alloc ?_ _)); refine blk_put (cs := #[.string y554, .int .i64 0]) ?_ 0 _ rfl; exact bk BK555⟩, ⟨lk HB⟩⟩
         rw [if_neg c22] at H
         exact absurd H (by simp)
        rw [if_neg c20] at H
        exact absurd H (by simp)
       rw [if_neg c19] at H
       exact absurd H (by simp)
      rw [if_neg c18] at H
      exact absurd H (by simp)
     rw [if_neg c16] at H
     exact absurd H (by simp)
    replace c15 := Bool.eq_false_iff.mpr c15
    subst c15
    have H1 : (num_read.j0 k y556 y554 0) = some (r1, r2, r3) := by rw [if_neg (show ¬ (false = true) by decide)] at H; exact H
    clear H
    have H := H1
    clear H1
    have H' := am H
    clear H
    go_wp2
    go_meet
    case rel => exact ⟨_, (y556), (y554), (0), eqd, H', ol, ⟨by refine bf NB552_555 ?_; refine bf NB552_555 ?_; exact bk BK552⟩, ⟨by (with_reducible repeat (first | refine blk_drewN ?_ _ | refine blk_drew ?_ | refine blk_alloc ?_ _)); refine blk_put (cs := #[.string y554, .int .i64 0]) ?_ 1 _ rfl; (with_reducible repeat (first | refine blk_drewN ?_ _ | refine blk_drew ?_ | refine blk_alloc ?_ _)); refine blk_put (cs := #[.string (⟨#[]⟩ : ByteArray), .int .i64 0]) ?_ 0 _ rfl; exact bk BK555⟩, ⟨lk HB⟩⟩
   case rest =>
    clear HC8
    obtain ⟨kq, x0_7, x556q0_7, x556q1_7, rfl, HA, HJ7, BK552, BK555, HB⟩ := hcut
    cases kq with
    | zero => exact absurd HA.out (by simp [num_read.j0])
    | succ kj7 =>
     have H := HA.out
     clear HA
     simp only [num_read.j0] at H
     by_cases c33 : x556q0_7.toList = ([] : List UInt8)
     ·
      rw [if_pos c33] at H
      have c33b0 : (x556q0_7.toList == ([] : List UInt8)) = true := beq_iff_eq.mpr c33
      have c33b1 : (x556q0_7.toList != ([] : List UInt8)) = false := bne_eq_false_iff_eq.mpr c33
      clear c33
      simp only [Option.some.injEq, Prod.mk.injEq] at H
      obtain ⟨rfl, rfl, rfl⟩ := H
      have hnb34 := NB555_552.out
      have hnc34 := NB552_555.out
      have hcz35_0 : wc.cell? ⟨gb555, 0, none⟩ = some (.string x556q0_7) := (blk_cell BK555.out 0).trans rfl
      have hcz35_1 : wc.cell? ⟨gb555, 1, none⟩ = some (.int .i64 x556q1_7) := (blk_cell BK555.out 1).trans rfl
      have hfz35_0 := blk_frozen BK555.out 0
      have hfz35_1 := blk_frozen BK555.out 1
      have hcz36_0 : wc.cell? ⟨gb552, 0, none⟩ = some (.string (⟨#[]⟩ : ByteArray)) := (blk_cell BK552.out 0).trans rfl
      have hcz36_1 : wc.cell? ⟨gb552, 1, none⟩ = some (.int .i64 0) := (blk_cell BK552.out 1).trans rfl
      have hfz36_0 := blk_frozen BK552.out 0
      have hfz36_1 := blk_frozen BK552.out 1
      go_wp2
      refine bodyPost_ret (results_ct rfl _ _ gb552 79 #[.string x556q0_7, .int .i64 x556q1_7] (0, 0) _ rfl (by (with_reducible repeat (first | refine blk_drewN ?_ _ | refine blk_drew ?_ | refine blk_alloc ?_ _)); refine blk_put (cs := #[.string x556q0_7, .int .i64 0]) ?_ 1 _ rfl; (with_reducible repeat (first | refine blk_drewN ?_ _ | refine blk_drew ?_ | refine blk_alloc ?_ _)); refine blk_put (cs := #[.string (⟨#[]⟩ : ByteArray), .int .i64 0]) ?_ 0 _ rfl; exact bk BK552) Tryd.underlying79 rfl (by kernel_rfl)) rfl ?_
      exact ex (lk HB)
     rw [if_neg c33] at H
     have c33b0 : (x556q0_7.toList == ([] : List UInt8)) = false := beq_eq_false_iff_ne.mpr c33
     have c33b1 : (x556q0_7.toList != ([] : List UInt8)) = true := bne_iff_ne.mpr c33
     replace H := bm H
     obtain ⟨t563, A370, H⟩ := H
     replace H : (if x0_7.toList = ([] : List UInt8) then (some (t563, x556q1_7, true)) else (if 0 < (x0_7.size : Int) then (if (bt x0_7 0) = 101 then (num_read.j1 kj7 x0_7 false t563 x556q1_7) else (num_read.j1 kj7 x0_7 ((bt x0_7 0) != 69) t563 x556q1_7)) else (none))) = some (r1, r2, r3) := H
     have A37 := am A370
     clear A370
     by_cases c38 : x0_7.toList = ([] : List UInt8)
     ·
      rw [if_pos c38] at H
      have c38b0 : (x0_7.toList == ([] : List UInt8)) = true := beq_iff_eq.mpr c38
      have c38b1 : (x0_7.toList != ([] : List UInt8)) = false := bne_eq_false_iff_eq.mpr c38
      clear c38
      simp only [Option.some.injEq, Prod.mk.injEq] at H
      obtain ⟨rfl, rfl, rfl⟩ := H
      have hnb39 := NB555_552.out
      have hnc39 := NB552_555.out
      have hcz40_0 : wc.cell? ⟨gb555, 0, none⟩ = some (.string x556q0_7) := (blk_cell BK555.out 0).trans rfl
      have hcz40_1 : wc.cell? ⟨gb555, 1, none⟩ = some (.int .i64 x556q1_7) := (blk_cell BK555.out 1).trans rfl
      have hfz40_0 := blk_frozen BK555.out 0
      have hfz40_1 := blk_frozen BK555.out 1
      go_wp2_with (first | (refine gL (some 44) Tryd.func101 #[.string x556q0_7, .string (⟨#[48]⟩ : ByteArray)] ?_; (with_reducible refine (strings_TrimLeft.calls kj7 x556q0_7 (⟨#[48]⟩ : ByteArray) t563 _ A37.out).mono ?_); rintro e w41 ⟨rfl, hb⟩; refine ⟨_, rfl, ?_⟩; replace BK552 := bb BK552 hb; replace BK555 := bb BK555 hb; replace HB := lb HB hb; have hcz42_0 : w41.cell? ⟨gb555, 0, none⟩ = some (.string x556q0_7) := (blk_cell BK555.out 0).trans rfl; have hcz42_1 : w41.cell? ⟨gb555, 1, none⟩ = some (.int .i64 x556q1_7) := (blk_cell BK555.out 1).trans rfl; have hfz42_0 := blk_frozen BK555.out 0; have hfz42_1 := blk_frozen BK555.out 1; have hcz43_0 : w41.cell? ⟨gb552, 0, none⟩ = some (.string (⟨#[]⟩ : ByteArray)) := (blk_cell BK552.out 0).trans rfl; have hcz43_1 : w41.cell? ⟨gb552, 1, none⟩ = some (.int .i64 0) := (blk_cell BK552.out 1).trans rfl; have hfz43_0 := blk_frozen BK552.out 0; have hfz43_1 := blk_frozen BK552.out 1))
      refine bodyPost_ret (results_ct rfl _ _ gb552 79 #[.string t563, .int .i64 x556q1_7] (0, 0) _ rfl (by (with_reducible repeat (first | refine blk_drewN ?_ _ | refine blk_drew ?_ | refine blk_alloc ?_ _)); refine blk_put (cs := #[.string t563, .int .i64 0]) ?_ 1 _ rfl; (with_reducible repeat (first | refine blk_drewN ?_ _ | refine blk_drew ?_ | refine blk_alloc ?_ _)); refine blk_put (cs := #[.string (⟨#[]⟩ : ByteArray), .int .i64 0]) ?_ 0 _ rfl; refine bf NB552_555 ?_; exact bk BK552) Tryd.underlying79 rfl (by kernel_rfl)) rfl ?_
      exact ex (lk HB)
     rw [if_neg c38] at H
     have c38b0 : (x0_7.toList == ([] : List UInt8)) = false := beq_eq_false_iff_ne.mpr c38
     have c38b1 : (x0_7.toList != ([] : List UInt8)) = true := bne_iff_ne.mpr c38
     have HC44 := am H
     clear H
     have hnb45 := NB555_552.out
     have hnc45 := NB552_555.out
     have hcz46_0 : wc.cell? ⟨gb555, 0, none⟩ = some (.string x556q0_7) := (blk_cell BK555.out 0).trans rfl
     have hcz46_1 : wc.cell? ⟨gb555, 1, none⟩ = some (.int .i64 x556q1_7) := (blk_cell BK555.out 1).trans rfl
     have hfz46_0 := blk_frozen BK555.out 0
     have hfz46_1 := blk_frozen BK555.out 1
     go_upto_region 14 with (first | (refine gL (some 44) Tryd.func101 #[.string x556q0_7, .string (⟨#[48]⟩ : ByteArray)] ?_; (with_reducible refine (strings_TrimLeft.calls kj7 x556q0_7 (⟨#[48]⟩ : ByteArray) t563 _ A37.out).mono ?_); rintro e w47 ⟨rfl, hb⟩; refine ⟨_, rfl, ?_⟩; replace BK552 := bb BK552 hb; replace BK555 := bb BK555 hb; replace HB := lb HB hb; have hcz48_0 : w47.cell? ⟨gb555, 0, none⟩ = some (.string x556q0_7) := (blk_cell BK555.out 0).trans rfl; have hcz48_1 : w47.cell? ⟨gb555, 1, none⟩ = some (.int .i64 x556q1_7) := (blk_cell BK555.out 1).trans rfl; have hfz48_0 := blk_frozen BK555.out 0; have hfz48_1 := blk_frozen BK555.out 1))
     (try simp only [Act.put, List.setIfInBounds_toArray, List.set_cons_zero, List.set_cons_succ])
     go_cut [56] (fun v56 wc => ∃ (kq : Nat) (x56_43 : Bool), v56 = .bool x56_43 ∧ Aside0 (num_read.j1 kq x0_7 x56_43 t563 x556q1_7 = some (r1, r2, r3)) ∧ Aside0 (kq ≤ kj7) ∧ Aside0 (wc.heap[gb552]? = some (.cells #[.string (⟨#[]⟩ : ByteArray), .int .i64 0] 79 (0, 0))) ∧ Aside0 (wc.heap[gb555]? = some (.cells #[.string t563, .int .i64 x556q1_7] 79 (0, 0))) ∧ Aside0 (Below w.heap.size w wc))
     case first =>
      have H := HC44.out
      clear HC44
      by_cases c49 : 0 < (x0_7.size : Int)
      ·
       rw [if_pos c49] at H
       have c49b0 := dt c49
       have c49b1 : decide (0 < x0_7.size) = true := dt (by omega)
       clear c49
       (first | rw [c49b0] | (simp only [i64_w, i32_w]; rw [c49b0]) | skip)
       by_cases c51 : (bt x0_7 0) = 101
       ·
        rw [if_pos c51] at H
        have c51b0 : ((bt x0_7 0) == 101) = true := beq_iff_eq.mpr c51
        have c51b1 : ((bt x0_7 0) != 101) = false := bne_eq_false_iff_eq.mpr c51
        clear c51
        have H' := am H
        clear H
        have p50 : 0 ≤ (0 : Int) := (by omega)
        have q50 : 0 < x0_7.size := (by have : (0 : Int) < (x0_7.size : Int) := od; omega)
        have hx50 : ∀ h : 0 < x0_7.size, ((x0_7[0]'h).toNat : Int) = bt x0_7 0 := bt_at x0_7 0
        clear p50
        have qi50 : (0 < (x0_7.size : Int)) = True := eq_true (od)
        replace q50 := eq_true q50
        go_wp2
        go_meet
        case rel => exact ⟨_, (false), eqd, H', ⟨by have := HJ7.out; first | omega | exact Nat.le_refl _⟩, ⟨by refine bf NB552_555 ?_; exact bk BK552⟩, ⟨by (with_reducible repeat (first | refine blk_drewN ?_ _ | refine blk_drew ?_ | refine blk_alloc ?_ _)); refine blk_put (cs := #[.string x556q0_7, .int .i64 x556q1_7]) ?_ 0 _ rfl; exact bk BK555⟩, ⟨lk HB⟩⟩
       rw [if_neg c51] at H
       have c51b0 : ((bt x0_7 0) == 101) = false := beq_eq_false_iff_ne.mpr c51
       have c51b1 : ((bt x0_7 0) != 101) = true := bne_iff_ne.mpr c51
       have H' := am H
       clear H
       have p50 : 0 ≤ (0 : Int) := (by omega)
       have q50 : 0 < x0_7.size := (by have : (0 : Int) < (x0_7.size : Int) := od; omega)
       have hx50 : ∀ h : 0 < x0_7.size, ((x0_7[0]'h).toNat : Int) = bt x0_7 0 := bt_at x0_7 0
       clear p50
       have qi50 : (0 < (x0_7.size : Int)) = True := eq_true (od)
       replace q50 := eq_true q50
       have p52 : 0 ≤ (0 : Int) := (by omega)
       have q52 : 0 < x0_7.size := (by have : (0 : Int) < (x0_7.size : Int) := od; omega)
       have hx52 : ∀ h : 0 < x0_7.size, ((x0_7[0]'h).toNat : Int) = bt x0_7 0 := bt_at x0_7 0
       clear p52
       have qi52 : (0 < (x0_7.size : Int)) = True := eq_true (od)
       replace q52 := eq_true q52
       go_wp2
       go_meet
       case rel => exact ⟨_, (((bt x0_7 0) != 69)), eqd, H', ⟨by have := HJ7.out; first | omega | exact Nat.le_refl _⟩, ⟨by refine bf NB552_555 ?_; exact bk BK552⟩, ⟨by (with_reducible repeat (first | refine blk_drewN ?_ _ | refine blk_drew ?_ | refine blk_alloc ?_ _)); refine blk_put (cs := #[.string x556q0_7, .int .i64 x556q1_7]) ?_ 0 _ rfl; exact bk BK555⟩, ⟨lk HB⟩⟩
      rw [if_neg c49] at H
      exact absurd H (by simp)
     case rest =>
      clear HC44
      obtain ⟨kq, x56_43, rfl, HA, HJ43, BK552, BK555, HB⟩ := hcut
      cases kq with
      | zero => exact absurd HA.out (by simp [num_read.j1])
      | succ kj43 =>
       have H := HA.out
       clear HA
       simp only [num_read.j1] at H
       by_cases c53 : x56_43 = true
       ·
        subst c53
        have H1 : (some (t563, x556q1_7, false)) = some (r1, r2, r3) := by rw [if_pos rfl] at H; exact H
        clear H
        have H := H1
        clear H1
        simp only [Option.some.injEq, Prod.mk.injEq] at H
        obtain ⟨rfl, rfl, rfl⟩ := H
        have hnb54 := NB555_552.out
        have hnc54 := NB552_555.out
        have hcz55_0 : wc.cell? ⟨gb555, 0, none⟩ = some (.string t563) := (blk_cell BK555.out 0).trans rfl
        have hcz55_1 : wc.cell? ⟨gb555, 1, none⟩ = some (.int .i64 x556q1_7) := (blk_cell BK555.out 1).trans rfl
        have hfz55_0 := blk_frozen BK555.out 0
        have hfz55_1 := blk_frozen BK555.out 1
        have hcz56_0 : wc.cell? ⟨gb552, 0, none⟩ = some (.string (⟨#[]⟩ : ByteArray)) := (blk_cell BK552.out 0).trans rfl
        have hcz56_1 : wc.cell? ⟨gb552, 1, none⟩ = some (.int .i64 0) := (blk_cell BK552.out 1).trans rfl
        have hfz56_0 := blk_frozen BK552.out 0
        have hfz56_1 := blk_frozen BK552.out 1
        go_wp2
        refine bodyPost_ret (results_ct rfl _ _ gb552 79 #[.string t563, .int .i64 x556q1_7] (0, 0) _ rfl (by (with_reducible repeat (first | refine blk_drewN ?_ _ | refine blk_drew ?_ | refine blk_alloc ?_ _)); refine blk_put (cs := #[.string t563, .int .i64 0]) ?_ 1 _ rfl; (with_reducible repeat (first | refine blk_drewN ?_ _ | refine blk_drew ?_ | refine blk_alloc ?_ _)); refine blk_put (cs := #[.string (⟨#[]⟩ : ByteArray), .int .i64 0]) ?_ 0 _ rfl; exact bk BK552) Tryd.underlying79 rfl (by kernel_rfl)) rfl ?_
        exact ex (lk HB)
       replace c53 := Bool.eq_false_iff.mpr c53
       subst c53
       have H1 : (if 1 ≤ (x0_7.size : Int) then ((some (x0_7.extract 1 x0_7.size : ByteArray)).bind fun y564 => (if y564.toList = ([] : List UInt8) then (num_read.j2 kj43 y564 1 false t563 x556q1_7) else (if 0 < (y564.size : Int) then (if (bt y564 0) = 43 then (num_read.j2 kj43 y564 1 true t563 x556q1_7) else (num_read.j2 kj43 y564 1 ((bt y564 0) == 45) t563 x556q1_7)) else (none)))) else (none)) = some (r1, r2, r3) := by rw [if_neg (show ¬ (false = true) by decide)] at H; exact H
       clear H
       have H := H1
       clear H1
       by_cases c57 : 1 ≤ (x0_7.size : Int)
       ·
        rw [if_pos c57] at H
        have c57b0 := eq_true c57
        have c57b1 := dt c57
        clear c57
        obtain ⟨y564, Ny564, H⟩ := yb H
        have HC58 := am H
        clear H
        have hcs59 := Hd.str_from (P := Tryd.prog) (k := .i64) Tryd.underlying9 (i := 1) (s := x0_7) (y := y564) oo oo Ny564.out
        go_upto_region 18 with (fail)
        go_cut [71] (fun v71 wc => ∃ (kq : Nat) (x71_57 : Bool), v71 = .bool x71_57 ∧ Aside0 (num_read.j2 kq y564 1 x71_57 t563 x556q1_7 = some (r1, r2, r3)) ∧ Aside0 (kq ≤ kj43) ∧ Aside0 (wc.heap[gb552]? = some (.cells #[.string (⟨#[]⟩ : ByteArray), .int .i64 0] 79 (0, 0))) ∧ Aside0 (wc.heap[gb555]? = some (.cells #[.string t563, .int .i64 x556q1_7] 79 (0, 0))) ∧ Aside0 (Below w.heap.size w wc))
        case first =>
         have H := HC58.out
         clear HC58
         by_cases c60 : y564.toList = ([] : List UInt8)
         ·
          rw [if_pos c60] at H
          have c60b0 : (y564.toList == ([] : List UInt8)) = true := beq_iff_eq.mpr c60
          have c60b1 : (y564.toList != ([] : List UInt8)) = false := bne_eq_false_iff_eq.mpr c60
          clear c60
          (first | rw [c60b0] | (simp only [i64_w, i32_w]; rw [c60b0]) | skip)
          have H' := am H
          clear H
          go_wp2
          go_meet
          case rel => exact ⟨_, (false), eqd, H', ⟨by have := HJ7.out; have := HJ43.out; first | omega | exact Nat.le_refl _⟩, ⟨bk BK552⟩, ⟨bk BK555⟩, ⟨lk HB⟩⟩
         rw [if_neg c60] at H
         have c60b0 : (y564.toList == ([] : List UInt8)) = false := beq_eq_false_iff_ne.mpr c60
         have c60b1 : (y564.toList != ([] : List UInt8)) = true := bne_iff_ne.mpr c60
         (first | rw [c60b0] | (simp only [i64_w, i32_w]; rw [c60b0]) | skip)
         by_cases c61 : 0 < (y564.size : Int)
         ·
          rw [if_pos c61] at H
          have c61b0 := dt c61
          have c61b1 : decide (0 < y564.size) = true := dt (by omega)
          clear c61
          by_cases c63 : (bt y564 0) = 43
          ·
           rw [if_pos c63] at H
           have c63b0 : ((bt y564 0) == 43) = true := beq_iff_eq.mpr c63
           have c63b1 : ((bt y564 0) != 43) = false := bne_eq_false_iff_eq.mpr c63
           clear c63
           have H' := am H
           clear H
           have p62 : 0 ≤ (0 : Int) := (by omega)
           have q62 : 0 < y564.size := (by have : (0 : Int) < (y564.size : Int) := od; omega)
           have hx62 : ∀ h : 0 < y564.size, ((y564[0]'h).toNat : Int) = bt y564 0 := bt_at y564 0
           clear p62
           have qi62 : (0 < (y564.size : Int)) = True := eq_true (od)
           replace q62 := eq_true q62
           go_wp2
           go_meet
           case rel => exact ⟨_, (true), eqd, H', ⟨by have := HJ7.out; have := HJ43.out; first | omega | exact Nat.le_refl _⟩, ⟨bk BK552⟩, ⟨bk BK555⟩, ⟨lk HB⟩⟩
          rw [if_neg c63] at H
          have c63b0 : ((bt y564 0) == 43) = false := beq_eq_false_iff_ne.mpr c63
          have c63b1 : ((bt y564 0) != 43) = true := bne_iff_ne.mpr c63
          have H' := am H
          clear H
          have p62 : 0 ≤ (0 : Int) := (by omega)
          have q62 : 0 < y564.size := (by have : (0 : Int) < (y564.size : Int) := od; omega)
          have hx62 : ∀ h : 0 < y564.size, ((y564[0]'h).toNat : Int) = bt y564 0 := bt_at y564 0
          clear p62
          have qi62 : (0 < (y564.size : Int)) = True := eq_true (od)
          replace q62 := eq_true q62
          have p64 : 0 ≤ (0 : Int) := (by omega)
          have q64 : 0 < y564.size := (by have : (0 : Int) < (y564.size : Int) := od; omega)
          have hx64 : ∀ h : 0 < y564.size, ((y564[0]'h).toNat : Int) = bt y564 0 := bt_at y564 0
          clear p64
          have qi64 : (0 < (y564.size : Int)) = True := eq_true (od)
          replace q64 := eq_true q64
          go_wp2
          go_meet
          case rel => exact ⟨_, (((bt y564 0) == 45)), eqd, H', ⟨by have := HJ7.out; have := HJ43.out; first | omega | exact Nat.le_refl _⟩, ⟨bk BK552⟩, ⟨bk BK555⟩, ⟨lk HB⟩⟩
         rw [if_neg c61] at H
         exact absurd H (by simp)
        case rest =>
         clear HC58
         obtain ⟨kq, x71_57, rfl, HA, HJ57, BK552, BK555, HB⟩ := hcut
         cases kq with
         | zero => exact absurd HA.out (by simp [num_read.j2])
         | succ kj57 =>
          have H := HA.out
          clear HA
          simp only [num_read.j2] at H
          have HC65 := am H
          clear H
          go_upto_if 71 with (fail)
          go_cut [0, 6] (fun v0 v6 wc => ∃ (kq : Nat) (x0_64 : ByteArray) (x6_64 : Int), v0 = .string x0_64 ∧ v6 = .int .i64 x6_64 ∧ Aside0 (num_read.j3 kq x0_64 x6_64 t563 x556q1_7 = some (r1, r2, r3)) ∧ Aside0 (kq ≤ kj57) ∧ Aside0 (wc.heap[gb552]? = some (.cells #[.string (⟨#[]⟩ : ByteArray), .int .i64 0] 79 (0, 0))) ∧ Aside0 (wc.heap[gb555]? = some (.cells #[.string t563, .int .i64 x556q1_7] 79 (0, 0))) ∧ Aside0 (Below w.heap.size w wc))
          case first =>
           have H := HC65.out
           clear HC65
           by_cases c66 : x71_57 = true
           ·
            subst c66
            have H1 : (if 0 < (y564.size : Int) then (if (bt y564 0) = 45 then (if 1 ≤ (y564.size : Int) then (num_read.j3 kj57 (y564.extract 1 y564.size) (-1) t563 x556q1_7) else (none)) else (if 1 ≤ (y564.size : Int) then (num_read.j3 kj57 (y564.extract 1 y564.size) 1 t563 x556q1_7) else (none))) else (none)) = some (r1, r2, r3) := by rw [if_pos rfl] at H; exact H
            clear H
            have H := H1
            clear H1
            by_cases c67 : 0 < (y564.size : Int)
            ·
             rw [if_pos c67] at H
             have c67b0 := dt c67
             have c67b1 : decide (0 < y564.size) = true := dt (by omega)
             clear c67
             (first | rw [c67b0] | (simp only [i64_w, i32_w]; rw [c67b0]) | skip)
             by_cases c69 : (bt y564 0) = 45
             ·
              rw [if_pos c69] at H
              have c69b0 : ((bt y564 0) == 45) = true := beq_iff_eq.mpr c69
              have c69b1 : ((bt y564 0) != 45) = false := bne_eq_false_iff_eq.mpr c69
              clear c69
              by_cases c70 : 1 ≤ (y564.size : Int)
              ·
               rw [if_pos c70] at H
               have c70b0 := eq_true c70
               have c70b1 := dt c70
               clear c70
               obtain ⟨y565, hy565⟩ : ∃ y_ : ByteArray, y_ = (y564.extract 1 y564.size) := ⟨_, rfl⟩
               replace H : (num_read.j3 kj57 y565 (-1) t563 x556q1_7) = some (r1, r2, r3) := by first | (rw [hy565]; exact H) | exact H
               have Ny565 := am hy565
               clear hy565
               have H' := am H
               clear H
               have p68 : 0 ≤ (0 : Int) := (by omega)
               have q68 : 0 < y564.size := (by have : (0 : Int) < (y564.size : Int) := od; omega)
               have hx68 : ∀ h : 0 < y564.size, ((y564[0]'h).toNat : Int) = bt y564 0 := bt_at y564 0
               clear p68
               have qi68 : (0 < (y564.size : Int)) = True := eq_true (od)
               replace q68 := eq_true q68
               have hcs71 := Hd.str_from (P := Tryd.prog) (k := .i64) Tryd.underlying9 (i := 1) (s := y564) (y := y565) oo oo Ny565.out
               go_wp2
               go_meet
               case rel => exact ⟨_, (y565), ((-1)), eqd, eqd, H', ⟨by have := HJ7.out; have := HJ43.out; have := HJ57.out; first | omega | exact Nat.le_refl _⟩, ⟨bk BK552⟩, ⟨bk BK555⟩, ⟨lk HB⟩⟩
              rw [if_neg c70] at H
              exact absurd H (by simp)
             rw [if_neg c69] at H
             have c69b0 : ((bt y564 0) == 45) = false := beq_eq_false_iff_ne.mpr c69
             have c69b1 : ((bt y564 0) != 45) = true := bne_iff_ne.mpr c69
             by_cases c72 : 1 ≤ (y564.size : Int)
             ·
              rw [if_pos c72] at H
              have c72b0 := eq_true c72
              have c72b1 := dt c72
              clear c72
              obtain ⟨y566, hy566⟩ : ∃ y_ : ByteArray, y_ = (y564.extract 1 y564.size) := ⟨_, rfl⟩
              replace H : (num_read.j3 kj57 y566 1 t563 x556q1_7) = some (r1, r2, r3) := by first | (rw [hy566]; exact H) | exact H
              have Ny566 := am hy566
              clear hy566
              have H' := am H
              clear H
              have p68 : 0 ≤ (0 : Int) := (by omega)
              have q68 : 0 < y564.size := (by have : (0 : Int) < (y564.size : Int) := od; omega)
              have hx68 : ∀ h : 0 < y564.size, ((y564[0]'h).toNat : Int) = bt y564 0 := bt_at y564 0
              clear p68
              have qi68 : (0 < (y564.size : Int)) = True := eq_true (od)
              replace q68 := eq_true q68
              have hcs73 := Hd.str_from (P := Tryd.prog) (k := .i64) Tryd.underlying9 (i := 1) (s := y564) (y := y566) oo oo Ny566.out
              go_wp2
              go_meet
              case rel => exact ⟨_, (y566), (1), eqd, eqd, H', ⟨by have := HJ7.out; have := HJ43.out; have := HJ57.out; first | omega | exact Nat.le_refl _⟩, ⟨bk BK552⟩, ⟨bk BK555⟩, ⟨lk HB⟩⟩
             rw [if_neg c72] at H
             exact absurd H (by simp)
            rw [if_neg c67] at H
            exact absurd H (by simp)
           replace c66 := Bool.eq_false_iff.mpr c66
           subst c66
           have H1 : (num_read.j3 kj57 y564 1 t563 x556q1_7) = some (r1, r2, r3) := by rw [if_neg (show ¬ (false = true) by decide)] at H; exact H
           clear H
           have H := H1
           clear H1
           have H' := am H
           clear H
           go_wp2
           go_meet
           case rel => exact ⟨_, (y564), (1), eqd, eqd, H', ⟨by have := HJ7.out; have := HJ43.out; have := HJ57.out; first | omega | exact Nat.le_refl _⟩, ⟨bk BK552⟩, ⟨bk BK555⟩, ⟨lk HB⟩⟩
          case rest =>
           clear HC65
           obtain ⟨kq, x0_64, x6_64, rfl, rfl, HA, HJ64, BK552, BK555, HB⟩ := hcut
           cases kq with
           | zero => exact absurd HA.out (by simp [num_read.j3])
           | succ kj64 =>
            have H := HA.out
            clear HA
            simp only [num_read.j3] at H
            have HC74 := am H
            clear H
            go_upto_region 22 with (fail)
            go_cut [85] (fun v85 wc => ∃ (kq : Nat) (x85_73 : Bool), v85 = .bool x85_73 ∧ Aside0 (num_read.j4 kq x0_64 x6_64 x85_73 t563 x556q1_7 = some (r1, r2, r3)) ∧ Aside0 (kq ≤ kj64) ∧ Aside0 (wc.heap[gb552]? = some (.cells #[.string (⟨#[]⟩ : ByteArray), .int .i64 0] 79 (0, 0))) ∧ Aside0 (wc.heap[gb555]? = some (.cells #[.string t563, .int .i64 x556q1_7] 79 (0, 0))) ∧ Aside0 (Below w.heap.size w wc))
            case first =>
             have H := HC74.out
             clear HC74
             by_cases c75 : x0_64.toList = ([] : List UInt8)
             ·
              rw [if_pos c75] at H
              have c75b0 : (x0_64.toList == ([] : List UInt8)) = true := beq_iff_eq.mpr c75
              have c75b1 : (x0_64.toList != ([] : List UInt8)) = false := bne_eq_false_iff_eq.mpr c75
              clear c75
              (first | rw [c75b0] | (simp only [i64_w, i32_w]; rw [c75b0]) | skip)
              have H' := am H
              clear H
              go_wp2
              go_meet
              case rel => exact ⟨_, (true), eqd, H', ⟨by have := HJ7.out; have := HJ43.out; have := HJ57.out; have := HJ64.out; first | omega | exact Nat.le_refl _⟩, ⟨bk BK552⟩, ⟨bk BK555⟩, ⟨lk HB⟩⟩
             rw [if_neg c75] at H
             have c75b0 : (x0_64.toList == ([] : List UInt8)) = false := beq_eq_false_iff_ne.mpr c75
             have c75b1 : (x0_64.toList != ([] : List UInt8)) = true := bne_iff_ne.mpr c75
             (first | rw [c75b0] | (simp only [i64_w, i32_w]; rw [c75b0]) | skip)
             replace H := bm H
             obtain ⟨t567, A760, H⟩ := H
             replace H : (num_read.j4 kj64 x0_64 x6_64 (t567 != (x0_64.size : Int)) t563 x556q1_7) = some (r1, r2, r3) := H
             have A76 := am A760
             clear A760
             have H' := am H
             clear H
             go_wp2_with (first | (go_at_call 76; (with_reducible refine (num_run.calls kj64 x0_64 t567 _ A76.out).mono ?_); rintro e w' ⟨rfl, ⟨nd, rfl⟩⟩))
             go_meet
             case rel => exact ⟨_, ((t567 != (x0_64.size : Int))), eqd, H', ⟨by have := HJ7.out; have := HJ43.out; have := HJ57.out; have := HJ64.out; first | omega | exact Nat.le_refl _⟩, ⟨bk BK552⟩, ⟨bk BK555⟩, ⟨lk HB⟩⟩
            case rest =>
             clear HC74
             obtain ⟨kq, x85_73, rfl, HA, HJ73, BK552, BK555, HB⟩ := hcut
             cases kq with
             | zero => exact absurd HA.out (by simp [num_read.j4])
             | succ kj73 =>
              have H := HA.out
              clear HA
              simp only [num_read.j4] at H
              by_cases c77 : x85_73 = true
              ·
               subst c77
               have H1 : (some (t563, x556q1_7, false)) = some (r1, r2, r3) := by rw [if_pos rfl] at H; exact H
               clear H
               have H := H1
               clear H1
               simp only [Option.some.injEq, Prod.mk.injEq] at H
               obtain ⟨rfl, rfl, rfl⟩ := H
               have hnb78 := NB555_552.out
               have hnc78 := NB552_555.out
               have hcz79_0 : wc.cell? ⟨gb555, 0, none⟩ = some (.string t563) := (blk_cell BK555.out 0).trans rfl
               have hcz79_1 : wc.cell? ⟨gb555, 1, none⟩ = some (.int .i64 x556q1_7) := (blk_cell BK555.out 1).trans rfl
               have hfz79_0 := blk_frozen BK555.out 0
               have hfz79_1 := blk_frozen BK555.out 1
               have hcz80_0 : wc.cell? ⟨gb552, 0, none⟩ = some (.string (⟨#[]⟩ : ByteArray)) := (blk_cell BK552.out 0).trans rfl
               have hcz80_1 : wc.cell? ⟨gb552, 1, none⟩ = some (.int .i64 0) := (blk_cell BK552.out 1).trans rfl
               have hfz80_0 := blk_frozen BK552.out 0
               have hfz80_1 := blk_frozen BK552.out 1
               go_wp2
               refine bodyPost_ret (results_ct rfl _ _ gb552 79 #[.string t563, .int .i64 x556q1_7] (0, 0) _ rfl (by (with_reducible repeat (first | refine blk_drewN ?_ _ | refine blk_drew ?_ | refine blk_alloc ?_ _)); refine blk_put (cs := #[.string t563, .int .i64 0]) ?_ 1 _ rfl; (with_reducible repeat (first | refine blk_drewN ?_ _ | refine blk_drew ?_ | refine blk_alloc ?_ _)); refine blk_put (cs := #[.string (⟨#[]⟩ : ByteArray), .int .i64 0]) ?_ 0 _ rfl; exact bk BK552) Tryd.underlying79 rfl (by kernel_rfl)) rfl ?_
               exact ex (lk HB)
              replace c77 := Bool.eq_false_iff.mpr c77
              subst c77
              have H1 : (num_read.l0 kj73 x0_64 x6_64 0 (x0_64.size : Int) 0 t563 x556q1_7) = some (r1, r2, r3) := by rw [if_neg (show ¬ (false = true) by decide)] at H; exact H
              clear H
              have H := H1
              clear H1
              have H' := am H
              clear H
              go_wp2
              go_loopg [7, 89] kj73 (fun kq v7 v89 w' => ∃ (x7_6 : Int) (x89_6 : Int), v7 = .int .i64 x7_6 ∧ v89 = .int .i64 x89_6 ∧ Aside0 (num_read.l0 kq x0_64 x6_64 x7_6 (x0_64.size : Int) x89_6 t563 x556q1_7 = some (r1, r2, r3)) ∧ Aside0 (kq ≤ kj73) ∧ Aside0 (w'.heap[gb552]? = some (.cells #[.string (⟨#[]⟩ : ByteArray), .int .i64 0] 79 (0, 0))) ∧ Aside0 (w'.heap[gb555]? = some (.cells #[.string t563, .int .i64 x556q1_7] 79 (0, 0))) ∧ Aside0 (Below w.heap.size w w'))
              case atStart => exact ⟨(0), (0), eqd, eqd, H', ⟨Nat.le_refl _⟩, ⟨bk BK552⟩, ⟨bk BK555⟩, ⟨lk HB⟩⟩
              case round =>
               clear H'
               obtain ⟨x7_6, x89_6, rfl, rfl, HA, HK6, BK552, BK555, HB⟩ := hrel
               cases gk with
               | zero => exact absurd HA.out (by simp [num_read.l0])
               | succ k6 =>
                have H := HA.out
                clear HA
                simp only [num_read.l0] at H
                by_cases c81 : x89_6 < (x0_64.size : Int)
                ·
                 rw [if_pos c81] at H
                 have c81b0 := dt c81
                 clear c81
                 by_cases c82 : 0 ≤ x89_6
                 ·
                  rw [if_pos c82] at H
                  have c82b0 := dt c82
                  clear c82
                  by_cases c83 : x89_6 < (x0_64.size : Int)
                  ·
                   rw [if_pos c83] at H
                   have c83b0 := dt c83
                   clear c83
                   obtain ⟨ji85, hji85⟩ : ∃ j_ : Int, (mn (wrap64 ((wrap64 (10 * x7_6)) + (((bt x0_64 x89_6) - 48) % 256))) 100000) = j_ := ⟨_, rfl⟩
                   replace H : (num_read.l0 k6 x0_64 x6_64 ji85 (x0_64.size : Int) (wrap64 (x89_6 + 1)) t563 x556q1_7) = some (r1, r2, r3) := by first | (rw [hji85] at H; exact H) | (simp only [hji85] at H ⊢; exact H)
                   have hji85_ : (if 100000 < (wrap64 ((wrap64 (10 * x7_6)) + (((bt x0_64 x89_6) - 48) % 256))) then 100000 else (wrap64 ((wrap64 (10 * x7_6)) + (((bt x0_64 x89_6) - 48) % 256)))) = ji85 := hji85
                   have H' := am H
                   clear H
                   have p84 : 0 ≤ (x89_6 : Int) := od
                   have q84 : x89_6 < (x0_64.size : Int) := od
                   have hx84 := bt_at x0_64 x89_6
                   replace p84 := eq_true p84
                   replace q84 := eq_true q84
                   go_wp2
                   go_roundg k6
                   case measure => have := HJ7.out; have := HJ43.out; have := HJ57.out; have := HJ64.out; have := HJ73.out; have := HK6.out; omega
                   case rel => exact ⟨(ji85), (wrap64 (x89_6 + 1)), (by first | rfl | (simp; done) | (simp only [← hji85] <;> (first | rfl | simp)) | (simp [*]; done)), eqd, H', ⟨by have := HJ7.out; have := HJ43.out; have := HJ57.out; have := HJ64.out; have := HJ73.out; have := HK6.out; omega⟩, ⟨bk BK552⟩, ⟨bk BK555⟩, ⟨lk HB⟩⟩
                  rw [if_neg c83] at H
                  exact absurd H (by simp)
                 rw [if_neg c82] at H
                 exact absurd H (by simp)
                rw [if_neg c81] at H
                have c81b0 := decide_eq_false c81
                clear c81
                simp only [Option.some.injEq, Prod.mk.injEq] at H
                obtain ⟨rfl, rfl, rfl⟩ := H
                have hnb86 := NB555_552.out
                have hnc86 := NB552_555.out
                have hcz87_0 : wr.cell? ⟨gb555, 0, none⟩ = some (.string t563) := (blk_cell BK555.out 0).trans rfl
                have hcz87_1 : wr.cell? ⟨gb555, 1, none⟩ = some (.int .i64 x556q1_7) := (blk_cell BK555.out 1).trans rfl
                have hfz87_0 := blk_frozen BK555.out 0
                have hfz87_1 := blk_frozen BK555.out 1
                have hcz88_0 : wr.cell? ⟨gb552, 0, none⟩ = some (.string (⟨#[]⟩ : ByteArray)) := (blk_cell BK552.out 0).trans rfl
                have hcz88_1 : wr.cell? ⟨gb552, 1, none⟩ = some (.int .i64 0) := (blk_cell BK552.out 1).trans rfl
                have hfz88_0 := blk_frozen BK552.out 0
                have hfz88_1 := blk_frozen BK552.out 1
                go_wp2
                refine bodyPost_ret (results_ct rfl _ _ gb552 79 #[.string t563, .int .i64 (wrap64 (x556q1_7 + (wrap64 (x6_64 * x7_6))))] (0, 0) _ rfl (by (with_reducible repeat (first | refine blk_drewN ?_ _ | refine blk_drew ?_ | refine blk_alloc ?_ _)); refine blk_put (cs := #[.string t563, .int .i64 0]) ?_ 1 _ rfl; (with_reducible repeat (first | refine blk_drewN ?_ _ | refine blk_drew ?_ | refine blk_alloc ?_ _)); refine blk_put (cs := #[.string (⟨#[]⟩ : ByteArray), .int .i64 0]) ?_ 0 _ rfl; refine bf NB552_555 ?_; exact bk BK552) Tryd.underlying79 rfl (by kernel_rfl)) rfl ?_
                exact ex (lk HB)
       rw [if_neg c57] at H
       exact absurd H (by simp)
  rw [if_neg c4] at H
  exact absurd H (by simp)
 rw [if_neg c3] at H
 exact absurd H (by simp)
def r_plain.f : Nat → Int → Option (ByteArray)
 | 0, _ => none
 | k + 1, a0 => if (Int.tmod a0 10) < 0 then ((some (([(wrap64 (48 + (wrap64 (-(Int.tmod a0 10))))) % 256] : List Int) : List Int)).bind fun y437 => (if (wrap64 (Int.tdiv a0 10)) = 0 then (some (strOfNums y437)) else ((r_plain.f k (wrap64 (Int.tdiv a0 10))).bind fun t440 => (if t440.size + (strOfNums y437).size ≤ 9223372036854775807 then (some (t440 ++ (strOfNums y437))) else (none))))) else ((some (([(wrap64 (48 + (Int.tmod a0 10))) % 256] : List Int) : List Int)).bind fun y442 => (if (wrap64 (Int.tdiv a0 10)) = 0 then (some (strOfNums y442)) else ((r_plain.f k (wrap64 (Int.tdiv a0 10))).bind fun t445 => (if t445.size + (strOfNums y442).size ≤ 9223372036854775807 then (some (t445 ++ (strOfNums y442))) else (none)))))
theorem r_plain.mono_l : ∀ k, (∀ y0, LeO (r_plain.f k y0) (r_plain.f (k + 1) y0))
 | 0 => fun _ r h => by simp [r_plain.f] at h
 | k + 1 => by
  have ih0 := r_plain.mono_l k
  ·
   intro y0
   unfold r_plain.f
   repeat' (with_reducible first | apply ih0 | apply LeO.refl | apply LeO.none | apply LeO.ite | refine LeO.bind ?_ (fun _ => ?_))
theorem r_plain.mono : ∀ a0 k, LeO (r_plain.f k a0) (r_plain.f (k + 1) a0) := by
 intro a0 k
 have ih0 := r_plain.mono_l k
 exact ih0 a0
set_option maxHeartbeats 8000000 in
theorem r_plain.calls (k : Nat) : ∀ (a0 : Int) (r : ByteArray) (w : World) (h : r_plain.f k a0 = some r),
  Calls Tryd.prog 63 #[.int .i64 a0] w fun e w' => e = .returned (.string r) ∧ Below w.heap.size w w' := by
 induction k using Nat.strongRecOn with
 | _ k ih =>
 intro a0 r w h
 cases k with
 | zero => exact absurd h (by simp [r_plain.f])
 | succ k =>
 simp only [r_plain.f] at h
 have HB := am (Below.refl w.heap.size w)
 have H : (if (Int.tmod a0 10) < 0 then ((some (([(wrap64 (48 + (wrap64 (-(Int.tmod a0 10))))) % 256] : List Int) : List Int)).bind fun y437 => (if (wrap64 (Int.tdiv a0 10)) = 0 then (some (strOfNums y437)) else ((r_plain.f k (wrap64 (Int.tdiv a0 10))).bind fun t440 => (if t440.size + (strOfNums y437).size ≤ 9223372036854775807 then (some (t440 ++ (strOfNums y437))) else (none))))) else ((some (([(wrap64 (48 + (Int.tmod a0 10))) % 256] : List Int) : List Int)).bind fun y442 => (if (wrap64 (Int.tdiv a0 10)) = 0 then (some (strOfNums y442)) else ((r_plain.f k (wrap64 (Int.tdiv a0 10))).bind fun t445 => (if t445.size + (strOfNums y442).size ≤ 9223372036854775807 then (some (t445 ++ (strOfNums y442))) else (none)))))) = some r := h
 clear h
 by_cases c2 : (Int.tmod a0 10) < 0
 ·
  rw [if_pos c2] at H
  have c2b0 := dt c2
  clear c2
  obtain ⟨y437, Ny437, H⟩ := yb H
  by_cases c3 : (wrap64 (Int.tdiv a0 10)) = 0
  ·
   rw [if_pos c3] at H
   have c3b0 : ((wrap64 (Int.tdiv a0 10)) == 0) = true := beq_iff_eq.mpr c3
   have c3b1 : ((wrap64 (Int.tdiv a0 10)) != 0) = false := bne_eq_false_iff_eq.mpr c3
   clear c3
   obtain rfl := Option.some.inj H
   go_enter Tryd.func63, Tryd.ntmps63
   go_wp2_with (first | ((with_reducible refine gate_dst (N := 14) rfl ?_); refine Kd.R_lit (Kd.int .u8) _ 5 ?hg (N := 14) ?hd (xs := ([(wrap64 (48 + (wrap64 (-(Int.tmod a0 10))))) % 256] : List Int)) (inner := [.int .u8 ((wrap64 (48 + (wrap64 (-(Int.tmod a0 10))))) % 256)]) (ok := fun _ => True) (okp := fun _ => True) ?hr ?hp (fun _ hk => hk) trivial (Below.refl _ _) (Nat.le_refl _) (by simp) ?_; (case hd => rfl); (case hg => rfl); (case hr => first | (go_simp; done) | (go_simp; rfl)); (case hp => exact (Reps.one (show Kd.M (Kd.int .u8) _ _ _ ((wrap64 (48 + (wrap64 (-(Int.tmod a0 10))))) % 256) [.int .u8 ((wrap64 (48 + (wrap64 (-(Int.tmod a0 10))))) % 256)] from rfl) (Reps.none _ _))); intro v438 w4 ho5 hb hg_ hnew_; clear hg_ hnew_; (first | rw [← Ny437.out] at ho5 | (simp only [Int.reduceToNat] at ho5; rw [← Ny437.out] at ho5)); have HO439 := am (Kd.R_lower ho5 (below_size (lk HB))); replace HB := lb HB hb; clear hb ho5; have hcv6 := own_string (P := Tryd.prog) Tryd.underlying43 Tryd.underlying5 Tryd.underlying9 (Kd.own_of_R HO439.out)))
   go_ret
   exact ex (lk HB)
  rw [if_neg c3] at H
  have c3b0 : ((wrap64 (Int.tdiv a0 10)) == 0) = false := beq_eq_false_iff_ne.mpr c3
  have c3b1 : ((wrap64 (Int.tdiv a0 10)) != 0) = true := bne_iff_ne.mpr c3
  replace H := bm H
  obtain ⟨t440, A70, H⟩ := H
  have A7 := am A70
  clear A70
  by_cases c8 : t440.size + (strOfNums y437).size ≤ 9223372036854775807
  ·
   rw [if_pos c8] at H
   have c8b0 := eq_true c8
   have c8b1 := dt c8
   obtain ⟨y441, hy441⟩ : ∃ y_ : ByteArray, y_ = (t440 ++ (strOfNums y437)) := ⟨_, rfl⟩
   replace H : (some y441) = some r := by first | (rw [hy441]; exact H) | exact H
   have Ny441 := am hy441
   clear hy441
   obtain rfl := Option.some.inj H
   go_enter Tryd.func63, Tryd.ntmps63
   go_wp2_with (first | ((with_reducible refine gate_dst (N := 14) rfl ?_); refine Kd.R_lit (Kd.int .u8) _ 5 ?hg (N := 14) ?hd (xs := ([(wrap64 (48 + (wrap64 (-(Int.tmod a0 10))))) % 256] : List Int)) (inner := [.int .u8 ((wrap64 (48 + (wrap64 (-(Int.tmod a0 10))))) % 256)]) (ok := fun _ => True) (okp := fun _ => True) ?hr ?hp (fun _ hk => hk) trivial (Below.refl _ _) (Nat.le_refl _) (by simp) ?_; (case hd => rfl); (case hg => rfl); (case hr => first | (go_simp; done) | (go_simp; rfl)); (case hp => exact (Reps.one (show Kd.M (Kd.int .u8) _ _ _ ((wrap64 (48 + (wrap64 (-(Int.tmod a0 10))))) % 256) [.int .u8 ((wrap64 (48 + (wrap64 (-(Int.tmod a0 10))))) % 256)] from rfl) (Reps.none _ _))); intro v438 w9 ho10 hb hg_ hnew_; clear hg_ hnew_; (first | rw [← Ny437.out] at ho10 | (simp only [Int.reduceToNat] at ho10; rw [← Ny437.out] at ho10)); have HO439 := am (Kd.R_lower ho10 (below_size (lk HB))); replace HB := lb HB hb; clear hb ho10; have hcv11 := own_string (P := Tryd.prog) Tryd.underlying43 Tryd.underlying5 Tryd.underlying9 (Kd.own_of_R HO439.out)) | (refine gL (some 22) Tryd.func63 #[.int .i64 (wrap64 (Int.tdiv a0 10))] ?_; (with_reducible refine (ih k (by omega) (wrap64 (Int.tdiv a0 10)) t440 _ A7.out).mono ?_); rintro e w12 ⟨rfl, hb⟩; refine ⟨_, rfl, ?_⟩; replace HO439 := am (Kd.R_below (rk HO439) hb); replace HB := lb HB hb; obtain ⟨hcs13, hcs13'⟩ := sc Ny441))
   go_ret
   exact ex (lk HB)
  rw [if_neg c8] at H
  exact absurd H (by simp)
 rw [if_neg c2] at H
 have c2b0 := decide_eq_false c2
 clear c2
 obtain ⟨y442, Ny442, H⟩ := yb H
 by_cases c14 : (wrap64 (Int.tdiv a0 10)) = 0
 ·
  rw [if_pos c14] at H
  have c14b0 : ((wrap64 (Int.tdiv a0 10)) == 0) = true := beq_iff_eq.mpr c14
  have c14b1 : ((wrap64 (Int.tdiv a0 10)) != 0) = false := bne_eq_false_iff_eq.mpr c14
  clear c14
  obtain rfl := Option.some.inj H
  go_enter Tryd.func63, Tryd.ntmps63
  go_wp2_with (first | ((with_reducible refine gate_dst (N := 14) rfl ?_); refine Kd.R_lit (Kd.int .u8) _ 5 ?hg (N := 14) ?hd (xs := ([(wrap64 (48 + (Int.tmod a0 10))) % 256] : List Int)) (inner := [.int .u8 ((wrap64 (48 + (Int.tmod a0 10))) % 256)]) (ok := fun _ => True) (okp := fun _ => True) ?hr ?hp (fun _ hk => hk) trivial (Below.refl _ _) (Nat.le_refl _) (by simp) ?_; (case hd => rfl); (case hg => rfl); (case hr => first | (go_simp; done) | (go_simp; rfl)); (case hp => exact (Reps.one (show Kd.M (Kd.int .u8) _ _ _ ((wrap64 (48 + (Int.tmod a0 10))) % 256) [.int .u8 ((wrap64 (48 + (Int.tmod a0 10))) % 256)] from rfl) (Reps.none _ _))); intro v443 w15 ho16 hb hg_ hnew_; clear hg_ hnew_; (first | rw [← Ny442.out] at ho16 | (simp only [Int.reduceToNat] at ho16; rw [← Ny442.out] at ho16)); have HO444 := am (Kd.R_lower ho16 (below_size (lk HB))); replace HB := lb HB hb; clear hb ho16; have hcv17 := own_string (P := Tryd.prog) Tryd.underlying43 Tryd.underlying5 Tryd.underlying9 (Kd.own_of_R HO444.out)))
  go_ret
  exact ex (lk HB)
 rw [if_neg c14] at H
 have c14b0 : ((wrap64 (Int.tdiv a0 10)) == 0) = false := beq_eq_false_iff_ne.mpr c14
 have c14b1 : ((wrap64 (Int.tdiv a0 10)) != 0) = true := bne_iff_ne.mpr c14
 replace H := bm H
 obtain ⟨t445, A180, H⟩ := H
 have A18 := am A180
 clear A180
 by_cases c19 : t445.size + (strOfNums y442).size ≤ 9223372036854775807
 ·
  rw [if_pos c19] at H
  have c19b0 := eq_true c19
  have c19b1 := dt c19
  obtain ⟨y446, hy446⟩ : ∃ y_ : ByteArray, y_ = (t445 ++ (strOfNums y442)) := ⟨_, rfl⟩
  replace H : (some y446) = some r := by first | (rw [hy446]; exact H) | exact H
  have Ny446 := am hy446
  clear hy446
  obtain rfl := Option.some.inj H
  go_enter Tryd.func63, Tryd.ntmps63
  go_wp2_with (first | ((with_reducible refine gate_dst (N := 14) rfl ?_); refine Kd.R_lit (Kd.int .u8) _ 5 ?hg (N := 14) ?hd (xs := ([(wrap64 (48 + (Int.tmod a0 10))) % 256] : List Int)) (inner := [.int .u8 ((wrap64 (48 + (Int.tmod a0 10))) % 256)]) (ok := fun _ => True) (okp := fun _ => True) ?hr ?hp (fun _ hk => hk) trivial (Below.refl _ _) (Nat.le_refl _) (by simp) ?_; (case hd => rfl); (case hg => rfl); (case hr => first | (go_simp; done) | (go_simp; rfl)); (case hp => exact (Reps.one (show Kd.M (Kd.int .u8) _ _ _ ((wrap64 (48 + (Int.tmod a0 10))) % 256) [.int .u8 ((wrap64 (48 + (Int.tmod a0 10))) % 256)] from rfl) (Reps.none _ _))); intro v443 w20 ho21 hb hg_ hnew_; clear hg_ hnew_; (first | rw [← Ny442.out] at ho21 | (simp only [Int.reduceToNat] at ho21; rw [← Ny442.out] at ho21)); have HO444 := am (Kd.R_lower ho21 (below_size (lk HB))); replace HB := lb HB hb; clear hb ho21; have hcv22 := own_string (P := Tryd.prog) Tryd.underlying43 Tryd.underlying5 Tryd.underlying9 (Kd.own_of_R HO444.out)) | (refine gL (some 22) Tryd.func63 #[.int .i64 (wrap64 (Int.tdiv a0 10))] ?_; (with_reducible refine (ih k (by omega) (wrap64 (Int.tdiv a0 10)) t445 _ A18.out).mono ?_); rintro e w23 ⟨rfl, hb⟩; refine ⟨_, rfl, ?_⟩; replace HO444 := am (Kd.R_below (rk HO444) hb); replace HB := lb HB hb; obtain ⟨hcs24, hcs24'⟩ := sc Ny446))
  go_ret
  exact ex (lk HB)
 rw [if_neg c19] at H
 exact absurd H (by simp)
mutual
def r_text.l0 : Nat → List Int → ByteArray → Int → Option (ByteArray)
 | 0, _, _, _ => none
 | k + 1, x0, x3, x4 => if x4 ≥ 0 then (if 0 ≤ x4 then (if x4 < (x0.length : Int) then ((r_plain.f k (rd x0 x4)).bind fun t448 => (r_text.l1 k x0 x3 x4 t448)) else (none)) else (none)) else (some x3)
def r_text.l1 : Nat → List Int → ByteArray → Int → ByteArray → Option (ByteArray)
 | 0, _, _, _, _ => none
 | k + 1, x0, x3, x4, x5 => if x4 < (wrap64 ((x0.length : Int) - 1)) then (if (x5.size : Int) < 4 then (if 1 + x5.size ≤ 9223372036854775807 then (r_text.l1 k x0 x3 x4 ((⟨#[48]⟩ : ByteArray) ++ x5)) else (none)) else (if x3.size + x5.size ≤ 9223372036854775807 then (r_text.l0 k x0 (x3 ++ x5) (wrap64 (x4 - 1))) else (none))) else (if x3.size + x5.size ≤ 9223372036854775807 then (r_text.l0 k x0 (x3 ++ x5) (wrap64 (x4 - 1))) else (none))
end
def r_text.f (k : Nat) (l0 : List Int) : Option (ByteArray) := r_text.l0 k l0 (⟨#[]⟩ : ByteArray) (wrap64 ((l0.length : Int) - 1))
theorem r_text.mono_l : ∀ k, (∀ y0 y1 y2, LeO (r_text.l0 k y0 y1 y2) (r_text.l0 (k + 1) y0 y1 y2)) ∧ (∀ y0 y1 y2 y3, LeO (r_text.l1 k y0 y1 y2 y3) (r_text.l1 (k + 1) y0 y1 y2 y3))
 | 0 => ⟨fun _ _ _ r h => by simp [r_text.l0] at h, fun _ _ _ _ r h => by simp [r_text.l1] at h⟩
 | k + 1 => by
  obtain ⟨ih0, ih1⟩ := r_text.mono_l k
  refine ⟨?_, ?_⟩ <;> intros <;> (first | unfold r_text.l0 | unfold r_text.l1) <;> repeat' (with_reducible first | apply ih0 | apply ih1 | apply r_plain.mono | apply LeO.refl | apply LeO.none | apply LeO.ite | refine LeO.bind ?_ (fun _ => ?_))
theorem r_text.mono : ∀ a0 k, LeO (r_text.f k a0) (r_text.f (k + 1) a0) := by
 intro a0 k
 obtain ⟨ih0, ih1⟩ := r_text.mono_l k
 unfold r_text.f
 repeat' (with_reducible first | apply ih0 | apply ih1 | apply r_plain.mono | apply LeO.refl | apply LeO.none | apply LeO.ite | refine LeO.bind ?_ (fun _ => ?_))
set_option maxHeartbeats 8000000 in
theorem r_text.calls (k : Nat) (A0 : Option Addr) (c0 : Nat) (l0 : List Int) (r : ByteArray) (w : World) (hr0 : Kd.C (Kd.int .i64) w A0 l0.length l0) (hc0 : l0.length ≤ c0) (h : r_text.f k l0 = some r) :
  Calls Tryd.prog 60 #[.slice A0 l0.length c0] w fun e w' => e = .returned (.string r) ∧ Below w.heap.size w w' := by
 have HR0 := am hr0
 have HC0 := am hc0
 clear hr0 hc0
 have HB := am (Below.refl w.heap.size w)
 have H : (r_text.l0 k l0 (⟨#[]⟩ : ByteArray) (wrap64 ((l0.length : Int) - 1))) = some r := h
 clear h
 have H' := am H
 clear H
 go_enter Tryd.func60, Tryd.ntmps60
 go_wp2
 go_loopg [3, 4] k (fun kq v3 v4 w' => ∃ (x3_1 : ByteArray) (x4_1 : Int), v3 = .string x3_1 ∧ v4 = .int .i64 x4_1 ∧ Aside0 (r_text.l0 kq l0 x3_1 x4_1 = some r) ∧ Aside0 (kq ≤ k) ∧ Aside0 (Below w.heap.size w w'))
 case atStart => exact ⟨((⟨#[]⟩ : ByteArray)), (wrap64 ((l0.length : Int) - 1)), eqd, eqd, H', ⟨Nat.le_refl _⟩, ⟨lk HB⟩⟩
 case round =>
  clear H'
  obtain ⟨x3_1, x4_1, rfl, rfl, HA, HK1, HB⟩ := hrel
  cases gk with
  | zero => exact absurd HA.out (by simp [r_text.l0])
  | succ k1 =>
   have H := HA.out
   clear HA
   simp only [r_text.l0] at H
   by_cases c2 : x4_1 ≥ 0
   ·
    rw [if_pos c2] at H
    have c2b0 : decide (0 ≤ x4_1) = true := dt c2
    clear c2
    by_cases c3 : 0 ≤ x4_1
    ·
     rw [if_pos c3] at H
     have c3b0 := dt c3
     clear c3
     by_cases c4 : x4_1 < (l0.length : Int)
     ·
      rw [if_pos c4] at H
      have c4b0 := dt c4
      clear c4
      replace H := bm H
      obtain ⟨t448, A50, H⟩ := H
      have A5 := am A50
      clear A50
      have H' := am H
      clear H
      have p447 : 0 ≤ (x4_1 : Int) := od
      have q447 : x4_1 < (l0.length : Int) := od
      obtain ⟨ad447, e447, hx447_0⟩ := Kd.at_int HR0.out x4_1 p447 q447
      cases e447
      replace hx447_0 := (HB.out.cell (World.block_lt_of_cell? w _ hx447_0)).trans hx447_0
      replace p447 := eq_true p447
      replace q447 := eq_true q447
      go_wp2_with (first | (refine gL (some 17) Tryd.func63 #[.int .i64 (rd l0 x4_1)] ?_; (with_reducible refine (r_plain.calls k1 (rd l0 x4_1) t448 _ A5.out).mono ?_); rintro e w6 ⟨rfl, hb⟩; refine ⟨_, rfl, ?_⟩; replace HB := lb HB hb))
      go_loopg [5] k1 (fun kq v5 w' => ∃ (x5_2 : ByteArray), v5 = .string x5_2 ∧ Aside0 (r_text.l1 kq l0 x3_1 x4_1 x5_2 = some r) ∧ Aside0 (kq ≤ k1) ∧ Aside0 (Below w.heap.size w w'))
      case atStart => exact ⟨(t448), eqd, H', ⟨Nat.le_refl _⟩, ⟨lk HB⟩⟩
      case round =>
       clear H'
       obtain ⟨x5_2, rfl, HA, HK2, HB⟩ := hrel
       cases gk with
       | zero => exact absurd HA.out (by simp [r_text.l1])
       | succ k2 =>
        have H := HA.out
        clear HA
        simp only [r_text.l1] at H
        by_cases c7 : x4_1 < (wrap64 ((l0.length : Int) - 1))
        ·
         rw [if_pos c7] at H
         have c7b0 := dt c7
         clear c7
         by_cases c8 : (x5_2.size : Int) < 4
         ·
          rw [if_pos c8] at H
          have c8b0 := dt c8
          have c8b1 : decide (x5_2.size < 4) = true := dt (by omega)
          clear c8
          by_cases c9 : 1 + x5_2.size ≤ 9223372036854775807
          ·
           rw [if_pos c9] at H
           have c9b0 := eq_true c9
           have c9b1 := dt c9
           obtain ⟨y449, hy449⟩ : ∃ y_ : ByteArray, y_ = ((⟨#[48]⟩ : ByteArray) ++ x5_2) := ⟨_, rfl⟩
           replace H : (r_text.l1 k2 l0 x3_1 x4_1 y449) = some r := by first | (rw [hy449]; exact H) | exact H
           have Ny449 := am hy449
           clear hy449
           have H' := am H
           clear H
           obtain ⟨hcs10, hcs10'⟩ := sc Ny449
           go_wp2
           go_roundg k2
           case measure => have := HK1.out; have := HK2.out; omega
           case rel => exact ⟨(y449), eqd, H', ⟨by have := HK1.out; have := HK2.out; omega⟩, ⟨lk HB⟩⟩
          rw [if_neg c9] at H
          exact absurd H (by simp)
         rw [if_neg c8] at H
         have c8b0 := decide_eq_false c8
         have c8b1 : decide (x5_2.size < 4) = false := decide_eq_false (by omega)
         clear c8
         by_cases c11 : x3_1.size + x5_2.size ≤ 9223372036854775807
         ·
          rw [if_pos c11] at H
          have c11b0 := eq_true c11
          have c11b1 := dt c11
          obtain ⟨y450, hy450⟩ : ∃ y_ : ByteArray, y_ = (x3_1 ++ x5_2) := ⟨_, rfl⟩
          replace H : (r_text.l0 k2 l0 y450 (wrap64 (x4_1 - 1))) = some r := by first | (rw [hy450]; exact H) | exact H
          have Ny450 := am hy450
          clear hy450
          have H' := am H
          clear H
          obtain ⟨hcs12, hcs12'⟩ := sc Ny450
          go_wp2
          go_roundg k2
          case measure => have := HK1.out; have := HK2.out; omega
          case rel => exact ⟨(y450), (wrap64 (x4_1 - 1)), eqd, eqd, H', ⟨by have := HK1.out; have := HK2.out; omega⟩, ⟨lk HB⟩⟩
         rw [if_neg c11] at H
         exact absurd H (by simp)
        rw [if_neg c7] at H
        have c7b0 := decide_eq_false c7
        clear c7
        by_cases c13 : x3_1.size + x5_2.size ≤ 9223372036854775807
        ·
         rw [if_pos c13] at H
         have c13b0 := eq_true c13
         have c13b1 := dt c13
         obtain ⟨y451, hy451⟩ : ∃ y_ : ByteArray, y_ = (x3_1 ++ x5_2) := ⟨_, rfl⟩
         replace H : (r_text.l0 k2 l0 y451 (wrap64 (x4_1 - 1))) = some r := by first | (rw [hy451]; exact H) | exact H
         have Ny451 := am hy451
         clear hy451
         have H' := am H
         clear H
         obtain ⟨hcs14, hcs14'⟩ := sc Ny451
         go_wp2
         go_roundg k2
         case measure => have := HK1.out; have := HK2.out; omega
         case rel => exact ⟨(y451), (wrap64 (x4_1 - 1)), eqd, eqd, H', ⟨by have := HK1.out; have := HK2.out; omega⟩, ⟨lk HB⟩⟩
        rw [if_neg c13] at H
        exact absurd H (by simp)
     rw [if_neg c4] at H
     exact absurd H (by simp)
    rw [if_neg c3] at H
    exact absurd H (by simp)
   rw [if_neg c2] at H
   have c2b0 : decide (0 ≤ x4_1) = false := decide_eq_false c2
   clear c2
   obtain rfl := Option.some.inj H
   go_wp2
   go_ret
   exact ex (lk HB)
end Go.Proofs.YtjlnfnfdibfniaaDoor.F

