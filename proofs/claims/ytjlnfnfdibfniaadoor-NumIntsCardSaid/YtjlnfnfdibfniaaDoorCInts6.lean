/- The law vigillaw03.NumInts returns true at every whole number and every text: num.IntText and num.Int are the reference's, what is written of a number is read as it, and a text that is read as a number is what is written of it; the listed variables are as the program's text lays them, and each argument reads as it did. -/
import Derived.Test.YtjlnfnfdibfniaaDoorCInts5
import Derived.KernelRfl
import Derived.Laws.Strings
import Derived.Test.YtjlnfnfdibfniaaDoorRows
import Derived.Test.YtjlnfnfdibfniaaDoorCards
import Derived.Test.YtjlnfnfdibfniaaDoorTie
import Derived.WalkKit
import Derived.ProofKit
import Derived.OpenShut
import Derived.ShutString
import Derived.ChangeOld
import Derived.Below
import Derived.SizedLaws
import Derived.Lay
import Derived.LaidOnce
import Derived.SevenTiedAt
-- Written by a program of this session (wip/vprint.py): Lean checks it.
namespace Go.Proofs.YtjlnfnfdibfniaaDoor.F
open Go.RowKit Go.Proofs.YtjlnfnfdibfniaaDoorW.PrintWords Go.Proofs.YtjlnfnfdibfniaaDoorW.PrintLast Go.Proofs.YtjlnfnfdibfniaaDoorW.PrintMore
attribute [local go_sem] max2_int min2_int max_two min_two max_three min_three max_four min_four   -- for this text's walks alone
set_option linter.unusedVariables false
set_option linter.unusedSimpArgs false

/-! ### vigillaw03_NumInts: function 10 -/
def vigillaw03_NumInts.f (k : Nat) (a0 : Int) (a1 : ByteArray) : Option (Bool) := (Hd.num_IntText.f a0).bind fun t787 => ((num_Int.f k t787).bind fun bt788 => ((num_Int.f k a1).bind fun bt790 => ((vigilref03_Int.f k a1).bind fun bt792 => ((vigilref03_IntText.f k a0).bind fun t794 => (if t787.toList = t794.toList then (if bt788.2 = 0 then (if bt788.1 = a0 then (if bt790.1 = bt792.1 then (if bt790.2 = bt792.2 then (if bt790.2 = 0 then ((Hd.num_IntText.f bt790.1).bind fun t795 => (if t795.toList = a1.toList then ((vigillaw03_wakes.f k).bind fun t796 => (some t796)) else (some false))) else ((vigillaw03_wakes.f k).bind fun t797 => (some t797))) else (some false)) else (some false)) else (some false)) else (some false)) else (some false))))))
theorem vigillaw03_NumInts.mono : ∀ a0 a1 k, LeO (vigillaw03_NumInts.f k a0 a1) (vigillaw03_NumInts.f (k + 1) a0 a1) := by
 intro a0 a1 k
 unfold vigillaw03_NumInts.f
 repeat' first
   | (with_reducible exact num_Int.mono _ _)
   | (with_reducible exact vigillaw03_wakes.mono _)
   | (with_reducible exact vigilref03_Int.mono _ _)
   | (with_reducible exact vigilref03_IntText.mono _ _)
   | (with_reducible exact LeO.refl _)
   | (with_reducible exact LeO.none _)
   | (with_reducible refine LeO.ite ?_ ?_)
   | (with_reducible refine LeO.bind ?_ (fun _ => ?_))
   | exact num_Int.mono _ _
   | exact vigillaw03_wakes.mono _
   | exact vigilref03_Int.mono _ _
   | exact vigilref03_IntText.mono _ _
   | exact LeO.none _
   | refine LeO.ite ?_ ?_
   | refine LeO.bind ?_ (fun _ => ?_)
set_option maxHeartbeats 8000000 in
set_option maxRecDepth 100000 in
theorem vigillaw03_NumInts.calls (k : Nat) (a0 : Int) (a1 : ByteArray) (r : Bool) (w : World) (h : vigillaw03_NumInts.f k a0 a1 = some r) :
  Calls Tryd.prog 10 #[.int .i64 a0, .string a1] w fun e w' => e = .returned (.bool r) ∧ Below w.heap.size w w' := by
 have HB := Aside0.mk (Below.refl w.heap.size w)
 have H : ((Hd.num_IntText.f a0).bind fun t787 => ((num_Int.f k t787).bind fun bt788 => ((num_Int.f k a1).bind fun bt790 => ((vigilref03_Int.f k a1).bind fun bt792 => ((vigilref03_IntText.f k a0).bind fun t794 => (if t787.toList = t794.toList then (if bt788.2 = 0 then (if bt788.1 = a0 then (if bt790.1 = bt792.1 then (if bt790.2 = bt792.2 then (if bt790.2 = 0 then ((Hd.num_IntText.f bt790.1).bind fun t795 => (if t795.toList = a1.toList then ((vigillaw03_wakes.f k).bind fun t796 => (some t796)) else (some false))) else ((vigillaw03_wakes.f k).bind fun t797 => (some t797))) else (some false)) else (some false)) else (some false)) else (some false)) else (some false))))))) = some r := h
 clear h
 replace H := Option.bind_eq_some_iff.mp H
 obtain ⟨t787, A30, H⟩ := H
 replace H : ((num_Int.f k t787).bind fun bt788 => ((num_Int.f k a1).bind fun bt790 => ((vigilref03_Int.f k a1).bind fun bt792 => ((vigilref03_IntText.f k a0).bind fun t794 => (if t787.toList = t794.toList then (if bt788.2 = 0 then (if bt788.1 = a0 then (if bt790.1 = bt792.1 then (if bt790.2 = bt792.2 then (if bt790.2 = 0 then ((Hd.num_IntText.f bt790.1).bind fun t795 => (if t795.toList = a1.toList then ((vigillaw03_wakes.f k).bind fun t796 => (some t796)) else (some false))) else ((vigillaw03_wakes.f k).bind fun t797 => (some t797))) else (some false)) else (some false)) else (some false)) else (some false)) else (some false)))))) = some r := H
 have A3 := Aside0.mk A30
 clear A30
 replace H := Option.bind_eq_some_iff.mp H
 obtain ⟨⟨t788, t789⟩, A40, H⟩ := H
 replace H : ((num_Int.f k a1).bind fun bt790 => ((vigilref03_Int.f k a1).bind fun bt792 => ((vigilref03_IntText.f k a0).bind fun t794 => (if t787.toList = t794.toList then (if t789 = 0 then (if t788 = a0 then (if bt790.1 = bt792.1 then (if bt790.2 = bt792.2 then (if bt790.2 = 0 then ((Hd.num_IntText.f bt790.1).bind fun t795 => (if t795.toList = a1.toList then ((vigillaw03_wakes.f k).bind fun t796 => (some t796)) else (some false))) else ((vigillaw03_wakes.f k).bind fun t797 => (some t797))) else (some false)) else (some false)) else (some false)) else (some false)) else (some false))))) = some r := H
 have A4 := Aside0.mk A40
 clear A40
 replace H := Option.bind_eq_some_iff.mp H
 obtain ⟨⟨t790, t791⟩, A50, H⟩ := H
 replace H : ((vigilref03_Int.f k a1).bind fun bt792 => ((vigilref03_IntText.f k a0).bind fun t794 => (if t787.toList = t794.toList then (if t789 = 0 then (if t788 = a0 then (if t790 = bt792.1 then (if t791 = bt792.2 then (if t791 = 0 then ((Hd.num_IntText.f t790).bind fun t795 => (if t795.toList = a1.toList then ((vigillaw03_wakes.f k).bind fun t796 => (some t796)) else (some false))) else ((vigillaw03_wakes.f k).bind fun t797 => (some t797))) else (some false)) else (some false)) else (some false)) else (some false)) else (some false)))) = some r := H
 have A5 := Aside0.mk A50
 clear A50
 replace H := Option.bind_eq_some_iff.mp H
 obtain ⟨⟨t792, t793⟩, A60, H⟩ := H
 replace H : ((vigilref03_IntText.f k a0).bind fun t794 => (if t787.toList = t794.toList then (if t789 = 0 then (if t788 = a0 then (if t790 = t792 then (if t791 = t793 then (if t791 = 0 then ((Hd.num_IntText.f t790).bind fun t795 => (if t795.toList = a1.toList then ((vigillaw03_wakes.f k).bind fun t796 => (some t796)) else (some false))) else ((vigillaw03_wakes.f k).bind fun t797 => (some t797))) else (some false)) else (some false)) else (some false)) else (some false)) else (some false))) = some r := H
 have A6 := Aside0.mk A60
 clear A60
 replace H := Option.bind_eq_some_iff.mp H
 obtain ⟨t794, A70, H⟩ := H
 replace H : (if t787.toList = t794.toList then (if t789 = 0 then (if t788 = a0 then (if t790 = t792 then (if t791 = t793 then (if t791 = 0 then ((Hd.num_IntText.f t790).bind fun t795 => (if t795.toList = a1.toList then ((vigillaw03_wakes.f k).bind fun t796 => (some t796)) else (some false))) else ((vigillaw03_wakes.f k).bind fun t797 => (some t797))) else (some false)) else (some false)) else (some false)) else (some false)) else (some false)) = some r := H
 have A7 := Aside0.mk A70
 clear A70
 by_cases c8 : t787.toList = t794.toList
 ·
  rw [if_pos c8] at H
  have c8b0 : (t787.toList == t794.toList) = true := beq_iff_eq.mpr c8
  have c8b1 : (t787.toList != t794.toList) = false := bne_eq_false_iff_eq.mpr c8
  clear c8
  by_cases c9 : t789 = 0
  ·
   rw [if_pos c9] at H
   have c9b0 : (t789 == 0) = true := beq_iff_eq.mpr c9
   have c9b1 : (t789 != 0) = false := bne_eq_false_iff_eq.mpr c9
   clear c9
   by_cases c10 : t788 = a0
   ·
    rw [if_pos c10] at H
    have c10b0 : (t788 == a0) = true := beq_iff_eq.mpr c10
    have c10b1 : (t788 != a0) = false := bne_eq_false_iff_eq.mpr c10
    clear c10
    by_cases c11 : t790 = t792
    ·
     rw [if_pos c11] at H
     have c11b0 : (t790 == t792) = true := beq_iff_eq.mpr c11
     have c11b1 : (t790 != t792) = false := bne_eq_false_iff_eq.mpr c11
     clear c11
     by_cases c12 : t791 = t793
     ·
      rw [if_pos c12] at H
      have c12b0 : (t791 == t793) = true := beq_iff_eq.mpr c12
      have c12b1 : (t791 != t793) = false := bne_eq_false_iff_eq.mpr c12
      clear c12
      by_cases c13 : t791 = 0
      ·
       rw [if_pos c13] at H
       have c13b0 : (t791 == 0) = true := beq_iff_eq.mpr c13
       have c13b1 : (t791 != 0) = false := bne_eq_false_iff_eq.mpr c13
       clear c13
       replace H := Option.bind_eq_some_iff.mp H
       obtain ⟨t795, A140, H⟩ := H
       replace H : (if t795.toList = a1.toList then ((vigillaw03_wakes.f k).bind fun t796 => (some t796)) else (some false)) = some r := H
       have A14 := Aside0.mk A140
       clear A140
       by_cases c15 : t795.toList = a1.toList
       ·
        rw [if_pos c15] at H
        have c15b0 : (t795.toList == a1.toList) = true := beq_iff_eq.mpr c15
        have c15b1 : (t795.toList != a1.toList) = false := bne_eq_false_iff_eq.mpr c15
        clear c15
        replace H := Option.bind_eq_some_iff.mp H
        obtain ⟨t796, A160, H⟩ := H
        replace H : (some t796) = some r := H
        have A16 := Aside0.mk A160
        clear A160
        obtain rfl := Option.some.inj H
        go_enter Tryd.func10, Tryd.ntmps10
        go_wp2_with (first | ((with_reducible refine gate_callee (f := 26) rfl ?_); refine goesL_ (some 13) rfl rfl Tryd.func26 (by kernel_rfl) rfl #[.int .i64 a0] rfl (by (try simp only [List.map_toArray, List.map_cons, List.map_nil]); first | done | rfl | (simp only [List.length_drop, List.length_take]; rfl) | (simp [Act.eval, Hd.wrap_u8]; done)) ?_; (with_reducible refine (Hd.num_IntText.calls a0 t787 _ A3.out).mono ?_); rintro e w17 ⟨rfl, hb⟩; refine ⟨_, rfl, ?_⟩; have n0_ := Aside0.mk (below_step (by repeat (first | (with_reducible first | exact HB.out | apply below_alloc | apply pw_below_drewN | apply below_drew1) | exact HB.out)) hb); clear HB; have HB := n0_; clear n0_; (try clear hb); (try clear hb2); (try clear hk); (try clear hi)) | ((with_reducible refine gate_callee (f := 33) rfl ?_); refine goesL_ (some 16) rfl rfl Tryd.func33 (by kernel_rfl) rfl #[.string t787] rfl (by (try simp only [List.map_toArray, List.map_cons, List.map_nil]); first | done | rfl | (simp only [List.length_drop, List.length_take]; rfl) | (simp [Act.eval, Hd.wrap_u8]; done)) ?_; (with_reducible refine (num_Int.calls k t787 t788 t789 _ A4.out).mono ?_); rintro e w' ⟨rfl, ⟨nd, rfl⟩⟩; refine ⟨_, rfl, ?_⟩) | ((with_reducible refine gate_callee (f := 33) rfl ?_); refine goesL_ (some 21) rfl rfl Tryd.func33 (by kernel_rfl) rfl #[.string a1] rfl (by (try simp only [List.map_toArray, List.map_cons, List.map_nil]); first | done | rfl | (simp only [List.length_drop, List.length_take]; rfl) | (simp [Act.eval, Hd.wrap_u8]; done)) ?_; (with_reducible refine (num_Int.calls k a1 t790 t791 _ A5.out).mono ?_); rintro e w' ⟨rfl, ⟨nd, rfl⟩⟩; refine ⟨_, rfl, ?_⟩) | ((with_reducible refine gate_callee (f := 34) rfl ?_); refine goesL_ (some 26) rfl rfl Tryd.func34 (by kernel_rfl) rfl #[.string a1] rfl (by (try simp only [List.map_toArray, List.map_cons, List.map_nil]); first | done | rfl | (simp only [List.length_drop, List.length_take]; rfl) | (simp [Act.eval, Hd.wrap_u8]; done)) ?_; (with_reducible refine (vigilref03_Int.calls k a1 t792 t793 _ A6.out).mono ?_); rintro e w18 ⟨rfl, hb⟩; refine ⟨_, rfl, ?_⟩; have n0_ := Aside0.mk (below_step (by repeat (first | (with_reducible first | exact HB.out | apply below_alloc | apply pw_below_drewN | apply below_drew1) | exact HB.out)) hb); clear HB; have HB := n0_; clear n0_; (try clear hb); (try clear hb2); (try clear hk); (try clear hi)) | ((with_reducible refine gate_callee (f := 35) rfl ?_); refine goesL_ (some 31) rfl rfl Tryd.func35 (by kernel_rfl) rfl #[.int .i64 a0] rfl (by (try simp only [List.map_toArray, List.map_cons, List.map_nil]); first | done | rfl | (simp only [List.length_drop, List.length_take]; rfl) | (simp [Act.eval, Hd.wrap_u8]; done)) ?_; (with_reducible refine (vigilref03_IntText.calls k a0 t794 _ A7.out).mono ?_); rintro e w19 ⟨rfl, hb⟩; refine ⟨_, rfl, ?_⟩; have n0_ := Aside0.mk (below_step (by repeat (first | (with_reducible first | exact HB.out | apply below_alloc | apply pw_below_drewN | apply below_drew1) | exact HB.out)) hb); clear HB; have HB := n0_; clear n0_; (try clear hb); (try clear hb2); (try clear hk); (try clear hi)) | (go_at_call 26; (with_reducible refine (Hd.num_IntText.calls t790 t795 _ A14.out).mono ?_); rintro e w20 ⟨rfl, hb⟩; have n0_ := Aside0.mk (below_step (by repeat (first | (with_reducible first | exact HB.out | apply below_alloc | apply pw_below_drewN | apply below_drew1) | exact HB.out)) hb); clear HB; have HB := n0_; clear n0_; (try clear hb); (try clear hb2); (try clear hk); (try clear hi)) | (go_at_call 17; (with_reducible refine (vigillaw03_wakes.calls k  t796 _ A16.out).mono ?_); rintro e w21 ⟨rfl, hb⟩; have n0_ := Aside0.mk (below_step (by repeat (first | (with_reducible first | exact HB.out | apply below_alloc | apply pw_below_drewN | apply below_drew1) | exact HB.out)) hb); clear HB; have HB := n0_; clear n0_; (try clear hb); (try clear hb2); (try clear hk); (try clear hi)))
        go_ret
        exact ⟨by first | rfl | (simp [errW_none, errW_some] <;> rfl) | (simp [*, errW_none, errW_some] <;> rfl), by repeat (first | (with_reducible first | exact HB.out | apply below_alloc | apply pw_below_drewN | apply below_drew1) | exact HB.out)⟩
       ·
        rw [if_neg c15] at H
        have c15b0 : (t795.toList == a1.toList) = false := beq_eq_false_iff_ne.mpr c15
        have c15b1 : (t795.toList != a1.toList) = true := bne_iff_ne.mpr c15
        obtain rfl := Option.some.inj H
        go_enter Tryd.func10, Tryd.ntmps10
        go_wp2_with (first | ((with_reducible refine gate_callee (f := 26) rfl ?_); refine goesL_ (some 13) rfl rfl Tryd.func26 (by kernel_rfl) rfl #[.int .i64 a0] rfl (by (try simp only [List.map_toArray, List.map_cons, List.map_nil]); first | done | rfl | (simp only [List.length_drop, List.length_take]; rfl) | (simp [Act.eval, Hd.wrap_u8]; done)) ?_; (with_reducible refine (Hd.num_IntText.calls a0 t787 _ A3.out).mono ?_); rintro e w22 ⟨rfl, hb⟩; refine ⟨_, rfl, ?_⟩; have n0_ := Aside0.mk (below_step (by repeat (first | (with_reducible first | exact HB.out | apply below_alloc | apply pw_below_drewN | apply below_drew1) | exact HB.out)) hb); clear HB; have HB := n0_; clear n0_; (try clear hb); (try clear hb2); (try clear hk); (try clear hi)) | ((with_reducible refine gate_callee (f := 33) rfl ?_); refine goesL_ (some 16) rfl rfl Tryd.func33 (by kernel_rfl) rfl #[.string t787] rfl (by (try simp only [List.map_toArray, List.map_cons, List.map_nil]); first | done | rfl | (simp only [List.length_drop, List.length_take]; rfl) | (simp [Act.eval, Hd.wrap_u8]; done)) ?_; (with_reducible refine (num_Int.calls k t787 t788 t789 _ A4.out).mono ?_); rintro e w' ⟨rfl, ⟨nd, rfl⟩⟩; refine ⟨_, rfl, ?_⟩) | ((with_reducible refine gate_callee (f := 33) rfl ?_); refine goesL_ (some 21) rfl rfl Tryd.func33 (by kernel_rfl) rfl #[.string a1] rfl (by (try simp only [List.map_toArray, List.map_cons, List.map_nil]); first | done | rfl | (simp only [List.length_drop, List.length_take]; rfl) | (simp [Act.eval, Hd.wrap_u8]; done)) ?_; (with_reducible refine (num_Int.calls k a1 t790 t791 _ A5.out).mono ?_); rintro e w' ⟨rfl, ⟨nd, rfl⟩⟩; refine ⟨_, rfl, ?_⟩) | ((with_reducible refine gate_callee (f := 34) rfl ?_); refine goesL_ (some 26) rfl rfl Tryd.func34 (by kernel_rfl) rfl #[.string a1] rfl (by (try simp only [List.map_toArray, List.map_cons, List.map_nil]); first | done | rfl | (simp only [List.length_drop, List.length_take]; rfl) | (simp [Act.eval, Hd.wrap_u8]; done)) ?_; (with_reducible refine (vigilref03_Int.calls k a1 t792 t793 _ A6.out).mono ?_); rintro e w23 ⟨rfl, hb⟩; refine ⟨_, rfl, ?_⟩; have n0_ := Aside0.mk (below_step (by repeat (first | (with_reducible first | exact HB.out | apply below_alloc | apply pw_below_drewN | apply below_drew1) | exact HB.out)) hb); clear HB; have HB := n0_; clear n0_; (try clear hb); (try clear hb2); (try clear hk); (try clear hi)) | ((with_reducible refine gate_callee (f := 35) rfl ?_); refine goesL_ (some 31) rfl rfl Tryd.func35 (by kernel_rfl) rfl #[.int .i64 a0] rfl (by (try simp only [List.map_toArray, List.map_cons, List.map_nil]); first | done | rfl | (simp only [List.length_drop, List.length_take]; rfl) | (simp [Act.eval, Hd.wrap_u8]; done)) ?_; (with_reducible refine (vigilref03_IntText.calls k a0 t794 _ A7.out).mono ?_); rintro e w24 ⟨rfl, hb⟩; refine ⟨_, rfl, ?_⟩; have n0_ := Aside0.mk (below_step (by repeat (first | (with_reducible first | exact HB.out | apply below_alloc | apply pw_below_drewN | apply below_drew1) | exact HB.out)) hb); clear HB; have HB := n0_; clear n0_; (try clear hb); (try clear hb2); (try clear hk); (try clear hi)) | (go_at_call 26; (with_reducible refine (Hd.num_IntText.calls t790 t795 _ A14.out).mono ?_); rintro e w25 ⟨rfl, hb⟩; have n0_ := Aside0.mk (below_step (by repeat (first | (with_reducible first | exact HB.out | apply below_alloc | apply pw_below_drewN | apply below_drew1) | exact HB.out)) hb); clear HB; have HB := n0_; clear n0_; (try clear hb); (try clear hb2); (try clear hk); (try clear hi)))
        go_ret
        exact ⟨by first | rfl | (simp [errW_none, errW_some] <;> rfl) | (simp [*, errW_none, errW_some] <;> rfl), by repeat (first | (with_reducible first | exact HB.out | apply below_alloc | apply pw_below_drewN | apply below_drew1) | exact HB.out)⟩
      ·
       rw [if_neg c13] at H
       have c13b0 : (t791 == 0) = false := beq_eq_false_iff_ne.mpr c13
       have c13b1 : (t791 != 0) = true := bne_iff_ne.mpr c13
       replace H := Option.bind_eq_some_iff.mp H
       obtain ⟨t797, A260, H⟩ := H
       replace H : (some t797) = some r := H
       have A26 := Aside0.mk A260
       clear A260
       obtain rfl := Option.some.inj H
       go_enter Tryd.func10, Tryd.ntmps10
       go_wp2_with (first | ((with_reducible refine gate_callee (f := 26) rfl ?_); refine goesL_ (some 13) rfl rfl Tryd.func26 (by kernel_rfl) rfl #[.int .i64 a0] rfl (by (try simp only [List.map_toArray, List.map_cons, List.map_nil]); first | done | rfl | (simp only [List.length_drop, List.length_take]; rfl) | (simp [Act.eval, Hd.wrap_u8]; done)) ?_; (with_reducible refine (Hd.num_IntText.calls a0 t787 _ A3.out).mono ?_); rintro e w27 ⟨rfl, hb⟩; refine ⟨_, rfl, ?_⟩; have n0_ := Aside0.mk (below_step (by repeat (first | (with_reducible first | exact HB.out | apply below_alloc | apply pw_below_drewN | apply below_drew1) | exact HB.out)) hb); clear HB; have HB := n0_; clear n0_; (try clear hb); (try clear hb2); (try clear hk); (try clear hi)) | ((with_reducible refine gate_callee (f := 33) rfl ?_); refine goesL_ (some 16) rfl rfl Tryd.func33 (by kernel_rfl) rfl #[.string t787] rfl (by (try simp only [List.map_toArray, List.map_cons, List.map_nil]); first | done | rfl | (simp only [List.length_drop, List.length_take]; rfl) | (simp [Act.eval, Hd.wrap_u8]; done)) ?_; (with_reducible refine (num_Int.calls k t787 t788 t789 _ A4.out).mono ?_); rintro e w' ⟨rfl, ⟨nd, rfl⟩⟩; refine ⟨_, rfl, ?_⟩) | ((with_reducible refine gate_callee (f := 33) rfl ?_); refine goesL_ (some 21) rfl rfl Tryd.func33 (by kernel_rfl) rfl #[.string a1] rfl (by (try simp only [List.map_toArray, List.map_cons, List.map_nil]); first | done | rfl | (simp only [List.length_drop, List.length_take]; rfl) | (simp [Act.eval, Hd.wrap_u8]; done)) ?_; (with_reducible refine (num_Int.calls k a1 t790 t791 _ A5.out).mono ?_); rintro e w' ⟨rfl, ⟨nd, rfl⟩⟩; refine ⟨_, rfl, ?_⟩) | ((with_reducible refine gate_callee (f := 34) rfl ?_); refine goesL_ (some 26) rfl rfl Tryd.func34 (by kernel_rfl) rfl #[.string a1] rfl (by (try simp only [List.map_toArray, List.map_cons, List.map_nil]); first | done | rfl | (simp only [List.length_drop, List.length_take]; rfl) | (simp [Act.eval, Hd.wrap_u8]; done)) ?_; (with_reducible refine (vigilref03_Int.calls k a1 t792 t793 _ A6.out).mono ?_); rintro e w28 ⟨rfl, hb⟩; refine ⟨_, rfl, ?_⟩; have n0_ := Aside0.mk (below_step (by repeat (first | (with_reducible first | exact HB.out | apply below_alloc | apply pw_below_drewN | apply below_drew1) | exact HB.out)) hb); clear HB; have HB := n0_; clear n0_; (try clear hb); (try clear hb2); (try clear hk); (try clear hi)) | ((with_reducible refine gate_callee (f := 35) rfl ?_); refine goesL_ (some 31) rfl rfl Tryd.func35 (by kernel_rfl) rfl #[.int .i64 a0] rfl (by (try simp only [List.map_toArray, List.map_cons, List.map_nil]); first | done | rfl | (simp only [List.length_drop, List.length_take]; rfl) | (simp [Act.eval, Hd.wrap_u8]; done)) ?_; (with_reducible refine (vigilref03_IntText.calls k a0 t794 _ A7.out).mono ?_); rintro e w29 ⟨rfl, hb⟩; refine ⟨_, rfl, ?_⟩; have n0_ := Aside0.mk (below_step (by repeat (first | (with_reducible first | exact HB.out | apply below_alloc | apply pw_below_drewN | apply below_drew1) | exact HB.out)) hb); clear HB; have HB := n0_; clear n0_; (try clear hb); (try clear hb2); (try clear hk); (try clear hi)) | (go_at_call 17; (with_reducible refine (vigillaw03_wakes.calls k  t797 _ A26.out).mono ?_); rintro e w30 ⟨rfl, hb⟩; have n0_ := Aside0.mk (below_step (by repeat (first | (with_reducible first | exact HB.out | apply below_alloc | apply pw_below_drewN | apply below_drew1) | exact HB.out)) hb); clear HB; have HB := n0_; clear n0_; (try clear hb); (try clear hb2); (try clear hk); (try clear hi)))
       go_ret
       exact ⟨by first | rfl | (simp [errW_none, errW_some] <;> rfl) | (simp [*, errW_none, errW_some] <;> rfl), by repeat (first | (with_reducible first | exact HB.out | apply below_alloc | apply pw_below_drewN | apply below_drew1) | exact HB.out)⟩
     ·
      rw [if_neg c12] at H
      have c12b0 : (t791 == t793) = false := beq_eq_false_iff_ne.mpr c12
      have c12b1 : (t791 != t793) = true := bne_iff_ne.mpr c12
      obtain rfl := Option.some.inj H
      go_enter Tryd.func10, Tryd.ntmps10
      go_wp2_with (first | ((with_reducible refine gate_callee (f := 26) rfl ?_); refine goesL_ (some 13) rfl rfl Tryd.func26 (by kernel_rfl) rfl #[.int .i64 a0] rfl (by (try simp only [List.map_toArray, List.map_cons, List.map_nil]); first | done | rfl | (simp only [List.length_drop, List.length_take]; rfl) | (simp [Act.eval, Hd.wrap_u8]; done)) ?_; (with_reducible refine (Hd.num_IntText.calls a0 t787 _ A3.out).mono ?_); rintro e w31 ⟨rfl, hb⟩; refine ⟨_, rfl, ?_⟩; have n0_ := Aside0.mk (below_step (by repeat (first | (with_reducible first | exact HB.out | apply below_alloc | apply pw_below_drewN | apply below_drew1) | exact HB.out)) hb); clear HB; have HB := n0_; clear n0_; (try clear hb); (try clear hb2); (try clear hk); (try clear hi)) | ((with_reducible refine gate_callee (f := 33) rfl ?_); refine goesL_ (some 16) rfl rfl Tryd.func33 (by kernel_rfl) rfl #[.string t787] rfl (by (try simp only [List.map_toArray, List.map_cons, List.map_nil]); first | done | rfl | (simp only [List.length_drop, List.length_take]; rfl) | (simp [Act.eval, Hd.wrap_u8]; done)) ?_; (with_reducible refine (num_Int.calls k t787 t788 t789 _ A4.out).mono ?_); rintro e w' ⟨rfl, ⟨nd, rfl⟩⟩; refine ⟨_, rfl, ?_⟩) | ((with_reducible refine gate_callee (f := 33) rfl ?_); refine goesL_ (some 21) rfl rfl Tryd.func33 (by kernel_rfl) rfl #[.string a1] rfl (by (try simp only [List.map_toArray, List.map_cons, List.map_nil]); first | done | rfl | (simp only [List.length_drop, List.length_take]; rfl) | (simp [Act.eval, Hd.wrap_u8]; done)) ?_; (with_reducible refine (num_Int.calls k a1 t790 t791 _ A5.out).mono ?_); rintro e w' ⟨rfl, ⟨nd, rfl⟩⟩; refine ⟨_, rfl, ?_⟩) | ((with_reducible refine gate_callee (f := 34) rfl ?_); refine goesL_ (some 26) rfl rfl Tryd.func34 (by kernel_rfl) rfl #[.string a1] rfl (by (try simp only [List.map_toArray, List.map_cons, List.map_nil]); first | done | rfl | (simp only [List.length_drop, List.length_take]; rfl) | (simp [Act.eval, Hd.wrap_u8]; done)) ?_; (with_reducible refine (vigilref03_Int.calls k a1 t792 t793 _ A6.out).mono ?_); rintro e w32 ⟨rfl, hb⟩; refine ⟨_, rfl, ?_⟩; have n0_ := Aside0.mk (below_step (by repeat (first | (with_reducible first | exact HB.out | apply below_alloc | apply pw_below_drewN | apply below_drew1) | exact HB.out)) hb); clear HB; have HB := n0_; clear n0_; (try clear hb); (try clear hb2); (try clear hk); (try clear hi)) | ((with_reducible refine gate_callee (f := 35) rfl ?_); refine goesL_ (some 31) rfl rfl Tryd.func35 (by kernel_rfl) rfl #[.int .i64 a0] rfl (by (try simp only [List.map_toArray, List.map_cons, List.map_nil]); first | done | rfl | (simp only [List.length_drop, List.length_take]; rfl) | (simp [Act.eval, Hd.wrap_u8]; done)) ?_; (with_reducible refine (vigilref03_IntText.calls k a0 t794 _ A7.out).mono ?_); rintro e w33 ⟨rfl, hb⟩; refine ⟨_, rfl, ?_⟩; have n0_ := Aside0.mk (below_step (by repeat (first | (with_reducible first | exact HB.out | apply below_alloc | apply pw_below_drewN | apply below_drew1) | exact HB.out)) hb); clear HB; have HB := n0_; clear n0_; (try clear hb); (try clear hb2); (try clear hk); (try clear hi)))
      go_ret
      exact ⟨by first | rfl | (simp [errW_none, errW_some] <;> rfl) | (simp [*, errW_none, errW_some] <;> rfl), by repeat (first | (with_reducible first | exact HB.out | apply below_alloc | apply pw_below_drewN | apply below_drew1) | exact HB.out)⟩
    ·
     rw [if_neg c11] at H
     have c11b0 : (t790 == t792) = false := beq_eq_false_iff_ne.mpr c11
     have c11b1 : (t790 != t792) = true := bne_iff_ne.mpr c11
     obtain rfl := Option.some.inj H
     go_enter Tryd.func10, Tryd.ntmps10
     go_wp2_with (first | ((with_reducible refine gate_callee (f := 26) rfl ?_); refine goesL_ (some 13) rfl rfl Tryd.func26 (by kernel_rfl) rfl #[.int .i64 a0] rfl (by (try simp only [List.map_toArray, List.map_cons, List.map_nil]); first | done | rfl | (simp only [List.length_drop, List.length_take]; rfl) | (simp [Act.eval, Hd.wrap_u8]; done)) ?_; (with_reducible refine (Hd.num_IntText.calls a0 t787 _ A3.out).mono ?_); rintro e w34 ⟨rfl, hb⟩; refine ⟨_, rfl, ?_⟩; have n0_ := Aside0.mk (below_step (by repeat (first | (with_reducible first | exact HB.out | apply below_alloc | apply pw_below_drewN | apply below_drew1) | exact HB.out)) hb); clear HB; have HB := n0_; clear n0_; (try clear hb); (try clear hb2); (try clear hk); (try clear hi)) | ((with_reducible refine gate_callee (f := 33) rfl ?_); refine goesL_ (some 16) rfl rfl Tryd.func33 (by kernel_rfl) rfl #[.string t787] rfl (by (try simp only [List.map_toArray, List.map_cons, List.map_nil]); first | done | rfl | (simp only [List.length_drop, List.length_take]; rfl) | (simp [Act.eval, Hd.wrap_u8]; done)) ?_; (with_reducible refine (num_Int.calls k t787 t788 t789 _ A4.out).mono ?_); rintro e w' ⟨rfl, ⟨nd, rfl⟩⟩; refine ⟨_, rfl, ?_⟩) | ((with_reducible refine gate_callee (f := 33) rfl ?_); refine goesL_ (some 21) rfl rfl Tryd.func33 (by kernel_rfl) rfl #[.string a1] rfl (by (try simp only [List.map_toArray, List.map_cons, List.map_nil]); first | done | rfl | (simp only [List.length_drop, List.length_take]; rfl) | (simp [Act.eval, Hd.wrap_u8]; done)) ?_; (with_reducible refine (num_Int.calls k a1 t790 t791 _ A5.out).mono ?_); rintro e w' ⟨rfl, ⟨nd, rfl⟩⟩; refine ⟨_, rfl, ?_⟩) | ((with_reducible refine gate_callee (f := 34) rfl ?_); refine goesL_ (some 26) rfl rfl Tryd.func34 (by kernel_rfl) rfl #[.string a1] rfl (by (try simp only [List.map_toArray, List.map_cons, List.map_nil]); first | done | rfl | (simp only [List.length_drop, List.length_take]; rfl) | (simp [Act.eval, Hd.wrap_u8]; done)) ?_; (with_reducible refine (vigilref03_Int.calls k a1 t792 t793 _ A6.out).mono ?_); rintro e w35 ⟨rfl, hb⟩; refine ⟨_, rfl, ?_⟩; have n0_ := Aside0.mk (below_step (by repeat (first | (with_reducible first | exact HB.out | apply below_alloc | apply pw_below_drewN | apply below_drew1) | exact HB.out)) hb); clear HB; have HB := n0_; clear n0_; (try clear hb); (try clear hb2); (try clear hk); (try clear hi)) | ((with_reducible refine gate_callee (f := 35) rfl ?_); refine goesL_ (some 31) rfl rfl Tryd.func35 (by kernel_rfl) rfl #[.int .i64 a0] rfl (by (try simp only [List.map_toArray, List.map_cons, List.map_nil]); first | done | rfl | (simp only [List.length_drop, List.length_take]; rfl) | (simp [Act.eval, Hd.wrap_u8]; done)) ?_; (with_reducible refine (vigilref03_IntText.calls k a0 t794 _ A7.out).mono ?_); rintro e w36 ⟨rfl, hb⟩; refine ⟨_, rfl, ?_⟩; have n0_ := Aside0.mk (below_step (by repeat (first | (with_reducible first | exact HB.out | apply below_alloc | apply pw_below_drewN | apply below_drew1) | exact HB.out)) hb); clear HB; have HB := n0_; clear n0_; (try clear hb); (try clear hb2); (try clear hk); (try clear hi)))
     go_ret
     exact ⟨by first | rfl | (simp [errW_none, errW_some] <;> rfl) | (simp [*, errW_none, errW_some] <;> rfl), by repeat (first | (with_reducible first | exact HB.out | apply below_alloc | apply pw_below_drewN | apply below_drew1) | exact HB.out)⟩
   ·
    rw [if_neg c10] at H
    have c10b0 : (t788 == a0) = false := beq_eq_false_iff_ne.mpr c10
    have c10b1 : (t788 != a0) = true := bne_iff_ne.mpr c10
    obtain rfl := Option.some.inj H
    go_enter Tryd.func10, Tryd.ntmps10
    go_wp2_with (first | ((with_reducible refine gate_callee (f := 26) rfl ?_); refine goesL_ (some 13) rfl rfl Tryd.func26 (by kernel_rfl) rfl #[.int .i64 a0] rfl (by (try simp only [List.map_toArray, List.map_cons, List.map_nil]); first | done | rfl | (simp only [List.length_drop, List.length_take]; rfl) | (simp [Act.eval, Hd.wrap_u8]; done)) ?_; (with_reducible refine (Hd.num_IntText.calls a0 t787 _ A3.out).mono ?_); rintro e w37 ⟨rfl, hb⟩; refine ⟨_, rfl, ?_⟩; have n0_ := Aside0.mk (below_step (by repeat (first | (with_reducible first | exact HB.out | apply below_alloc | apply pw_below_drewN | apply below_drew1) | exact HB.out)) hb); clear HB; have HB := n0_; clear n0_; (try clear hb); (try clear hb2); (try clear hk); (try clear hi)) | ((with_reducible refine gate_callee (f := 33) rfl ?_); refine goesL_ (some 16) rfl rfl Tryd.func33 (by kernel_rfl) rfl #[.string t787] rfl (by (try simp only [List.map_toArray, List.map_cons, List.map_nil]); first | done | rfl | (simp only [List.length_drop, List.length_take]; rfl) | (simp [Act.eval, Hd.wrap_u8]; done)) ?_; (with_reducible refine (num_Int.calls k t787 t788 t789 _ A4.out).mono ?_); rintro e w' ⟨rfl, ⟨nd, rfl⟩⟩; refine ⟨_, rfl, ?_⟩) | ((with_reducible refine gate_callee (f := 33) rfl ?_); refine goesL_ (some 21) rfl rfl Tryd.func33 (by kernel_rfl) rfl #[.string a1] rfl (by (try simp only [List.map_toArray, List.map_cons, List.map_nil]); first | done | rfl | (simp only [List.length_drop, List.length_take]; rfl) | (simp [Act.eval, Hd.wrap_u8]; done)) ?_; (with_reducible refine (num_Int.calls k a1 t790 t791 _ A5.out).mono ?_); rintro e w' ⟨rfl, ⟨nd, rfl⟩⟩; refine ⟨_, rfl, ?_⟩) | ((with_reducible refine gate_callee (f := 34) rfl ?_); refine goesL_ (some 26) rfl rfl Tryd.func34 (by kernel_rfl) rfl #[.string a1] rfl (by (try simp only [List.map_toArray, List.map_cons, List.map_nil]); first | done | rfl | (simp only [List.length_drop, List.length_take]; rfl) | (simp [Act.eval, Hd.wrap_u8]; done)) ?_; (with_reducible refine (vigilref03_Int.calls k a1 t792 t793 _ A6.out).mono ?_); rintro e w38 ⟨rfl, hb⟩; refine ⟨_, rfl, ?_⟩; have n0_ := Aside0.mk (below_step (by repeat (first | (with_reducible first | exact HB.out | apply below_alloc | apply pw_below_drewN | apply below_drew1) | exact HB.out)) hb); clear HB; have HB := n0_; clear n0_; (try clear hb); (try clear hb2); (try clear hk); (try clear hi)) | ((with_reducible refine gate_callee (f := 35) rfl ?_); refine goesL_ (some 31) rfl rfl Tryd.func35 (by kernel_rfl) rfl #[.int .i64 a0] rfl (by (try simp only [List.map_toArray, List.map_cons, List.map_nil]); first | done | rfl | (simp only [List.length_drop, List.length_take]; rfl) | (simp [Act.eval, Hd.wrap_u8]; done)) ?_; (with_reducible refine (vigilref03_IntText.calls k a0 t794 _ A7.out).mono ?_); rintro e w39 ⟨rfl, hb⟩; refine ⟨_, rfl, ?_⟩; have n0_ := Aside0.mk (below_step (by repeat (first | (with_reducible first | exact HB.out | apply below_alloc | apply pw_below_drewN | apply below_drew1) | exact HB.out)) hb); clear HB; have HB := n0_; clear n0_; (try clear hb); (try clear hb2); (try clear hk); (try clear hi)))
    go_ret
    exact ⟨by first | rfl | (simp [errW_none, errW_some] <;> rfl) | (simp [*, errW_none, errW_some] <;> rfl), by repeat (first | (with_reducible first | exact HB.out | apply below_alloc | apply pw_below_drewN | apply below_drew1) | exact HB.out)⟩
  ·
   rw [if_neg c9] at H
   have c9b0 : (t789 == 0) = false := beq_eq_false_iff_ne.mpr c9
   have c9b1 : (t789 != 0) = true := bne_iff_ne.mpr c9
   obtain rfl := Option.some.inj H
   go_enter Tryd.func10, Tryd.ntmps10
   go_wp2_with (first | ((with_reducible refine gate_callee (f := 26) rfl ?_); refine goesL_ (some 13) rfl rfl Tryd.func26 (by kernel_rfl) rfl #[.int .i64 a0] rfl (by (try simp only [List.map_toArray, List.map_cons, List.map_nil]); first | done | rfl | (simp only [List.length_drop, List.length_take]; rfl) | (simp [Act.eval, Hd.wrap_u8]; done)) ?_; (with_reducible refine (Hd.num_IntText.calls a0 t787 _ A3.out).mono ?_); rintro e w40 ⟨rfl, hb⟩; refine ⟨_, rfl, ?_⟩; have n0_ := Aside0.mk (below_step (by repeat (first | (with_reducible first | exact HB.out | apply below_alloc | apply pw_below_drewN | apply below_drew1) | exact HB.out)) hb); clear HB; have HB := n0_; clear n0_; (try clear hb); (try clear hb2); (try clear hk); (try clear hi)) | ((with_reducible refine gate_callee (f := 33) rfl ?_); refine goesL_ (some 16) rfl rfl Tryd.func33 (by kernel_rfl) rfl #[.string t787] rfl (by (try simp only [List.map_toArray, List.map_cons, List.map_nil]); first | done | rfl | (simp only [List.length_drop, List.length_take]; rfl) | (simp [Act.eval, Hd.wrap_u8]; done)) ?_; (with_reducible refine (num_Int.calls k t787 t788 t789 _ A4.out).mono ?_); rintro e w' ⟨rfl, ⟨nd, rfl⟩⟩; refine ⟨_, rfl, ?_⟩) | ((with_reducible refine gate_callee (f := 33) rfl ?_); refine goesL_ (some 21) rfl rfl Tryd.func33 (by kernel_rfl) rfl #[.string a1] rfl (by (try simp only [List.map_toArray, List.map_cons, List.map_nil]); first | done | rfl | (simp only [List.length_drop, List.length_take]; rfl) | (simp [Act.eval, Hd.wrap_u8]; done)) ?_; (with_reducible refine (num_Int.calls k a1 t790 t791 _ A5.out).mono ?_); rintro e w' ⟨rfl, ⟨nd, rfl⟩⟩; refine ⟨_, rfl, ?_⟩) | ((with_reducible refine gate_callee (f := 34) rfl ?_); refine goesL_ (some 26) rfl rfl Tryd.func34 (by kernel_rfl) rfl #[.string a1] rfl (by (try simp only [List.map_toArray, List.map_cons, List.map_nil]); first | done | rfl | (simp only [List.length_drop, List.length_take]; rfl) | (simp [Act.eval, Hd.wrap_u8]; done)) ?_; (with_reducible refine (vigilref03_Int.calls k a1 t792 t793 _ A6.out).mono ?_); rintro e w41 ⟨rfl, hb⟩; refine ⟨_, rfl, ?_⟩; have n0_ := Aside0.mk (below_step (by repeat (first | (with_reducible first | exact HB.out | apply below_alloc | apply pw_below_drewN | apply below_drew1) | exact HB.out)) hb); clear HB; have HB := n0_; clear n0_; (try clear hb); (try clear hb2); (try clear hk); (try clear hi)) | ((with_reducible refine gate_callee (f := 35) rfl ?_); refine goesL_ (some 31) rfl rfl Tryd.func35 (by kernel_rfl) rfl #[.int .i64 a0] rfl (by (try simp only [List.map_toArray, List.map_cons, List.map_nil]); first | done | rfl | (simp only [List.length_drop, List.length_take]; rfl) | (simp [Act.eval, Hd.wrap_u8]; done)) ?_; (with_reducible refine (vigilref03_IntText.calls k a0 t794 _ A7.out).mono ?_); rintro e w42 ⟨rfl, hb⟩; refine ⟨_, rfl, ?_⟩; have n0_ := Aside0.mk (below_step (by repeat (first | (with_reducible first | exact HB.out | apply below_alloc | apply pw_below_drewN | apply below_drew1) | exact HB.out)) hb); clear HB; have HB := n0_; clear n0_; (try clear hb); (try clear hb2); (try clear hk); (try clear hi)))
   go_ret
   exact ⟨by first | rfl | (simp [errW_none, errW_some] <;> rfl) | (simp [*, errW_none, errW_some] <;> rfl), by repeat (first | (with_reducible first | exact HB.out | apply below_alloc | apply pw_below_drewN | apply below_drew1) | exact HB.out)⟩
 ·
  rw [if_neg c8] at H
  have c8b0 : (t787.toList == t794.toList) = false := beq_eq_false_iff_ne.mpr c8
  have c8b1 : (t787.toList != t794.toList) = true := bne_iff_ne.mpr c8
  obtain rfl := Option.some.inj H
  go_enter Tryd.func10, Tryd.ntmps10
  go_wp2_with (first | ((with_reducible refine gate_callee (f := 26) rfl ?_); refine goesL_ (some 13) rfl rfl Tryd.func26 (by kernel_rfl) rfl #[.int .i64 a0] rfl (by (try simp only [List.map_toArray, List.map_cons, List.map_nil]); first | done | rfl | (simp only [List.length_drop, List.length_take]; rfl) | (simp [Act.eval, Hd.wrap_u8]; done)) ?_; (with_reducible refine (Hd.num_IntText.calls a0 t787 _ A3.out).mono ?_); rintro e w43 ⟨rfl, hb⟩; refine ⟨_, rfl, ?_⟩; have n0_ := Aside0.mk (below_step (by repeat (first | (with_reducible first | exact HB.out | apply below_alloc | apply pw_below_drewN | apply below_drew1) | exact HB.out)) hb); clear HB; have HB := n0_; clear n0_; (try clear hb); (try clear hb2); (try clear hk); (try clear hi)) | ((with_reducible refine gate_callee (f := 33) rfl ?_); refine goesL_ (some 16) rfl rfl Tryd.func33 (by kernel_rfl) rfl #[.string t787] rfl (by (try simp only [List.map_toArray, List.map_cons, List.map_nil]); first | done | rfl | (simp only [List.length_drop, List.length_take]; rfl) | (simp [Act.eval, Hd.wrap_u8]; done)) ?_; (with_reducible refine (num_Int.calls k t787 t788 t789 _ A4.out).mono ?_); rintro e w' ⟨rfl, ⟨nd, rfl⟩⟩; refine ⟨_, rfl, ?_⟩) | ((with_reducible refine gate_callee (f := 33) rfl ?_); refine goesL_ (some 21) rfl rfl Tryd.func33 (by kernel_rfl) rfl #[.string a1] rfl (by (try simp only [List.map_toArray, List.map_cons, List.map_nil]); first | done | rfl | (simp only [List.length_drop, List.length_take]; rfl) | (simp [Act.eval, Hd.wrap_u8]; done)) ?_; (with_reducible refine (num_Int.calls k a1 t790 t791 _ A5.out).mono ?_); rintro e w' ⟨rfl, ⟨nd, rfl⟩⟩; refine ⟨_, rfl, ?_⟩) | ((with_reducible refine gate_callee (f := 34) rfl ?_); refine goesL_ (some 26) rfl rfl Tryd.func34 (by kernel_rfl) rfl #[.string a1] rfl (by (try simp only [List.map_toArray, List.map_cons, List.map_nil]); first | done | rfl | (simp only [List.length_drop, List.length_take]; rfl) | (simp [Act.eval, Hd.wrap_u8]; done)) ?_; (with_reducible refine (vigilref03_Int.calls k a1 t792 t793 _ A6.out).mono ?_); rintro e w44 ⟨rfl, hb⟩; refine ⟨_, rfl, ?_⟩; have n0_ := Aside0.mk (below_step (by repeat (first | (with_reducible first | exact HB.out | apply below_alloc | apply pw_below_drewN | apply below_drew1) | exact HB.out)) hb); clear HB; have HB := n0_; clear n0_; (try clear hb); (try clear hb2); (try clear hk); (try clear hi)) | ((with_reducible refine gate_callee (f := 35) rfl ?_); refine goesL_ (some 31) rfl rfl Tryd.func35 (by kernel_rfl) rfl #[.int .i64 a0] rfl (by (try simp only [List.map_toArray, List.map_cons, List.map_nil]); first | done | rfl | (simp only [List.length_drop, List.length_take]; rfl) | (simp [Act.eval, Hd.wrap_u8]; done)) ?_; (with_reducible refine (vigilref03_IntText.calls k a0 t794 _ A7.out).mono ?_); rintro e w45 ⟨rfl, hb⟩; refine ⟨_, rfl, ?_⟩; have n0_ := Aside0.mk (below_step (by repeat (first | (with_reducible first | exact HB.out | apply below_alloc | apply pw_below_drewN | apply below_drew1) | exact HB.out)) hb); clear HB; have HB := n0_; clear n0_; (try clear hb); (try clear hb2); (try clear hk); (try clear hi)))
  go_ret
  exact ⟨by first | rfl | (simp [errW_none, errW_some] <;> rfl) | (simp [*, errW_none, errW_some] <;> rfl), by repeat (first | (with_reducible first | exact HB.out | apply below_alloc | apply pw_below_drewN | apply below_drew1) | exact HB.out)⟩

/-- THE ONE PURE STATEMENT of vigillaw03_NumInts: yours. -/
def vigillaw03_NumInts.Pure : Prop := ∀ (a0 : Int) (a1 : ByteArray), (Lit.int .i64 a0).wf = true → a1.size ≤ 140737488351232 → ∃ k, vigillaw03_NumInts.f k a0 a1 = some true
theorem vigillaw03_NumInts.walk (P : vigillaw03_NumInts.Pure) (a0 : Int) (a1 : ByteArray) (w : World) (w0 : (Lit.int .i64 a0).wf = true) (w1 : a1.size ≤ 140737488351232) :
  Calls Tryd.prog 10 #[.int .i64 a0, .string a1] w fun e w' => e = .returned (.bool true) ∧ Below w.heap.size w w' := by
 obtain ⟨k, h⟩ := P a0 a1 w0 w1
 refine (vigillaw03_NumInts.calls k a0 a1 true w h).mono ?_
 rintro e w' ⟨rfl, hd⟩
 exact ⟨rfl, hd⟩

end Go.Proofs.YtjlnfnfdibfniaaDoor.F

/- The plain law of NumInts: whole numbers have one text each. -/
namespace Go.Proofs.YtjlnfnfdibfniaaDoor.Pl
open F Hd Go.RowKit Go.Proofs.YtjlnfnfdibfniaaDoorW.PrintWords Go.Proofs.YtjlnfnfdibfniaaDoorW.PrintMore
theorem w64 {n : Int} (h0 : -9223372036854775808 ≤ n) (h1 : n ≤ 9223372036854775807) : wrap64 n = n := by unfold wrap64; omega
theorem extract_upto (s : ByteArray) (i : Nat) : (s.extract 0 i).data.toList = s.data.toList.take i := by
  rw [ByteArray.data_extract, Array.toList_extract]; simp
theorem extract_from (s : ByteArray) (a : Nat) : (s.extract a s.size).data.toList = s.data.toList.drop a := by
  rw [ByteArray.data_extract, Array.toList_extract]
  have : s.size = s.data.toList.length := by rw [Array.length_toList]; rfl
  rw [List.extract_eq_take_drop, this, List.take_of_length_le (by rw [List.length_drop]; omega)]
theorem len_data (s : ByteArray) : s.data.toList.length = s.size := by rw [Array.length_toList]; rfl
theorem bytes_ext {a b : ByteArray} (h : a.data.toList = b.data.toList) : a = b := by
  cases a; cases b; simp at h; simp [h]
theorem bt_get (s : ByteArray) (i : Nat) (h : i < s.data.toList.length) : bt s (i : Int) = (s.data.toList[i].toNat : Int) := by
  have h' : i < s.size := by rw [← len_data]; exact h
  unfold bt
  simp only [Int.toNat_natCast]
  rw [dif_pos h']
  simp [ByteArray.getElem_eq_getElem_data]
theorem digit_f (c : UInt8) : num_digit.f (c.toNat : Int) = some (isDig c) := by
  unfold num_digit.f isDig
  by_cases h : 48 ≤ c.toNat
  · rw [if_pos (by omega)]
    have : decide ((c.toNat : Int) ≤ 57) = decide (c.toNat ≤ 57) := decide_eq_decide.2 (by omega)
    simp [h, this]
  · rw [if_neg (by omega)]; simp [h]
theorem refdigit_f (c : UInt8) : vigilref03_digit.f (c.toNat : Int) = some (isDig c) := digit_f c
/-- How many digits a text has from a place on. -/
theorem run_l0 (s : ByteArray) (hs : s.size ≤ 140737488351232) : ∀ (d i : Nat), i + d = s.data.toList.length → ∀ k, d < k → num_run.l0 k s (i : Int) = some (((i + ((s.data.toList.drop i).takeWhile isDig).length : Nat)) : Int) := by
  intro d
  induction d with
  | zero =>
    intro i hi k hk
    obtain ⟨k, rfl⟩ : ∃ k', k = k' + 1 := ⟨k - 1, by omega⟩
    rw [num_run.l0, if_neg (by rw [← len_data]; omega), List.drop_of_length_le (by omega)]
    simp
  | succ d ih =>
    intro i hi k hk
    obtain ⟨k, rfl⟩ : ∃ k', k = k' + 1 := ⟨k - 1, by omega⟩
    have hl : i < s.data.toList.length := by omega
    rw [num_run.l0, if_pos (by rw [← len_data]; omega), if_pos (by omega), bt_get s i hl, digit_f, Option.bind_some, List.drop_eq_getElem_cons hl, List.takeWhile_cons]
    have hlen := len_data s
    cases hd : isDig s.data.toList[i] with
    | true =>
      have hw : wrap64 ((i : Int) + 1) = ((i + 1 : Nat) : Int) := by rw [w64 (by omega) (by omega)]; omega
      rw [if_pos rfl, if_pos rfl, hw, ih (i + 1) (by omega) k (by omega), List.length_cons]
      congr 1; omega
    | false => rw [if_neg (by decide), if_neg (by decide)]; simp
theorem run_f (s : ByteArray) (hs : s.size ≤ 140737488351232) (k : Nat) (hk : s.size < k) : num_run.f k s = some ((s.data.toList.takeWhile isDig).length : Int) := by
  unfold num_run.f
  have := run_l0 s hs s.data.toList.length 0 (by omega) k (by rw [len_data]; exact hk)
  simpa using this
theorem takeWhile_all (l : List UInt8) : (l.takeWhile isDig).length = l.length ↔ ∀ c ∈ l, isDig c = true := by
  induction l with
  | nil => simp
  | cons a l ih =>
    rw [List.takeWhile_cons]
    cases h : isDig a with
    | true => simp [ih, h]
    | false => simp [h]
/-- What comes of a number of digits. -/
def fin (neg : Bool) (v : Nat) : Int × Int := if 9223372036854775808 < v then (0, 8) else if neg then (-(v : Int), 0) else if v = 9223372036854775808 then (0, 8) else ((v : Int), 0)
theorem over_iff (v d : Nat) (hd : d ≤ 9) : (-(v : Int) < Int.tdiv ((-9223372036854775808) + (d : Int)) 10) ↔ 9223372036854775808 < 10 * v + d := by
  have h : Int.tdiv ((-9223372036854775808) + (d : Int)) 10 = -(((9223372036854775808 - d) / 10 : Nat) : Int) := by
    have e : (-9223372036854775808 : Int) + (d : Int) = -((9223372036854775808 - d : Nat) : Int) := by omega
    rw [e, Int.neg_tdiv]
    rfl
  rw [h]; omega
theorem sub48 (c : UInt8) (h : isDig c = true) : ((c.toNat : Int) - 48) % 256 = ((c.toNat - 48 : Nat) : Int) ∧ c.toNat - 48 ≤ 9 := by
  simp only [isDig, Bool.and_eq_true, decide_eq_true_eq] at h
  omega
theorem int_l0 (s : ByteArray) (hs : s.size ≤ 140737488351232) (neg : Bool) (hd : ∀ c ∈ s.data.toList, isDig c = true) :
    ∀ (d i : Nat), i + d = s.data.toList.length → val (s.data.toList.take i) ≤ 9223372036854775808 → ∀ k, d < k → num_Int.l0 k s neg (-(val (s.data.toList.take i) : Int)) (s.size : Int) (i : Int) = some (fin neg (val s.data.toList)) := by
  intro d
  have hlen := len_data s
  induction d with
  | zero =>
    intro i hi hv k hk
    obtain ⟨k, rfl⟩ : ∃ k', k = k' + 1 := ⟨k - 1, by omega⟩
    rw [List.take_of_length_le (by omega)] at hv ⊢
    rw [num_Int.l0, if_neg (by omega)]
    unfold fin
    rw [if_neg (show ¬ 9223372036854775808 < val s.data.toList by omega)]
    cases neg with
    | true => rw [if_pos rfl, if_pos rfl]
    | false =>
      rw [if_neg Bool.false_ne_true, if_neg Bool.false_ne_true]
      by_cases he : val s.data.toList = 9223372036854775808
      · rw [if_pos (by omega), if_pos he]
      · rw [if_neg (by omega), if_neg he, w64 (by omega) (by omega)]
        congr 2; omega
  | succ d ih =>
    intro i hi hv k hk
    obtain ⟨k, rfl⟩ : ∃ k', k = k' + 1 := ⟨k - 1, by omega⟩
    have hl : i < s.data.toList.length := by omega
    obtain ⟨e1, e2⟩ := sub48 _ (hd _ (List.getElem_mem hl))
    have hsn : s.data.toList.take (i + 1) = s.data.toList.take i ++ [s.data.toList[i]] := by rw [List.take_add_one, List.getElem?_eq_getElem hl]; rfl
    have hvs := val_snoc (s.data.toList.take i) s.data.toList[i]
    rw [← hsn] at hvs
    rw [num_Int.l0, if_pos (by omega), if_pos (by omega), if_pos (by omega), bt_get s i hl, e1]
    by_cases ho : 9223372036854775808 < 10 * val (s.data.toList.take i) + (s.data.toList[i].toNat - 48)
    · rw [if_pos ((over_iff _ _ e2).2 ho)]
      unfold fin
      have := val_mono (s.data.toList.take (i + 1)) (s.data.toList.drop (i + 1))
      rw [List.take_append_drop] at this
      rw [if_pos (by omega)]
    · rw [if_neg (fun h => ho ((over_iff _ _ e2).1 h))]
      have hw : wrap64 ((i : Int) + 1) = ((i + 1 : Nat) : Int) := by rw [w64 (by omega) (by omega)]; omega
      have hw2 : wrap64 (wrap64 (10 * -(val (s.data.toList.take i) : Int)) - ((s.data.toList[i].toNat - 48 : Nat) : Int)) = -((val (s.data.toList.take (i + 1)) : Nat) : Int) := by
        rw [w64 (n := 10 * _) (by omega) (by omega), w64 (by omega) (by omega), hvs]; omega
      rw [hw, hw2]
      exact ih (i + 1) (by omega) (by omega) k (by omega)
theorem strOfNums_one (n : Nat) : (strOfNums [(n : Int)]).data.toList = [UInt8.ofNat n] := by
  show [UInt8.ofNat ((n : Int)).toNat] = _
  rw [Int.toNat_natCast]
/-- The digits of a number, its sign aside. -/
theorem plain_f : ∀ (k : Nat) (n : Int), n.natAbs < 10 ^ k → k ≤ 20 → -9223372036854775808 ≤ n → n ≤ 9223372036854775807 → vigilref03_plain.f (k + 1) n = some ⟨(dec n.natAbs).toArray⟩ := by
  intro k
  induction k with
  | zero =>
    intro n h _ _ _
    have : n = 0 := by omega
    subst this
    show vigilref03_plain.f 1 0 = some ⟨(dec 0).toArray⟩
    kernel_rfl
  | succ k ih =>
    intro n h hk h0 h1
    have hlt : n.natAbs < 10 ^ 20 := Nat.lt_of_lt_of_le h (Nat.pow_le_pow_right (by decide) hk)
    have hq : n.natAbs / 10 < 10 ^ k := by rw [Nat.pow_succ] at h; omega
    have hdq : (Int.tdiv n 10).natAbs = n.natAbs / 10 := by rw [Int.natAbs_tdiv]; rfl
    have hdr : -9223372036854775808 ≤ Int.tdiv n 10 ∧ Int.tdiv n 10 ≤ 9223372036854775807 := by omega
    have hm : (Int.tmod n 10).natAbs = n.natAbs % 10 := by rw [Int.natAbs_tmod]; rfl
    have hy : ∃ y : List Int, y = [((48 + n.natAbs % 10 : Nat) : Int)] := ⟨_, rfl⟩
    have hw : wrap64 (Int.tdiv n 10) = Int.tdiv n 10 := w64 hdr.1 hdr.2
    have hs := strOfNums_one (48 + n.natAbs % 10)
    have fin_ : (if wrap64 (Int.tdiv n 10) = 0 then some (strOfNums [((48 + n.natAbs % 10 : Nat) : Int)]) else (vigilref03_plain.f (k + 1) (wrap64 (Int.tdiv n 10))).bind fun t => if t.size + (strOfNums [((48 + n.natAbs % 10 : Nat) : Int)]).size ≤ 9223372036854775807 then some (t ++ strOfNums [((48 + n.natAbs % 10 : Nat) : Int)]) else none) = some ⟨(dec n.natAbs).toArray⟩ := by
      rw [hw]
      by_cases hz : Int.tdiv n 10 = 0
      · rw [if_pos hz]
        have : n.natAbs / 10 = 0 := by rw [← hdq, hz]; rfl
        refine congrArg some (bytes_ext ?_)
        rw [hs, dec_step _ hlt, dec0, if_pos this]
        simp
      · rw [if_neg hz, ih _ (by rw [hdq]; exact hq) (by omega) hdr.1 hdr.2, Option.bind_some, hdq]
        have h3 : ¬ n.natAbs / 10 = 0 := by rw [← hdq]; omega
        have hsz : (⟨(dec (n.natAbs / 10)).toArray⟩ : ByteArray).size + (strOfNums [((48 + n.natAbs % 10 : Nat) : Int)]).size ≤ 9223372036854775807 := by
          have e1 := dec_length (n.natAbs / 10)
          have e2 := congrArg List.length hs
          rw [len_data] at e2
          simp only [List.length_singleton] at e2
          have e3 : (⟨(dec (n.natAbs / 10)).toArray⟩ : ByteArray).size = (dec (n.natAbs / 10)).length := by rw [← len_data]
          omega
        rw [if_pos hsz]
        refine congrArg some (bytes_ext ?_)
        rw [ByteArray.data_append, Array.toList_append, hs, dec_step n.natAbs hlt, dec0, if_neg h3]
    rw [vigilref03_plain.f]
    by_cases hneg : Int.tmod n 10 < 0
    · have e1 : (wrap64 (48 + wrap64 (-Int.tmod n 10))) % 256 = ((48 + n.natAbs % 10 : Nat) : Int) := by
        rw [w64 (n := -Int.tmod n 10) (by omega) (by omega), w64 (by omega) (by omega)]; omega
      rw [if_pos hneg, e1]
      exact fin_
    · have e1 : (wrap64 (48 + Int.tmod n 10)) % 256 = ((48 + n.natAbs % 10 : Nat) : Int) := by
        rw [w64 (by omega) (by omega)]; omega
      rw [if_neg hneg, e1]
      exact fin_
theorem refText_f (k : Nat) (hk : 21 ≤ k) (n : Int) (h0 : -9223372036854775808 ≤ n) (h1 : n ≤ 9223372036854775807) : vigilref03_IntText.f k n = some (intText n) := by
  have hp : vigilref03_plain.f k n = some ⟨(dec n.natAbs).toArray⟩ := by
    obtain ⟨d, rfl⟩ : ∃ d, k = 21 + d := ⟨k - 21, by omega⟩
    have h := plain_f 20 n (by omega) (by omega) h0 h1
    clear hk
    induction d with
    | zero => exact h
    | succ d ih => exact vigilref03_plain.mono _ _ _ ih
  unfold vigilref03_IntText.f intText
  by_cases hn : n < 0
  · have e : n.natAbs = (-n).toNat := by omega
    rw [if_pos hn, if_pos hn, hp, Option.bind_some, e]
    have e3 : (⟨(dec (-n).toNat).toArray⟩ : ByteArray).size = (dec (-n).toNat).length := by rw [← len_data]
    have := dec_length (-n).toNat
    rw [if_pos (by omega)]
    refine congrArg some (bytes_ext ?_)
    rw [ByteArray.data_append, Array.toList_append]
    rfl
  · have e : n.natAbs = n.toNat := by omega
    rw [if_neg hn, if_neg hn, hp, Option.bind_some, e]
/-- Which whole number a text says, or none. -/
def intSpec (L : List UInt8) : Int × Int :=
  let neg := L.head? == some 45
  let R := if neg then L.drop 1 else L
  if R = [] ∨ ¬ (∀ c ∈ R, isDig c = true) ∨ (R.head? = some 48 ∧ L ≠ [48]) then (0, 8) else fin neg (val R)
theorem cut_f (s : ByteArray) : ∃ t : ByteArray, strings_CutPrefix.f s (⟨#[45]⟩ : ByteArray) = some (t, s.data.toList.head? == some 45) ∧ t.data.toList = if s.data.toList.head? == some 45 then s.data.toList.drop 1 else s.data.toList := by
  have hl := len_data s
  unfold strings_CutPrefix.f stringslite_CutPrefix.f stringslite_HasPrefix.f
  have hone : (⟨#[45]⟩ : ByteArray).size = 1 := rfl
  have hol : (⟨#[45]⟩ : ByteArray).toList = [45] := by rw [ByteArray.toList_eq]
  rw [hone]
  simp only [Int.natCast_one, Int.toNat_one]
  cases h : s.data.toList with
  | nil =>
    rw [h] at hl
    rw [if_neg (show ¬ ((s.size : Int) ≥ 1) by simp at hl; omega), Option.bind_some, if_neg Bool.false_ne_true]
    exact ⟨s, rfl, by simp [h]⟩
  | cons a r =>
    rw [h] at hl
    simp only [List.length_cons] at hl
    have hex : (s.extract 0 1).toList = [a] := by rw [ByteArray.toList_eq, extract_upto, h]; rfl
    rw [if_pos (show ((s.size : Int) ≥ 1) by omega), if_pos (show (0 : Int) ≤ 1 by decide), if_pos (show (1 : Int) ≤ s.size by omega), Option.bind_some, hex, hol]
    by_cases ha : a = 45
    · subst ha
      rw [if_pos (by rfl), if_pos (show (0 : Int) ≤ 1 by decide), if_pos (show (1 : Int) ≤ s.size by omega)]
      exact ⟨s.extract 1 s.size, rfl, by rw [extract_from, h]; rfl⟩
    · have hb : ([a] == [(45 : UInt8)]) = false := by simpa using ha
      rw [hb, if_neg Bool.false_ne_true]
      refine ⟨s, ?_, ?_⟩
      · simp [ha]
      · simp [ha, h]
theorem int_f (s : ByteArray) (hs : s.size ≤ 140737488351232) (k : Nat) (hk : s.size + 2 < k) : num_Int.f k s = some (intSpec s.data.toList) := by
  obtain ⟨t, ht, htl⟩ := cut_f s
  unfold num_Int.f intSpec
  rw [ht, Option.bind_some]
  simp only []
  rw [← htl]
  generalize (s.data.toList.head? == some 45) = neg at *
  have hlen := len_data s
  have htlen := len_data t
  have hts : t.size ≤ s.size := by
    rw [← htlen, ← hlen, htl]
    split
    · rw [List.length_drop]; omega
    · exact Nat.le_refl _
  obtain ⟨k, rfl⟩ : ∃ k', k = k' + 1 := ⟨k - 1, by omega⟩
  have hj : ∀ b, num_Int.j0 (k + 1) t neg b = if b = true then some (0, 8) else num_Int.l0 k t neg 0 (t.size : Int) 0 := fun b => by rw [num_Int.j0]
  rw [ByteArray.toList_eq, ByteArray.toList_eq]
  by_cases h0 : t.data.toList = []
  · rw [if_pos h0, hj, if_pos rfl, if_pos (.inl h0)]
  · rw [if_neg h0, run_f t (by omega) _ (by omega), Option.bind_some]
    by_cases hd : ∀ c ∈ t.data.toList, isDig c = true
    · rw [if_pos (by rw [(takeWhile_all _).2 hd, htlen])]
      have hpos : 0 < t.data.toList.length := List.length_pos_iff.2 h0
      have hb := bt_get t 0 hpos
      rw [if_pos (by omega)]
      have hloop : num_Int.l0 k t neg 0 (t.size : Int) 0 = some (fin neg (val t.data.toList)) := by
        have := int_l0 t (by omega) neg hd t.data.toList.length 0 (by omega) (by simp [val]) k (by omega)
        simpa [val] using this
      have hh : t.data.toList.head? = some t.data.toList[0] := by
        rw [List.head?_eq_getElem?, List.getElem?_eq_getElem hpos]
      by_cases h48 : t.data.toList[0] = 48
      · rw [if_pos (show bt t 0 = 48 by have := hb; rw [h48] at this; exact this), hj]
        by_cases hz : s.data.toList = [48]
        · rw [if_neg (by simp [hz]), hloop, if_neg]
          rintro (h | h | h)
          · exact h0 h
          · exact h hd
          · exact h.2 hz
        · rw [if_pos (by simpa using hz), if_pos (.inr (.inr ⟨by rw [hh, h48], hz⟩))]
      · rw [if_neg (show ¬ bt t 0 = 48 by
          intro h
          have h2 := hb.symm.trans h
          exact h48 (UInt8.toNat_inj.1 (by have : (48 : UInt8).toNat = 48 := rfl; omega))), hj, if_neg Bool.false_ne_true, hloop, if_neg]
        rintro (h | h | h)
        · exact h0 h
        · exact h hd
        · exact h48 (Option.some.inj (hh.symm.trans h.1))
    · rw [if_neg (show ¬ ((List.takeWhile isDig t.data.toList).length : Int) = (t.size : Int) by
        intro h; exact hd ((takeWhile_all _).1 (by rw [htlen]; omega))), hj, if_pos rfl, if_pos (.inr (.inl hd))]
theorem fin_cases (neg : Bool) (v : Nat) : (fin neg v = (0, 8) ∧ ¬ (v ≤ 9223372036854775808 ∧ (neg = true ∨ v < 9223372036854775808))) ∨ (v ≤ 9223372036854775808 ∧ (neg = true ∨ v < 9223372036854775808) ∧ fin neg v = (if neg then -(v : Int) else (v : Int), 0)) := by
  unfold fin
  by_cases h : 9223372036854775808 < v
  · rw [if_pos h]; exact .inl ⟨rfl, by omega⟩
  · rw [if_neg h]
    cases neg with
    | true => rw [if_pos rfl]; exact .inr ⟨by omega, .inl rfl, rfl⟩
    | false =>
      rw [if_neg Bool.false_ne_true]
      by_cases h2 : v = 9223372036854775808
      · rw [if_pos h2]; exact .inl ⟨rfl, fun hh => by rcases hh.2 with h3 | h3; exact absurd h3 Bool.false_ne_true; omega⟩
      · rw [if_neg h2]; exact .inr ⟨by omega, .inr (by omega), rfl⟩
theorem text_list (n : Int) : (intText n).data.toList = if n < 0 then 45 :: dec (-n).toNat else dec n.toNat := by
  unfold intText
  split <;> rfl
theorem dig_ne45 {c : UInt8} (h : isDig c = true) : c ≠ 45 := by
  rintro rfl
  exact absurd h (by decide)
theorem dec_head (n : Nat) (h : n < 10 ^ 20) : ((dec n).head? == some 45) = false := by
  obtain ⟨_, h2, h3, _⟩ := dec_spec n h
  cases hd : dec n with
  | nil => exact absurd hd h3
  | cons a r =>
    have := dig_ne45 (h2 a (by rw [hd]; exact List.mem_cons_self))
    simpa using this
theorem head48 {L : List UInt8} (h : L.head? = some 48) : ∃ r, L = 48 :: r := by
  cases L with
  | nil => simp at h
  | cons a r => simp at h; exact ⟨r, by rw [h]⟩
theorem spec_text (n : Int) (h0 : -9223372036854775808 ≤ n) (h1 : n ≤ 9223372036854775807) : intSpec (intText n).data.toList = (n, 0) := by
  rw [text_list]
  unfold intSpec
  by_cases hn : n < 0
  · have hlt : (-n).toNat < 10 ^ 20 := by omega
    obtain ⟨d1, d2, d3, d4⟩ := dec_spec _ hlt
    rw [if_pos hn]
    have hh : ((45 :: dec (-n).toNat).head? == some (45 : UInt8)) = true := rfl
    simp only [hh, if_true, List.drop_succ_cons, List.drop_zero]
    rw [if_neg, d1]
    · rcases fin_cases true (-n).toNat with h | h
      · exact absurd ⟨by omega, .inl rfl⟩ h.2
      · rw [h.2.2, if_pos rfl]; congr 1; omega
    · rintro (h | h | h)
      · exact d3 h
      · exact h d2
      · obtain ⟨r, hr⟩ := head48 h.1
        exact d4 (by omega) 48 r hr rfl
  · have hlt : n.toNat < 10 ^ 20 := by omega
    obtain ⟨d1, d2, d3, d4⟩ := dec_spec _ hlt
    rw [if_neg hn]
    simp only [dec_head _ hlt, Bool.false_eq_true, if_false]
    rw [if_neg, d1]
    · rcases fin_cases false n.toNat with h | h
      · exact absurd ⟨by omega, .inr (by omega)⟩ h.2
      · rw [h.2.2, if_neg Bool.false_ne_true]; congr 1; omega
    · rintro (h | h | h)
      · exact d3 h
      · exact h d2
      · obtain ⟨r, hr⟩ := head48 h.1
        by_cases hz : n.toNat = 0
        · rw [hz, dec_zero] at h; exact h.2 rfl
        · exact d4 (by omega) 48 r hr rfl
theorem spec_back (L : List UInt8) : intSpec L = (0, 8) ∨ ∃ x : Int, intSpec L = (x, 0) ∧ -9223372036854775808 ≤ x ∧ x ≤ 9223372036854775807 ∧ (intText x).data.toList = L := by
  unfold intSpec
  simp only []
  cases hneg : (L.head? == some 45) with
  | true =>
    rw [if_pos rfl]
    by_cases hc : L.drop 1 = [] ∨ ¬ (∀ c ∈ L.drop 1, isDig c = true) ∨ ((L.drop 1).head? = some 48 ∧ L ≠ [48])
    · rw [if_pos hc]; exact .inl rfl
    · rw [if_neg hc]
      rcases fin_cases true (val (L.drop 1)) with h | ⟨h2, h3, h4⟩
      · exact .inl h.1
      · rw [h4, if_pos rfl]
        have hd : ∀ c ∈ L.drop 1, isDig c = true := Classical.byContradiction fun h => hc (.inr (.inl h))
        have hne : L.drop 1 ≠ [] := fun h => hc (.inl h)
        obtain ⟨r, hr⟩ : ∃ r, L = 45 :: r := by
          cases L with
          | nil => simp at hneg
          | cons a r => simp at hneg; exact ⟨r, by rw [hneg]⟩
        subst hr
        rw [List.drop_succ_cons, List.drop_zero] at *
        have h48 : ∀ c q, r = c :: q → c.toNat ≠ 48 := by
          rintro c q rfl hc48
          refine hc (.inr (.inr ⟨?_, by simp⟩))
          simp only [List.head?_cons, Option.some.injEq]
          exact UInt8.toNat_inj.1 hc48
        have hdec := dec_val r hd (by omega) hne (.inr h48)
        have hpos : 0 < val r := by
          rcases Nat.eq_zero_or_pos (val r) with h0 | h0
          · rw [h0, dec_zero] at hdec
            exact absurd rfl (h48 48 [] hdec.symm)
          · exact h0
        refine .inr ⟨_, rfl, by omega, by omega, ?_⟩
        rw [text_list, if_pos (by omega)]
        have e : (- -((val r : Nat) : Int)).toNat = val r := by omega
        rw [e, hdec]
  | false =>
    rw [if_neg Bool.false_ne_true]
    by_cases hc : L = [] ∨ ¬ (∀ c ∈ L, isDig c = true) ∨ (L.head? = some 48 ∧ L ≠ [48])
    · rw [if_pos hc]; exact .inl rfl
    · rw [if_neg hc]
      rcases fin_cases false (val L) with h | ⟨h2, h3, h4⟩
      · exact .inl h.1
      · rw [h4, if_neg Bool.false_ne_true]
        have h3 : val L < 9223372036854775808 := by rcases h3 with h | h; exact absurd h Bool.false_ne_true; exact h
        have hd : ∀ c ∈ L, isDig c = true := Classical.byContradiction fun h => hc (.inr (.inl h))
        have hne : L ≠ [] := fun h => hc (.inl h)
        have h48 : L = [48] ∨ ∀ c q, L = c :: q → c.toNat ≠ 48 := by
          by_cases hz : L = [48]
          · exact .inl hz
          · refine .inr ?_
            rintro c q rfl hc48
            refine hc (.inr (.inr ⟨?_, hz⟩))
            simp only [List.head?_cons, Option.some.injEq]
            exact UInt8.toNat_inj.1 hc48
        have hdec := dec_val L hd (by omega) hne h48
        refine .inr ⟨_, rfl, by omega, by omega, ?_⟩
        rw [text_list, if_neg (by omega), Int.toNat_natCast, hdec]
/-- What ref.Int says at the end of its digits. -/
def refEnd (L R : List UInt8) (neg : Bool) : Int × Int :=
  if (∀ c ∈ R, isDig c = true) ∧ R.length ≤ 19 ∧ val R ≤ 9223372036854775808 then
    (if neg then (if R = [] then (0, 8) else if (intText (-(val R : Int))).data.toList = L then (-(val R : Int), 0) else (0, 8))
    else if val R = 9223372036854775808 then (0, 8) else if R = [] then (0, 8) else if (intText (val R : Int)).data.toList = L then ((val R : Int), 0) else (0, 8))
  else (0, 8)
theorem ref_l0 (s t : ByteArray) (ht : t.size ≤ 140737488351232) (neg : Bool) : ∀ (d i : Nat), i + d = t.data.toList.length → i ≤ 19 → (∀ c ∈ t.data.toList.take i, isDig c = true) → val (t.data.toList.take i) ≤ 9223372036854775808 → ∀ k, 2 * d + 24 < k → vigilref03_Int.l0 k s t neg (-(val (t.data.toList.take i) : Int)) (i : Int) = some (refEnd s.data.toList t.data.toList neg) := by
  intro d
  have hlen := len_data t
  induction d with
  | zero =>
    intro i hi hi19 hdg hv k hk
    obtain ⟨k, rfl⟩ : ∃ k', k = k' + 1 := ⟨k - 1, by omega⟩
    rw [List.take_of_length_le (by omega)] at hv hdg ⊢
    rw [vigilref03_Int.l0, if_neg (by omega)]
    unfold refEnd
    rw [if_pos (show (∀ c ∈ t.data.toList, isDig c = true) ∧ t.data.toList.length ≤ 19 ∧ val t.data.toList ≤ 9223372036854775808 from ⟨hdg, by omega, hv⟩)]
    have hz : (t.size : Int) = 0 ↔ t.data.toList = [] := by rw [← List.length_eq_zero_iff]; omega
    cases neg with
    | true =>
      rw [if_pos (rfl : true = true), if_pos (rfl : true = true)]
      by_cases h0 : t.data.toList = []
      · rw [if_pos (hz.2 h0), if_pos h0]
      · rw [if_neg (fun h => h0 (hz.1 h)), if_neg h0, refText_f _ (by omega) _ (by omega) (by omega), Option.bind_some, ByteArray.toList_eq, ByteArray.toList_eq]
        by_cases hq : (intText (-(val t.data.toList : Int))).data.toList = s.data.toList
        · rw [if_pos hq, if_pos hq]
        · rw [if_neg hq, if_neg hq]
    | false =>
      rw [if_neg Bool.false_ne_true, if_neg Bool.false_ne_true]
      by_cases he : val t.data.toList = 9223372036854775808
      · rw [if_pos (show -(val t.data.toList : Int) = -9223372036854775808 by omega), if_pos he]
      · rw [if_neg (show ¬ -(val t.data.toList : Int) = -9223372036854775808 by omega), if_neg he]
        have hw : wrap64 (- -(val t.data.toList : Int)) = (val t.data.toList : Int) := by rw [w64 (by omega) (by omega)]; omega
        by_cases h0 : t.data.toList = []
        · rw [if_pos (hz.2 h0), if_pos h0]
        · rw [if_neg (fun h => h0 (hz.1 h)), if_neg h0, hw, refText_f _ (by omega) _ (by omega) (by omega), Option.bind_some, ByteArray.toList_eq, ByteArray.toList_eq]
          by_cases hq : (intText (val t.data.toList : Int)).data.toList = s.data.toList
          · rw [if_pos hq, if_pos hq]
          · rw [if_neg hq, if_neg hq]
  | succ d ih =>
    intro i hi hi19 hdg hv k hk
    obtain ⟨k, rfl⟩ : ∃ k', k = k' + 2 := ⟨k - 2, by omega⟩
    have hl : i < t.data.toList.length := by omega
    rw [vigilref03_Int.l0, if_pos (by omega), if_pos (by omega), bt_get t i hl, refdigit_f, Option.bind_some]
    cases hd : isDig t.data.toList[i] with
    | false =>
      rw [if_neg Bool.false_ne_true, vigilref03_Int.j3, if_pos rfl]
      unfold refEnd
      rw [if_neg (fun h => by rw [h.1 _ (List.getElem_mem hl)] at hd; cases hd)]
    | true =>
      rw [if_pos rfl, vigilref03_Int.j3]
      by_cases h19 : i = 19
      · rw [if_pos (decide_eq_true (by omega))]
        unfold refEnd
        rw [if_neg (fun h => by omega)]
      · obtain ⟨e1, e2⟩ := sub48 _ hd
        have hsn : t.data.toList.take (i + 1) = t.data.toList.take i ++ [t.data.toList[i]] := by rw [List.take_add_one, List.getElem?_eq_getElem hl]; rfl
        have hvs := val_snoc (t.data.toList.take i) t.data.toList[i]
        rw [← hsn] at hvs
        rw [if_neg (show ¬ (decide ((i : Int) ≥ 19) = true) by simp; omega), if_pos (by omega), if_pos (by omega), bt_get t i hl, e1]
        by_cases ho : 9223372036854775808 < 10 * val (t.data.toList.take i) + (t.data.toList[i].toNat - 48)
        · rw [if_pos ((over_iff _ _ e2).2 ho)]
          have := val_mono (t.data.toList.take (i + 1)) (t.data.toList.drop (i + 1))
          rw [List.take_append_drop] at this
          unfold refEnd
          rw [if_neg (fun h => by omega)]
        · rw [if_neg (fun h => ho ((over_iff _ _ e2).1 h))]
          have hw : wrap64 ((i : Int) + 1) = ((i + 1 : Nat) : Int) := by rw [w64 (by omega) (by omega)]; omega
          have hw2 : wrap64 (wrap64 (10 * -(val (t.data.toList.take i) : Int)) - ((t.data.toList[i].toNat - 48 : Nat) : Int)) = -((val (t.data.toList.take (i + 1)) : Nat) : Int) := by
            rw [w64 (n := 10 * _) (by omega) (by omega), w64 (by omega) (by omega), hvs]; omega
          rw [hw, hw2]
          refine ih (i + 1) (by omega) (Nat.lt_of_le_of_ne hi19 h19) ?_ (by omega) k (by omega)
          rw [hsn]
          intro c hc
          rcases List.mem_append.1 hc with hc | hc
          · exact hdg c hc
          · rw [List.mem_singleton] at hc; rw [hc]; exact hd
theorem ref_f (s : ByteArray) (hs : s.size ≤ 140737488351232) (k : Nat) (hk : 2 * s.size + 28 < k) : vigilref03_Int.f k s = some (refEnd s.data.toList (if (s.data.toList.head? == some 45) = true then s.data.toList.drop 1 else s.data.toList) (s.data.toList.head? == some 45)) := by
  have hlen := len_data s
  obtain ⟨k, rfl⟩ : ∃ k', k = k' + 2 := ⟨k - 2, by omega⟩
  have start : ∀ (t : ByteArray) (neg : Bool), t.size ≤ s.size → vigilref03_Int.l0 k s t neg 0 0 = some (refEnd s.data.toList t.data.toList neg) := by
    intro t neg hts
    have htl := len_data t
    have := ref_l0 s t (by omega) neg t.data.toList.length 0 (by omega) (by omega) (by simp) (by simp [val]) k (by omega)
    simpa [val] using this
  unfold vigilref03_Int.f
  cases h : s.data.toList with
  | nil =>
    rw [h] at hlen
    simp only [List.length_nil] at hlen
    rw [if_neg (show ¬ ((s.size : Int) > 0) by omega), vigilref03_Int.j0, if_neg Bool.false_ne_true, vigilref03_Int.j1, start s false (Nat.le_refl _), h]
    rfl
  | cons a r =>
    rw [h] at hlen
    simp only [List.length_cons] at hlen
    have hb := bt_get s 0 (by rw [h]; simp)
    have hb' : bt s 0 = (a.toNat : Int) := by
      have : s.data.toList[0]'(by rw [h]; simp) = a := by simp [h]
      rw [this] at hb; exact hb
    rw [if_pos (show ((s.size : Int) > 0) by omega), if_pos (show (0 : Int) < s.size by omega), hb', vigilref03_Int.j0]
    by_cases ha : a = 45
    · subst ha
      rw [if_pos (by rfl), if_pos (show (1 : Int) ≤ s.size by omega), vigilref03_Int.j1, start _ _ (by
        rw [← len_data, extract_from, List.length_drop]; rw [len_data]; omega), extract_from, h]
      rfl
    · have hne : ((a.toNat : Int) == 45) = false := by
        rw [beq_eq_false_iff_ne]
        intro h45
        exact ha (UInt8.toNat_inj.1 (by have : (45 : UInt8).toNat = 45 := rfl; omega))
      have hne2 : ((a :: r).head? == some (45 : UInt8)) = false := by simpa using ha
      rw [hne, if_neg Bool.false_ne_true, vigilref03_Int.j1, start s false (Nat.le_refl _), h, hne2, if_neg Bool.false_ne_true]
/-- Both say the same. -/
theorem ref_spec (L : List UInt8) : refEnd L (if (L.head? == some 45) = true then L.drop 1 else L) (L.head? == some 45) = intSpec L := by
  rcases spec_back L with h | ⟨x, hx, h0, h1, ht⟩
  · rw [h]
    unfold refEnd
    by_cases hc : (∀ c ∈ (if (L.head? == some 45) = true then L.drop 1 else L), isDig c = true) ∧ (if (L.head? == some 45) = true then L.drop 1 else L).length ≤ 19 ∧ val (if (L.head? == some 45) = true then L.drop 1 else L) ≤ 9223372036854775808
    · rw [if_pos hc]
      generalize (if (L.head? == some 45) = true then L.drop 1 else L) = R at hc ⊢
      have no : ∀ y : Int, -9223372036854775808 ≤ y → y ≤ 9223372036854775807 → ¬ (intText y).data.toList = L := by
        intro y y0 y1 hy
        have := spec_text y y0 y1
        rw [hy, h] at this
        cases this
      split
      · split
        · rfl
        · rw [if_neg (no _ (by omega) (by omega))]
      · split
        · rfl
        · split
          · rfl
          · rw [if_neg (no _ (by omega) (by omega))]
    · rw [if_neg hc]
  · rw [hx]
    rw [← ht] at hx ⊢
    rw [text_list] at hx ⊢
    unfold refEnd
    by_cases hn : x < 0
    · have hlt : (-x).toNat < 10 ^ 20 := by omega
      obtain ⟨d1, d2, d3, d4⟩ := dec_spec _ hlt
      rw [if_pos hn]
      have hh : ((45 :: dec (-x).toNat).head? == some (45 : UInt8)) = true := rfl
      simp only [hh, if_true, List.drop_succ_cons, List.drop_zero]
      have e : -((-x).toNat : Int) = x := by omega
      rw [if_pos ⟨d2, dec_short _ (by omega), by rw [d1]; omega⟩, if_neg d3, d1, e, text_list, if_pos hn, if_pos rfl]
    · have hlt : x.toNat < 10 ^ 20 := by omega
      obtain ⟨d1, d2, d3, d4⟩ := dec_spec _ hlt
      rw [if_neg hn]
      simp only [dec_head _ hlt, Bool.false_eq_true, if_false]
      have e : ((x.toNat : Nat) : Int) = x := by omega
      rw [if_pos ⟨d2, dec_short _ (by omega), by rw [d1]; omega⟩, if_neg (by rw [d1]; omega), if_neg d3, d1, e, text_list, if_neg hn, if_pos rfl]
theorem law_ints : vigillaw03_NumInts.Pure := by
  intro a0 a1 w0 hs
  have h0 : -9223372036854775808 ≤ a0 ∧ a0 ≤ 9223372036854775807 := by simp [Lit.wf, IntKind.min, IntKind.max, IntKind.bits, IntKind.signed] at w0; omega
  have hwk : ∀ d, vigillaw03_wakes.f (400 + d) = some true := by
    intro d
    induction d with
    | zero => exact wakes
    | succ d ih => exact vigillaw03_wakes.mono _ _ ih
  refine ⟨400 + (2 * a1.size + 100), ?_⟩
  have htx : num_IntText.f a0 = some (intText a0) := by unfold num_IntText.f; rw [if_pos h0]
  have hsz : (intText a0).size ≤ 21 := by
    rw [← len_data, text_list]
    have e1 := dec_length (-a0).toNat
    have e2 := dec_length a0.toNat
    split
    · rw [List.length_cons]; omega
    · omega
  unfold vigillaw03_NumInts.f
  rw [htx, Option.bind_some, int_f _ (by omega) _ (by omega), Option.bind_some, spec_text _ h0.1 h0.2, int_f _ hs _ (by omega), Option.bind_some, ref_f _ hs _ (by omega), Option.bind_some, ref_spec, refText_f _ (by omega) _ h0.1 h0.2, Option.bind_some, if_pos rfl, if_pos rfl, if_pos rfl, if_pos rfl, if_pos rfl, hwk]
  rcases spec_back a1.data.toList with h | ⟨x, hx, x0, x1, ht⟩
  · rw [h, if_neg (by decide)]; rfl
  · have hxt : num_IntText.f x = some (intText x) := by unfold num_IntText.f; rw [if_pos ⟨x0, x1⟩]
    rw [hx, if_pos rfl, hxt, Option.bind_some, ByteArray.toList_eq, ByteArray.toList_eq, ht, if_pos rfl]; rfl
end Go.Proofs.YtjlnfnfdibfniaaDoor.Pl

namespace Go.Proofs.YtjlnfnfdibfniaaDoor.numInts
open Go.ChangeShapes Go.WideShapes Go.ChangeAt Go.RowKit
open Go.ChangeMaps (open_string shut_string)
set_option linter.unusedVariables false
theorem own : ownKnob Tryd.prog.godebug = none := by kernel_rfl
set_option maxRecDepth 100000 in
theorem lifted (os : Os) (started : os.Started) (H : Type) (enc : TypeId × Value → H) :
    ReturnsInHanded {} Tryd.checked os 10 .any (fun w args => (Rows.numIntsSpec.pre enc Tryd.prog Tryd.f10 [] false w args ∧ laidMetH Tryd.prog Rows.numIntsRow.laid w) ∧ sizedMet enc Tryd.prog Tryd.f10 (OpenSpec.ofChange Rows.numIntsSpec) false w args)
      (Rows.numIntsSpec.post enc Tryd.prog Tryd.f10 false true false false) := by
  refine returnsInHanded_of_change_and (C := Tryd.checked) (X := fun w _ => laidMetH Tryd.prog Rows.numIntsRow.laid w) (fun _ _ _ hh h => h.of_heap hh) own started (by kernel_rfl) Tryd.func10
    (ChangeSpec.witness_shaped (enc := enc) (C := Tryd.checked) (os := os) (X := fun w _ => laidMetH Tryd.prog Rows.numIntsRow.laid w) false (World.laidAll Tryd.prog os Rows.numIntsRow.laid) #[.int .i64 0, .string ByteArray.empty] 8 (World.laidAll_os _ _ _)
      (World.shaped_of_ZipB (by kernel_rfl) (by kernel_rfl)) (by kernel_rfl) (by kernel_rfl) (by kernel_rfl)
      (by rw [MakeChecks.laidMetH_plain _ _ _ (by kernel_rfl)]; exact laidMet_laidAll _ (by kernel_rfl) (by kernel_rfl))) ?_
  intro W base args ds gs before hval0 hW _ hsz0 _ _
  have hsz : (DataW.weightsEach Tryd.prog (Tryd.f10.params.toList ++ Rows.numIntsSpec.plain.varTypes Tryd.prog) (ds ++ gs)).all (· ≤ reachBytes) = true := hsz0
  have hval : ∀ (j : Nat) t v, Tryd.f10.params[j]? = some t → args[j]? = some v → Value.okWide Tryd.prog W .any base t v := hval0
  have hW' := hW
  obtain ⟨p, q, hA0, hV, rfl, _, _⟩ := hW
  have hA : DataW.TrodAll enc Tryd.prog W 0 (fun _ => true) true Tryd.f10.params.toList args.toList ds p := hA0
  rw [Tryd.params10] at hA hval hsz
  obtain ⟨v0, vs0, d0, ds0, p0, q0, hargs, rfl, rfl, h0, r0⟩ := trodAll_cons hA
  obtain ⟨v1, vs1, d1, ds1, p1, q1, rfl, rfl, rfl, h1, r1⟩ := trodAll_cons r0
  obtain ⟨rfl, rfl, rfl⟩ := trodAll_nil r1
  obtain rfl : args = #[v0, v1] := by cases args; simp_all
  obtain ⟨rfl, rfl⟩ := trodVars_none hV
  obtain ⟨a0, rfl, rfl, rfl, w0⟩ := open_int Tryd.underlying3 (hval 0 3 v0 rfl rfl) h0
  obtain ⟨a1, rfl, rfl, rfl, y1⟩ := open_string Tryd.underlying9 (hval 1 9 v1 rfl rfl) h1
  have w1 : a1.size ≤ 140737488351232 := by
    have z := sized_string hsz (j := 1) (t := 9) rfl rfl
    rw [Array.length_toList] at z
    exact z
  clear hA0 hval0 hsz0 hsz
  refine (F.vigillaw03_NumInts.walk Pl.law_ints a0 a1 W w0 w1).mono fun e W' ⟨he, bel⟩ => ?_
  subst he
  exact ⟨_, rfl, _, _, _, [], _, [], hW', trodAll_mk1 (shut_bool Tryd.underlying4 _), (trodAll_cons_mk (shut_int Tryd.underlying3 w0) (trodAll_cons_mk (shut_string Tryd.underlying9 y1) trodAll_mk0)), rfl, bel.frame _, fun h => by cases h⟩
theorem over : Rows.numIntsRow.holds Tryd.pinned (OpenSpec.ofChange Rows.numIntsSpec) :=
  OpenClaim.holds_of_wide 10 Tryd.f10 rfl rfl rfl rfl rfl rfl rfl ⟨rfl, rfl, rfl, rfl, rfl⟩ rfl rfl rfl rfl rfl (by kernel_rfl) Tryd.func10 (by kernel_rfl)
    (of_decide_eq_true (by kernel_rfl)) (by unfold Func.isWrapper; first | (rw [if_pos (by decide +kernel)]; kernel_rfl) | (rw [if_neg (by decide +kernel)]; exact ⟨rfl, rfl⟩))
    (fun os started H enc _ => lifted os started H enc)
theorem card_holds : Rows.NumIntsCardSaid :=
  Claim7.holds_tied_plain_at .later [] [.data, .pinned] true (true, "a90acdf829413157ef6e6e8aea78a484b42a66cc9924c82fc4fb50f94bff3414") false over (fun _ h => by cases h) (by kernel_rfl) (fun _ h => by cases h) numInts_row_tie rfl ⟨rfl, rfl⟩ (by kernel_rfl) rfl
    (fun f fn hf hfn => by
      obtain rfl : f = 10 := Option.some.inj ((show Tryd.prog.funcNamed "vigil/vigillaw03.NumInts" = some 10 by kernel_rfl).symm.trans hf) |>.symm
      obtain rfl : fn = Tryd.f10 := (Option.some.inj (Tryd.func10.symm.trans hfn)).symm
      exact ⟨by kernel_rfl, fun j t ht => by
        rw [Tryd.params10] at ht
        have hm : t ∈ [3, 9] := by have h_ := Array.mem_of_getElem? ht; simp at h_ ⊢; omega
        have hall : ([3, 9].all fun u => !Tryd.prog.wantsStandIn u) = true := by kernel_rfl
        exact (show Tryd.prog.wantsStandIn t = false by simpa using List.all_eq_true.1 hall t hm)⟩)
    (by kernel_rfl)
#print axioms card_holds
end Go.Proofs.YtjlnfnfdibfniaaDoor.numInts
namespace Go.Proofs.YtjlnfnfdibfniaaDoor
/-- The card, under a short name, for the claim. -/
theorem numInts_card : Rows.NumIntsCardSaid := numInts.card_holds
end Go.Proofs.YtjlnfnfdibfniaaDoor

