/- NumDurations: num reads and writes durations and seconds as the document says, and what it writes of a duration it reads as it. For all whole numbers and texts. -/
import Derived.Test.YtjlnfnfdibfniaaDoorCDura5
import Derived.KernelRfl
import Derived.Test.YtjlnfnfdibfniaaDoorRows
import Derived.Test.YtjlnfnfdibfniaaDoorCards
import Derived.Test.YtjlnfnfdibfniaaDoorTie
import Derived.WalkKit
import Derived.ProofKit
import Derived.OpenShut
import Derived.ShutString
import Derived.ChangeOld
import Derived.Below
import Derived.SizedLaws
import Derived.Lay
import Derived.LaidOnce
import Derived.SevenTiedAt
namespace Go.Proofs.YtjlnfnfdibfniaaDoor.Pl
theorem wakes : F.w_wakes.f 400 = some true := by kernel_rfl
end Go.Proofs.YtjlnfnfdibfniaaDoor.Pl
namespace Go.Proofs.YtjlnfnfdibfniaaDoor.Pl
open F Hd Go.RowKit Go.Proofs.YW.PWords Go.Proofs.YW.PMore
theorem wakes_runs : Runs (fun k => F.w_wakes.f k) true := by
 refine ⟨400, fun k hk => ?_⟩
 obtain ⟨d, rfl⟩ : ∃ d, k = 400 + d := ⟨k - 400, by omega⟩
 induction d with
 | zero => exact wakes
 | succ d ih => exact F.w_wakes.mono _ _ (ih (by omega))
end Go.Proofs.YtjlnfnfdibfniaaDoor.Pl
namespace Go.Proofs.YtjlnfnfdibfniaaDoor.Pl
open F Hd Go.RowKit Go.Proofs.YW.PWords Go.Proofs.YW.PMore
theorem tw_app {p : UInt8 → Bool} (a b : List UInt8) (ha : ∀ c ∈ a, p c = true) (hb : ∀ c r, b = c :: r → p c = false) : (a ++ b).takeWhile p = a := by
 induction a with
 | nil =>
  rw [List.nil_append]
  cases b with
  | nil => rfl
  | cons c r => rw [List.takeWhile_cons_of_neg (by rw [hb c r rfl]; exact Bool.false_ne_true)]
 | cons x a ih =>
  rw [List.cons_append, List.takeWhile_cons_of_pos (ha x (List.mem_cons_self ..)), ih (fun c hc => ha c (List.mem_cons_of_mem _ hc))]
def DigHead (l : List UInt8) : Prop := ∀ c r, l = c :: r → isDig c = true
structure UnitOk (u : List UInt8 × Nat) : Prop where
 az : ∀ c ∈ u.1, isAz c = true
 ne : u.1 ≠ []
 lo : 1 ≤ u.2
 hi : u.2 ≤ 31536000000
theorem dig_az {c : UInt8} (h : isDig c = true) : isAz c = false := by
 simp only [isDig, Bool.and_eq_true, decide_eq_true_eq] at h
 simp only [isAz, Bool.and_eq_false_iff, decide_eq_false_iff_not]; omega
theorem az_dig {c : UInt8} (h : isAz c = true) : isDig c = false := by
 simp only [isAz, Bool.and_eq_true, decide_eq_true_eq] at h
 simp only [isDig, Bool.and_eq_false_iff, decide_eq_false_iff_not]; omega
theorem dec_ok (q : Nat) (h : q < 1000000000000000) : (∀ c ∈ dec q, isDig c = true) ∧ val (dec q) = q ∧ 1 ≤ (dec q).length ∧ (dec q).length ≤ 15 := by
 obtain ⟨h1, h2, h3, _⟩ := dec_spec q (by omega)
 have hl : (dec q).length ≤ 15 := decF_short 20 q 14 (by omega)
 refine ⟨h2, h1, ?_, hl⟩
 cases hz : dec q with
 | nil => exact absurd hz h3
 | cons a l => rw [List.length_cons]; omega
theorem durS_step (f q sum : Nat) (u : List UInt8 × Nat) (T : List UInt8) (left r : List (List UInt8 × Nat)) (hu : UnitOk u) (hq : q < 1000000000000000) (hT : DigHead T) (hl : left.dropWhile (fun x => x.1 != u.1) = u :: r) (hs : sum + q * u.2 ≤ 9007199254740992) :
  durS (f + 1) (dec q ++ u.1 ++ T) left sum false = if T = [] then (((sum + q * u.2 : Nat) : Int), 0) else durS f T r (sum + q * u.2) false := by
 obtain ⟨d1, d2, d3, d4⟩ := dec_ok q hq
 have hne := hu.ne
 have t1 : (dec q ++ u.1 ++ T).takeWhile isDig = dec q := by
  rw [List.append_assoc]
  refine tw_app _ _ d1 ?_
  intro c r' h
  cases hu1 : u.1 with
  | nil => exact absurd hu1 hne
  | cons a b =>
   rw [hu1, List.cons_append] at h
   injection h with h1 _
   rw [← h1]
   exact az_dig (hu.az a (by rw [hu1]; exact List.mem_cons_self ..))
 have t2 : (dec q ++ u.1 ++ T).drop (dec q).length = u.1 ++ T := by rw [List.append_assoc, List.drop_left]
 have t3 : (u.1 ++ T).takeWhile isAz = u.1 := tw_app _ _ hu.az (fun c r' h => dig_az (hT c r' h))
 have t4 : (u.1 ++ T).drop u.1.length = T := List.drop_left
 have hno : decide (9007199254740992 < sum + q * u.2) = false := decide_eq_false (by omega)
 rw [durS, t1, t2, t3, t4, if_neg (by omega), hl]
 simp only
 rw [d2, hno]
 simp only [Bool.or_false, Bool.false_eq_true, if_false]
theorem durText_zero (l : List (List UInt8 × Nat)) : durText l 0 = [] := by
 induction l with
 | nil => rfl
 | cons u r ih => rw [durText, Nat.zero_div, Nat.zero_mod, ih]; rfl
theorem durText_head : ∀ (l : List (List UInt8 × Nat)) (n : Nat), (∀ u r, l = u :: r → n / u.2 < 1000000000000000) → (∀ u ∈ l, UnitOk u) → DigHead (durText l n) := by
 intro l
 induction l with
 | nil => intro n _ _ c r h; cases h
 | cons u r ih =>
  intro n hq hu c r' h
  have hq0 := hq u r rfl
  have hok := hu u (List.mem_cons_self ..)
  have hlo := hok.lo
  have hhi := hok.hi
  rw [durText] at h
  have hm := Nat.mod_lt n (show 0 < u.2 by omega)
  by_cases c0 : 0 < n / u.2
  ·
   rw [if_pos c0] at h
   obtain ⟨d1, _, d3, _⟩ := dec_ok (n / u.2) hq0
   cases hd : dec (n / u.2) with
   | nil => rw [hd] at d3; simp at d3
   | cons a b =>
    rw [hd, List.cons_append, List.cons_append] at h
    injection h with h1 _
    rw [← h1]
    exact d1 a (by rw [hd]; exact List.mem_cons_self ..)
  ·
   rw [if_neg c0, List.nil_append] at h
   refine ih (n % u.2) (fun v r'' hv => ?_) (fun v hv => hu v (List.mem_cons_of_mem _ hv)) c r' h
   exact Nat.lt_of_le_of_lt (Nat.div_le_self ..) (by omega)
theorem durText_ne : ∀ (l : List (List UInt8 × Nat)) (n : Nat), 0 < n → (∀ u, l.getLast? = some u → u.2 = 1) → l ≠ [] → (∀ u ∈ l, UnitOk u) → durText l n ≠ [] := by
 intro l
 induction l with
 | nil => intro n _ _ h; exact absurd rfl h
 | cons u r ih =>
  intro n hn hlast _ hu
  have hok := hu u (List.mem_cons_self ..)
  rw [durText]
  by_cases c0 : 0 < n / u.2
  ·
   rw [if_pos c0]
   intro h
   have := hok.ne
   exact this (List.append_eq_nil_iff.1 (List.append_eq_nil_iff.1 h).1).2
  ·
   have hlo := hok.lo
   have hlt : n < u.2 := by
    rcases Nat.lt_or_ge n u.2 with c | c
    ·
     exact c
    ·
     exact absurd (Nat.div_pos c (by omega)) c0
   rw [if_neg c0, List.nil_append, Nat.mod_eq_of_lt hlt]
   cases hr : r with
   | nil =>
    have := hlast u (by rw [hr]; rfl)
    omega
   | cons v s =>
    rw [← hr]
    refine ih n hn (fun w hw => hlast w ?_) (by rw [hr]; intro e; cases e) (fun w hw => hu w (List.mem_cons_of_mem _ hw))
    rw [hr] at hw ⊢
    rw [List.getLast?_cons_cons]; exact hw
def Found (left l : List (List UInt8 × Nat)) : Prop := ∀ a u r, l = a ++ u :: r → left.dropWhile (fun x => x.1 != u.1) = u :: r
theorem Found.tail {left r : List (List UInt8 × Nat)} {u : List UInt8 × Nat} (h : Found left (u :: r)) : Found left r := fun a v s e => h (u :: a) v s (by rw [e]; rfl)
theorem found_self (l : List (List UInt8 × Nat)) (h : (l.map Prod.fst).Nodup) : Found l l := by
 intro a u r e
 subst e
 induction a with
 | nil => rw [List.nil_append, List.dropWhile_cons_of_neg (by simp)]
 | cons x a ih =>
  rw [List.cons_append, List.map_cons, List.nodup_cons] at h
  have hx : x.1 ≠ u.1 := by
   intro e
   apply h.1
   rw [e]
   exact List.mem_map.2 ⟨u, by simp, rfl⟩
  rw [List.cons_append, List.dropWhile_cons_of_pos (by simp [hx])]
  exact ih h.2
theorem dur_back : ∀ (l left : List (List UInt8 × Nat)) (f n sum : Nat), 0 < n → l.length < f → (∀ u, l.getLast? = some u → u.2 = 1) → l ≠ [] → (∀ u ∈ l, UnitOk u) → (∀ u r, l = u :: r → n / u.2 < 1000000000000000) → (l.map Prod.fst).Nodup → Found left l → sum + n ≤ 9007199254740992 →
  durS f (durText l n) left sum false = (((sum + n : Nat) : Int), 0) := by
 intro l
 induction l with
 | nil => intro left f n sum _ _ _ h; exact absurd rfl h
 | cons u r ih =>
  intro left f n sum hn hf hlast _ hu hq hnd hfd hs
  have hok := hu u (List.mem_cons_self ..)
  have hlo := hok.lo
  have hhi := hok.hi
  have hq0 := hq u r rfl
  have hm := Nat.mod_lt n (show 0 < u.2 by omega)
  have hdm := Nat.mod_add_div n u.2
  rw [List.map_cons, List.nodup_cons] at hnd
  have hlr : ∀ w, r ≠ [] → r.getLast? = some w → w.2 = 1 := by
   intro w hr hw
   cases hr2 : r with
   | nil => exact absurd hr2 hr
   | cons v s =>
    refine hlast w ?_
    rw [hr2] at hw ⊢
    rw [List.getLast?_cons_cons]; exact hw
  obtain ⟨g, rfl⟩ : ∃ g, f = g + 1 := ⟨f - 1, by omega⟩
  rw [durText]
  by_cases c0 : 0 < n / u.2
  ·
   rw [if_pos c0]
   have hmul : n / u.2 * u.2 = u.2 * (n / u.2) := Nat.mul_comm ..
   have hhead : DigHead (durText r (n % u.2)) := durText_head r (n % u.2) (fun v s _ => Nat.lt_of_le_of_lt (Nat.div_le_self ..) (by omega)) (fun v hv => hu v (List.mem_cons_of_mem _ hv))
   rw [durS_step g (n / u.2) sum u _ left r hok hq0 hhead (hfd [] u r rfl) (by omega)]
   by_cases c1 : n % u.2 = 0
   ·
    rw [c1, durText_zero, if_pos rfl, hmul]
    have : u.2 * (n / u.2) = n := by omega
    rw [this]
   ·
    have hr : r ≠ [] := by
     intro hr
     have := hlast u (by rw [hr]; rfl)
     rw [this] at c1
     exact c1 (Nat.mod_one n)
    have hne := durText_ne r (n % u.2) (by omega) (fun w hw => hlr w hr hw) hr (fun v hv => hu v (List.mem_cons_of_mem _ hv))
    rw [if_neg hne, hmul]
    have e := ih r g (n % u.2) (sum + u.2 * (n / u.2)) (by omega) (by rw [List.length_cons] at hf; omega) (fun w hw => hlr w hr hw) hr (fun v hv => hu v (List.mem_cons_of_mem _ hv)) (fun v s _ => Nat.lt_of_le_of_lt (Nat.div_le_self ..) (by omega)) hnd.2 (found_self r hnd.2) (by omega)
    rw [e]
    congr 2
    omega
  ·
   have hlt : n < u.2 := by
    rcases Nat.lt_or_ge n u.2 with c | c
    ·
     exact c
    ·
     exact absurd (Nat.div_pos c (by omega)) c0
   have hr : r ≠ [] := by
    intro hr
    have := hlast u (by rw [hr]; rfl)
    omega
   rw [if_neg c0, List.nil_append, Nat.mod_eq_of_lt hlt]
   exact ih left (g + 1) n sum hn (by rw [List.length_cons] at hf; omega) (fun w hw => hlr w hr hw) hr (fun v hv => hu v (List.mem_cons_of_mem _ hv)) (fun v s _ => Nat.lt_of_le_of_lt (Nat.div_le_self ..) (by omega)) hnd.2 hfd.tail hs
theorem us_ok : ∀ u ∈ us, UnitOk u := by
 intro u hu
 unfold us at hu
 simp at hu
 rcases hu with rfl | rfl | rfl | rfl | rfl | rfl | rfl <;> exact ⟨by decide, by decide, by decide, by decide⟩
theorem back_dur (n : Nat) (h : n ≤ 9007199254740992) : (if durOf (n : Int) = [48] then ((0 : Int), (0 : Int)) else durS 8 (durOf (n : Int)) us 0 false) = ((n : Int), 0) := by
 have hs : (decide ((n : Int) < 0)) = false := decide_eq_false (by omega)
 by_cases c : n = 0
 ·
  subst c
  decide +kernel
 ·
  have hd : durOf (n : Int) = durText us n := by
   unfold durOf
   rw [if_neg (by omega), hs, Int.natAbs_natCast]; rfl
  have hb := dur_back us us 8 n 0 (by omega) (by decide) (by
   intro u hu
   have : us.getLast? = some ([109, 115], 1) := rfl
   rw [this] at hu
   injection hu with hu
   rw [← hu]) (by decide) us_ok (by
   intro u r e
   have : u = ([121], 31536000000) := by unfold us at e; injection e with e _; exact e.symm
   rw [this]
   show n / 31536000000 < _
   omega) (by decide) (found_self us (by decide)) (by omega)
  rw [Nat.zero_add] at hb
  rw [hd, if_neg ?_, hb]
  intro e
  rw [e] at hb
  have h0 : durS 8 [48] us 0 false = (0, 8) := by decide +kernel
  rw [h0] at hb
  injection hb with _ h2
  exact absurd h2 (by decide)
theorem law_durations : w_NumDurations.Pure := by
 intro a0 a1 hw hs
 have hwf : -9223372036854775808 ≤ a0 ∧ a0 ≤ 9223372036854775807 := by
  simp [Lit.wf, IntKind.min, IntKind.max, IntKind.signed, IntKind.bits] at hw
  omega
 obtain ⟨l, hl⟩ : ∃ l, l = a1.data.toList := ⟨_, rfl⟩
 have ha : a1 = mk l := by rw [hl, mk_self]
 have hll : l.length ≤ 140737488351232 := by rw [hl, len_data]; exact hs
 obtain ⟨n, hn, hn2⟩ : ∃ n : Nat, q_Within.f a0 9007199254740993 = some (n : Int) ∧ n ≤ 9007199254740992 := by
  unfold q_Within.f
  rw [if_neg (by decide)]
  have hm := Int.emod_lt_of_pos a0 (show (0 : Int) < 9007199254740993 by decide)
  have ht : -9007199254740993 < Int.tmod a0 9007199254740993 ∧ Int.tmod a0 9007199254740993 < 9007199254740993 := by
   have h1 := Int.natAbs_tmod a0 9007199254740993
   have h2 : a0.natAbs % 9007199254740993 < 9007199254740993 := Nat.mod_lt _ (by decide)
   have h3 : (9007199254740993 : Int).natAbs = 9007199254740993 := rfl
   rw [h3] at h1
   omega
  generalize Int.tmod a0 9007199254740993 = z at *
  by_cases c : z < 0
  ·
   rw [if_pos c, w64 (by omega) (by omega)]
   exact ⟨(z + 9007199254740993).toNat, by congr 1; omega, by omega⟩
  ·
   rw [if_neg c]
   exact ⟨z.toNat, by congr 1; omega, by omega⟩
 have htn := dtext_num (n : Int) (by omega) (by omega)
 have hbd := dur_num (durOf (n : Int)) (by
  have : (durOf (n : Int)).length ≤ 300 := by
   have len : ∀ l : List (List UInt8 × Nat), (∀ u ∈ l, u.1.length ≤ 2) → ∀ m, (durText l m).length ≤ l.length * 30 := by
    intro l
    induction l with
    | nil => intro _ m; exact Nat.le_refl _
    | cons u r ih =>
     intro hu m
     have h1 := dt_len u.1 (m / u.2) (by have := hu u (List.mem_cons_self ..); omega)
     have h2 := ih (fun v hv => hu v (List.mem_cons_of_mem _ hv)) (m % u.2)
     rw [durText, List.length_append, List.length_cons]
     omega
   have h7 := len us (by intro u hu; unfold us at hu; simp at hu; rcases hu with rfl | rfl | rfl | rfl | rfl | rfl | rfl <;> decide) n
   have hu7 : us.length = 7 := rfl
   unfold durOf
   split
   ·
    decide
   ·
    rw [List.length_append, Int.natAbs_natCast]
    have : (sgnText (decide ((n : Int) < 0))).length ≤ 1 := by unfold sgnText; split <;> simp
    omega
  omega)
 rw [back_dur n hn2] at hbd
 have j0 : Runs (fun k => w_NumDurations.j0 k a0 false) true := by
  refine Runs.suc ?_
  simp only [w_NumDurations.j0]
  rw [hn]
  exact Runs.no Bool.false_ne_true (Runs.bind (Runs.pure _) (Runs.bind htn (Runs.bind hbd (Runs.yes rfl (Runs.yes rfl (Runs.bind wakes_runs (Runs.pure _)))))))
 have main : Runs (fun k => w_NumDurations.f k a0 a1) true := by
  simp only [w_NumDurations.f]
  rw [ha]
  refine Runs.bind (dur_num l hll) (Runs.bind (dur_ref l hll) (Runs.yes rfl (Runs.yes rfl ?_)))
  refine Runs.bind (dtext_num a0 hwf.1 hwf.2) (Runs.bind (dtext_ref a0 hwf.1 hwf.2) (Runs.yes rfl ?_))
  refine Runs.bind (secs_num a0 hwf.1 hwf.2) (Runs.bind (secs_ref a0 hwf.1 hwf.2) ?_)
  have : ((mk (secOf a0)).toList != (mk (secOf a0)).toList) = false := by simp
  rw [this]
  exact j0
 obtain ⟨K, hK⟩ := main
 exact ⟨K, hK K (Nat.le_refl _)⟩
end Go.Proofs.YtjlnfnfdibfniaaDoor.Pl
namespace Go.Proofs.YtjlnfnfdibfniaaDoor.numDurations
open Go.ChangeShapes Go.WideShapes Go.ChangeAt Go.RowKit
open Go.ChangeMaps (open_string shut_string)
set_option linter.unusedVariables false
theorem own : ownKnob Tryd.prog.godebug = none := by kernel_rfl
set_option maxRecDepth 100000 in
theorem lifted (os : Os) (started : os.Started) (H : Type) (enc : TypeId × Value → H) :
    ReturnsInHanded {} Tryd.checked os 11 .any (fun w args => (Rows.numDurationsSpec.pre enc Tryd.prog Tryd.f11 [] false w args ∧ laidMetH Tryd.prog Rows.numDurationsRow.laid w) ∧ sizedMet enc Tryd.prog Tryd.f11 (OpenSpec.ofChange Rows.numDurationsSpec) false w args)
      (Rows.numDurationsSpec.post enc Tryd.prog Tryd.f11 false true false false) := by
  refine returnsInHanded_of_change_and (C := Tryd.checked) (X := fun w _ => laidMetH Tryd.prog Rows.numDurationsRow.laid w) (fun _ _ _ hh h => h.of_heap hh) own started (by kernel_rfl) Tryd.func11
    (ChangeSpec.witness_shaped (enc := enc) (C := Tryd.checked) (os := os) (X := fun w _ => laidMetH Tryd.prog Rows.numDurationsRow.laid w) false (World.laidAll Tryd.prog os Rows.numDurationsRow.laid) #[.int .i64 0, .string ByteArray.empty] 8 (World.laidAll_os _ _ _)
      (World.shaped_of_ZipB (by kernel_rfl) (by kernel_rfl)) (by kernel_rfl) (by kernel_rfl) (by kernel_rfl)
      (by rw [MakeChecks.laidMetH_plain _ _ _ (by kernel_rfl)]; exact laidMet_laidAll _ (by kernel_rfl) (by kernel_rfl))) ?_
  intro W base args ds gs before hval0 hW _ hsz0 _ _
  have hsz : (DataW.weightsEach Tryd.prog (Tryd.f11.params.toList ++ Rows.numDurationsSpec.plain.varTypes Tryd.prog) (ds ++ gs)).all (· ≤ reachBytes) = true := hsz0
  have hval : ∀ (j : Nat) t v, Tryd.f11.params[j]? = some t → args[j]? = some v → Value.okWide Tryd.prog W .any base t v := hval0
  have hW' := hW
  obtain ⟨p, q, hA0, hV, rfl, _, _⟩ := hW
  have hA : DataW.TrodAll enc Tryd.prog W 0 (fun _ => true) true Tryd.f11.params.toList args.toList ds p := hA0
  rw [Tryd.params11] at hA hval hsz
  obtain ⟨v0, vs0, d0, ds0, p0, q0, hargs, rfl, rfl, h0, r0⟩ := trodAll_cons hA
  obtain ⟨v1, vs1, d1, ds1, p1, q1, rfl, rfl, rfl, h1, r1⟩ := trodAll_cons r0
  obtain ⟨rfl, rfl, rfl⟩ := trodAll_nil r1
  obtain rfl : args = #[v0, v1] := by cases args; simp_all
  obtain ⟨rfl, rfl⟩ := trodVars_none hV
  obtain ⟨a0, rfl, rfl, rfl, w0⟩ := open_int Tryd.underlying3 (hval 0 3 v0 rfl rfl) h0
  obtain ⟨a1, rfl, rfl, rfl, y1⟩ := open_string Tryd.underlying9 (hval 1 9 v1 rfl rfl) h1
  have w1 : a1.size ≤ 140737488351232 := by
    have z := sized_string hsz (j := 1) (t := 9) rfl rfl
    rw [Array.length_toList] at z
    exact z
  clear hA0 hval0 hsz0 hsz
  refine (F.w_NumDurations.walk Pl.law_durations a0 a1 W w0 w1).mono fun e W' ⟨he, bel⟩ => ?_
  subst he
  exact ⟨_, rfl, _, _, _, [], _, [], hW', trodAll_mk1 (shut_bool Tryd.underlying4 _), (trodAll_cons_mk (shut_int Tryd.underlying3 w0) (trodAll_cons_mk (shut_string Tryd.underlying9 y1) trodAll_mk0)), rfl, bel.frame _, fun h => by cases h⟩
theorem over : Rows.numDurationsRow.holds Tryd.pinned (OpenSpec.ofChange Rows.numDurationsSpec) :=
  OpenClaim.holds_of_wide 11 Tryd.f11 rfl rfl rfl rfl rfl rfl rfl ⟨rfl, rfl, rfl, rfl, rfl⟩ rfl rfl rfl rfl rfl (by kernel_rfl) Tryd.func11 (by kernel_rfl)
    (of_decide_eq_true (by kernel_rfl)) (by unfold Func.isWrapper; first | (rw [if_pos (by decide +kernel)]; kernel_rfl) | (rw [if_neg (by decide +kernel)]; exact ⟨rfl, rfl⟩))
    (fun os started H enc _ => lifted os started H enc)
theorem card_holds : Rows.NumDurationsCardSaid :=
  Claim7.holds_tied_plain_at .later [] [.data, .pinned] true (true, "a90acdf829413157ef6e6e8aea78a484b42a66cc9924c82fc4fb50f94bff3414") false over (fun _ h => by cases h) (by kernel_rfl) (fun _ h => by cases h) numDurations_row_tie rfl ⟨rfl, rfl⟩ (by kernel_rfl) rfl
    (fun f fn hf hfn => by
      obtain rfl : f = 11 := Option.some.inj ((show Tryd.prog.funcNamed "vigil/vigillaw03.NumDurations" = some 11 by kernel_rfl).symm.trans hf) |>.symm
      obtain rfl : fn = Tryd.f11 := (Option.some.inj (Tryd.func11.symm.trans hfn)).symm
      exact ⟨by kernel_rfl, fun j t ht => by
        rw [Tryd.params11] at ht
        have hm : t ∈ [3, 9] := by have h_ := Array.mem_of_getElem? ht; simp at h_ ⊢; omega
        have hall : ([3, 9].all fun u => !Tryd.prog.wantsStandIn u) = true := by kernel_rfl
        exact (show Tryd.prog.wantsStandIn t = false by simpa using List.all_eq_true.1 hall t hm)⟩)
    (by kernel_rfl)
#print axioms card_holds
end Go.Proofs.YtjlnfnfdibfniaaDoor.numDurations
namespace Go.Proofs.YtjlnfnfdibfniaaDoor
theorem numDurations_card : Rows.NumDurationsCardSaid := numDurations.card_holds
end Go.Proofs.YtjlnfnfdibfniaaDoor

