/- NumBack: what is written of a float is read as just that float; a NaN is written as NaN. For all lists of words. -/
import Derived.Test.YtjlnfnfdibfniaaDoorCBack5
import Derived.KernelRfl
import Derived.Test.YtjlnfnfdibfniaaDoorRows
import Derived.Test.YtjlnfnfdibfniaaDoorCards
import Derived.Test.YtjlnfnfdibfniaaDoorTie
import Derived.WalkKit
import Derived.ProofKit
import Derived.OpenShut
import Derived.ShutString
import Derived.ChangeOld
import Derived.Below
import Derived.SizedLaws
import Derived.Lay
import Derived.LaidOnce
import Derived.SevenTiedAt
import Derived.ChangeSlices
import Derived.SliceStrings
namespace Go.Proofs.YtjlnfnfdibfniaaDoor.Pl
open F Hd Go.RowKit Go.Proofs.YtjlnfnfdibfniaaDoorW.PrintWords Go.Proofs.YtjlnfnfdibfniaaDoorW.PrintMore
def zs (l : List UInt8) : List UInt8 := l.dropWhile (fun c => c == 48)
theorem trimByte (l : List UInt8) : Runs (fun k => strings_trimLeftByte.l0 k (mk l) 48) (mk (zs l)) := by
 induction l with
 | nil =>
  refine Runs.suc ?_
  simp only [strings_trimLeftByte.l0]
  exact Runs.no (by rw [mk_size]; simp) (Runs.pure _)
 | cons c r ih =>
  refine Runs.suc ?_
  simp only [strings_trimLeftByte.l0]
  rw [mk_size, mk_bt0, mk_from]
  have hl : (c :: r).length = r.length + 1 := rfl
  refine Runs.yes (by omega) (Runs.yes (by omega) ?_)
  by_cases h : c.toNat = 48
  ·
   have hc : c = 48 := UInt8.toNat_inj.1 h
   refine Runs.yes (by omega) (Runs.yes (by omega) ?_)
   have : zs (c :: r) = zs r := by unfold zs; rw [hc]; rfl
   rw [this]; exact ih
  ·
   refine Runs.no (by omega) ((Runs.pure _).of ?_)
   have hc : (c == 48) = false := by
    rw [beq_eq_false_iff_ne]; intro e; rw [e] at h; exact h rfl
   unfold zs
   rw [List.dropWhile_cons, hc]; rfl
theorem trim_left (l : List UInt8) : Runs (fun k => strings_TrimLeft.f k (mk l) (⟨#[48]⟩ : ByteArray)) (mk (zs l)) := by
 simp only [strings_TrimLeft.f]
 rw [mk_list]
 have h48 : bt (⟨#[48]⟩ : ByteArray) 0 = 48 := rfl
 have hs : ((⟨#[48]⟩ : ByteArray).size : Int) = 1 := rfl
 by_cases h : l = []
 ·
  refine Runs.yes h (Runs.suc ?_)
  simp only [strings_TrimLeft.j0]
  refine Runs.yes trivial ((Runs.pure _).of ?_)
  rw [h]; rfl
 ·
  have hb : ((⟨#[48]⟩ : ByteArray).toList == ([] : List UInt8)) = false := by rw [ByteArray.toList_eq]; rfl
  refine Runs.no h (Runs.suc ?_)
  simp only [strings_TrimLeft.j0]
  rw [hb, h48, hs]
  refine Runs.no Bool.false_ne_true (Runs.yes rfl (Runs.yes (by decide) (Runs.suc ?_)))
  simp only [strings_TrimLeft.j1]
  rw [h48, hs]
  refine Runs.yes (by decide) (Runs.yes (by decide) ?_)
  simp only [strings_trimLeftByte.f]
  exact Runs.bind (trimByte l) (Runs.pure _)
theorem run_mk (l : List UInt8) (h : l.length ≤ 1000) : Runs (fun k => num_run.f k (mk l)) ((l.takeWhile isDig).length : Int) := by
 refine ⟨l.length + 1, fun k hk => ?_⟩
 have := run_f (mk l) (by rw [mk_size]; omega) k (by rw [mk_size]; omega)
 rwa [mk_data] at this
theorem exp_l0 (l : List UInt8) (hd : ∀ c ∈ l, isDig c = true) (hl : l.length ≤ 1000) (x6 x : Int) (hx6 : x6 = 1 ∨ x6 = -1) (hx : -1000 ≤ x) (hx' : x ≤ 1000) (ds : ByteArray) :
  ∀ d i, i + d = l.length → Runs (fun k => num_read.l0 k (mk l) x6 (min (val (l.take i)) 100000 : Nat) (l.length : Int) (i : Int) ds x) (ds, x + x6 * (min (val l) 100000 : Nat), true) := by
 intro d
 induction d with
 | zero =>
  intro i hi
  obtain rfl : i = l.length := by omega
  refine Runs.suc ?_
  simp only [num_read.l0]
  rw [List.take_length]
  refine Runs.no (by omega) ((Runs.pure _).of ?_)
  rcases hx6 with rfl | rfl
  ·
   rw [w64 (n := 1 * _) (by omega) (by omega), w64 (by omega) (by omega)]
  ·
   rw [w64 (n := -1 * _) (by omega) (by omega), w64 (by omega) (by omega)]
 | succ d ih =>
  intro i hi
  have hil : i < l.length := by omega
  refine Runs.suc ?_
  simp only [num_read.l0]
  obtain ⟨e1, e2⟩ := sub48 l[i] (hd _ (List.getElem_mem hil))
  rw [mk_size, mk_bt l i hil, e1, w64 (n := (i : Int) + 1) (by omega) (by omega)]
  refine Runs.yes (by omega) (Runs.yes (by omega) (Runs.yes (by omega) ?_))
  have e3 : mn (wrap64 (wrap64 (10 * ((min (val (l.take i)) 100000 : Nat) : Int)) + ((l[i].toNat - 48 : Nat) : Int))) 100000 = ((min (val (l.take (i + 1))) 100000 : Nat) : Int) := by
   rw [List.take_succ_eq_append_getElem hil, val_snoc]
   generalize val (l.take i) = v at *
   generalize l[i].toNat - 48 = w at *
   rw [w64 (n := 10 * _) (by omega) (by omega), w64 (by omega) (by omega)]
   unfold mn
   split <;> omega
  rw [e3]
  exact ih (i + 1) (by omega)
def ReadOut (o : Option (List UInt8 × Int)) (g : Nat → Option (ByteArray × Int × Bool)) : Prop :=
 match o with
 | none => ∃ a b, Runs g (a, b, false)
 | some (ds, x) => ∃ x', Ext x x' ∧ -200000 ≤ x' ∧ x' ≤ 200000 ∧ Runs g (mk (zs ds), x', true)
theorem ReadOut.suc {o : Option (List UInt8 × Int)} {g : Nat → Option (ByteArray × Int × Bool)} (h : ReadOut o (fun k => g (k + 1))) : ReadOut o g := by
 unfold ReadOut at h ⊢
 split
 ·
  obtain ⟨a, b, h⟩ := h
  exact ⟨a, b, h.suc⟩
 ·
  obtain ⟨x', h1, h2, h3, h⟩ := h
  exact ⟨x', h1, h2, h3, h.suc⟩
theorem ReadOut.yes {o : Option (List UInt8 × Int)} {c : Prop} [Decidable c] {A B : Nat → Option (ByteArray × Int × Bool)} (hc : c) (h : ReadOut o A) : ReadOut o (fun k => if c then A k else B k) := by
 have : (fun k => if c then A k else B k) = A := funext fun k => if_pos hc
 rw [this]; exact h
theorem ReadOut.no {o : Option (List UInt8 × Int)} {c : Prop} [Decidable c] {A B : Nat → Option (ByteArray × Int × Bool)} (hc : ¬ c) (h : ReadOut o B) : ReadOut o (fun k => if c then A k else B k) := by
 have : (fun k => if c then A k else B k) = B := funext fun k => if_neg hc
 rw [this]; exact h
theorem ReadOut.bind {α : Type} {o : Option (List UInt8 × Int)} {g : Nat → Option α} {h : Nat → α → Option (ByteArray × Int × Bool)} {a : α} (hg : Runs g a) (hh : ReadOut o (fun k => h k a)) : ReadOut o (fun k => (g k).bind (h k)) := by
 unfold ReadOut at hh ⊢
 split
 ·
  obtain ⟨x, y, hh⟩ := hh
  exact ⟨x, y, Runs.bind hg hh⟩
 ·
  obtain ⟨x', h1, h2, h3, hh⟩ := hh
  exact ⟨x', h1, h2, h3, Runs.bind hg hh⟩
theorem allDig_iff (l : List UInt8) : allDig l = true ↔ ∀ c ∈ l, isDig c = true := by unfold allDig; rw [List.all_eq_true]
theorem read_j3 (ds r : List UInt8) (neg : Bool) (x : Int) (hr : r.length ≤ 1000) (hx : -1000 ≤ x) (hx' : x ≤ 1000) :
  ReadOut ((if r = [] ∨ allDig r = false then none else some (if neg = true then -(val r : Int) else (val r : Int))).map (fun e => (ds, x + e))) (fun k => num_read.j3 k (mk r) (if neg = true then -1 else 1) (mk (zs ds)) x) := by
 refine ReadOut.suc ?_
 simp only [num_read.j3]
 rw [mk_list, mk_size]
 by_cases h : r = []
 ·
  rw [if_pos (show r = [] ∨ allDig r = false from .inl h)]
  refine ReadOut.yes h (ReadOut.suc ?_)
  simp only [num_read.j4]
  exact ⟨_, _, Runs.yes trivial (Runs.pure _)⟩
 ·
  refine ReadOut.no h (ReadOut.bind (run_mk r hr) (ReadOut.suc ?_))
  simp only [num_read.j4]
  cases hd : allDig r with
  | false =>
   rw [if_pos (show r = [] ∨ false = false from .inr rfl)]
   refine ReadOut.yes ?_ ⟨_, _, Runs.pure _⟩
   rw [bne_iff_ne]
   intro e
   have e' : (r.takeWhile isDig).length = r.length := by omega
   have := (allDig_iff r).2 ((takeWhile_all r).1 e')
   rw [hd] at this; cases this
  | true =>
   rw [if_neg (show ¬ (r = [] ∨ true = false) from fun h' => h'.elim h (fun h'' => by cases h''))]
   have hall := (allDig_iff r).1 hd
   have e' := (takeWhile_all r).2 hall
   refine ReadOut.no ?_ ?_
   ·
    rw [e']; simp
   ·
    rw [mk_size]
    have := exp_l0 r hall hr (if neg = true then -1 else 1) x (by split <;> simp) hx hx' (mk (zs ds)) r.length 0 (by omega)
    rw [List.take_zero] at this
    refine ⟨_, ?_, ?_, ?_, this⟩
    ·
     cases neg with
     | true =>
      rw [if_pos rfl, if_pos rfl]
      unfold Ext
      generalize val r = v
      omega
     | false =>
      rw [if_neg Bool.false_ne_true, if_neg Bool.false_ne_true]
      unfold Ext
      generalize val r = v
      omega
    ·
     generalize val r = v
     split <;> omega
    ·
     generalize val r = v
     split <;> omega
theorem read_j1 (ds r : List UInt8) (x : Int) (hr : r.length ≤ 1000) (hx : -1000 ≤ x) (hx' : x ≤ 1000) (c : UInt8) :
  ReadOut ((expOf r).map (fun e => (ds, x + e))) (fun k => num_read.j1 k (mk (c :: r)) false (mk (zs ds)) x) := by
 refine ReadOut.suc ?_
 simp only [num_read.j1]
 rw [mk_size, mk_from]
 have hl : (c :: r).length = r.length + 1 := rfl
 refine ReadOut.no (by decide) (ReadOut.yes (by omega) (ReadOut.bind (Runs.pure _) ?_))
 show ReadOut _ (fun k => if (mk r).toList = [] then _ else _)
 rw [mk_list]
 unfold expOf
 rcases r with _ | ⟨a, r⟩
 ·
  refine ReadOut.yes rfl (ReadOut.suc ?_)
  simp only [num_read.j2]
  refine ReadOut.no (by decide) ?_
  exact read_j3 ds [] false x hr hx hx'
 ·
  show ReadOut _ (fun k => if a :: r = [] then _ else if 0 < ((mk (a :: r)).size : Int) then if bt (mk (a :: r)) 0 = 43 then num_read.j2 k (mk (a :: r)) 1 true (mk (zs ds)) x else num_read.j2 k (mk (a :: r)) 1 (bt (mk (a :: r)) 0 == 45) (mk (zs ds)) x else none)
  rw [mk_size, mk_bt0]
  have hl2 : (a :: r).length = r.length + 1 := rfl
  refine ReadOut.no (by simp) (ReadOut.yes (by omega) ?_)
  by_cases h45 : a.toNat = 45
  ·
   have es : sgn (a :: r) = (true, r) := by unfold sgn; simp only; rw [if_pos h45]
   rw [es]
   refine ReadOut.no (by omega) (ReadOut.suc ?_)
   simp only [num_read.j2]
   rw [mk_size, mk_bt0, mk_from]
   refine ReadOut.yes (by rw [h45]; rfl) (ReadOut.yes (by omega) (ReadOut.yes (by omega) (ReadOut.yes (by omega) ?_)))
   exact read_j3 ds r true x (by omega) hx hx'
  ·
   by_cases h43 : a.toNat = 43
   ·
    have es : sgn (a :: r) = (false, r) := by unfold sgn; simp only; rw [if_neg h45, if_pos h43]
    rw [es]
    refine ReadOut.yes (by omega) (ReadOut.suc ?_)
    simp only [num_read.j2]
    rw [mk_size, mk_bt0, mk_from]
    refine ReadOut.yes trivial (ReadOut.yes (by omega) (ReadOut.no (by omega) (ReadOut.yes (by omega) ?_)))
    exact read_j3 ds r false x (by omega) hx hx'
   ·
    have es : sgn (a :: r) = (false, a :: r) := by unfold sgn; simp only; rw [if_neg h45, if_neg h43]
    rw [es]
    refine ReadOut.no (by omega) (ReadOut.suc ?_)
    simp only [num_read.j2]
    have hb : (((a.toNat : Int)) == 45) = false := by rw [beq_eq_false_iff_ne]; omega
    rw [hb]
    refine ReadOut.no (by decide) ?_
    exact read_j3 ds (a :: r) false x hr hx hx'
theorem read_j0 (ds m : List UInt8) (x : Int) (hm : m.length ≤ 1000) (hx : -1000 ≤ x) (hx' : x ≤ 1000) :
  ReadOut (tailOf ds x m) (fun k => num_read.j0 k (mk m) (mk ds) x) := by
 refine ReadOut.suc ?_
 simp only [num_read.j0]
 rw [mk_list, mk_list, mk_size]
 unfold tailOf
 by_cases h : ds = []
 ·
  rw [if_pos h]
  exact ⟨_, _, Runs.yes h (Runs.pure _)⟩
 ·
  rw [if_neg h]
  refine ReadOut.no h (ReadOut.bind (trim_left ds) ?_)
  rcases m with _ | ⟨c, r⟩
  ·
   refine ⟨x, .inl rfl, by omega, by omega, Runs.yes rfl (Runs.pure _)⟩
  ·
   have hl : (c :: r).length = r.length + 1 := rfl
   rw [mk_bt0]
   refine ReadOut.no (by simp) (ReadOut.yes (by omega) ?_)
   simp only
   by_cases h1 : c.toNat = 101
   ·
    rw [if_pos (show c.toNat = 101 ∨ c.toNat = 69 from .inl h1)]
    exact ReadOut.yes (by omega) (read_j1 ds r x (by omega) hx hx' c)
   ·
    refine ReadOut.no (by omega) ?_
    by_cases h2 : c.toNat = 69
    ·
     rw [if_pos (show c.toNat = 101 ∨ c.toNat = 69 from .inr h2)]
     have hb : (((c.toNat : Int)) != 69) = false := by rw [h2]; rfl
     rw [hb]
     exact read_j1 ds r x (by omega) hx hx' c
    ·
     rw [if_neg (show ¬ (c.toNat = 101 ∨ c.toNat = 69) by omega)]
     have hb : (((c.toNat : Int)) != 69) = true := by rw [bne_iff_ne]; omega
     rw [hb]
     refine ReadOut.suc ?_
     simp only [num_read.j1]
     exact ⟨_, _, Runs.yes trivial (Runs.pure _)⟩
theorem tw_len (l : List UInt8) : (l.takeWhile isDig).length ≤ l.length := by
 induction l with
 | nil => simp
 | cons a l ih => rw [List.takeWhile_cons]; split <;> simp <;> omega
theorem prefix_dot (c : UInt8) (r : List UInt8) : strings_HasPrefix.f (mk (c :: r)) (⟨#[46]⟩ : ByteArray) = some (decide (c.toNat = 46)) := by
 unfold strings_HasPrefix.f stringslite_HasPrefix.f
 have hone : (⟨#[46]⟩ : ByteArray).size = 1 := rfl
 have hol : (⟨#[46]⟩ : ByteArray).toList = [46] := by rw [ByteArray.toList_eq]
 have hl : (c :: r).length = r.length + 1 := rfl
 rw [hone, mk_size, hol]
 rw [if_pos (by omega), if_pos (by decide), if_pos (by omega)]
 have e : ((1 : Nat) : Int).toNat = 1 := rfl
 rw [e, mk_upto, mk_list, Option.bind_some]
 congr 1
 show (([c] : List UInt8) == [46]) = _
 by_cases h : c.toNat = 46
 ·
  have hc : c = 46 := UInt8.toNat_inj.1 h
  rw [decide_eq_true h, hc]; rfl
 ·
  rw [decide_eq_false h]
  rw [beq_eq_false_iff_ne]
  intro e; injection e with e; rw [e] at h; exact h rfl
theorem prefix_dot_nil : strings_HasPrefix.f (mk []) (⟨#[46]⟩ : ByteArray) = some false := by
 unfold strings_HasPrefix.f stringslite_HasPrefix.f
 have hone : (⟨#[46]⟩ : ByteArray).size = 1 := rfl
 rw [hone, mk_size, if_neg (by decide)]; rfl
theorem read_f (l : List UInt8) (hl : l.length ≤ 900) : ReadOut (dspec l) (fun k => num_read.f k (mk l)) := by
 simp only [num_read.f]
 have ht := tw_len l
 refine ReadOut.bind (run_mk l (by omega)) ?_
 rw [mk_size, Int.toNat_natCast, mk_upto, mk_from]
 refine ReadOut.yes (by omega) (ReadOut.yes (by omega) (ReadOut.bind (Runs.pure _) (ReadOut.bind (Runs.pure _) ?_)))
 have hd1 : (digs l).1 = l.take (l.takeWhile isDig).length := rfl
 have hd2 : (digs l).2 = l.drop (l.takeWhile isDig).length := rfl
 have hlen : (l.drop (l.takeWhile isDig).length).length ≤ 900 := by rw [List.length_drop]; omega
 unfold dspec
 rw [hd1, hd2]
 generalize l.drop (l.takeWhile isDig).length = m at hlen ⊢
 rcases m with _ | ⟨c, r⟩
 ·
  simp only []
  rw [prefix_dot_nil]
  refine ReadOut.bind (Runs.pure _) (ReadOut.no (by decide) ?_)
  exact read_j0 _ [] 0 (by simp) (by omega) (by omega)
 ·
  have hcl : (c :: r).length = r.length + 1 := rfl
  simp only []
  rw [prefix_dot]
  refine ReadOut.bind (Runs.pure _) ?_
  by_cases h : c.toNat = 46
  ·
   rw [if_pos h, decide_eq_true h]
   have htr := tw_len r
   rw [mk_size, mk_from]
   refine ReadOut.yes rfl (ReadOut.yes (by omega) (ReadOut.bind (run_mk r (by omega)) ?_))
   show ReadOut _ (fun k => if (1 : Int) ≤ wrap64 (1 + ((r.takeWhile isDig).length : Int)) then _ else _)
   have ew : wrap64 (1 + ((r.takeWhile isDig).length : Int)) = ((1 + (r.takeWhile isDig).length : Nat) : Int) := by rw [w64 (by omega) (by omega)]; omega
   have ew2 : wrap64 (-((r.takeWhile isDig).length : Int)) = -((r.takeWhile isDig).length : Int) := w64 (by omega) (by omega)
   rw [ew, ew2, Int.toNat_natCast, mk_part, mk_from, mk_size]
   refine ReadOut.yes (by omega) (ReadOut.yes (by omega) (ReadOut.bind (Runs.pure _) ?_))
   rw [show 1 + (r.takeWhile isDig).length - 1 = (r.takeWhile isDig).length by omega, show 1 + (r.takeWhile isDig).length = (r.takeWhile isDig).length + 1 by omega]
   show ReadOut _ (fun k => if (mk (l.take _)).size + (mk (r.take _)).size ≤ 9223372036854775807 then if 0 ≤ (((r.takeWhile isDig).length + 1 : Nat) : Int) then num_read.j0 k (mk (r.drop _)) (mk (l.take _) ++ mk (r.take _)) (-((r.takeWhile isDig).length : Int)) else none else none)
   rw [mk_size, mk_size, mk_append]
   have hb1 : (l.take (l.takeWhile isDig).length).length ≤ 900 := by rw [List.length_take]; omega
   have hb2 : (r.take (r.takeWhile isDig).length).length = (r.takeWhile isDig).length := by rw [List.length_take]; omega
   refine ReadOut.yes (by omega) (ReadOut.yes (by omega) ?_)
   have e1 : (digs r).1 = r.take (r.takeWhile isDig).length := rfl
   have e2 : (digs r).2 = r.drop (r.takeWhile isDig).length := rfl
   rw [e1, e2, hb2]
   exact read_j0 _ _ _ (by rw [List.length_drop]; omega) (by omega) (by omega)
  ·
   rw [if_neg h, decide_eq_false h]
   refine ReadOut.no (by decide) ?_
   exact read_j0 _ (c :: r) 0 (by omega) (by omega) (by omega)
theorem zs_val (l : List UInt8) : val (zs l) = val l := by
 induction l with
 | nil => rfl
 | cons c r ih =>
  unfold zs at ih ⊢
  rw [List.dropWhile_cons]
  split
  ·
   rename_i h
   rw [ih]
   have hc : c = 48 := by simpa using h
   have := val_append [c] r
   rw [List.singleton_append] at this
   rw [this, hc]
   have : val [48] = 0 := rfl
   rw [this]; simp
  ·
   rfl
theorem zs_head (l : List UInt8) (hd : ∀ c ∈ l, isDig c = true) : (∀ c r, zs l = c :: r → 49 ≤ c.toNat) ∧ (∀ c ∈ zs l, isDig c = true) ∧ (zs l).length ≤ l.length := by
 induction l with
 | nil => exact ⟨fun c r h => (by cases h), fun c h => (by cases h), Nat.le_refl _⟩
 | cons a l ih =>
  have ih := ih (fun c hc => hd c (List.mem_cons_of_mem _ hc))
  unfold zs at ih ⊢
  rw [List.dropWhile_cons]
  split
  ·
   refine ⟨ih.1, ih.2.1, ?_⟩
   rw [List.length_cons]; omega
  ·
   rename_i h
   refine ⟨?_, hd, Nat.le_refl _⟩
   intro c r e
   injection e with e _
   have h1 := hd a (List.mem_cons_self ..)
   rw [← e]
   simp only [isDig, Bool.and_eq_true, decide_eq_true_eq] at h1
   have : a.toNat ≠ 48 := by
    intro h2
    have : a = 48 := UInt8.toNat_inj.1 h2
    rw [this] at h; simp at h
   omega
theorem or_sign (K : Nat) (neg : Bool) (hK : K ≤ INF) : (Go.bits .or .u64 (K : Int) (if neg = true then 9223372036854775808 else 0)).toNat = K + signBit neg := by
 have hI : INF = 9218868437227405312 := rfl
 have e64 : (2 : Int) ^ 64 = 18446744073709551616 := by decide
 have e63 : (2 : Int) ^ 63 = 9223372036854775808 := by decide
 have hK0 := Go.IntKind.wrap_u64 0
 cases neg with
 | true =>
  rw [if_pos rfl]
  have h := (bits_nat .u64 64 (by decide) wraps_u64 K 9223372036854775808 (by omega) (by omega)).2
  have e : ((9223372036854775808 : Nat) : Int) = 9223372036854775808 := rfl
  rw [e] at h
  rw [h, Int.toNat_natCast]
  unfold signBit
  rw [if_pos rfl]
  have : K ||| 9223372036854775808 = 9223372036854775808 ||| K := Nat.or_comm ..
  rw [this]
  have h2 := Nat.two_pow_add_eq_or_of_lt (i := 63) (b := K) (by omega) 1
  rw [Nat.mul_one] at h2
  have e3 : (2 : Nat) ^ 63 = 9223372036854775808 := by decide
  rw [e3] at h2
  omega
 | false =>
  rw [if_neg Bool.false_ne_true]
  have h := (bits_nat .u64 64 (by decide) wraps_u64 K 0 (by omega) (by omega)).2
  have e : ((0 : Nat) : Int) = 0 := rfl
  rw [e] at h
  rw [h, Int.toNat_natCast, Nat.or_zero]
  rfl
theorem small_mk (l : List UInt8) (hl : l.length ≤ 1000) : num_small.f (mk l) = some (mk (l.map lowc)) := by
 unfold num_small.f
 rw [mk_size, if_pos (by omega)]
 show some (smallF (mk l)) = _
 unfold smallF
 rw [mk_data]; rfl
theorem parse_j1 (l r : List UInt8) (neg : Bool) (hl : l.length ≤ 400) (hr : r.length ≤ 900) (hs : sgn l = (neg, r)) :
  ∃ b e, ParseTo l b e ∧ Runs (fun k => num_Parse.j1 k (mk r) (if neg = true then 9223372036854775808 else 0)) (b, e) := by
 simp only [ParseTo, if_neg (show ¬ 400 < l.length by omega), hs]
 have hor := or_sign
 have hI : INF = 9218868437227405312 := rfl
 by_cases h1 : r.map lowc = [110, 97, 110]
 ·
  refine ⟨9221120237041090561, 0, by rw [if_pos h1]; exact ⟨rfl, rfl⟩, Runs.suc ?_⟩
  simp only [num_Parse.j1]
  rw [small_mk r (by omega)]
  refine Runs.bind (Runs.pure _) ?_
  show Runs (fun k => if (mk (r.map lowc)).toList = _ then _ else _) _
  rw [mk_list]
  exact Runs.yes h1 (Runs.pure _)
 ·
  simp only [if_neg h1]
  by_cases h2 : r.map lowc = [105, 110, 102] ∨ r.map lowc = [105, 110, 102, 105, 110, 105, 116, 121]
  ·
   refine ⟨INF + signBit neg, 0, by rw [if_pos h2]; exact ⟨rfl, rfl⟩, Runs.suc ?_⟩
   simp only [num_Parse.j1]
   rw [small_mk r (by omega)]
   refine Runs.bind (Runs.pure _) ?_
   have hp := hor INF neg (Nat.le_refl _)
   rw [hI] at hp
   show Runs (fun k => if (mk (r.map lowc)).toList = _ then _ else if (mk (r.map lowc)).toList = _ then _ else if (mk (r.map lowc)).toList = _ then _ else _) _
   rw [mk_list]
   refine Runs.no h1 ?_
   have hp' : (Go.bits .or .u64 9218868437227405312 (if neg = true then 9223372036854775808 else 0)).toNat = INF + signBit neg := hp
   rw [hp']
   by_cases h3 : r.map lowc = [105, 110, 102]
   ·
    exact Runs.yes h3 (Runs.pure _)
   ·
    refine Runs.no h3 (Runs.yes (h2.resolve_left h3) (Runs.pure _))
  ·
   simp only [if_neg h2]
   have hro := read_f r hr
   have hds := fun ds x => dspec_digs (l := r) (ds := ds) (x := x)
   have cont : ∀ (b : Nat) (e : Int), Runs (fun k => (num_read.f k (mk r)).bind fun bt601 => (if bt601.2.2 = true then ((num_decimal_bits.f k bt601.1 bt601.2.1).bind fun t605 => (some (((Go.bits .or .u64 t605 (if neg = true then 9223372036854775808 else 0)) : Int).toNat, 0))) else (some (0, 8)))) (b, e) →
     Runs (fun k => num_Parse.j1 k (mk r) (if neg = true then 9223372036854775808 else 0)) (b, e) := by
    intro b e h
    refine Runs.suc ?_
    simp only [num_Parse.j1]
    rw [small_mk r (by omega)]
    refine Runs.bind (Runs.pure _) ?_
    show Runs (fun k => if (mk (r.map lowc)).toList = _ then _ else if (mk (r.map lowc)).toList = _ then _ else if (mk (r.map lowc)).toList = _ then _ else _) _
    rw [mk_list]
    exact Runs.no h1 (Runs.no (fun h => h2 (.inl h)) (Runs.no (fun h => h2 (.inr h)) h))
   cases hd : dspec r with
   | none =>
    rw [hd] at hro
    obtain ⟨a, c, hrun⟩ := hro
    exact ⟨0, 8, ⟨rfl, rfl⟩, cont 0 8 (Runs.bind hrun (Runs.no Bool.false_ne_true (Runs.pure _)))⟩
   | some p =>
    obtain ⟨ds, x⟩ := p
    rw [hd] at hro
    obtain ⟨x', hx, hx0, hx1, hrun⟩ := hro
    obtain ⟨g1, g2, g3⟩ := hds ds x hd
    obtain ⟨z1, z2, z3⟩ := zs_head ds g1
    obtain ⟨K, hK, hrunK⟩ := bits_f (zs ds) x' z2 z1 (by omega) (by omega) (by omega)
    have hv := val_lt ds g1
    rw [zs_val] at hK
    refine ⟨K + signBit neg, 0, ⟨rfl, K, hK.ext hv (by omega) hx, rfl⟩, cont _ 0 (Runs.bind hrun (Runs.yes rfl (Runs.bind hrunK ((Runs.pure _).of ?_))))⟩
    rw [or_sign K neg hK.le]
theorem parse_f (l : List UInt8) (hbig : l.length ≤ 140737488351232) : ∃ b e, ParseTo l b e ∧ Runs (fun k => num_Parse.f k (mk l)) (b, e) := by
 by_cases h : 400 < l.length
 ·
  refine ⟨0, 8, by unfold ParseTo; rw [if_pos h]; exact ⟨rfl, rfl⟩, ?_⟩
  simp only [num_Parse.f]
  rw [mk_size]
  exact Runs.yes (by omega) (Runs.pure _)
 ·
  rcases l with _ | ⟨c, r⟩
  ·
   obtain ⟨b, e, hp, hrun⟩ := parse_j1 [] [] false (by simp) (by simp) rfl
   refine ⟨b, e, hp, ?_⟩
   simp only [num_Parse.f]
   rw [mk_size, mk_list]
   refine Runs.no (by simp) (Runs.yes rfl (Runs.suc ?_))
   simp only [num_Parse.j0]
   exact Runs.no (by decide) hrun
  ·
   have hl : (c :: r).length = r.length + 1 := rfl
   have main : ∀ neg s, sgn (c :: r) = (neg, s) → s.length ≤ 900 → Runs (fun k => num_Parse.j1 k (mk s) (if neg = true then 9223372036854775808 else 0)) = Runs (fun k => num_Parse.f k (mk (c :: r))) → ∃ b e, ParseTo (c :: r) b e ∧ Runs (fun k => num_Parse.f k (mk (c :: r))) (b, e) := by
    intro neg s hs hs2 he
    obtain ⟨b, e, hp, hrun⟩ := parse_j1 (c :: r) s neg (by omega) hs2 hs
    exact ⟨b, e, hp, by rw [← he]; exact hrun⟩
   have step : ∀ neg s, s.length ≤ 900 → sgn (c :: r) = (neg, s) → (∀ b e, Runs (fun k => num_Parse.j1 k (mk s) (if neg = true then 9223372036854775808 else 0)) (b, e) → Runs (fun k => num_Parse.f k (mk (c :: r))) (b, e)) → ∃ b e, ParseTo (c :: r) b e ∧ Runs (fun k => num_Parse.f k (mk (c :: r))) (b, e) := by
    intro neg s hs2 hs he
    obtain ⟨b, e, hp, hrun⟩ := parse_j1 (c :: r) s neg (by omega) hs2 hs
    exact ⟨b, e, hp, he b e hrun⟩
   by_cases h45 : c.toNat = 45
   ·
    refine step true r (by omega) (by unfold sgn; simp only; rw [if_pos h45]) (fun b e hrun => ?_)
    simp only [num_Parse.f]
    rw [mk_size, mk_list, mk_bt0]
    have hb : (((c.toNat : Int)) == 45) = true := by rw [beq_iff_eq]; omega
    rw [hb]
    refine Runs.no (by omega) (Runs.no (by simp) (Runs.yes (by omega) (Runs.no (by omega) (Runs.suc ?_))))
    simp only [num_Parse.j0]
    rw [mk_size, mk_bt0, mk_from]
    exact Runs.yes trivial (Runs.yes (by omega) (Runs.yes (by omega) (Runs.yes (by omega) hrun)))
   ·
    have hb : (((c.toNat : Int)) == 45) = false := by rw [beq_eq_false_iff_ne]; omega
    by_cases h43 : c.toNat = 43
    ·
     refine step false r (by omega) (by unfold sgn; simp only; rw [if_neg h45, if_pos h43]) (fun b e hrun => ?_)
     simp only [num_Parse.f]
     rw [mk_size, mk_list, mk_bt0]
     refine Runs.no (by omega) (Runs.no (by simp) (Runs.yes (by omega) (Runs.yes (by omega) (Runs.suc ?_))))
     simp only [num_Parse.j0]
     rw [mk_size, mk_bt0, mk_from]
     exact Runs.yes trivial (Runs.yes (by omega) (Runs.no (by omega) (Runs.yes (by omega) hrun)))
    ·
     refine step false (c :: r) (by omega) (by unfold sgn; simp only; rw [if_neg h45, if_neg h43]) (fun b e hrun => ?_)
     simp only [num_Parse.f]
     rw [mk_size, mk_list, mk_bt0, hb]
     refine Runs.no (by omega) (Runs.no (by simp) (Runs.yes (by omega) (Runs.no (by omega) (Runs.suc ?_))))
     simp only [num_Parse.j0]
     exact Runs.no (by decide) hrun
end Go.Proofs.YtjlnfnfdibfniaaDoor.Pl
namespace Go.Proofs.YtjlnfnfdibfniaaDoor.Pl
theorem wakes : F.w_wakes.f 400 = some true := by kernel_rfl
end Go.Proofs.YtjlnfnfdibfniaaDoor.Pl
namespace Go.Proofs.YtjlnfnfdibfniaaDoor.Pl
open F Hd Go.RowKit Go.Proofs.YtjlnfnfdibfniaaDoorW.PrintWords Go.Proofs.YtjlnfnfdibfniaaDoorW.PrintMore
theorem wakes_runs : Runs (fun k => F.w_wakes.f k) true := by
 refine ⟨400, fun k hk => ?_⟩
 obtain ⟨d, rfl⟩ : ∃ d, k = 400 + d := ⟨k - 400, by omega⟩
 induction d with
 | zero => exact wakes
 | succ d ih => exact F.w_wakes.mono _ _ (ih (by omega))
theorem digs_all (l r : List UInt8) (hd : ∀ c ∈ l, isDig c = true) (hr : ∀ c s, r = c :: s → isDig c = false) : digs (l ++ r) = (l, r) := by
 have : (l ++ r).takeWhile isDig = l := by
  induction l with
  | nil =>
   cases r with
   | nil => rfl
   | cons c s => rw [List.nil_append, List.takeWhile_cons, hr c s rfl]; rfl
  | cons a l ih =>
   rw [List.cons_append, List.takeWhile_cons, hd a (List.mem_cons_self ..), if_pos rfl, ih (fun c hc => hd c (List.mem_cons_of_mem _ hc))]
 unfold digs
 rw [this, List.take_left', List.drop_left']
 ·
  rfl
 ·
  rfl
theorem dspec_int (l : List UInt8) (hd : ∀ c ∈ l, isDig c = true) (hne : l ≠ []) : dspec l = some (l, 0) := by
 have := digs_all l [] hd (fun c s h => by cases h)
 rw [List.append_nil] at this
 unfold dspec
 rw [this]
 simp only
 unfold tailOf
 rw [if_neg hne]
theorem dspec_point (l r : List UInt8) (hd : ∀ c ∈ l, isDig c = true) (hr : ∀ c ∈ r, isDig c = true) (hne : l ≠ []) : dspec (l ++ 46 :: r) = some (l ++ r, -(r.length : Int)) := by
 have h1 := digs_all l (46 :: r) hd (fun c s h => by injection h with h _; rw [← h]; rfl)
 have h2 := digs_all r [] hr (fun c s h => by cases h)
 rw [List.append_nil] at h2
 unfold dspec
 rw [h1]
 simp only
 rw [if_pos (by rfl), h2]
 simp only
 unfold tailOf
 rw [if_neg (fun h => hne (List.append_eq_nil_iff.1 h).1)]
theorem bits_eq (a : Nat) : q_Bits.f a a = some true := by unfold q_Bits.f; simp
theorem dspec_exp (l E : List UInt8) (n : Int) (hd : ∀ c ∈ l, isDig c = true) (hne : l ≠ []) (hE : expOf E = some n) : dspec (l ++ 101 :: E) = some (l, n) := by
 have h1 := digs_all l (101 :: E) hd (fun c s h => by injection h with h _; rw [← h]; rfl)
 unfold dspec
 rw [h1]
 simp only
 rw [if_neg (by decide)]
 unfold tailOf
 rw [if_neg hne]
 simp only
 rw [if_pos (by decide), hE]
 simp
end Go.Proofs.YtjlnfnfdibfniaaDoor.Pl
namespace Go.Proofs.YtjlnfnfdibfniaaDoor.Pl
open F Hd Go.RowKit Go.Proofs.YtjlnfnfdibfniaaDoorW.PrintWords Go.Proofs.YtjlnfnfdibfniaaDoorW.PrintMore
theorem exp_read (e : Int) (e0 : -100000 ≤ e) (e1 : e ≤ 100000) : ∃ r, expText e = 101 :: r ∧ expOf r = some e ∧ r.length ≤ 30 := by
 obtain ⟨hv, hdg, hne, _⟩ := dec_spec e.natAbs (by omega)
 have hl : (dec e.natAbs).length ≤ 19 := dec_short e.natAbs (by omega)
 obtain ⟨Z, hZ⟩ : ∃ Z : List UInt8, Z = (if e.natAbs < 10 then [48] else []) ++ dec e.natAbs := ⟨_, rfl⟩
 have hZd : ∀ c ∈ Z, isDig c = true := by
  intro c hc
  rw [hZ] at hc
  rcases List.mem_append.1 hc with h | h
  ·
   split at h
   ·
    rw [List.mem_singleton.1 h]; rfl
   ·
    cases h
  ·
   exact hdg c h
 have hZv : val Z = e.natAbs := by
  rw [hZ, val_append, hv]
  split
  ·
   simp [val]
  ·
   simp [val]
 have hZn : Z ≠ [] := by rw [hZ]; intro h; exact hne (List.append_eq_nil_iff.1 h).2
 have hZl : Z.length ≤ 20 := by rw [hZ, List.length_append]; split <;> simp <;> omega
 have hall : allDig Z = true := (allDig_iff Z).2 hZd
 refine ⟨(if e < 0 then 45 else 43) :: Z, by rw [hZ]; rfl, ?_, by rw [List.length_cons]; omega⟩
 unfold expOf
 by_cases c : e < 0
 ·
  have hs : sgn ((if e < 0 then (45 : UInt8) else 43) :: Z) = (true, Z) := by rw [if_pos c]; unfold sgn; simp only; rw [if_pos (show UInt8.toNat 45 = 45 from rfl)]
  rw [hs]
  simp only
  rw [if_neg (show ¬ (Z = [] ∨ allDig Z = false) by rw [hall]; exact fun h => h.elim hZn (fun h => by cases h)), if_pos trivial, hZv]
  exact congrArg some (by omega)
 ·
  have hs : sgn ((if e < 0 then (45 : UInt8) else 43) :: Z) = (false, Z) := by rw [if_neg c]; unfold sgn; simp only; rw [if_neg (show ¬ UInt8.toNat 43 = 45 by decide), if_pos (show UInt8.toNat 43 = 43 from rfl)]
  rw [hs]
  simp only
  rw [if_neg (show ¬ (Z = [] ∨ allDig Z = false) by rw [hall]; exact fun h => h.elim hZn (fun h => by cases h)), if_neg Bool.false_ne_true, hZv]
  exact congrArg some (by omega)
theorem val_zeros (n : Nat) : val (List.replicate n 48) = 0 := by
 induction n with
 | zero => rfl
 | succ n ih =>
  rw [List.replicate_succ']
  rw [val_snoc, ih]; rfl
theorem dig_zeros (n : Nat) : ∀ c ∈ List.replicate n (48 : UInt8), isDig c = true := by
 intro c hc
 rw [(List.mem_replicate.1 hc).2]; rfl
theorem dspec_point_exp (l r E : List UInt8) (e : Int) (hd : ∀ c ∈ l, isDig c = true) (hr : ∀ c ∈ r, isDig c = true) (hne : l ≠ []) (hE : expOf E = some e) : dspec (l ++ 46 :: (r ++ 101 :: E)) = some (l ++ r, -(r.length : Int) + e) := by
 have h1 := digs_all l (46 :: (r ++ 101 :: E)) hd (fun c s h => by injection h with h _; rw [← h]; rfl)
 have h2 := digs_all r (101 :: E) hr (fun c s h => by injection h with h _; rw [← h]; rfl)
 unfold dspec
 rw [h1]
 simp only
 rw [if_pos (by rfl), h2]
 simp only
 unfold tailOf
 rw [if_neg (fun h => hne (List.append_eq_nil_iff.1 h).1)]
 simp only
 rw [if_pos (by decide), hE]
 rfl
theorem body_read (K : Nat) (ds : List UInt8) (x : Int) (hs : Short K ds x) : ∃ c r ds' x', body ds x = c :: r ∧ isDig c = true ∧ (body ds x).length ≤ 100 ∧ dspec (body ds x) = some (ds', x') ∧ DecNear (val ds') x' K := by
 have hn := hs.near
 have hl := hs.len
 have hp := hs.pos
 have hlo := hs.lo
 have hhi := hs.hi
 obtain ⟨c0, t0, hct⟩ : ∃ c t, ds = c :: t := by
  cases ds with
  | nil => simp at hp
  | cons c t => exact ⟨c, t, rfl⟩
 have hc0 := hs.dig c0 (by rw [hct]; simp)
 have htl : ds.length = t0.length + 1 := by rw [hct]; rfl
 have ht0 : ∀ c ∈ t0, isDig c = true := fun c hc => hs.dig c (by rw [hct]; exact List.mem_cons_of_mem _ hc)
 unfold body
 by_cases c1 : x < -5 ∨ 21 < x
 ·
  rw [if_pos c1]
  obtain ⟨E, hE, hEx, hEl⟩ := exp_read (x - 1) (by omega) (by omega)
  unfold sci
  rw [hE]
  by_cases c2 : 1 < ds.length
  ·
   rw [if_pos c2, hct]
   have e1 : (c0 :: t0).take 1 ++ 46 :: (c0 :: t0).drop 1 ++ 101 :: E = [c0] ++ 46 :: (t0 ++ 101 :: E) := by simp
   rw [e1]
   refine ⟨c0, _, [c0] ++ t0, _, rfl, hc0, by simp; omega, dspec_point_exp [c0] t0 E (x - 1) (fun c hc => by rw [List.mem_singleton.1 hc]; exact hc0) ht0 (by simp) hEx, ?_⟩
   rw [hct] at hn
   have : -(t0.length : Int) + (x - 1) = x - ((c0 :: t0).length : Int) := by rw [List.length_cons]; omega
   rw [this]; exact hn
  ·
   rw [if_neg c2, List.append_nil]
   have ht : t0 = [] := List.length_eq_zero_iff.1 (by omega)
   rw [hct, ht]
   refine ⟨c0, 101 :: E, [c0], x - 1, rfl, hc0, by simp; omega, dspec_exp [c0] E (x - 1) (fun c hc => by rw [List.mem_singleton.1 hc]; exact hc0) (by simp) hEx, ?_⟩
   rw [hct, ht] at hn
   exact hn
 ·
  rw [if_neg c1]
  by_cases c2 : x ≤ 0
  ·
   rw [if_pos c2]
   have e1 : [48, 46] ++ List.replicate (-x).toNat 48 ++ ds = [48] ++ 46 :: (List.replicate (-x).toNat 48 ++ ds) := by simp
   rw [e1]
   refine ⟨48, _, _, _, rfl, rfl, by simp; omega, dspec_point [48] (List.replicate (-x).toNat 48 ++ ds) (fun c hc => by rw [List.mem_singleton.1 hc]; rfl) ?_ (by simp), ?_⟩
   ·
    intro c hc
    rcases List.mem_append.1 hc with h | h
    ·
     exact dig_zeros _ c h
    ·
     exact hs.dig c h
   ·
    have hv : val ([48] ++ (List.replicate (-x).toNat 48 ++ ds)) = val ds := by
     rw [val_append, val_append, val_zeros]; simp [val]
    have hx : -((List.replicate (-x).toNat 48 ++ ds).length : Int) = x - ds.length := by rw [List.length_append, List.length_replicate]; omega
    rw [hv, hx]; exact hn
  ·
   rw [if_neg c2]
   by_cases c3 : (ds.length : Int) ≤ x
   ·
    rw [if_pos c3]
    obtain ⟨n, hn2⟩ : ∃ n : Nat, n = (x - ds.length).toNat := ⟨_, rfl⟩
    rw [← hn2]
    have hd : ∀ c ∈ ds ++ List.replicate n 48, isDig c = true := by
     intro c hc
     rcases List.mem_append.1 hc with h | h
     ·
      exact hs.dig c h
     ·
      exact dig_zeros _ c h
    refine ⟨c0, t0 ++ List.replicate n 48, _, 0, by rw [hct]; rfl, hc0, by simp; omega, dspec_int _ hd (by rw [hct]; simp), ?_⟩
    rw [val_append, val_zeros, List.length_replicate, Nat.add_zero]
    refine DecNear.shift n ?_
    rw [show (0 : Int) + n = x - ds.length by omega]; exact hn
   ·
    rw [if_neg c3]
    have hnil : ds.take x.toNat ≠ [] := by
     intro h
     have := congrArg List.length h
     rw [List.length_take, List.length_nil] at this; omega
    have e1 : ds.take x.toNat ++ [46] ++ ds.drop x.toNat = ds.take x.toNat ++ 46 :: ds.drop x.toNat := by simp
    rw [e1]
    have hdp := dspec_point (ds.take x.toNat) (ds.drop x.toNat) (fun c hc => hs.dig c (List.mem_of_mem_take hc)) (fun c hc => hs.dig c (List.mem_of_mem_drop hc)) hnil
    rw [List.take_append_drop] at hdp
    obtain ⟨n, hn2⟩ : ∃ n : Nat, x.toNat = n + 1 := ⟨x.toNat - 1, by omega⟩
    refine ⟨c0, t0.take n ++ 46 :: ds.drop x.toNat, ds, _, by rw [hn2, hct]; rfl, hc0, by simp; omega, hdp, ?_⟩
    have hx : -((ds.drop x.toNat).length : Int) = x - ds.length := by rw [List.length_drop]; omega
    rw [hx]; exact hn
theorem parse_sign (neg : Bool) (B : List UInt8) (c : UInt8) (r ds : List UInt8) (x : Int) (K : Nat) (hB : B = c :: r) (hc : isDig c = true) (hl : B.length ≤ 300) (hd : dspec B = some (ds, x)) (hK : DecNear (val ds) x K) :
  Runs (fun k => num_Parse.f k (mk (sgnText neg ++ B))) (K + signBit neg, 0) := by
 have hsl : (sgnText neg).length ≤ 1 := by unfold sgnText; split <;> simp
 obtain ⟨b, e, hp, hrun⟩ := parse_f (sgnText neg ++ B) (by rw [List.length_append]; omega)
 have hdc : 48 ≤ c.toNat ∧ c.toNat ≤ 57 := by simpa [isDig] using hc
 have hs : sgn (sgnText neg ++ B) = (neg, B) := by
  unfold sgnText
  cases neg with
  | true => rw [if_pos rfl]; unfold sgn; simp only [List.singleton_append]; rw [if_pos (show UInt8.toNat 45 = 45 from rfl)]
  | false =>
   rw [if_neg Bool.false_ne_true, List.nil_append, hB]
   unfold sgn; simp only
   rw [if_neg (by omega), if_neg (by omega)]
 have h2 : lowc c = c := by unfold lowc; rw [if_neg (by omega)]
 have h3 : ∀ a s, B.map lowc = a :: s → a.toNat ≤ 57 := by
  intro a s h
  rw [hB, List.map_cons, h2] at h
  injection h with h _
  rw [← h]; exact hdc.2
 have hpt : ParseTo (sgnText neg ++ B) (K + signBit neg) 0 := by
  unfold ParseTo
  rw [if_neg (by rw [List.length_append]; omega), hs]
  rw [if_neg (fun h => by have := h3 _ _ h; exact absurd this (by decide)), if_neg (fun h => by rcases h with h | h <;> exact absurd (h3 _ _ h) (by decide))]
  simp only
  rw [hd]
  exact ⟨trivial, K, hK, rfl⟩
 obtain ⟨rfl, rfl⟩ := hp.unique hpt
 exact hrun
theorem parse_word (t : List UInt8) (b : Nat) (hl : t.length ≤ 400) (h : ParseTo t b 0) : Runs (fun k => num_Parse.f k (mk t)) (b, 0) := by
 obtain ⟨b', e, hp, hrun⟩ := parse_f t (by omega)
 obtain ⟨rfl, rfl⟩ := hp.unique h
 exact hrun
theorem back_one (x0 : List Int) (x3 : Nat) (hx3 : x3 < x0.length) (hl : x0.length ≤ 140737488351232) (X : Nat) (hX : x0[x3] = (X : Int)) (hXl : X < 18446744073709551616)
  (h : Runs (fun k => w_NumBack.l0 k x0 ((x3 + 1 : Nat) : Int)) true) : Runs (fun k => w_NumBack.j1 k x0 (x3 : Int) true) true := by
 have hI : INF = 9218868437227405312 := rfl
 obtain ⟨K, neg, hKX, hKl⟩ : ∃ K neg, X = K + signBit neg ∧ K < 9223372036854775808 := by
  by_cases c : X < 9223372036854775808
  ·
   exact ⟨X, false, rfl, c⟩
  ·
   exact ⟨X - 9223372036854775808, true, by unfold signBit; rw [if_pos rfl]; omega, by omega⟩
 have hw : wrap64 ((x3 : Int) + 1) = ((x3 + 1 : Nat) : Int) := by rw [w64 (by omega) (by omega)]; omega
 refine Runs.suc ?_
 simp only [w_NumBack.j1]
 rw [rd_get x0 x3 hx3, hX, hw, Int.toNat_natCast]
 refine Runs.yes trivial (Runs.yes (by omega) (Runs.yes (by omega) ?_))
 have number : ∀ t : List UInt8, isNum X → Runs (fun k => num_Text.f k X) (mk t) → Runs (fun k => num_Parse.f k (mk t)) (X, 0) → Runs (fun k => (num_Text.f k X).bind fun t667 => ((num_Parse.f k t667).bind fun bt668 => (if bt668.2 = 0 then (if (FloatKind.f64.format.order X X == some Ordering.eq) = true then ((q_Bits.f X bt668.1).bind fun t670 => (if t670 = true then (if (FloatKind.f64.format.order X X != some Ordering.eq) = true then (if (FloatKind.f64.format.order bt668.1 bt668.1 == some Ordering.eq) = true then (some false) else ((num_Text.f k X).bind fun t671 => (if t671.toList = ([78, 97, 78] : List UInt8) then (w_NumBack.l0 k x0 ((x3 + 1 : Nat) : Int)) else (some false)))) else (w_NumBack.l0 k x0 ((x3 + 1 : Nat) : Int))) else (some false))) else (if (FloatKind.f64.format.order X X != some Ordering.eq) = true then (if (FloatKind.f64.format.order bt668.1 bt668.1 == some Ordering.eq) = true then (some false) else ((num_Text.f k X).bind fun t672 => (if t672.toList = ([78, 97, 78] : List UInt8) then (w_NumBack.l0 k x0 ((x3 + 1 : Nat) : Int)) else (some false)))) else (w_NumBack.l0 k x0 ((x3 + 1 : Nat) : Int)))) else (some false)))) true := by
  intro t hn ht hp
  have hne : (FloatKind.f64.format.order X X != some Ordering.eq) = false := by rw [bne, self_eq hn]; rfl
  rw [self_eq hn, hne]
  exact Runs.bind ht (Runs.bind hp (Runs.yes rfl (Runs.yes rfl (Runs.bind (bits_eq X ▸ Runs.pure _) (Runs.yes rfl (Runs.no Bool.false_ne_true h))))))
 by_cases hnan : INF < K
 ·
  have hn : ¬ isNum X := by rw [hKX]; exact not_num K neg hnan hKl
  have ht := text_nan K neg hnan hKl
  rw [← hKX] at ht
  have hp := parse_word [78, 97, 78] 9221120237041090561 (by decide) (by
   unfold ParseTo
   rw [if_neg (by decide), if_pos (by decide)]
   exact ⟨rfl, rfl⟩)
  have hne : (FloatKind.f64.format.order X X != some Ordering.eq) = true := by rw [bne, self_ne hn]; rfl
  rw [self_ne hn, hne]
  refine Runs.bind ht (Runs.bind hp (Runs.yes rfl (Runs.no Bool.false_ne_true (Runs.yes rfl (Runs.no ?_ (Runs.bind ht (Runs.yes (mk_list _) h)))))))
  have : ¬ isNum 9221120237041090561 := by unfold isNum; omega
  show ¬ (FloatKind.f64.format.order 9221120237041090561 9221120237041090561 == some Ordering.eq) = true
  rw [self_ne this]; exact Bool.false_ne_true
 ·
  have hn : isNum X := by rw [hKX]; exact isNum_sign K neg (by omega)
  by_cases hz : K = 0
  ·
   have ht := text_zero neg
   rw [hz] at hKX
   rw [← hKX] at ht
   have hp := parse_sign neg [48] 48 [] [48] 0 0 rfl rfl (by decide) (dspec_int [48] (fun c hc => by rw [List.mem_singleton.1 hc]; rfl) (by simp)) (dec_none 0)
   rw [← hKX] at hp
   exact number _ hn ht hp
  ·
   by_cases hinf : K = INF
   ·
    have ht := text_inf neg
    rw [hinf] at hKX
    rw [← hKX] at ht
    refine number _ hn ht (parse_word _ X (by split <;> decide) ?_)
    rw [hKX]
    unfold ParseTo
    cases neg with
    | true =>
     have hs : sgn ((if (true : Bool) = true then (45 : UInt8) else 43) :: [73, 110, 102]) = (true, [73, 110, 102]) := by decide
     rw [if_neg (by decide), hs, if_neg (by decide), if_pos (by left; decide)]
     exact ⟨rfl, rfl⟩
    | false =>
     have hs : sgn ((if (false : Bool) = true then (45 : UInt8) else 43) :: [73, 110, 102]) = (false, [73, 110, 102]) := by decide
     rw [if_neg (by decide), hs, if_neg (by decide), if_pos (by left; decide)]
     exact ⟨rfl, rfl⟩
   ·
    obtain ⟨ds, x, hs, _, ht⟩ := text_num K neg (by omega) (by omega)
    obtain ⟨c, r, ds', x', hb, hc, hbl, hd, hK⟩ := body_read K ds x hs
    rw [← hKX] at ht
    have hp := parse_sign neg (body ds x) c r ds' x' K hb hc (by omega) hd hK
    rw [← hKX] at hp
    exact number _ hn ht hp
theorem law_back : w_NumBack.Pure := by
 intro l0 _ hl hw
 have hwf : ∀ x ∈ l0, 0 ≤ x ∧ x < 18446744073709551616 := by
  intro x hx
  have := hw x hx
  simp [Lit.wf, IntKind.min, IntKind.max, IntKind.signed, IntKind.bits] at this
  omega
 have last : ∀ x : Int, Runs (fun k => w_NumBack.j1 k l0 x false) true := by
  intro x
  refine Runs.suc ?_
  simp only [w_NumBack.j1]
  exact Runs.no (by decide) (Runs.bind wakes_runs (Runs.pure _))
 have loop : ∀ (d i : Nat), i + d = 300 → Runs (fun k => w_NumBack.l0 k l0 (i : Int)) true := by
  intro d
  induction d with
  | zero =>
   intro i hi
   refine Runs.suc ?_
   simp only [w_NumBack.l0]
   rw [decide_eq_false (show ¬ ((i : Int) < 300) by omega)]
   by_cases h : i < l0.length
   ·
    exact Runs.yes (by omega) (last _)
   ·
    exact Runs.no (by omega) (last _)
  | succ d ih =>
   intro i hi
   refine Runs.suc ?_
   simp only [w_NumBack.l0]
   by_cases h : i < l0.length
   ·
    rw [decide_eq_true (show ((i : Int) < 300) by omega)]
    have hx := hwf l0[i] (List.getElem_mem h)
    obtain ⟨X, hX⟩ := Int.eq_ofNat_of_zero_le hx.1
    exact Runs.yes (by omega) (back_one l0 i h (by omega) X hX (by omega) (ih (i + 1) (by omega)))
   ·
    exact Runs.no (by omega) (last _)
 have main : Runs (fun k => w_NumBack.f k l0) true := by
  simp only [w_NumBack.f]
  exact loop 300 0 (by omega)
 obtain ⟨K, hK⟩ := main
 exact ⟨K, hK K (Nat.le_refl _)⟩
end Go.Proofs.YtjlnfnfdibfniaaDoor.Pl
namespace Go.Proofs.YtjlnfnfdibfniaaDoor.numBack
open Go.ChangeShapes Go.WideShapes Go.ChangeAt Go.RowKit
open Go.ChangeMaps (open_string shut_string)
set_option linter.unusedVariables false
theorem own : ownKnob Tryd.prog.godebug = none := by kernel_rfl
theorem laidOut : laidOutB Tryd.prog = true := by kernel_rfl
def IsRow (k : IntKind) (w : World) (a : Option Addr) (len cap : Nat) (zs : List Int) : Prop :=
  (a = none ∧ len = 0 ∧ cap = 0 ∧ zs = []) ∨
  ∃ x, a = some x ∧ len ≤ cap ∧ cap ≤ maxLen ∧ zs.length = cap ∧ (∀ i, i < zs.length → w.cell? (x.add i) = some (.int k (zs.getD i 0))) ∧ ∀ n ∈ zs, (Lit.int k n).wf = true
set_option maxRecDepth 100000 in
theorem lifted (os : Os) (started : os.Started) (H : Type) (enc : TypeId × Value → H) :
    ReturnsInHanded {} Tryd.checked os 5 .any (fun w args => (Rows.numBackSpec.pre enc Tryd.prog Tryd.f5 [] false w args ∧ laidMetH Tryd.prog Rows.numBackRow.laid w) ∧ sizedMet enc Tryd.prog Tryd.f5 (OpenSpec.ofChange Rows.numBackSpec) false w args)
      (Rows.numBackSpec.post enc Tryd.prog Tryd.f5 false true false false) := by
  refine returnsInHanded_of_change_and (C := Tryd.checked) (X := fun w _ => laidMetH Tryd.prog Rows.numBackRow.laid w) (fun _ _ _ hh h => h.of_heap hh) own started (by kernel_rfl) Tryd.func5
    (ChangeSpec.witness_shaped (enc := enc) (C := Tryd.checked) (os := os) (X := fun w _ => laidMetH Tryd.prog Rows.numBackRow.laid w) false (World.laidAll Tryd.prog os Rows.numBackRow.laid) #[.slice none 0 0] 8 (World.laidAll_os _ _ _)
      (World.shaped_of_ZipB (by kernel_rfl) (by kernel_rfl)) (by kernel_rfl) (by kernel_rfl) (by kernel_rfl)
      (by rw [MakeChecks.laidMetH_plain _ _ _ (by kernel_rfl)]; exact laidMet_laidAll _ (by kernel_rfl) (by kernel_rfl))) ?_
  intro W base args ds gs before hval0 hW _ hsz0 _ _
  have hsz : (DataW.weightsEach Tryd.prog (Tryd.f5.params.toList ++ Rows.numBackSpec.plain.varTypes Tryd.prog) (ds ++ gs)).all (· ≤ reachBytes) = true := hsz0
  have hval : ∀ (j : Nat) t v, Tryd.f5.params[j]? = some t → args[j]? = some v → Value.okWide Tryd.prog W .any base t v := hval0
  have hW' := hW
  obtain ⟨p, q, hA0, hV, rfl, _, _⟩ := hW
  have hA : DataW.TrodAll enc Tryd.prog W 0 (fun _ => true) true Tryd.f5.params.toList args.toList ds p := hA0
  rw [Tryd.params5] at hA hval hsz
  obtain ⟨v0, vs0, d0, ds0, p0, q0, hargs, rfl, rfl, h0, r0⟩ := trodAll_cons hA
  obtain ⟨rfl, rfl, rfl⟩ := trodAll_nil r0
  obtain rfl : args = #[v0] := by cases args; simp_all
  obtain ⟨rfl, rfl⟩ := trodVars_none hV
  obtain ⟨a0, len0, cap0, rfl⟩ := okWide_slice Tryd.underlying22 (hval 0 22 v0 rfl rfl)
  have k0 := h0
  have lt0 : ∀ x ∈ p0, x.block < W.heap.size := by obtain ⟨m, hm⟩ := k0; exact DataW.trod_lt m _ _ _ hm
  obtain ⟨z0, w0⟩ : ∃ zs, IsRow .u64 W a0 len0 cap0 zs := by
    obtain ⟨fuel, hf⟩ := h0
    rcases open_ints Tryd.underlying22 Tryd.underlying25 (by kernel_rfl) hf with ⟨hcs, _⟩ | ⟨x, l, c, zs, hcs, _, hl, hm, hz, _, hcell, hwz⟩
    · simp [Value.cells] at hcs
      obtain ⟨rfl, rfl, rfl⟩ := hcs
      exact ⟨[], .inl ⟨rfl, rfl, rfl, rfl⟩⟩
    · simp [Value.cells] at hcs
      obtain ⟨rfl, rfl, rfl⟩ := hcs
      exact ⟨zs, .inr ⟨_, rfl, hl, hm, by simpa using hz, hcell, hwz⟩⟩
  have y0 : len0 * 8 ≤ 140737488351232 := Go.Proofs.YtjlnfnfdibfniaaDoorW.PrintWords.sized_ints hsz (j := 0) (t := 22) rfl rfl Tryd.underlying22 Tryd.underlying25 (by kernel_rfl) (by kernel_rfl) h0
  clear hA0 hval0 hsz0 hsz
  refine (F.w_NumBack.walk Pl.law_back a0 len0 cap0 z0 W w0 y0).mono fun e W' ⟨he, bel⟩ => ?_
  subst he
  exact ⟨_, rfl, _, _, _, [], _, [], hW', trodAll_mk1 (shut_bool Tryd.underlying4 _), (trodAll_cons_mk (Below.trod laidOut (by kernel_rfl) (of_decide_eq_true (by kernel_rfl)) k0 bel lt0) trodAll_mk0), rfl, bel.frame _, fun h => by cases h⟩
theorem over : Rows.numBackRow.holds Tryd.pinned (OpenSpec.ofChange Rows.numBackSpec) :=
  OpenClaim.holds_of_wide 5 Tryd.f5 rfl rfl rfl rfl rfl rfl rfl ⟨rfl, rfl, rfl, rfl, rfl⟩ rfl rfl rfl rfl rfl (by kernel_rfl) Tryd.func5 (by kernel_rfl)
    (of_decide_eq_true (by kernel_rfl)) (by unfold Func.isWrapper; first | (rw [if_pos (by decide +kernel)]; kernel_rfl) | (rw [if_neg (by decide +kernel)]; exact ⟨rfl, rfl⟩))
    (fun os started H enc _ => lifted os started H enc)
theorem card_holds : Rows.NumBackCardSaid :=
  Claim7.holds_tied_plain_at .later [] [.data, .pinned] true (true, "a90acdf829413157ef6e6e8aea78a484b42a66cc9924c82fc4fb50f94bff3414") false over (fun _ h => by cases h) (by kernel_rfl) (fun _ h => by cases h) numBack_row_tie rfl ⟨rfl, rfl⟩ (by kernel_rfl) rfl
    (fun f fn hf hfn => by
      obtain rfl : f = 5 := Option.some.inj ((show Tryd.prog.funcNamed "vigil/vigillaw03.NumBack" = some 5 by kernel_rfl).symm.trans hf) |>.symm
      obtain rfl : fn = Tryd.f5 := (Option.some.inj (Tryd.func5.symm.trans hfn)).symm
      exact ⟨by kernel_rfl, fun j t ht => by
        rw [Tryd.params5] at ht
        have hm : t ∈ [22] := by have h_ := Array.mem_of_getElem? ht; simp at h_ ⊢; omega
        have hall : ([22].all fun u => !Tryd.prog.wantsStandIn u) = true := by kernel_rfl
        exact (show Tryd.prog.wantsStandIn t = false by simpa using List.all_eq_true.1 hall t hm)⟩)
    (by kernel_rfl)
#print axioms card_holds
end Go.Proofs.YtjlnfnfdibfniaaDoor.numBack
namespace Go.Proofs.YtjlnfnfdibfniaaDoor
theorem numBack_card : Rows.NumBackCardSaid := numBack.card_holds
end Go.Proofs.YtjlnfnfdibfniaaDoor

