/- NumParse: every text is read as the float nearest to what it says, or refused, as the document says. For all lists of texts. -/
import Derived.Test.YtjlnfnfdibfniaaDoorCParse5
import Derived.Laws.Bits64
import Derived.Laws.BitsLemmas
import Ieee.Arith
import GoSem.Core.Float
import Derived.Laws.Strings
import Derived.KernelRfl
import Derived.Test.YtjlnfnfdibfniaaDoorRows
import Derived.Test.YtjlnfnfdibfniaaDoorCards
import Derived.Test.YtjlnfnfdibfniaaDoorTie
import Derived.WalkKit
import Derived.ProofKit
import Derived.OpenShut
import Derived.ShutString
import Derived.ChangeOld
import Derived.Below
import Derived.SizedLaws
import Derived.Lay
import Derived.LaidOnce
import Derived.SevenTiedAt
import Derived.ChangeSlices
import Derived.SliceStrings
namespace Go.Proofs.YtjlnfnfdibfniaaDoor.Pl
open F Hd Go.RowKit Go.Proofs.YtjlnfnfdibfniaaDoorW.PrintWords Go.Proofs.YtjlnfnfdibfniaaDoorW.PrintMore
theorem w64 {n : Int} (h0 : -9223372036854775808 ≤ n) (h1 : n ≤ 9223372036854775807) : wrap64 n = n := by unfold wrap64; omega
theorem u64w {n : Int} (h0 : 0 ≤ n) (h1 : n < 18446744073709551616) : IntKind.u64.wrap n = n := by rw [IntKind.wrap_u64]; omega
theorem rd_get (l : List Int) (i : Nat) (h : i < l.length) : rd l (i : Int) = l[i] := by
 unfold rd
 rw [Int.toNat_natCast, List.getD_eq_getElem?_getD, List.getElem?_eq_getElem h]; rfl
def L (n : Nat) : List Int := lim 4294967296 n
theorem L_zero : L 0 = [] := lim_zero _
theorem L_nv (n : Nat) : nv 4294967296 (L n) = n := nv_lim (by decide) n
theorem L_wf (n : Nat) : Wf 4294967296 (L n) := wf_lim (by decide) n
def Few (n : Nat) : Prop := (L n).length ≤ 1000000
theorem few_of {n s : Nat} (h : n < 4294967296 ^ s) (hs : s ≤ 1000000) : Few n := Nat.le_trans (lim_len (by decide) s n h) hs
theorem trim_runs (l : List Int) (hw : Wf 4294967296 l) (hl : l.length ≤ 10000000) : Runs (fun k => num_nat_trim.l0 k l) (L (nv 4294967296 l)) := by
 generalize hn : l.length = n at hl
 induction n generalizing l with
 | zero =>
  have : l = [] := List.length_eq_zero_iff.1 hn
  subst this
  refine Runs.suc ?_
  simp only [num_nat_trim.l0]
  refine Runs.no (by simp) ?_
  exact (Runs.pure _).of (by rw [nv, L_zero])
 | succ n ih =>
  obtain ⟨m, x, rfl⟩ : ∃ m x, l = m ++ [x] := by
   rcases snoc_cases l with h | h
   ·
    rw [h] at hn; simp at hn
   ·
    exact h
  have hlen : m.length = n := by simpa using hn
  have hll : (m ++ [x]).length = m.length + 1 := by simp
  have hwr : wrap64 (((m ++ [x]).length : Int) - 1) = (m.length : Int) := by rw [hll, w64 (by omega) (by omega)]; omega
  have hrd : rd (m ++ [x]) (m.length : Int) = x := by
   rw [rd_get _ _ (by rw [hll]; omega)]; simp
  refine Runs.suc ?_
  simp only [num_nat_trim.l0]
  rw [hwr, hrd]
  refine Runs.yes (by rw [hll]; omega) (Runs.yes (by omega) (Runs.yes (by rw [hll]; omega) ?_))
  have hx := hw x (by simp)
  by_cases h0 : x = 0
  ·
   refine Runs.yes h0 (Runs.yes (by rw [hll]; omega) ?_)
   rw [h0, nv_snoc_zero, Int.toNat_natCast, List.take_left']
   ·
    exact ih m hw.left hlen (by omega)
   ·
    rfl
  ·
   refine Runs.no h0 ?_
   refine (Runs.pure _).of ?_
   exact (lim_snoc (by decide) hw.left (by omega) hx.2).symm
theorem trim_f (l : List Int) (hw : Wf 4294967296 l) (hl : l.length ≤ 10000000) : Runs (fun k => num_nat_trim.f k l) (L (nv 4294967296 l)) := trim_runs l hw hl
theorem of_f (n : Nat) (h : n < 18446744073709551616) : Runs (fun k => num_of.f k (n : Int)) (L n) := by
 simp only [num_of.f]
 refine Runs.bind (trim_f _ ?_ (by simp)) ?_
 ·
  intro x hx
  simp only [List.mem_cons, List.not_mem_nil, or_false] at hx
  omega
 ·
  refine (Runs.pure _).of ?_
  congr 1
  simp only [nv]
  omega
theorem times_loop (l : List Int) (hw : Wf 4294967296 l) (hlen : l.length ≤ 1000000) (m : Nat) (hm : m < 4294967296) :
  ∀ (d i : Nat), i + d = l.length → ∀ (out : List Int) (c : Nat), out.length = l.length + 1 → Wf 4294967296 (out.take i) → c < 4294967296 →
  Runs (fun k => num_nat_times.l0 k l (m : Int) out (c : Int) l (l.length : Int) (i : Int)) (L (nv 4294967296 (out.take i) + 4294967296 ^ i * (c + m * nv 4294967296 (l.drop i)))) := by
 intro d
 induction d with
 | zero =>
  intro i hi out c ho hwo hc
  obtain rfl : i = l.length := by omega
  refine Runs.suc ?_
  simp only [num_nat_times.l0]
  refine Runs.no (by omega) (Runs.yes (by omega) (Runs.yes (by omega) ?_))
  rw [show ((c : Int) % 4294967296) = (c : Int) by omega, Int.toNat_natCast]
  have hset : out.set l.length (c : Int) = out.take l.length ++ [(c : Int)] := by
   have := take_set_succ out l.length (c : Int) (by omega)
   rw [← this, List.take_of_length_le (by rw [List.length_set]; omega)]
  rw [hset]
  refine Runs.bind (trim_f _ (hwo.append (Wf.one (by omega) (by omega))) (by simp; omega)) ((Runs.pure _).of ?_)
  rw [nv_append, nv_one, List.length_take, Nat.min_eq_left (by omega), List.drop_of_length_le (Nat.le_refl _)]
  simp [nv]
 | succ d ih =>
  intro i hi out c ho hwo hc
  have hil : i < l.length := by omega
  have hx := hw.get hil
  obtain ⟨y, hy⟩ := Int.eq_ofNat_of_zero_le hx.1
  have hy1 : y < 4294967296 := by omega
  have hym : y * m ≤ 4294967295 * 4294967295 := Nat.mul_le_mul (by omega) (by omega)
  refine Runs.suc ?_
  simp only [num_nat_times.l0]
  rw [rd_get l i hil, hy, u64w (n := (y : Int)) (by omega) (by omega), u64w (n := (m : Int)) (by omega) (by omega)]
  have e1 : (y : Int) * (m : Int) = ((y * m : Nat) : Int) := by simp
  rw [e1, u64w (n := ((y * m : Nat) : Int)) (by omega) (by omega), u64w (n := (c : Int) + ((y * m : Nat) : Int)) (by omega) (by omega)]
  have e2 : ((c : Int) + ((y * m : Nat) : Int)) % 4294967296 = (((c + y * m) % 4294967296 : Nat) : Int) := by omega
  have e3 : ((c : Int) + ((y * m : Nat) : Int)) / 4294967296 = (((c + y * m) / 4294967296 : Nat) : Int) := by omega
  rw [e2, e3, w64 (by omega) (by omega), Int.toNat_natCast]
  refine Runs.yes (by omega) (Runs.yes (by omega) (Runs.yes (by omega) (Runs.yes (by omega) ?_)))
  have hq : (c + y * m) % 4294967296 + 4294967296 * ((c + y * m) / 4294967296) = c + y * m := Nat.mod_add_div ..
  have hr : (c + y * m) % 4294967296 < 4294967296 := Nat.mod_lt _ (by decide)
  have hq2 : (c + y * m) / 4294967296 < 4294967296 := by omega
  generalize (c + y * m) % 4294967296 = r at *
  generalize (c + y * m) / 4294967296 = q at *
  have ht := take_set_succ out i (r : Int) (by omega)
  have := ih (i + 1) (by omega) (out.set i (r : Int)) q (by rw [List.length_set]; exact ho) (by rw [ht]; exact hwo.append (Wf.one (by omega) (by omega))) hq2
  refine Runs.of this ?_
  congr 1
  rw [ht, nv_append, nv_one, List.length_take, Nat.min_eq_left (by omega), nv_drop _ l i hil, hy, Int.toNat_natCast]
  simp only [Int.toNat_natCast]
  generalize nv 4294967296 (List.take i out) = N
  generalize nv 4294967296 (l.drop (i + 1)) = D
  rw [Nat.pow_succ]
  generalize 4294967296 ^ i = p
  grind
theorem times_f (a m p : Nat) (ha : Few a) (hm : m < 4294967296) (hp : p < 4294967296) : Runs (fun k => num_nat_times.f k (L a) (m : Int) (p : Int)) (L (a * m + p)) := by
 have ha' := ha
 unfold Few at ha'
 simp only [num_nat_times.f]
 rw [w64 (by omega) (by omega), u64w (n := (p : Int)) (by omega) (by omega)]
 have e : ((L a).length + 1 : Int).toNat = (L a).length + 1 := by omega
 rw [e]
 refine Runs.yes (by omega) (Runs.yes (by omega) ?_)
 refine Runs.of (times_loop (L a) (L_wf a) ha' m hm (L a).length 0 (by omega) _ p (by simp) (by rw [List.take_zero]; exact Wf.nil _) hp) ?_
 congr 1
 rw [List.take_zero, List.drop_zero, L_nv, nv]
 grind
theorem few_mono {a b : Nat} (h : a ≤ b) (hb : Few b) : Few a := by
 refine few_of (s := (L b).length) (Nat.lt_of_le_of_lt h ?_) hb
 exact lim_le (by decide) b
theorem tens_l1 (n : Nat) : ∀ (a : Nat), Few (a * 10 ^ n) → n ≤ 1000000 → Runs (fun k => num_nat_tens.l1 k (L a) (n : Int)) (L (a * 10 ^ n)) := by
 induction n with
 | zero =>
  intro a ha _
  refine Runs.suc ?_
  simp only [num_nat_tens.l1]
  exact Runs.no (by omega) ((Runs.pure _).of (by simp))
 | succ n ih =>
  intro a ha hn
  refine Runs.suc ?_
  simp only [num_nat_tens.l1]
  have hp : 0 < 10 ^ (n + 1) := Nat.pow_pos (by decide)
  refine Runs.yes (by omega) (Runs.bind (times_f a 10 0 (few_mono (Nat.le_mul_of_pos_right a hp) ha) (by decide) (by decide)) ?_)
  rw [w64 (by omega) (by omega), show ((n + 1 : Nat) : Int) - 1 = (n : Int) by omega]
  have e : a * 10 ^ (n + 1) = (a * 10 + 0) * 10 ^ n := by rw [Nat.pow_succ]; grind
  rw [e]
  exact ih (a * 10 + 0) (by rw [← e]; exact ha) (by omega)
theorem tens_l0 (q : Nat) : ∀ (a n : Nat), n / 9 = q → Few (a * 10 ^ n) → n ≤ 1000000 → Runs (fun k => num_nat_tens.l0 k (L a) (n : Int)) (L (a * 10 ^ n)) := by
 induction q with
 | zero =>
  intro a n hq ha hn
  refine Runs.suc ?_
  simp only [num_nat_tens.l0]
  exact Runs.no (by omega) (tens_l1 n a ha hn)
 | succ q ih =>
  intro a n hq ha hn
  refine Runs.suc ?_
  simp only [num_nat_tens.l0]
  obtain ⟨m, rfl⟩ : ∃ m, n = m + 9 := ⟨n - 9, by omega⟩
  have hp : 0 < 10 ^ (m + 9) := Nat.pow_pos (by decide)
  refine Runs.yes (by omega) (Runs.bind (times_f a 1000000000 0 (few_mono (Nat.le_mul_of_pos_right a hp) ha) (by decide) (by decide)) ?_)
  rw [w64 (by omega) (by omega), show ((m + 9 : Nat) : Int) - 9 = (m : Int) by omega]
  have e : a * 10 ^ (m + 9) = (a * 1000000000 + 0) * 10 ^ m := by rw [Nat.pow_add]; grind
  rw [e]
  exact ih _ m (by omega) (by rw [← e]; exact ha) (by omega)
theorem tens_f (a n : Nat) (h : Few (a * 10 ^ n)) (hn : n ≤ 1000000) : Runs (fun k => num_nat_tens.f k (L a) (n : Int)) (L (a * 10 ^ n)) := tens_l0 _ a n rfl h hn
end Go.Proofs.YtjlnfnfdibfniaaDoor.Pl
namespace Go.Proofs.YtjlnfnfdibfniaaDoor.Pl
open F Hd Go.RowKit Go.Proofs.YtjlnfnfdibfniaaDoorW.PrintWords Go.Proofs.YtjlnfnfdibfniaaDoorW.PrintMore
theorem bitLen_spec : ∀ (f x : Nat), x < 2 ^ f → x < 2 ^ Lib.bitLenAux f x ∧ (0 < x → 0 < Lib.bitLenAux f x ∧ 2 ^ (Lib.bitLenAux f x - 1) ≤ x) := by
 intro f
 induction f with
 | zero =>
  intro x h
  have : x = 0 := by simpa using h
  subst this; simp [Lib.bitLenAux]
 | succ f ih =>
  intro x h
  rw [Lib.bitLenAux]
  by_cases h0 : x = 0
  ·
   subst h0; simp
  ·
   rw [if_neg h0]
   have h2 : x / 2 < 2 ^ f := by rw [Nat.pow_succ] at h; omega
   obtain ⟨g1, g2⟩ := ih (x / 2) h2
   have hz : x / 2 = 0 → Lib.bitLenAux f (x / 2) = 0 := by
    intro h3
    rw [h3]
    cases f with
    | zero => rfl
    | succ f => rw [Lib.bitLenAux, if_pos rfl]
   generalize Lib.bitLenAux f (x / 2) = s at *
   refine ⟨?_, fun _ => ⟨by omega, ?_⟩⟩
   ·
    rw [Nat.add_comm 1 s, Nat.pow_succ]; omega
   ·
    rw [show 1 + s - 1 = s by omega]
    rcases Nat.eq_zero_or_pos (x / 2) with h3 | h3
    ·
     rw [hz h3]; simp; omega
    ·
     obtain ⟨g3, g4⟩ := g2 h3
     obtain ⟨t, rfl⟩ : ∃ t, s = t + 1 := ⟨s - 1, by omega⟩
     rw [Nat.add_sub_cancel] at g4
     rw [Nat.pow_succ]; omega
theorem size_f (n : Nat) (h : Few n) : ∃ s : Nat, (∀ r, num_nat_size.f (L n) = some r ↔ r = (s : Int)) ∧ n < 2 ^ s ∧ (0 < n → 0 < s ∧ 2 ^ (s - 1) ≤ n) ∧ s ≤ 32000000 := by
 unfold Few at h
 rcases Nat.eq_zero_or_pos n with h0 | h0
 ·
  refine ⟨0, ?_, by rw [h0]; simp, fun h => by omega, by omega⟩
  intro r
  rw [h0, L_zero]
  unfold num_nat_size.f
  rw [if_pos (by simp)]
  constructor
  ·
   intro e; injection e with e; rw [← e]; rfl
  ·
   intro e; rw [e]; rfl
 ·
  obtain ⟨l, x, e, hx0, hx1⟩ := lim_last (B := 4294967296) (by decide) n h0
  have e' : L n = l ++ [x] := e
  rw [e'] at h
  have hll : (l ++ [x]).length = l.length + 1 := by simp
  obtain ⟨y, rfl⟩ := Int.eq_ofNat_of_zero_le (Int.le_of_lt hx0)
  have hv : n = nv 4294967296 l + 4294967296 ^ l.length * y := by
   have := L_nv n
   rw [e', nv_append, nv_one, Int.toNat_natCast] at this
   exact this.symm
  have hl : nv 4294967296 l < 4294967296 ^ l.length := nv_lt (by decide) (by have := L_wf n; rw [e'] at this; exact this.left)
  have hp : 4294967296 ^ l.length = 2 ^ (32 * l.length) := by rw [Nat.pow_mul]
  rw [hp] at hv hl
  have hy0 : 0 < y := by omega
  have hy : y < 4294967296 := by omega
  obtain ⟨g1, g2⟩ := bitLen_spec 64 y (by omega)
  obtain ⟨g2, g3⟩ := g2 hy0
  have g4 : Lib.bitLenAux 64 y ≤ 32 := by
   rcases Nat.lt_or_ge 32 (Lib.bitLenAux 64 y) with h5 | h5
   ·
    have := Nat.pow_le_pow_right (n := 2) (by decide) (show 32 ≤ Lib.bitLenAux 64 y - 1 by omega)
    have e32 : 2 ^ 32 = 4294967296 := by decide
    omega
   ·
    exact h5
  refine ⟨32 * l.length + Lib.bitLenAux 64 y, ?_, ?_, fun _ => ⟨by omega, ?_⟩, by omega⟩
  ·
   intro r
   rw [e']
   unfold num_nat_size.f
   rw [w64 (n := ((l ++ [(y : Int)]).length : Int) - 1) (by omega) (by omega), show ((l ++ [(y : Int)]).length : Int) - 1 = (l.length : Int) by omega]
   rw [if_neg (by omega), if_pos (by omega), if_pos (by omega), rd_get _ _ (by omega)]
   rw [List.getElem_append_right (Nat.le_refl _)]
   simp only [Nat.sub_self, List.getElem_cons_zero]
   unfold bits_Len32.f
   rw [if_pos (by omega), Option.bind_some, Int.toNat_natCast, w64 (n := 32 * (l.length : Int)) (by omega) (by omega)]
   show some (wrap64 (32 * (l.length : Int) + (Lib.bitLenAux 64 y : Int))) = some r ↔ _
   rw [w64 (by omega) (by omega)]
   constructor
   ·
    intro e; injection e with e; omega
   ·
    intro e; rw [e]; congr 1
  ·
   rw [Nat.pow_add, hv]
   generalize 2 ^ (32 * l.length) = p at *
   have : p * (y + 1) ≤ p * 2 ^ Lib.bitLenAux 64 y := Nat.mul_le_mul_left p g1
   rw [Nat.mul_add] at this
   omega
  ·
   rw [show 32 * l.length + Lib.bitLenAux 64 y - 1 = 32 * l.length + (Lib.bitLenAux 64 y - 1) by omega, Nat.pow_add, hv]
   generalize 2 ^ (32 * l.length) = p at *
   have : p * 2 ^ (Lib.bitLenAux 64 y - 1) ≤ p * y := Nat.mul_le_mul_left p g3
   omega
theorem wraps_u32 (n : Int) (h0 : 0 ≤ n) (h1 : n < 2 ^ 32) : IntKind.u32.wrap n = n := by rw [IntKind.wrap_u32]; omega
theorem join32 (s w c : Nat) (hs : s < 32) (hc : c < 2 ^ s) : Go.bits .or .u32 (((w * 2 ^ s : Nat) : Int) % 4294967296) (c : Int) = ((w * 2 ^ s % 4294967296 + c : Nat) : Int) := by
 have h2 : (2 : Int) ^ 32 = 4294967296 := by decide
 have h3 : 2 ^ 32 = 2 ^ (32 - s) * 2 ^ s := by rw [← Nat.pow_add]; congr 1; omega
 have hle : 2 ^ s ≤ 2 ^ 31 := Nat.pow_le_pow_right (by decide) (by omega)
 have hm : w * 2 ^ s % 4294967296 = (w % 2 ^ (32 - s)) * 2 ^ s := by
  rw [show (4294967296 : Nat) = 2 ^ (32 - s) * 2 ^ s by rw [← h3], Nat.mul_mod_mul_right]
 have e : ((w * 2 ^ s : Nat) : Int) % 4294967296 = (((w % 2 ^ (32 - s)) * 2 ^ s : Nat) : Int) := by rw [← hm]; omega
 have hlt : (w % 2 ^ (32 - s)) * 2 ^ s < 4294967296 := by rw [← hm]; exact Nat.mod_lt _ (by decide)
 have hdv : (((w % 2 ^ (32 - s)) * 2 ^ s : Nat) : Int) % 2 ^ s = 0 := by
  have : ((2 : Int) ^ s) = ((2 ^ s : Nat) : Int) := by simp
  rw [this, ← Int.natCast_emod, Nat.mul_mod_left]; rfl
 have hcc : (c : Int) < 2 ^ s := by exact_mod_cast hc
 rw [e, bits_join .u32 32 (by decide) wraps_u32 s _ _ (by omega) hdv (by rw [h2]; omega) (by omega) hcc (by rw [h2]; omega), hm]
 omega
theorem up_loop (l : List Int) (hw : Wf 4294967296 l) (hlen : l.length ≤ 1000000) (n : Nat) :
  ∀ (d i : Nat), i + d = l.length → ∀ (out : List Int) (c : Nat), out.length ≤ 8000000 + i → Wf 4294967296 out → c < 2 ^ (n % 32) →
  Runs (fun k => num_nat_up.l0 k (n : Int) out (c : Int) l (l.length : Int) (i : Int)) (L (nv 4294967296 out + 4294967296 ^ out.length * (c + 2 ^ (n % 32) * nv 4294967296 (l.drop i)))) := by
 have hs : n % 32 < 32 := Nat.mod_lt _ (by decide)
 have hpl : 2 ^ (n % 32) ≤ 2 ^ 31 := Nat.pow_le_pow_right (by decide) (by omega)
 have ht : Int.tmod (n : Int) 32 = ((n % 32 : Nat) : Int) := by rw [Int.tmod_eq_emod_of_nonneg (by omega)]; omega
 generalize n % 32 = s at *
 intro d
 induction d with
 | zero =>
  intro i hi out c ho hwo hc
  obtain rfl : i = l.length := by omega
  refine Runs.suc ?_
  simp only [num_nat_up.l0]
  refine Runs.no (by omega) (Runs.yes (by omega) ?_)
  refine Runs.bind (trim_f _ (hwo.append (Wf.one (by omega) (by omega))) (by simp; omega)) ((Runs.pure _).of ?_)
  rw [nv_append, nv_one, List.drop_of_length_le (Nat.le_refl _)]
  simp [nv]
 | succ d ih =>
  intro i hi out c ho hwo hc
  have hil : i < l.length := by omega
  have hx := hw.get hil
  obtain ⟨y, hy⟩ := Int.eq_ofNat_of_zero_le hx.1
  have hy1 : y < 4294967296 := by omega
  have hyp : y * 2 ^ s < 4294967296 * 2 ^ s := Nat.mul_lt_mul_of_pos_right hy1 (Nat.two_pow_pos _)
  refine Runs.suc ?_
  simp only [num_nat_up.l0]
  have hsh : shl .u64 (y : Int) (s : Int) = ((y * 2 ^ s : Nat) : Int) := by
   unfold shl
   have e : min (s : Int).toNat IntKind.u64.bits = s := by rw [Int.toNat_natCast]; show min s 64 = s; omega
   rw [e]
   have e2 : (y : Int) * 2 ^ s = ((y * 2 ^ s : Nat) : Int) := by simp
   rw [e2]
   exact u64w (by omega) (by omega)
  rw [rd_get l i hil, hy, u64w (n := (y : Int)) (by omega) (by omega), ht, hsh, join32 s y c hs hc]
  have hq : y * 2 ^ s % 4294967296 + 4294967296 * (y * 2 ^ s / 4294967296) = y * 2 ^ s := Nat.mod_add_div ..
  have h3 : 4294967296 = 2 ^ (32 - s) * 2 ^ s := by rw [← Nat.pow_add, show 32 - s + s = 32 by omega]
  have hr : y * 2 ^ s % 4294967296 + c < 4294967296 := by
   have h4 : y * 2 ^ s % (2 ^ (32 - s) * 2 ^ s) = (y % 2 ^ (32 - s)) * 2 ^ s := Nat.mul_mod_mul_right ..
   rw [← h3] at h4
   have h5 : (y % 2 ^ (32 - s) + 1) * 2 ^ s ≤ 2 ^ (32 - s) * 2 ^ s := Nat.mul_le_mul_right _ (Nat.mod_lt _ (Nat.two_pow_pos _))
   rw [← h3, Nat.add_mul, Nat.one_mul] at h5
   omega
  have hq2 : y * 2 ^ s / 4294967296 < 2 ^ s := Nat.div_lt_of_lt_mul hyp
  have e3 : ((y * 2 ^ s : Nat) : Int) / 4294967296 % 4294967296 = ((y * 2 ^ s / 4294967296 : Nat) : Int) := by omega
  rw [e3, w64 (by omega) (by omega)]
  refine Runs.yes (by omega) (Runs.yes (by omega) (Runs.yes (by omega) (Runs.yes (by omega) (Runs.yes (by omega) ?_))))
  have := ih (i + 1) (by omega) (out ++ [((y * 2 ^ s % 4294967296 + c : Nat) : Int)]) (y * 2 ^ s / 4294967296) (by simp; omega) (hwo.append (Wf.one (by omega) (by omega))) hq2
  refine Runs.of this ?_
  congr 1
  rw [nv_append, nv_one, List.length_append, List.length_singleton, nv_drop _ l i hil, hy, Int.toNat_natCast]
  simp only [Int.toNat_natCast]
  generalize y * 2 ^ s / 4294967296 = q at *
  generalize y * 2 ^ s % 4294967296 = r at *
  generalize nv 4294967296 out = N
  generalize nv 4294967296 (l.drop (i + 1)) = D
  rw [Nat.pow_succ]
  generalize 4294967296 ^ out.length = p
  generalize 2 ^ s = t at *
  grind
theorem up_f (a n : Nat) (ha : Few a) (hn : n ≤ 100000000) : Runs (fun k => num_nat_up.f k (L a) (n : Int)) (L (a * 2 ^ n)) := by
 have ha' := ha
 unfold Few at ha'
 simp only [num_nat_up.f]
 have e1 : Int.tdiv (n : Int) 32 = ((n / 32 : Nat) : Int) := by rw [Int.tdiv_eq_ediv_of_nonneg (by omega)]; omega
 rw [e1, w64 (n := ((n / 32 : Nat) : Int)) (by omega) (by omega), w64 (n := ((n / 32 : Nat) : Int) + _) (by omega) (by omega), w64 (by omega) (by omega)]
 refine Runs.yes (by omega) (Runs.yes (by omega) (Runs.yes (by omega) ?_))
 rw [Int.toNat_natCast]
 refine Runs.of (up_loop (L a) (L_wf a) ha' n (L a).length 0 (by omega) _ 0 (by simp; omega) (Wf.zeros (by decide) _) (Nat.two_pow_pos _)) ?_
 congr 1
 rw [nv_zeros, List.length_replicate, List.drop_zero, L_nv]
 have : 2 ^ n = 4294967296 ^ (n / 32) * 2 ^ (n % 32) := by
  rw [show (4294967296 : Nat) = 2 ^ 32 by decide, ← Nat.pow_mul, ← Nat.pow_add]
  congr 1; omega
 rw [this]
 grind
def cmpN (a b : Nat) : Int := if a < b then -1 else if b < a then 1 else 0
theorem against_loop (a b : List Int) (ha : Wf 4294967296 a) (hb : Wf 4294967296 b) (hlen : a.length = b.length) (hl : a.length ≤ 1000000) :
  ∀ j, j ≤ a.length → Runs (fun k => num_nat_against.l0 k a b ((j : Int) - 1)) (cmpN (nv 4294967296 (a.take j)) (nv 4294967296 (b.take j))) := by
 intro j
 induction j with
 | zero =>
  intro _
  refine Runs.suc ?_
  simp only [num_nat_against.l0]
  exact Runs.no (by omega) ((Runs.pure _).of (by simp [nv, cmpN]))
 | succ j ih =>
  intro hj
  have h1 : j < a.length := by omega
  have h2 : j < b.length := by omega
  refine Runs.suc ?_
  simp only [num_nat_against.l0]
  rw [show ((j + 1 : Nat) : Int) - 1 = (j : Int) by omega, rd_get a j h1, rd_get b j h2, w64 (by omega) (by omega)]
  refine Runs.yes (by omega) (Runs.yes (by omega) (Runs.yes (by omega) (Runs.yes (by omega) ?_)))
  obtain ⟨x, hx⟩ := Int.eq_ofNat_of_zero_le (ha.get h1).1
  obtain ⟨y, hy⟩ := Int.eq_ofNat_of_zero_le (hb.get h2).1
  have g1 := nv_lt (B := 4294967296) (by decide) (l := a.take j) (fun z hz => ha z (List.mem_of_mem_take hz))
  have g2 := nv_lt (B := 4294967296) (by decide) (l := b.take j) (fun z hz => hb z (List.mem_of_mem_take hz))
  rw [List.length_take, Nat.min_eq_left (by omega)] at g1 g2
  rw [nv_take_succ _ a j h1, nv_take_succ _ b j h2, hx, hy, Int.toNat_natCast, Int.toNat_natCast]
  have ih := ih (by omega)
  generalize nv 4294967296 (a.take j) = N at *
  generalize nv 4294967296 (b.take j) = M at *
  generalize 4294967296 ^ j = p at *
  by_cases c1 : x < y
  ·
   refine Runs.yes (by omega) ((Runs.pure _).of ?_)
   have : p * (x + 1) ≤ p * y := Nat.mul_le_mul_left p c1
   rw [Nat.mul_add] at this
   unfold cmpN
   rw [if_pos (by omega)]
  ·
   refine Runs.no (by omega) ?_
   by_cases c2 : y < x
   ·
    refine Runs.yes (by omega) ((Runs.pure _).of ?_)
    have : p * (y + 1) ≤ p * x := Nat.mul_le_mul_left p c2
    rw [Nat.mul_add] at this
    unfold cmpN
    rw [if_neg (by omega), if_pos (by omega)]
   ·
    refine Runs.no (by omega) ?_
    have : x = y := by omega
    subst this
    refine ih.of ?_
    unfold cmpN
    generalize p * x = z
    by_cases c3 : N < M
    ·
     rw [if_pos c3, if_pos (by omega)]
    ·
     rw [if_neg c3, if_neg (show ¬ N + z < M + z by omega)]
     by_cases c4 : M < N
     ·
      rw [if_pos c4, if_pos (by omega)]
     ·
      rw [if_neg c4, if_neg (by omega)]
theorem lim_lt {B : Nat} (hB : 2 ≤ B) {a b : Nat} (h : (lim B a).length < (lim B b).length) : a < b := by
 rcases Nat.lt_or_ge a b with h1 | h1
 ·
  exact h1
 ·
  have := lim_len hB (lim B a).length b (Nat.lt_of_le_of_lt h1 (lim_le hB a))
  omega
theorem against_f (a b : Nat) (ha : Few a) : Runs (fun k => num_nat_against.f k (L a) (L b)) (cmpN a b) := by
 unfold Few at ha
 simp only [num_nat_against.f]
 by_cases h1 : (L a).length < (L b).length
 ·
  refine Runs.yes (by omega) ((Runs.pure _).of ?_)
  have := lim_lt (by decide) h1
  unfold cmpN; rw [if_pos this]
 ·
  refine Runs.no (by omega) ?_
  by_cases h2 : (L b).length < (L a).length
  ·
   refine Runs.yes (by omega) ((Runs.pure _).of ?_)
   have := lim_lt (by decide) h2
   unfold cmpN; rw [if_neg (by omega), if_pos this]
  ·
   refine Runs.no (by omega) ?_
   have he : (L a).length = (L b).length := by omega
   have := against_loop (L a) (L b) (L_wf a) (L_wf b) he ha (L a).length (Nat.le_refl _)
   rw [w64 (by omega) (by omega)]
   refine this.of ?_
   have e1 : (L a).take (L a).length = L a := List.take_length
   have e2 : (L b).take (L a).length = L b := by rw [he]; exact List.take_length
   rw [e1, e2, L_nv, L_nv]
theorem less_digit (w b y : Nat) (hw : w < 4294967296) (hb : b < 2) (hy : y < 4294967296) :
  ∃ d q : Nat, IntKind.u64.wrap (IntKind.u64.wrap ((w : Int) - b) - y) % 4294967296 = (d : Int) ∧ IntKind.u64.wrap (IntKind.u64.wrap ((w : Int) - b) - y) / 9223372036854775808 = (q : Int) ∧ d < 4294967296 ∧ q < 2 ∧ w + 4294967296 * q = d + b + y := by
 rw [IntKind.wrap_u64, IntKind.wrap_u64]
 by_cases h : b + y ≤ w
 ·
  exact ⟨w - b - y, 0, by omega, by omega, by omega, by omega, by omega⟩
 ·
  exact ⟨w + 4294967296 - b - y, 1, by omega, by omega, by omega, by omega, by omega⟩
theorem less_digit0 (w b : Nat) (hw : w < 4294967296) (hb : b < 2) :
  ∃ d q : Nat, IntKind.u64.wrap ((w : Int) - b) % 4294967296 = (d : Int) ∧ IntKind.u64.wrap ((w : Int) - b) / 9223372036854775808 = (q : Int) ∧ d < 4294967296 ∧ q < 2 ∧ w + 4294967296 * q = d + b := by
 rw [IntKind.wrap_u64]
 by_cases h : b ≤ w
 ·
  exact ⟨w - b, 0, by omega, by omega, by omega, by omega, by omega⟩
 ·
  exact ⟨w + 4294967296 - b, 1, by omega, by omega, by omega, by omega, by omega⟩
theorem less_loop (l s : List Int) (hw : Wf 4294967296 l) (hws : Wf 4294967296 s) (hlen : l.length ≤ 1000000) :
  ∀ (d i : Nat), i + d = l.length → ∀ (out : List Int) (c : Nat), out.length = l.length → Wf 4294967296 (out.take i) → c < 2 → c + nv 4294967296 (s.drop i) ≤ nv 4294967296 (l.drop i) →
  Runs (fun k => num_nat_less.l0 k s out (c : Int) l (l.length : Int) (i : Int)) (L (nv 4294967296 (out.take i) + 4294967296 ^ i * (nv 4294967296 (l.drop i) - (c + nv 4294967296 (s.drop i))))) := by
 intro d
 induction d with
 | zero =>
  intro i hi out c ho hwo hc hle
  obtain rfl : i = l.length := by omega
  rw [List.drop_of_length_le (Nat.le_refl _)] at hle ⊢
  rw [nv] at hle ⊢
  refine Runs.suc ?_
  simp only [num_nat_less.l0]
  refine Runs.no (by omega) ?_
  have : out.take l.length = out := List.take_of_length_le (by omega)
  rw [this] at hwo ⊢
  exact Runs.bind (trim_f _ hwo (by omega)) ((Runs.pure _).of (by simp))
 | succ d ih =>
  intro i hi out c ho hwo hc hle
  have hil : i < l.length := by omega
  obtain ⟨w, hy⟩ := Int.eq_ofNat_of_zero_le (hw.get hil).1
  have hw1 : w < 4294967296 := by have := (hw.get hil).2; omega
  refine Runs.suc ?_
  simp only [num_nat_less.l0]
  rw [rd_get l i hil, hy, u64w (n := (w : Int)) (by omega) (by omega), w64 (by omega) (by omega), Int.toNat_natCast]
  refine Runs.yes (by omega) (Runs.yes (by omega) (Runs.yes (by omega) ?_))
  rw [nv_drop _ l i hil, hy, Int.toNat_natCast] at hle ⊢
  by_cases his : i < s.length
  ·
   obtain ⟨y, hz⟩ := Int.eq_ofNat_of_zero_le (hws.get his).1
   have hz1 : y < 4294967296 := by have := (hws.get his).2; omega
   rw [rd_get s i his, hz, u64w (n := (y : Int)) (by omega) (by omega)]
   obtain ⟨r, q, e2, e3, hr, hq2, hq⟩ := less_digit w c y hw1 hc hz1
   rw [e2, e3]
   refine Runs.yes (by omega) (Runs.yes (by omega) ?_)
   have ht := take_set_succ out i (r : Int) (by omega)
   rw [nv_drop _ s i his, hz, Int.toNat_natCast] at hle ⊢
   have := ih (i + 1) (by omega) (out.set i (r : Int)) q (by rw [List.length_set]; exact ho) (by rw [ht]; exact hwo.append (Wf.one (by omega) (by omega))) hq2 (by omega)
   refine Runs.of this ?_
   congr 1
   rw [ht, nv_append, nv_one, List.length_take, Nat.min_eq_left (by omega)]
   simp only [Int.toNat_natCast]
   generalize nv 4294967296 (List.take i out) = N
   generalize nv 4294967296 (l.drop (i + 1)) = D at *
   generalize nv 4294967296 (s.drop (i + 1)) = E at *
   rw [Nat.pow_succ]
   generalize 4294967296 ^ i = p
   obtain ⟨X, hX⟩ : ∃ X, D = X + (q + E) := ⟨D - (q + E), by omega⟩
   rw [show D - (q + E) = X by omega, show w + 4294967296 * D - (c + (y + 4294967296 * E)) = r + 4294967296 * X by omega]
   grind
  ·
   refine Runs.no (by omega) ?_
   obtain ⟨r, q, e2, e3, hr, hq2, hq⟩ := less_digit0 w c hw1 hc
   rw [e2, e3]
   refine Runs.yes (by omega) ?_
   have ht := take_set_succ out i (r : Int) (by omega)
   have hs1 : s.drop (i + 1) = [] := List.drop_of_length_le (by omega)
   rw [List.drop_of_length_le (show s.length ≤ i by omega), nv] at hle ⊢
   have := ih (i + 1) (by omega) (out.set i (r : Int)) q (by rw [List.length_set]; exact ho) (by rw [ht]; exact hwo.append (Wf.one (by omega) (by omega))) hq2 (by rw [hs1, nv]; omega)
   refine Runs.of this ?_
   congr 1
   rw [ht, nv_append, nv_one, List.length_take, Nat.min_eq_left (by omega), hs1, nv]
   simp only [Int.toNat_natCast]
   generalize nv 4294967296 (List.take i out) = N
   generalize nv 4294967296 (l.drop (i + 1)) = D at *
   rw [Nat.pow_succ]
   generalize 4294967296 ^ i = p
   obtain ⟨X, hX⟩ : ∃ X, D = X + q := ⟨D - q, by omega⟩
   rw [show D - (q + 0) = X by omega, show w + 4294967296 * D - (c + 0) = r + 4294967296 * X by omega]
   grind
theorem less_f (a b : Nat) (ha : Few a) (h : b ≤ a) : Runs (fun k => num_nat_less.f k (L a) (L b)) (L (a - b)) := by
 unfold Few at ha
 simp only [num_nat_less.f]
 rw [Int.toNat_natCast]
 refine Runs.yes (by omega) (Runs.yes (by omega) ?_)
 refine (less_loop (L a) (L b) (L_wf a) (L_wf b) ha (L a).length 0 (by omega) _ 0 (by simp) (by rw [List.take_zero]; exact Wf.nil _) (by omega) (by rw [List.drop_zero, List.drop_zero, L_nv, L_nv]; omega)).of ?_
 congr 1
 rw [List.take_zero, List.drop_zero, List.drop_zero, L_nv, L_nv, nv]
 simp
end Go.Proofs.YtjlnfnfdibfniaaDoor.Pl
namespace Go.Proofs.YtjlnfnfdibfniaaDoor.Pl
open Ieee
def rungVal (r : Nat) : Nat := if r < 2 ^ 52 then r else (2 ^ 52 + r % 2 ^ 52) * 2 ^ (r / 2 ^ 52 - 1)
theorem rungVal_succ (r : Nat) : rungVal r < rungVal (r + 1) := by
 unfold rungVal
 by_cases h1 : r + 1 < 2 ^ 52
 ·
  rw [if_pos h1, if_pos (by omega)]; omega
 ·
  rw [if_neg h1]
  by_cases h2 : r < 2 ^ 52
  ·
   rw [if_pos h2]
   have : r + 1 = 2 ^ 52 := by omega
   rw [this]; omega
  ·
   rw [if_neg h2]
   obtain ⟨q, hq⟩ : ∃ q, q = r / 2 ^ 52 := ⟨_, rfl⟩
   obtain ⟨s, hs⟩ : ∃ s, s = r % 2 ^ 52 := ⟨_, rfl⟩
   have hd : r = 2 ^ 52 * q + s := by rw [hq, hs]; exact (Nat.div_add_mod r (2 ^ 52)).symm
   have hs' : s < 2 ^ 52 := by rw [hs]; exact Nat.mod_lt _ (by decide)
   have hq' : 1 ≤ q := by omega
   rw [← hq, ← hs]
   by_cases h3 : s + 1 < 2 ^ 52
   ·
    have e1 : (r + 1) / 2 ^ 52 = q := by omega
    have e2 : (r + 1) % 2 ^ 52 = s + 1 := by omega
    rw [e1, e2]
    exact Nat.mul_lt_mul_of_pos_right (by omega) (Nat.two_pow_pos _)
   ·
    have e1 : (r + 1) / 2 ^ 52 = q + 1 := by omega
    have e2 : (r + 1) % 2 ^ 52 = 0 := by omega
    rw [e1, e2]
    have e3 : q + 1 - 1 = (q - 1) + 1 := by omega
    rw [e3, Nat.pow_succ]
    have hp := Nat.two_pow_pos (q - 1)
    calc (2 ^ 52 + s) * 2 ^ (q - 1) < (2 ^ 52 * 2) * 2 ^ (q - 1) := Nat.mul_lt_mul_of_pos_right (by omega) hp
     _ = (2 ^ 52 + 0) * (2 ^ (q - 1) * 2) := by rw [Nat.add_zero, Nat.mul_assoc, Nat.mul_comm 2]
theorem rungVal_lt {r t : Nat} (h : r < t) : rungVal r < rungVal t := by
 induction h with
 | refl => exact rungVal_succ r
 | step _ ih => exact Nat.lt_trans ih (rungVal_succ _)
end Go.Proofs.YtjlnfnfdibfniaaDoor.Pl
namespace Go.Proofs.YtjlnfnfdibfniaaDoor.Pl
def INF : Nat := 9218868437227405312
def mid (K : Nat) : Nat := rungVal K + rungVal (K + 1)
structure IsNear (N D K : Nat) : Prop where
 le : K ≤ INF
 lo : 0 < K → mid (K - 1) * D < 2 * N ∨ mid (K - 1) * D = 2 * N ∧ K % 2 = 0
 hi : K < INF → 2 * N < mid K * D ∨ 2 * N = mid K * D ∧ K % 2 = 0
theorem mid_lt {a b : Nat} (h : a < b) : mid a < mid b := by
 unfold mid
 have := rungVal_lt h
 have := rungVal_lt (show a + 1 < b + 1 by omega)
 omega
theorem mid_le {a b : Nat} (h : a ≤ b) : mid a ≤ mid b := by
 rcases Nat.lt_or_ge a b with h1 | h1
 ·
  exact Nat.le_of_lt (mid_lt h1)
 ·
  rw [show a = b by omega]; exact Nat.le_refl _
theorem IsNear.mono {N D N' D' K K' : Nat} (hD : 0 < D) (hD' : 0 < D') (h : IsNear N D K) (h' : IsNear N' D' K') (hle : N * D' ≤ N' * D) : K ≤ K' := by
 rcases Nat.lt_or_ge K' K with hlt | hge
 ·
  exfalso
  have h1 := h.lo (by omega)
  have h2 := h'.hi (by have := h.le; omega)
  have h3 : mid (K - 1) * D ≤ 2 * N := by omega
  have h4 : 2 * N' ≤ mid K' * D' := by omega
  have h5 : mid K' ≤ mid (K - 1) := mid_le (by omega)
  have a1 : mid (K - 1) * D * D' ≤ 2 * N * D' := Nat.mul_le_mul_right _ h3
  have a2 : 2 * N' * D ≤ mid K' * D' * D := Nat.mul_le_mul_right _ h4
  have a3 : mid K' * (D * D') ≤ mid (K - 1) * (D * D') := Nat.mul_le_mul_right _ h5
  have hp : 0 < D * D' := Nat.mul_pos hD hD'
  have e1 : mid (K - 1) * D * D' = mid (K - 1) * (D * D') := Nat.mul_assoc ..
  have e2 : mid K' * D' * D = mid K' * (D * D') := by rw [Nat.mul_assoc, Nat.mul_comm D']
  have e3 : 2 * N * D' = 2 * (N * D') := Nat.mul_assoc ..
  have e4 : 2 * N' * D = 2 * (N' * D) := Nat.mul_assoc ..
  have h6 : mid K' * (D * D') = mid (K - 1) * (D * D') := by omega
  have h7 : mid K' = mid (K - 1) := Nat.eq_of_mul_eq_mul_right hp h6
  have h8 : K' = K - 1 := by
   rcases Nat.lt_trichotomy K' (K - 1) with c | c | c
   ·
    have := mid_lt c; omega
   ·
    exact c
   ·
    omega
  have b1 : ¬ mid (K - 1) * D < 2 * N := by
   intro c
   have := (Nat.mul_lt_mul_right hD').2 c
   omega
  have b2 : ¬ 2 * N' < mid K' * D' := by
   intro c
   have := (Nat.mul_lt_mul_right hD).2 c
   omega
  rcases h1 with c | ⟨_, c⟩
  ·
   exact b1 c
  ·
   rcases h2 with g | ⟨_, g⟩
   ·
    exact b2 g
   ·
    omega
 ·
  exact hge
theorem IsNear.unique {N D N' D' K K' : Nat} (hD : 0 < D) (hD' : 0 < D') (h : IsNear N D K) (h' : IsNear N' D' K') (he : N * D' = N' * D) : K = K' :=
 Nat.le_antisymm (h.mono hD hD' h' (Nat.le_of_eq he)) (h'.mono hD' hD h (Nat.le_of_eq he.symm))
theorem near_of {N D K r : Nat} (h0 : rungVal K * D ≤ N) (h1 : N < rungVal (K + 1) * D) (hr : r = 0 ∧ (2 * N < mid K * D ∨ 2 * N = mid K * D ∧ K % 2 = 0) ∨ r = 1 ∧ (mid K * D < 2 * N ∨ mid K * D = 2 * N ∧ K % 2 = 1)) :
  IsNear N D (min (K + r) INF) := by
 have hD : 0 < D := by
  rcases Nat.eq_zero_or_pos D with h | h
  ·
   rw [h] at h1; omega
  ·
   exact h
 have low : ∀ J, 0 < J → J ≤ K → mid (J - 1) * D < 2 * N := by
  intro J hJ hJK
  have h2 : mid (J - 1) < 2 * rungVal K := by
   unfold mid
   have a := rungVal_lt (show J - 1 < J by omega)
   have b : rungVal J ≤ rungVal K := by
    rcases Nat.lt_or_ge J K with c | c
    ·
     exact Nat.le_of_lt (rungVal_lt c)
    ·
     rw [show J = K by omega]; exact Nat.le_refl _
   rw [show J - 1 + 1 = J by omega]; omega
  have h3 := (Nat.mul_lt_mul_right hD).2 h2
  rw [Nat.mul_assoc] at h3
  omega
 rcases hr with ⟨rfl, hr⟩ | ⟨rfl, hr⟩
 ·
  rcases Nat.lt_or_ge INF K with c | c
  ·
   rw [Nat.min_eq_right (by omega)]
   exact ⟨Nat.le_refl _, fun h => .inl (low INF h (by omega)), fun h => by omega⟩
  ·
   rw [Nat.min_eq_left (by omega)]
   exact ⟨by omega, fun h => .inl (low (K + 0) h (by omega)), fun _ => hr⟩
 ·
  rcases Nat.lt_or_ge K INF with c | c
  ·
   rw [Nat.min_eq_left (by omega)]
   refine ⟨by omega, fun _ => ?_, fun _ => .inl ?_⟩
   ·
    rw [Nat.add_sub_cancel]
    rcases hr with g | ⟨g, g'⟩
    ·
     exact .inl g
    ·
     exact .inr ⟨g, by omega⟩
   ·
    have h2 : 2 * rungVal (K + 1) < mid (K + 1) := by
     unfold mid
     have := rungVal_succ (K + 1)
     omega
    have h3 := (Nat.mul_lt_mul_right hD).2 h2
    rw [Nat.mul_assoc] at h3
    omega
  ·
   rw [Nat.min_eq_right (by omega)]
   exact ⟨Nat.le_refl _, fun h => .inl (low INF h c), fun h => by omega⟩
theorem rung_of {m E : Nat} (h : E = 0 ∨ 4503599627370496 ≤ m) (hm : m < 9007199254740992) : rungVal (E * 4503599627370496 + m) = m * 2 ^ E := by
 have e52 : (2 : Nat) ^ 52 = 4503599627370496 := by decide
 unfold rungVal
 rw [e52]
 by_cases h1 : m < 4503599627370496
 ·
  have : E = 0 := by omega
  subst this
  rw [if_pos (by omega)]; simp
 ·
  rw [if_neg (by omega)]
  have e1 : (E * 4503599627370496 + m) / 4503599627370496 - 1 = E := by omega
  have e2 : 4503599627370496 + (E * 4503599627370496 + m) % 4503599627370496 = m := by omega
  rw [e1, e2]
theorem rung_next {m E : Nat} (h : E = 0 ∨ 4503599627370496 ≤ m) (hm : m < 9007199254740992) : rungVal (E * 4503599627370496 + m + 1) = (m + 1) * 2 ^ E := by
 by_cases h1 : m + 1 < 9007199254740992
 ·
  have := rung_of (m := m + 1) (E := E) (by omega) h1
  rw [Nat.add_assoc]; exact this
 ·
  have : m + 1 = 9007199254740992 := by omega
  have h2 := rung_of (m := 4503599627370496) (E := E + 1) (by omega) (by omega)
  rw [show E * 4503599627370496 + m + 1 = (E + 1) * 4503599627370496 + 4503599627370496 by omega, h2, this, Nat.pow_succ]
  omega
def DecNear (dig : Nat) (x : Int) (K : Nat) : Prop := IsNear (dig * 10 ^ x.toNat * 2 ^ 1074) (10 ^ (-x).toNat) K
theorem DecNear.unique {dig : Nat} {x : Int} {K K' : Nat} (h : DecNear dig x K) (h' : DecNear dig x K') : K = K' :=
 IsNear.unique (Nat.pow_pos (by decide)) (Nat.pow_pos (by decide)) h h' rfl
theorem pow_join {a b c : Nat} (h : a + b = c) : 2 ^ c = 2 ^ a * 2 ^ b := by rw [← h, Nat.pow_add]
theorem mid_zero : mid 0 = 1 := by decide
theorem near_zero {N D : Nat} (h : 2 * N < D) : IsNear N D 0 := ⟨by decide, fun h => by omega, fun _ => .inl (by rw [mid_zero]; omega)⟩
theorem near_none {D : Nat} (h : 0 < D) : IsNear 0 D 0 := near_zero (by omega)
theorem pow_two {a b c d : Nat} (h : a + b = c + d) : 2 ^ a * 2 ^ b = 2 ^ c * 2 ^ d := by rw [← Nat.pow_add, ← Nat.pow_add, h]
theorem rung_inf : rungVal INF = 2 ^ 1024 * 2 ^ 1074 := by
 have := rung_of (m := 4503599627370496) (E := 2046) (by omega) (by omega)
 rw [show INF = 2046 * 4503599627370496 + 4503599627370496 by decide, this, show (4503599627370496 : Nat) = 2 ^ 52 by decide]
 exact pow_two (a := 52) (b := 2046) (c := 1024) (d := 1074) rfl
theorem near_inf {N D C : Nat} (e : rungVal INF = C) (hD : 0 < D) (h : C * D ≤ N) : IsNear N D INF := by
 refine ⟨Nat.le_refl _, fun _ => .inl ?_, fun h => by omega⟩
 have h1 : mid (INF - 1) < 2 * C := by
  rw [← e]
  unfold mid
  have := rungVal_succ (INF - 1)
  have e2 : INF - 1 + 1 = INF := by decide
  rw [e2] at this ⊢
  omega
 have h2 := (Nat.mul_lt_mul_right hD).2 h1
 rw [Nat.mul_assoc] at h2
 omega
theorem zero_aux {dig A B P T : Nat} (h3 : 2 * T ≤ B) (hT : 0 < T) (hd : dig < P) (h2 : P * B ≤ A) : 2 * (dig * T) < A := by
 have h4 : dig * (2 * T) ≤ dig * B := Nat.mul_le_mul_left _ h3
 have h5 : dig * B < P * B := Nat.mul_lt_mul_of_pos_right hd (by omega)
 rw [← Nat.mul_assoc, Nat.mul_comm dig 2, Nat.mul_assoc] at h4
 omega
theorem inf_aux {dig X A B P T V C : Nat} (h3 : V ≤ B) (h2 : B * A ≤ P * X) (hd : P ≤ dig) (hC : C = V * T) : C * A ≤ dig * X * T := by
 have h4 : P * X ≤ dig * X := Nat.mul_le_mul_right _ hd
 have h5 : V * A ≤ B * A := Nat.mul_le_mul_right _ h3
 have h7 := Nat.mul_le_mul_right T (Nat.le_trans h5 (Nat.le_trans h2 h4))
 refine Nat.le_trans (Nat.le_of_eq ?_) h7
 rw [hC, Nat.mul_assoc, Nat.mul_assoc, Nat.mul_comm T A]
theorem none_aux (A T : Nat) : 0 * A * T = 0 := by rw [Nat.zero_mul, Nat.zero_mul]
theorem dec_zero_small {dig n : Nat} {x : Int} (hd : dig < 10 ^ n) (h : (n : Int) + x ≤ -330) : DecNear dig x 0 := by
 unfold DecNear
 have hx : x.toNat = 0 := by omega
 rw [hx, Nat.pow_zero, Nat.mul_one]
 refine near_zero ?_
 have h1 : n + 330 ≤ (-x).toNat := by omega
 have h2 : (10 : Nat) ^ (n + 330) ≤ 10 ^ (-x).toNat := Nat.pow_le_pow_right (by decide) h1
 rw [Nat.pow_add] at h2
 exact zero_aux (by decide +kernel) (Nat.two_pow_pos 1074) hd h2
theorem dec_inf_great {dig n : Nat} {x : Int} (hd : 10 ^ n ≤ dig) (h : 309 ≤ (n : Int) + x) : DecNear dig x INF := by
 unfold DecNear
 have h1 : 309 + (-x).toNat ≤ n + x.toNat := by omega
 have h2 : (10 : Nat) ^ (309 + (-x).toNat) ≤ 10 ^ (n + x.toNat) := Nat.pow_le_pow_right (by decide) h1
 rw [Nat.pow_add, Nat.pow_add] at h2
 have h3 : 2 ^ 1024 ≤ 10 ^ 309 := by decide +kernel
 have hr := rung_inf
 generalize 2 ^ 1024 = V at *
 generalize 2 ^ 1074 = T at *
 exact near_inf hr (Nat.pow_pos (by decide)) (inf_aux h3 h2 hd rfl)
end Go.Proofs.YtjlnfnfdibfniaaDoor.Pl
namespace Go.Proofs.YtjlnfnfdibfniaaDoor.Pl
open F Hd Go.RowKit Go.Proofs.YtjlnfnfdibfniaaDoorW.PrintWords Go.Proofs.YtjlnfnfdibfniaaDoorW.PrintMore
def M (n : Nat) : List Int := lim 10000 n
theorem M_zero : M 0 = [] := lim_zero _
theorem M_pos {n : Nat} (h : 0 < n) : M n = ((n % 10000 : Nat) : Int) :: M (n / 10000) := lim_pos (by decide) h
theorem M_nil_iff (n : Nat) : (M n).length = 0 ↔ n = 0 := by
 constructor
 ·
  intro h
  rcases Nat.eq_zero_or_pos n with h0 | h0
  ·
   exact h0
  ·
   rw [M_pos h0] at h; simp at h
 ·
  intro h; rw [h, M_zero]; rfl
theorem M_nv (n : Nat) : nv 10000 (M n) = n := nv_lim (by decide) n
theorem M_wf (n : Nat) : Wf 10000 (M n) := wf_lim (by decide) n
def FewM (n : Nat) : Prop := (M n).length ≤ 1000000
theorem fewM_mono {a b : Nat} (h : a ≤ b) (hb : FewM b) : FewM a := Nat.le_trans (lim_len (by decide) (M b).length a (Nat.lt_of_le_of_lt h (lim_le (by decide) b))) hb
theorem fewM_two {n m : Nat} (h : n < 2 ^ m) (hm : m ≤ 1000000) : FewM n := by
 refine Nat.le_trans (lim_len (by decide) m n (Nat.lt_of_lt_of_le h ?_)) hm
 exact Nat.pow_le_pow_left (by decide) m
theorem M_drop (a : Nat) : ∀ i, (M a).drop i = M (a / 10000 ^ i) := by
 intro i
 induction i generalizing a with
 | zero => simp
 | succ i ih =>
  rcases Nat.eq_zero_or_pos a with h | h
  ·
   rw [h, M_zero, Nat.zero_div, M_zero]; rfl
  ·
   rw [M_pos h, List.drop_succ_cons, ih, Nat.div_div_eq_div_mul, Nat.pow_succ, Nat.mul_comm]
theorem M_get (a i : Nat) (h : i < (M a).length) : 0 < a / 10000 ^ i ∧ (M a)[i] = ((a / 10000 ^ i % 10000 : Nat) : Int) := by
 have h1 := M_drop a i
 have h2 := List.drop_eq_getElem_cons h
 rw [h1] at h2
 have hp : 0 < a / 10000 ^ i := by
  rcases Nat.eq_zero_or_pos (a / 10000 ^ i) with h0 | h0
  ·
   rw [h0, M_zero] at h2; cases h2
  ·
   exact h0
 rw [M_pos hp] at h2
 injection h2 with h3 _
 exact ⟨hp, h3.symm⟩
theorem M_end (a i : Nat) (h : (M a).length ≤ i) : a / 10000 ^ i = 0 := by
 have h1 := M_drop a i
 rw [List.drop_of_length_le h] at h1
 rcases Nat.eq_zero_or_pos (a / 10000 ^ i) with h0 | h0
 ·
  exact h0
 ·
  rw [M_pos h0] at h1; cases h1
theorem rtimes_l1 : ∀ (c : Nat) (out : List Int), c ≤ 1152921504606846976 → out.length + (M c).length ≤ 10000000 → Runs (fun k => r_times.l1 k out (c : Int)) (out ++ M c) := by
 intro c
 induction c using Nat.strongRecOn with
 | ind c ih =>
  intro out hc hl
  refine Runs.suc ?_
  simp only [r_times.l1]
  rcases Nat.eq_zero_or_pos c with h0 | h0
  ·
   rw [h0, M_zero, List.append_nil]
   exact Runs.no (by omega) (Runs.pure _)
  ·
   have e1 : Int.tmod (c : Int) 10000 = ((c % 10000 : Nat) : Int) := by rw [Int.tmod_eq_emod_of_nonneg (by omega)]; omega
   have e2 : wrap64 (Int.tdiv (c : Int) 10000) = ((c / 10000 : Nat) : Int) := by rw [Int.tdiv_eq_ediv_of_nonneg (by omega), w64 (by omega) (by omega)]; omega
   rw [e1, e2]
   rw [M_pos h0] at hl ⊢
   rw [List.length_cons] at hl
   refine Runs.yes (by omega) (Runs.yes (by omega) ?_)
   refine (ih (c / 10000) (by omega) _ (by omega) (by simp; omega)).of ?_
   simp
theorem div_small (c z : Nat) (hc : c ≤ 1152921504606846976) (hz : z ≤ 9999 * 10000) : (c + z) / 10000 ≤ 1152921504606846976 := by omega
theorem div_step (c z : Nat) (hc : c ≤ 1152921504606846976) (hz : z ≤ 9999 * 10000) : wrap64 ((z : Nat) : Int) = (z : Int) ∧ wrap64 ((z : Int) + (c : Int)) = (z : Int) + (c : Int) ∧
  Int.tmod ((z : Int) + (c : Int)) 10000 = (((c + z) % 10000 : Nat) : Int) ∧ wrap64 (Int.tdiv ((z : Int) + (c : Int)) 10000) = (((c + z) / 10000 : Nat) : Int) := by
 refine ⟨w64 (by omega) (by omega), w64 (by omega) (by omega), ?_, ?_⟩
 ·
  rw [Int.tmod_eq_emod_of_nonneg (by omega)]; omega
 ·
  rw [Int.tdiv_eq_ediv_of_nonneg (by omega), w64 (by omega) (by omega)]; omega
theorem M_split (r z : Nat) : (((r + 10000 * z) % 10000 : Nat) : Int) :: M ((r + 10000 * z) / 10000) = ((r % 10000 : Nat) : Int) :: M (r / 10000 + z) := by
 rw [Nat.add_mul_mod_self_left, Nat.add_mul_div_left _ _ (by decide)]
theorem rtimes_l0 (a m : Nat) (ha : FewM a) (hm : 1 ≤ m) (hm2 : m ≤ 10000) : ∀ (d i : Nat), i + d = (M a).length → ∀ (out : List Int) (c : Nat), c ≤ 1152921504606846976 → out.length ≤ i →
  Runs (fun k => r_times.l0 k (M a) (m : Int) out (c : Int) (i : Int)) (out ++ M (c + m * (a / 10000 ^ i))) := by
 unfold FewM at ha
 intro d
 induction d with
 | zero =>
  intro i hi out c hc ho
  refine Runs.suc ?_
  simp only [r_times.l0]
  refine Runs.no (by omega) ?_
  rw [M_end a i (by omega), Nat.mul_zero, Nat.add_zero]
  refine rtimes_l1 c out hc ?_
  have := lim_len (B := 10000) (by decide) 60 c (Nat.lt_of_le_of_lt hc (by decide : 1152921504606846976 < 10000 ^ 60))
  have e : (M c).length = (lim 10000 c).length := rfl
  omega
 | succ d ih =>
  intro i hi out c hc ho
  have hil : i < (M a).length := by omega
  obtain ⟨hp, hg⟩ := M_get a i hil
  refine Runs.suc ?_
  simp only [r_times.l0]
  rw [rd_get _ i hil, hg]
  have hdv : a / 10000 ^ (i + 1) = a / 10000 ^ i / 10000 := by rw [Nat.div_div_eq_div_mul, Nat.pow_succ]
  have hr : a / 10000 ^ i % 10000 < 10000 := Nat.mod_lt _ (by decide)
  have hdm : a / 10000 ^ i % 10000 + 10000 * (a / 10000 ^ i / 10000) = a / 10000 ^ i := Nat.mod_add_div ..
  have ih := ih (i + 1) (by omega)
  rw [hdv] at ih
  generalize a / 10000 ^ i = v at *
  generalize hy : v % 10000 = y at *
  generalize hq : v / 10000 = q at *
  have hym : y * m ≤ 9999 * 10000 := Nat.mul_le_mul (by omega) hm2
  have e0 : (y : Int) * (m : Int) = ((y * m : Nat) : Int) := by simp
  obtain ⟨e3, e4, e1, e2⟩ := div_step c (y * m) hc hym
  rw [e0, e3, e4]
  have hcq : (c + y * m) / 10000 ≤ 1152921504606846976 := div_small c (y * m) hc hym
  rw [e1, e2, w64 (n := (i : Int) + 1) (by omega) (by omega)]
  refine Runs.yes (by omega) (Runs.yes (by omega) (Runs.yes (by omega) ?_))
  refine (ih (out ++ [(((c + y * m) % 10000 : Nat) : Int)]) ((c + y * m) / 10000) hcq (by rw [List.length_append, List.length_singleton]; omega)).of ?_
  have hval : c + m * v = (c + y * m) + 10000 * (m * q) := by rw [← hdm]; grind
  have hpos : 0 < c + m * v := Nat.lt_of_lt_of_le (Nat.mul_pos hm hp) (Nat.le_add_left ..)
  have hM : M (c + m * v) = (((c + y * m) % 10000 : Nat) : Int) :: M ((c + y * m) / 10000 + m * q) := by
   rw [M_pos hpos, hval]
   exact M_split (c + y * m) (m * q)
  rw [hM, List.append_assoc]
  rfl
theorem rtimes_f (a m p : Nat) (ha : FewM a) (hm : 1 ≤ m) (hm2 : m ≤ 10000) (hp : p ≤ 1152921504606846976) : Runs (fun k => r_times.f k (M a) (m : Int) (p : Int)) (M (a * m + p)) := by
 simp only [r_times.f]
 refine (rtimes_l0 a m ha hm hm2 (M a).length 0 (by omega) [] p hp (by simp)).of ?_
 rw [List.nil_append, Nat.pow_zero, Nat.div_one, Nat.add_comm, Nat.mul_comm]
theorem rof_f (n : Nat) (h : n ≤ 1152921504606846976) : Runs (fun k => r_of.f k (n : Int)) (M n) := by
 simp only [r_of.f]
 have := rtimes_f 0 1 n (by unfold FewM; rw [M_zero]; simp) (by decide) (by decide) h
 rw [M_zero, Nat.zero_mul, Nat.zero_add] at this
 exact Runs.bind this (Runs.pure _)
theorem rpow_l1 (b : Nat) (hb : 1 ≤ b) (hb2 : b ≤ 10) (N : Nat) (hN : N ≤ 1000000) : ∀ (d i a : Nat), i + d = N → FewM (a * b ^ d) → Runs (fun k => r_power.l1 k (M a) (b : Int) (N : Int) (i : Int)) (M (a * b ^ d)) := by
 intro d
 induction d with
 | zero =>
  intro i a hi _
  refine Runs.suc ?_
  simp only [r_power.l1]
  exact Runs.no (by omega) ((Runs.pure _).of (by simp))
 | succ d ih =>
  intro i a hi hf
  refine Runs.suc ?_
  simp only [r_power.l1]
  refine Runs.yes (by omega) ?_
  rcases Nat.eq_zero_or_pos a with h0 | h0
  ·
   rw [h0, M_zero, Nat.zero_mul, M_zero]
   exact Runs.no (by simp) (Runs.pure _)
  ·
   have hne : (M a).length ≠ 0 := fun h => by have := (M_nil_iff a).1 h; omega
   have e : a * b ^ (d + 1) = (a * b + 0) * b ^ d := by rw [Nat.pow_succ]; grind
   have hp : 0 < b ^ (d + 1) := Nat.pow_pos hb
   refine Runs.yes (by omega) (Runs.bind (rtimes_f a b 0 (fewM_mono (Nat.le_mul_of_pos_right a hp) hf) hb (by omega) (by decide)) ?_)
   rw [w64 (by omega) (by omega), e]
   exact ih (i + 1) (a * b + 0) (by omega) (by rw [← e]; exact hf)
theorem M_shift (a : Nat) (ha : 0 < a) : ∀ q, List.replicate q 0 ++ M a = M (a * 10000 ^ q) := by
 intro q
 induction q with
 | zero => simp
 | succ q ih =>
  have hp : 0 < a * 10000 ^ (q + 1) := Nat.mul_pos ha (Nat.pow_pos (by decide))
  have e : a * 10000 ^ (q + 1) = 10000 * (a * 10000 ^ q) := by rw [Nat.pow_succ]; grind
  rw [M_pos hp, e, Nat.mul_mod_right, Nat.mul_div_cancel_left _ (by decide), ← ih]; rfl
theorem rpow_j3 (a b n : Nat) (hb : 1 ≤ b) (hb2 : b ≤ 10) (hn : n ≤ 1000000) (hf : FewM (a * b ^ n)) : Runs (fun k => r_power.j3 k (M a) (b : Int) (n : Int)) (M (a * b ^ n)) := by
 refine Runs.suc ?_
 simp only [r_power.j3]
 exact rpow_l1 b hb hb2 n hn n 0 a (by omega) hf
theorem rpow2_l0 : ∀ (q a n : Nat), n / 13 = q → n ≤ 1000000 → FewM (a * 2 ^ n) → Runs (fun k => r_power.l0 k (M a) 2 (n : Int)) (M (a * 2 ^ n)) := by
 intro q
 induction q with
 | zero =>
  intro a n hq hn hf
  refine Runs.suc ?_
  simp only [r_power.l0]
  refine Runs.yes trivial (Runs.no (by omega) (Runs.suc ?_))
  simp only [r_power.j1]
  refine Runs.no (by decide) (Runs.suc ?_)
  simp only [r_power.j2]
  exact Runs.no (by decide) (rpow_j3 a 2 n (by decide) (by decide) hn hf)
 | succ q ih =>
  intro a n hq hn hf
  obtain ⟨m, rfl⟩ : ∃ m, n = m + 13 := ⟨n - 13, by omega⟩
  refine Runs.suc ?_
  simp only [r_power.l0]
  have e : a * 2 ^ (m + 13) = (a * 8192 + 0) * 2 ^ m := by rw [Nat.pow_add]; grind
  refine Runs.yes trivial (Runs.yes (by omega) (Runs.bind (rtimes_f a 8192 0 (fewM_mono (Nat.le_mul_of_pos_right a (Nat.two_pow_pos _)) hf) (by decide) (by decide) (by decide)) ?_))
  rw [w64 (by omega) (by omega), show ((m + 13 : Nat) : Int) - 13 = (m : Int) by omega, e]
  exact ih _ m (by omega) (by omega) (by rw [← e]; exact hf)
theorem rpow2_f (a n : Nat) (hn : n ≤ 1000000) (hf : FewM (a * 2 ^ n)) : Runs (fun k => r_power.f k (M a) 2 (n : Int)) (M (a * 2 ^ n)) := by
 simp only [r_power.f]
 exact rpow2_l0 _ a n rfl hn hf
theorem rpow10_f (a n : Nat) (hn : n ≤ 1000000) (hf : FewM (a * 10 ^ n)) : Runs (fun k => r_power.f k (M a) 10 (n : Int)) (M (a * 10 ^ n)) := by
 simp only [r_power.f]
 refine Runs.suc ?_
 simp only [r_power.l0]
 refine Runs.no (by decide) (Runs.suc ?_)
 simp only [r_power.j1]
 refine Runs.yes trivial ?_
 by_cases h4 : n < 4
 ·
  refine Runs.no (by omega) (Runs.suc ?_)
  simp only [r_power.j2]
  exact Runs.no (by decide) (rpow_j3 a 10 n (by decide) (by decide) hn hf)
 ·
  refine Runs.yes (by omega) (Runs.suc ?_)
  simp only [r_power.j2]
  rcases Nat.eq_zero_or_pos a with h0 | h0
  ·
   rw [h0, Nat.zero_mul, M_zero]
   refine Runs.no (by simp) ?_
   have := rpow_j3 0 10 n (by decide) (by decide) hn (by rw [Nat.zero_mul]; unfold FewM; rw [M_zero]; simp)
   rw [Nat.zero_mul, M_zero] at this
   exact this
  ·
   have hne : (M a).length ≠ 0 := fun h => by have := (M_nil_iff a).1 h; omega
   have e1 : Int.tdiv (n : Int) 4 = ((n / 4 : Nat) : Int) := by rw [Int.tdiv_eq_ediv_of_nonneg (by omega)]; omega
   have e2 : Int.tmod (n : Int) 4 = ((n % 4 : Nat) : Int) := by rw [Int.tmod_eq_emod_of_nonneg (by omega)]; omega
   rw [e1, e2, w64 (by omega) (by omega), Int.toNat_natCast]
   have hl : (M a).length ≤ 1000000 := fewM_mono (Nat.le_mul_of_pos_right a (Nat.pow_pos (by decide))) hf
   refine Runs.yes (by simp; omega) (Runs.yes (by omega) (Runs.yes (by omega) (Runs.bind (Runs.pure _) ?_)))
   show Runs (fun k => if (List.replicate (n / 4) (0 : Int)).length + (M a).length < 17592186044416 then r_power.j3 k (List.replicate (n / 4) 0 ++ M a) 10 ((n % 4 : Nat) : Int) else none) _
   rw [List.length_replicate, M_shift a h0]
   have e3 : a * 10 ^ n = a * 10000 ^ (n / 4) * 10 ^ (n % 4) := by
    rw [Nat.mul_assoc, show (10000 : Nat) = 10 ^ 4 by decide, ← Nat.pow_mul, ← Nat.pow_add]
    congr 2; omega
   rw [e3] at hf ⊢
   exact Runs.yes (by omega) (rpow_j3 _ 10 (n % 4) (by decide) (by decide) (by omega) hf)
theorem cmpN_step {N M' p x y : Nat} (h1 : N < p) (h2 : M' < p) : cmpN (N + p * x) (M' + p * y) = if x = y then cmpN N M' else if x < y then -1 else 1 := by
 by_cases c : x = y
 ·
  subst c
  rw [if_pos rfl]
  unfold cmpN
  generalize p * x = z
  by_cases c3 : N < M'
  ·
   rw [if_pos c3, if_pos (by omega)]
  ·
   rw [if_neg c3, if_neg (show ¬ N + z < M' + z by omega)]
   by_cases c4 : M' < N
   ·
    rw [if_pos c4, if_pos (by omega)]
   ·
    rw [if_neg c4, if_neg (by omega)]
 ·
  rw [if_neg c]
  by_cases c1 : x < y
  ·
   have : p * (x + 1) ≤ p * y := Nat.mul_le_mul_left p c1
   rw [Nat.mul_add] at this
   unfold cmpN
   rw [if_pos c1, if_pos (by omega)]
  ·
   have : p * (y + 1) ≤ p * x := Nat.mul_le_mul_left p (by omega)
   rw [Nat.mul_add] at this
   unfold cmpN
   rw [if_neg c1, if_neg (by omega), if_pos (by omega)]
theorem rcmp_loop (a b : List Int) (ha : Wf 10000 a) (hb : Wf 10000 b) (hlen : a.length = b.length) (hl : a.length ≤ 1000000) :
  ∀ j, j ≤ a.length → Runs (fun k => r_cmp.l0 k a b ((j : Int) - 1)) (cmpN (nv 10000 (a.take j)) (nv 10000 (b.take j))) := by
 intro j
 induction j with
 | zero =>
  intro _
  refine Runs.suc ?_
  simp only [r_cmp.l0]
  exact Runs.no (by omega) ((Runs.pure _).of (by simp [nv, cmpN]))
 | succ j ih =>
  intro hj
  have h1 : j < a.length := by omega
  have h2 : j < b.length := by omega
  refine Runs.suc ?_
  simp only [r_cmp.l0]
  rw [show ((j + 1 : Nat) : Int) - 1 = (j : Int) by omega, rd_get a j h1, rd_get b j h2, w64 (by omega) (by omega)]
  refine Runs.yes (by omega) (Runs.yes (by omega) (Runs.yes (by omega) (Runs.yes (by omega) ?_)))
  obtain ⟨x, hx⟩ := Int.eq_ofNat_of_zero_le (ha.get h1).1
  obtain ⟨y, hy⟩ := Int.eq_ofNat_of_zero_le (hb.get h2).1
  have g1 := nv_lt (B := 10000) (by decide) (l := a.take j) (fun z hz => ha z (List.mem_of_mem_take hz))
  have g2 := nv_lt (B := 10000) (by decide) (l := b.take j) (fun z hz => hb z (List.mem_of_mem_take hz))
  rw [List.length_take, Nat.min_eq_left (by omega)] at g1 g2
  rw [nv_take_succ _ a j h1, nv_take_succ _ b j h2, hx, hy, Int.toNat_natCast, Int.toNat_natCast, cmpN_step g1 g2]
  by_cases c : x = y
  ·
   rw [if_pos c]
   exact Runs.yes (by omega) (ih (by omega))
  ·
   rw [if_neg c]
   refine Runs.no (by omega) ?_
   by_cases c1 : x < y
   ·
    rw [if_pos c1]; exact Runs.yes (by omega) (Runs.pure _)
   ·
    rw [if_neg c1]; exact Runs.no (by omega) (Runs.pure _)
theorem rcmp_f (a b : Nat) (ha : FewM a) : Runs (fun k => r_cmp.f k (M a) (M b)) (cmpN a b) := by
 unfold FewM at ha
 simp only [r_cmp.f]
 by_cases h0 : (M a).length = (M b).length
 ·
  refine Runs.yes (by omega) ?_
  have := rcmp_loop (M a) (M b) (M_wf a) (M_wf b) h0 ha (M a).length (Nat.le_refl _)
  rw [w64 (by omega) (by omega)]
  refine this.of ?_
  have e1 : (M a).take (M a).length = M a := List.take_length
  have e2 : (M b).take (M a).length = M b := by rw [h0]; exact List.take_length
  rw [e1, e2, M_nv, M_nv]
 ·
  refine Runs.no (by omega) ?_
  by_cases h1 : (M a).length < (M b).length
  ·
   refine Runs.yes (by omega) ((Runs.pure _).of ?_)
   have := lim_lt (B := 10000) (by decide) h1
   unfold cmpN; rw [if_pos this]
  ·
   refine Runs.no (by omega) ((Runs.pure _).of ?_)
   have := lim_lt (B := 10000) (by decide) (show (M b).length < (M a).length by omega)
   unfold cmpN; rw [if_neg (by omega), if_pos this]
theorem cmpN_mul (a b c : Nat) (h : 0 < c) : cmpN (a * c) (b * c) = cmpN a b := by
 unfold cmpN
 by_cases h1 : a < b
 ·
  rw [if_pos h1, if_pos (Nat.mul_lt_mul_of_pos_right h1 h)]
 ·
  rw [if_neg h1, if_neg (fun g => h1 (Nat.lt_of_mul_lt_mul_right g))]
  by_cases h2 : b < a
  ·
   rw [if_pos h2, if_pos (Nat.mul_lt_mul_of_pos_right h2 h)]
  ·
   rw [if_neg h2, if_neg (fun g => h2 (Nat.lt_of_mul_lt_mul_right g))]
theorem eq_aux6 (X A B T : Nat) : X * A * B * T = X * B * (A * T) := by grind
theorem eq_aux7 (m B T : Nat) : m * B * T = m * T * B := by grind
theorem eq_aux8 (m T B : Nat) : m * (T * 2) * B = m * T * B * 2 := by grind
theorem eq_aux9 (A T : Nat) : A * (T * 2) = 2 * (A * T) := by grind
theorem eq_aux10 (m T : Nat) : m * T + (m + 1) * T = (2 * m + 1) * T := by grind
theorem eq_aux5 (m A B T : Nat) : m * A * B * T = m * (A * T) * B := by grind
theorem below_f (m X : Nat) (e x : Int) (E : Nat) (S : Nat) (hE : (E : Int) = e + 1075) (hm : m ≤ 1152921504606846976) (he : e ≤ 5000) (hx0 : -10000 ≤ x) (hx1 : x ≤ 10000) (hX : X < 2 ^ S) (hS : S ≤ 500000) :
  Runs (fun k => r_below.f k (m : Int) e (M X) x) (cmpN (m * 2 ^ E * 10 ^ (-x).toNat) (X * 10 ^ x.toNat * 2 ^ 1075)) := by
 have p10 : ∀ n : Nat, 10 ^ n ≤ 2 ^ (4 * n) := by
  intro n
  rw [Nat.pow_mul]
  exact Nat.pow_le_pow_left (by decide) n
 have hm60 : m < 2 ^ 61 := Nat.lt_of_le_of_lt hm (by decide)
 have fX : ∀ u v : Nat, u ≤ 10000 → v ≤ 10000 → FewM (X * 2 ^ u * 10 ^ v) := by
  intro u v hu hv
  have h1 : X * 2 ^ u * 10 ^ v < 2 ^ S * 2 ^ u * 2 ^ (4 * v) := by
   refine Nat.lt_of_lt_of_le (Nat.mul_lt_mul_of_pos_right (Nat.mul_lt_mul_of_pos_right hX (Nat.two_pow_pos u)) (Nat.pow_pos (by decide))) ?_
   exact Nat.mul_le_mul_left _ (p10 v)
  rw [← Nat.pow_add, ← Nat.pow_add] at h1
  exact fewM_two h1 (by omega)
 have fm : ∀ u v : Nat, u ≤ 10000 → v ≤ 10000 → FewM (m * 2 ^ u * 10 ^ v) := by
  intro u v hu hv
  have h1 : m * 2 ^ u * 10 ^ v < 2 ^ 61 * 2 ^ u * 2 ^ (4 * v) := by
   refine Nat.lt_of_lt_of_le (Nat.mul_lt_mul_of_pos_right (Nat.mul_lt_mul_of_pos_right hm60 (Nat.two_pow_pos u)) (Nat.pow_pos (by decide))) ?_
   exact Nat.mul_le_mul_left _ (p10 v)
  rw [← Nat.pow_add, ← Nat.pow_add] at h1
  exact fewM_two h1 (by omega)
 have fX' : ∀ v : Nat, v ≤ 10000 → FewM (X * 10 ^ v) := by
  intro v hv
  have := fX 0 v (by omega) hv
  rwa [Nat.pow_zero, Nat.mul_one] at this
 have fm' : ∀ v : Nat, v ≤ 10000 → FewM (m * 10 ^ v) := by
  intro v hv
  have := fm 0 v (by omega) hv
  rwa [Nat.pow_zero, Nat.mul_one] at this
 have fX0 : ∀ u : Nat, u ≤ 10000 → FewM (X * 2 ^ u) := by
  intro u hu
  have := fX u 0 hu (by omega)
  rwa [Nat.pow_zero, Nat.mul_one] at this
 have fm0 : ∀ u : Nat, u ≤ 10000 → FewM (m * 2 ^ u) := by
  intro u hu
  have := fm u 0 hu (by omega)
  rwa [Nat.pow_zero, Nat.mul_one] at this
 have fm1 : FewM m := by
  have := fm0 0 (by omega)
  rwa [Nat.pow_zero, Nat.mul_one] at this
 have key : ∀ a b f : Nat, a * 2 ^ f = m * 2 ^ E * 10 ^ (-x).toNat → b * 2 ^ f = X * 10 ^ x.toNat * 2 ^ 1075 → cmpN a b = cmpN (m * 2 ^ E * 10 ^ (-x).toNat) (X * 10 ^ x.toNat * 2 ^ 1075) := by
  intro a b f h1 h2
  rw [← h1, ← h2, cmpN_mul _ _ _ (Nat.two_pow_pos f)]
 simp only [r_below.f]
 refine Runs.bind (rof_f m hm) ?_
 by_cases he1 : e > 0
 ·
  refine Runs.yes he1 ?_
  have ee : e = (e.toNat : Int) := by omega
  have hE2 : E = e.toNat + 1075 := by omega
  rw [ee]
  refine Runs.bind (rpow2_f m e.toNat (by omega) (fm0 _ (by omega))) ?_
  by_cases hx2 : x > 0
  ·
   refine Runs.yes hx2 ?_
   have ex : x = (x.toNat : Int) := by omega
   have ex2 : (-x).toNat = 0 := by omega
   have key := key (m * 2 ^ e.toNat) (X * 10 ^ x.toNat) 1075 (by rw [ex2, Nat.pow_zero, Nat.mul_one, hE2, Nat.pow_add 2 e.toNat 1075, Nat.mul_assoc]) rfl
   refine Runs.bind (a := M (X * 10 ^ x.toNat)) ?_ ?_
   ·
    have := rpow10_f X x.toNat (by omega) (fX' _ (by omega))
    rw [← ex] at this; exact this
   ·
    exact Runs.bind (rcmp_f _ _ (fm0 _ (by omega))) ((Runs.pure _).of key)
  ·
   refine Runs.no hx2 ?_
   have ex : -x = ((-x).toNat : Int) := by omega
   have ex2 : x.toNat = 0 := by omega
   have key := key (m * 2 ^ e.toNat * 10 ^ (-x).toNat) X 1075 (by rw [hE2, Nat.pow_add 2 e.toNat 1075]; exact eq_aux5 ..) (by rw [ex2, Nat.pow_zero, Nat.mul_one])
   rw [w64 (by omega) (by omega)]
   refine Runs.bind (a := M (m * 2 ^ e.toNat * 10 ^ (-x).toNat)) ?_ ?_
   ·
    have := rpow10_f (m * 2 ^ e.toNat) (-x).toNat (by omega) (fm _ _ (by omega) (by omega))
    rw [← ex] at this; exact this
   ·
    exact Runs.bind (rcmp_f _ _ (fm _ _ (by omega) (by omega))) ((Runs.pure _).of key)
 ·
  refine Runs.no he1 ?_
  have ee : -e = ((-e).toNat : Int) := by omega
  have hE2 : (-e).toNat + E = 1075 := by omega
  have hE3 : 2 ^ 1075 = 2 ^ (-e).toNat * 2 ^ E := by rw [← Nat.pow_add, hE2]
  rw [w64 (n := -e) (by omega) (by omega)]
  refine Runs.bind (a := M (X * 2 ^ (-e).toNat)) ?_ ?_
  ·
   have := rpow2_f X (-e).toNat (by omega) (fX0 _ (by omega))
   rw [← ee] at this; exact this
  by_cases hx2 : x > 0
  ·
   refine Runs.yes hx2 ?_
   have ex : x = (x.toNat : Int) := by omega
   have ex2 : (-x).toNat = 0 := by omega
   have key := key m (X * 2 ^ (-e).toNat * 10 ^ x.toNat) E (by rw [ex2, Nat.pow_zero, Nat.mul_one]) (by rw [hE3]; exact eq_aux6 ..)
   refine Runs.bind (a := M (X * 2 ^ (-e).toNat * 10 ^ x.toNat)) ?_ ?_
   ·
    have := rpow10_f (X * 2 ^ (-e).toNat) x.toNat (by omega) (fX _ _ (by omega) (by omega))
    rw [← ex] at this; exact this
   ·
    exact Runs.bind (rcmp_f _ _ fm1) ((Runs.pure _).of key)
  ·
   refine Runs.no hx2 ?_
   have ex : -x = ((-x).toNat : Int) := by omega
   have ex2 : x.toNat = 0 := by omega
   have key := key (m * 10 ^ (-x).toNat) (X * 2 ^ (-e).toNat) E (eq_aux7 m (10 ^ (-x).toNat) (2 ^ E)) (by rw [ex2, Nat.pow_zero, Nat.mul_one, hE3, Nat.mul_assoc])
   rw [w64 (by omega) (by omega)]
   refine Runs.bind (a := M (m * 10 ^ (-x).toNat)) ?_ ?_
   ·
    have := rpow10_f m (-x).toNat (by omega) (fm' _ (by omega))
    rw [← ex] at this; exact this
   ·
    exact Runs.bind (rcmp_f _ _ (fm' _ (by omega))) ((Runs.pure _).of key)
end Go.Proofs.YtjlnfnfdibfniaaDoor.Pl
namespace Go.Proofs.YtjlnfnfdibfniaaDoor.Pl
open Hd
def isDig (c : UInt8) : Bool := decide (48 ≤ c.toNat) && decide (c.toNat ≤ 57)
def val (l : List UInt8) : Nat := l.foldl (fun v c => 10 * v + (c.toNat - 48)) 0
theorem snoc_ind {α : Type} {P : List α → Prop} (h0 : P []) (h1 : ∀ l c, P l → P (l ++ [c])) (l : List α) : P l := by
 have h : ∀ r : List α, P r.reverse := by
  intro r
  induction r with
  | nil => exact h0
  | cons a r ih => rw [List.reverse_cons]; exact h1 _ _ ih
 have := h l.reverse
 rwa [List.reverse_reverse] at this
theorem val_snoc (l : List UInt8) (c : UInt8) : val (l ++ [c]) = 10 * val l + (c.toNat - 48) := by simp [val]
theorem val_lt (l : List UInt8) (h : ∀ c ∈ l, isDig c = true) : val l < 10 ^ l.length := by
 induction l using snoc_ind with
 | h0 => simp [val]
 | h1 l c ih =>
  have h1 := ih (fun c hc => h c (List.mem_append_left _ hc))
  have h2 := h c (List.mem_append_right _ (List.mem_singleton.2 rfl))
  simp only [isDig, Bool.and_eq_true, decide_eq_true_eq] at h2
  rw [val_snoc, List.length_append, List.length_singleton, Nat.pow_succ]
  omega
end Go.Proofs.YtjlnfnfdibfniaaDoor.Pl
namespace Go.Proofs.YtjlnfnfdibfniaaDoor.Pl
def sgn (l : List UInt8) : Bool × List UInt8 :=
 match l with
 | [] => (false, [])
 | c :: r => if c.toNat = 45 then (true, r) else if c.toNat = 43 then (false, r) else (false, c :: r)
def allDig (l : List UInt8) : Bool := l.all isDig
def digs (l : List UInt8) : List UInt8 × List UInt8 := (l.take (l.takeWhile isDig).length, l.drop (l.takeWhile isDig).length)
def expOf (l : List UInt8) : Option Int :=
 if (sgn l).2 = [] ∨ allDig (sgn l).2 = false then none else some (if (sgn l).1 = true then -(val (sgn l).2 : Int) else (val (sgn l).2 : Int))
def tailOf (ds : List UInt8) (x : Int) (l : List UInt8) : Option (List UInt8 × Int) :=
 if ds = [] then none else
 match l with
 | [] => some (ds, x)
 | c :: r => if c.toNat = 101 ∨ c.toNat = 69 then (expOf r).map (fun e => (ds, x + e)) else none
def dspec (l : List UInt8) : Option (List UInt8 × Int) :=
 match (digs l).2 with
 | [] => tailOf (digs l).1 0 []
 | c :: r => if c.toNat = 46 then tailOf ((digs l).1 ++ (digs r).1) (-((digs r).1.length : Int)) (digs r).2 else tailOf (digs l).1 0 (c :: r)
def lowc (c : UInt8) : UInt8 := if 65 ≤ c.toNat ∧ c.toNat ≤ 90 then UInt8.ofNat (c.toNat + 32) else c
def signBit (n : Bool) : Nat := if n = true then 9223372036854775808 else 0
def ParseTo (l : List UInt8) (b : Nat) (e : Int) : Prop :=
 if 400 < l.length then b = 0 ∧ e = 8 else
 if (sgn l).2.map lowc = [110, 97, 110] then b = 9221120237041090561 ∧ e = 0 else
 if (sgn l).2.map lowc = [105, 110, 102] ∨ (sgn l).2.map lowc = [105, 110, 102, 105, 110, 105, 116, 121] then b = INF + signBit (sgn l).1 ∧ e = 0 else
 match dspec (sgn l).2 with
 | none => b = 0 ∧ e = 8
 | some (ds, x) => e = 0 ∧ ∃ K, DecNear (val ds) x K ∧ b = K + signBit (sgn l).1
theorem ParseTo.unique {l : List UInt8} {b b' : Nat} {e e' : Int} (h : ParseTo l b e) (h' : ParseTo l b' e') : b = b' ∧ e = e' := by
 unfold ParseTo at h h'
 split at h
 ·
  rename_i c
  rw [if_pos c] at h'
  omega
 ·
  rename_i c
  rw [if_neg c] at h'
  split at h
  ·
   rename_i c
   rw [if_pos c] at h'
   omega
  ·
   rename_i c
   rw [if_neg c] at h'
   split at h
   ·
    rename_i c
    rw [if_pos c] at h'
    omega
   ·
    rename_i c
    rw [if_neg c] at h'
    cases hd : dspec (sgn l).2 with
    | none => rw [hd] at h h'; simp only at h h'; omega
    | some p =>
     obtain ⟨ds, x⟩ := p
     rw [hd] at h h'
     simp only at h h'
     obtain ⟨h1, K, h2, h3⟩ := h
     obtain ⟨g1, J, g2, g3⟩ := h'
     have := h2.unique g2
     exact ⟨by rw [h3, g3, this], by rw [h1, g1]⟩
def Ext (x x' : Int) : Prop := x' = x ∨ 90000 ≤ x ∧ 90000 ≤ x' ∨ x ≤ -90000 ∧ x' ≤ -90000
theorem DecNear.zero {x : Int} {K : Nat} (h : DecNear 0 x K) : K = 0 := by
 have h2 : DecNear 0 x 0 := by
  show IsNear _ _ 0
  rw [none_aux]
  exact near_none (Nat.pow_pos (by decide))
 exact h.unique h2
theorem dec_none (x : Int) : DecNear 0 x 0 := by
 show IsNear _ _ 0
 rw [none_aux]
 exact near_none (Nat.pow_pos (by decide))
theorem DecNear.ext {v n : Nat} {x x' : Int} {K : Nat} (hv : v < 10 ^ n) (hn : n ≤ 1000) (h : DecNear v x' K) (he : Ext x x') : DecNear v x K := by
 rcases he with rfl | ⟨h1, h2⟩ | ⟨h1, h2⟩
 ·
  exact h
 ·
  rcases Nat.eq_zero_or_pos v with rfl | h0
  ·
   rw [h.zero]; exact dec_none x
  ·
   have g : 10 ^ 0 ≤ v := by rw [Nat.pow_zero]; exact h0
   have a := dec_inf_great (n := 0) (x := x) g (by omega)
   have b := dec_inf_great (n := 0) (x := x') g (by omega)
   rw [h.unique b]; exact a
 ·
  have a := dec_zero_small (x := x) hv (by omega)
  have b := dec_zero_small (x := x') hv (by omega)
  rw [h.unique b]; exact a
theorem dspec_digs {l ds : List UInt8} {x : Int} (h : dspec l = some (ds, x)) : (∀ c ∈ ds, isDig c = true) ∧ ds.length ≤ l.length ∧ ds ≠ [] := by
 have hw : ∀ l : List UInt8, (∀ c ∈ (digs l).1, isDig c = true) ∧ (digs l).1.length + (digs l).2.length = l.length := by
  intro l
  unfold digs
  constructor
  ·
   intro c hc
   have : l.take (l.takeWhile isDig).length = l.takeWhile isDig := by
    have h1 := List.takeWhile_append_dropWhile (p := isDig) (l := l)
    conv => lhs; rw [← h1]
    rw [h1]
    conv => lhs; arg 2; rw [← h1]
    rw [List.take_left']; rfl
   simp only [this] at hc
   have key : ∀ m : List UInt8, ∀ c ∈ m.takeWhile isDig, isDig c = true := by
    intro m
    induction m with
    | nil => intro c hc; cases hc
    | cons a m ih =>
     intro c hc
     rw [List.takeWhile_cons] at hc
     split at hc
     ·
      rename_i ha
      rcases List.mem_cons.1 hc with rfl | hc
      ·
       exact ha
      ·
       exact ih c hc
     ·
      cases hc
   exact key l c hc
  ·
   rw [← List.length_append, List.take_append_drop]
 have ht : ∀ ds' x' m, tailOf ds' x' m = some (ds, x) → ds = ds' ∧ ds' ≠ [] := by
  intro ds' x' m hm
  unfold tailOf at hm
  split at hm
  ·
   cases hm
  ·
   rename_i hne
   refine ⟨?_, hne⟩
   split at hm
   ·
    injection hm with hm; injection hm with h1 h2; exact h1.symm
   ·
    split at hm
    ·
     rename_i r _
     cases he : expOf r with
     | none => rw [he] at hm; cases hm
     | some e => rw [he] at hm; simp only [Option.map_some, Option.some.injEq, Prod.mk.injEq] at hm; exact hm.1.symm
    ·
     cases hm
 have h1 := hw l
 unfold dspec at h
 split at h
 ·
  obtain ⟨rfl, h3⟩ := ht _ _ _ h
  exact ⟨h1.1, by omega, h3⟩
 ·
  rename_i c r hcr
  rw [hcr, List.length_cons] at h1
  split at h
  ·
   obtain ⟨rfl, h3⟩ := ht _ _ _ h
   have h2 := hw r
   refine ⟨?_, by rw [List.length_append]; omega, h3⟩
   intro c hc
   rcases List.mem_append.1 hc with hc | hc
   ·
    exact h1.1 c hc
   ·
    exact h2.1 c hc
  ·
   obtain ⟨rfl, h3⟩ := ht _ _ _ h
   exact ⟨h1.1, by omega, h3⟩
end Go.Proofs.YtjlnfnfdibfniaaDoor.Pl
namespace Go.Proofs.YtjlnfnfdibfniaaDoor.Pl
open F Hd Go.RowKit Go.Proofs.YtjlnfnfdibfniaaDoorW.PrintWords Go.Proofs.YtjlnfnfdibfniaaDoorW.PrintMore
theorem wraps64 (n : Int) (h0 : 0 ≤ n) (h1 : n < 2 ^ 64) : IntKind.u64.wrap n = n := by rw [IntKind.wrap_u64]; omega
theorem rparts_f (K : Nat) (h : K < INF) : ∃ m E : Nat, r_parts.f (K : Int) = some ((m : Int), (E : Int) - 1074) ∧ m < 9007199254740992 ∧ (E = 0 ∨ 4503599627370496 ≤ m) ∧ K = E * 4503599627370496 + m ∧ E ≤ 2045 := by
 have hI : INF = 9218868437227405312 := rfl
 have e1 : Go.bits .and .u64 ((K : Int) / 4503599627370496) 2047 = ((K / 4503599627370496 : Nat) : Int) := by
  have := bits_mask .u64 64 (by decide) wraps64 11 (by decide) ((K : Int) / 4503599627370496) (by omega) (by omega)
  have e : (2 : Int) ^ 11 = 2048 := by decide
  rw [e] at this
  rw [show (2047 : Int) = 2048 - 1 by decide, this]; omega
 have e2 : Go.bits .and .u64 (K : Int) 4503599627370495 = ((K % 4503599627370496 : Nat) : Int) := by
  have := bits_mask .u64 64 (by decide) wraps64 52 (by decide) (K : Int) (by omega) (by omega)
  have e : (2 : Int) ^ 52 = 4503599627370496 := by decide
  rw [e] at this
  rw [show (4503599627370495 : Int) = 4503599627370496 - 1 by decide, this]; omega
 unfold r_parts.f
 rw [e1, e2, w64 (n := ((K / 4503599627370496 : Nat) : Int)) (by omega) (by omega), w64 (n := ((K % 4503599627370496 : Nat) : Int)) (by omega) (by omega), w64 (n := ((K % 4503599627370496 : Nat) : Int) + 4503599627370496) (by omega) (by omega), w64 (n := ((K / 4503599627370496 : Nat) : Int) - 1075) (by omega) (by omega)]
 by_cases h0 : K / 4503599627370496 = 0
 ·
  rw [if_pos (by omega)]
  refine ⟨K % 4503599627370496, 0, rfl, by omega, .inl rfl, by omega, by omega⟩
 ·
  rw [if_neg (by omega)]
  refine ⟨K % 4503599627370496 + 4503599627370496, K / 4503599627370496 - 1, ?_, by omega, .inr (by omega), by omega, by omega⟩
  congr 2
  omega
theorem near_of2 {N D K r : Nat} (hD : 0 < D) (hK : K < INF) (h0 : rungVal K * D ≤ N) (h1 : K + 1 = INF ∨ N < rungVal (K + 1) * D) (hr : r = 0 ∧ (2 * N < mid K * D ∨ 2 * N = mid K * D ∧ K % 2 = 0) ∨ r = 1 ∧ (mid K * D < 2 * N ∨ mid K * D = 2 * N ∧ K % 2 = 1)) :
  IsNear N D (K + r) := by
 rcases h1 with h1 | h1
 ·
  rcases hr with ⟨rfl, hr⟩ | ⟨rfl, hr⟩
  ·
   refine ⟨by omega, fun h => .inl ?_, fun _ => hr⟩
   have h2 : mid (K + 0 - 1) < 2 * rungVal K := by
    unfold mid
    have a := rungVal_lt (show K - 1 < K by omega)
    rw [show K + 0 - 1 = K - 1 by omega, show K - 1 + 1 = K by omega]; omega
   have h3 := (Nat.mul_lt_mul_right hD).2 h2
   rw [Nat.mul_assoc] at h3
   omega
  ·
   refine ⟨by omega, fun _ => ?_, fun h => by omega⟩
   rw [Nat.add_sub_cancel]
   rcases hr with g | ⟨g, g'⟩
   ·
    exact .inl g
   ·
    exact .inr ⟨g, by omega⟩
 ·
  have := near_of h0 h1 hr
  rwa [Nat.min_eq_left (by rcases hr with ⟨rfl, _⟩ | ⟨rfl, _⟩ <;> omega)] at this
theorem cmpN_le (a b : Nat) : cmpN a b ≤ 0 ↔ a ≤ b := by
 unfold cmpN
 split
 ·
  constructor <;> intro _ <;> omega
 ·
  split
  ·
   constructor <;> intro _ <;> omega
  ·
   constructor <;> intro _ <;> omega
theorem cmpN_lt (a b : Nat) : cmpN a b < 0 ↔ a < b := by
 unfold cmpN
 split
 ·
  constructor <;> intro _ <;> omega
 ·
  split
  ·
   constructor <;> intro _ <;> omega
  ·
   constructor <;> intro _ <;> omega
theorem cmpN_eq (a b : Nat) : cmpN a b = 0 ↔ a = b := by
 unfold cmpN
 split
 ·
  constructor <;> intro _ <;> omega
 ·
  split
  ·
   constructor <;> intro _ <;> omega
  ·
   constructor <;> intro _ <;> omega
theorem rung_below (m X E : Nat) (x : Int) (S : Nat) (K : Nat) (hK : rungVal K = m * 2 ^ E) (hE : E ≤ 2045) (hm : m < 9007199254740992) (hx0 : -10000 ≤ x) (hx1 : x ≤ 10000) (hX : X < 2 ^ S) (hS : S ≤ 500000) :
  Runs (fun k => r_below.f k (m : Int) ((E : Int) - 1074) (M X) x) (cmpN (rungVal K * 10 ^ (-x).toNat) (X * 10 ^ x.toNat * 2 ^ 1074)) := by
 have := below_f m X ((E : Int) - 1074) x (E + 1) S (by omega) (by omega) (by omega) hx0 hx1 hX hS
 refine this.of ?_
 have e1 : m * 2 ^ (E + 1) * 10 ^ (-x).toNat = rungVal K * 10 ^ (-x).toNat * 2 := by rw [hK, Nat.pow_succ]; exact eq_aux8 ..
 have e2 : X * 10 ^ x.toNat * 2 ^ 1075 = X * 10 ^ x.toNat * 2 ^ 1074 * 2 := by rw [pow_join (a := 1074) (b := 1) (c := 1075) rfl, Nat.pow_one]; generalize 2 ^ 1074 = T; exact (Nat.mul_assoc ..).symm
 rw [e1, e2, cmpN_mul _ _ 2 (by decide)]
theorem mid_below (m X E : Nat) (x : Int) (S : Nat) (K : Nat) (hK : mid K = (2 * m + 1) * 2 ^ E) (hE : E ≤ 2045) (hm : m < 9007199254740992) (hx0 : -10000 ≤ x) (hx1 : x ≤ 10000) (hX : X < 2 ^ S) (hS : S ≤ 500000) :
  Runs (fun k => r_below.f k ((2 * m + 1 : Nat) : Int) ((E : Int) - 1074 - 1) (M X) x) (cmpN (mid K * 10 ^ (-x).toNat) (2 * (X * 10 ^ x.toNat * 2 ^ 1074))) := by
 have := below_f (2 * m + 1) X ((E : Int) - 1074 - 1) x E S (by omega) (by omega) (by omega) hx0 hx1 hX hS
 refine this.of ?_
 have e2 : X * 10 ^ x.toNat * 2 ^ 1075 = 2 * (X * 10 ^ x.toNat * 2 ^ 1074) := by rw [pow_join (a := 1074) (b := 1) (c := 1075) rfl, Nat.pow_one]; generalize 2 ^ 1074 = T; exact eq_aux9 ..
 rw [hK, e2]
theorem rnear_l0 (X : Nat) (x : Int) (S : Nat) (hx0 : -10000 ≤ x) (hx1 : x ≤ 10000) (hX : X < 2 ^ S) (hS : S ≤ 500000) (K : Nat) (hK : DecNear X x K) :
  ∀ (g lo hi : Nat), hi - lo ≤ g → lo < hi → hi ≤ INF → rungVal lo * 10 ^ (-x).toNat ≤ X * 10 ^ x.toNat * 2 ^ 1074 → (hi = INF ∨ X * 10 ^ x.toNat * 2 ^ 1074 < rungVal hi * 10 ^ (-x).toNat) →
  Runs (fun k => r_nearest.l0 k (lo : Int) (hi : Int) (M X) x) (K : Int) := by
 have hI : INF = 9218868437227405312 := rfl
 have hD : 0 < 10 ^ (-x).toNat := Nat.pow_pos (by decide)
 intro g
 induction g using Nat.strongRecOn with
 | ind g ih =>
  intro lo hi hg hlt hle h0 h1
  refine Runs.suc ?_
  simp only [r_nearest.l0]
  rw [u64w (n := (hi : Int) - (lo : Int)) (by omega) (by omega)]
  by_cases hc : hi - lo > 1
  ·
   refine Runs.yes (by omega) ?_
   have e1 : Int.tdiv ((hi : Int) - (lo : Int)) 2 = (((hi - lo) / 2 : Nat) : Int) := by rw [Int.tdiv_eq_ediv_of_nonneg (by omega)]; omega
   rw [e1, u64w (n := (((hi - lo) / 2 : Nat) : Int)) (by omega) (by omega), u64w (n := (lo : Int) + (((hi - lo) / 2 : Nat) : Int)) (by omega) (by omega)]
   obtain ⟨md, hmd⟩ : ∃ md : Nat, md = lo + (hi - lo) / 2 := ⟨_, rfl⟩
   have e2 : (lo : Int) + (((hi - lo) / 2 : Nat) : Int) = (md : Int) := by omega
   rw [e2]
   obtain ⟨m, E, hp, hm, hEm, hKE, hE⟩ := rparts_f md (by omega)
   rw [hp]
   have hrv : rungVal md = m * 2 ^ E := by rw [hKE]; exact rung_of hEm hm
   refine Runs.bind (Runs.pure _) (Runs.bind (rung_below m X E x S md hrv hE hm hx0 hx1 hX hS) ?_)
   by_cases hle2 : rungVal md * 10 ^ (-x).toNat ≤ X * 10 ^ x.toNat * 2 ^ 1074
   ·
    refine Runs.yes ((cmpN_le ..).2 hle2) ?_
    exact ih (hi - md) (by omega) md hi (by omega) (by omega) hle hle2 h1
   ·
    refine Runs.no (fun h => hle2 ((cmpN_le ..).1 h)) ?_
    exact ih (md - lo) (by omega) lo md (by omega) (by omega) (by omega) h0 (.inr (Nat.lt_of_not_le hle2))
  ·
   refine Runs.no (by omega) ?_
   obtain ⟨m, E, hp, hm, hEm, hKE, hE⟩ := rparts_f lo (by omega)
   rw [hp]
   have hrv : rungVal lo = m * 2 ^ E := by rw [hKE]; exact rung_of hEm hm
   have hrv1 : rungVal (lo + 1) = (m + 1) * 2 ^ E := by rw [hKE]; exact rung_next hEm hm
   have hmd : mid lo = (2 * m + 1) * 2 ^ E := by unfold mid; rw [hrv, hrv1]; exact eq_aux10 ..
   refine Runs.bind (Runs.pure _) ?_
   show Runs (fun k => (r_below.f k (wrap64 (wrap64 (2 * (m : Int)) + 1)) (wrap64 ((E : Int) - 1074 - 1)) (M X) x).bind _) _
   rw [w64 (n := 2 * (m : Int)) (by omega) (by omega), w64 (n := 2 * (m : Int) + 1) (by omega) (by omega), w64 (n := (E : Int) - 1074 - 1) (by omega) (by omega), show 2 * (m : Int) + 1 = ((2 * m + 1 : Nat) : Int) by omega]
   refine Runs.bind (mid_below m X E x S lo hmd hE hm hx0 hx1 hX hS) ?_
   rw [u64w (n := (lo : Int) + 1) (by omega) (by omega)]
   have hodd : Int.tmod (lo : Int) 2 = ((lo % 2 : Nat) : Int) := by rw [Int.tmod_eq_emod_of_nonneg (by omega)]; omega
   rw [hodd]
   have hnx : lo + 1 = INF ∨ X * 10 ^ x.toNat * 2 ^ 1074 < rungVal (lo + 1) * 10 ^ (-x).toNat := by
    rw [show lo + 1 = hi by omega]; exact h1
   have uniq : ∀ J, IsNear (X * 10 ^ x.toNat * 2 ^ 1074) (10 ^ (-x).toNat) J → K = J := fun J hJ => hK.unique hJ
   have core := fun r hr => uniq _ (near_of2 (r := r) hD (by omega) h0 hnx hr)
   generalize X * 10 ^ x.toNat * 2 ^ 1074 = N at *
   generalize mid lo * 10 ^ (-x).toNat = P at *
   by_cases c1 : P < 2 * N
   ·
    have := core 1 (.inr ⟨rfl, .inl c1⟩)
    exact Runs.yes ((cmpN_lt ..).2 c1) ((Runs.pure _).of (by omega))
   ·
    refine Runs.no (fun h => c1 ((cmpN_lt ..).1 h)) ?_
    by_cases c2 : P = 2 * N
    ·
     refine Runs.yes ((cmpN_eq ..).2 c2) ?_
     by_cases c3 : lo % 2 = 1
     ·
      have := core 1 (.inr ⟨rfl, .inr ⟨c2, c3⟩⟩)
      exact Runs.yes (by omega) ((Runs.pure _).of (by omega))
     ·
      have := core 0 (.inl ⟨rfl, .inr ⟨c2.symm, by omega⟩⟩)
      exact Runs.no (by omega) ((Runs.pure _).of (by omega))
    ·
     have := core 0 (.inl ⟨rfl, .inl (by omega)⟩)
     exact Runs.no (fun h => c2 ((cmpN_eq ..).1 h)) ((Runs.pure _).of (by omega))
def SizeOk (v n : Nat) : Prop := v = 0 ∧ n = 0 ∨ 0 < n ∧ 10 ^ (n - 1) ≤ v ∧ v < 10 ^ n
theorem rnearest_f (v n : Nat) (x : Int) (K : Nat) (hn : n ≤ 1000) (hs : SizeOk v n) (hx0 : -100000000 ≤ x) (hx1 : x ≤ 100000000) (hK : DecNear v x K) :
  Runs (fun k => r_nearest.f k (M v) x (n : Int)) (K : Int) := by
 simp only [r_nearest.f]
 rw [w64 (n := (n : Int) + x) (by omega) (by omega)]
 rcases hs with ⟨rfl, rfl⟩ | ⟨hn0, hlo, hhi⟩
 ·
  rw [M_zero]
  refine Runs.yes rfl (Runs.suc ?_)
  simp only [r_nearest.j0]
  exact Runs.yes trivial ((Runs.pure _).of (by rw [hK.zero]; rfl))
 ·
  have hv : 0 < v := Nat.lt_of_lt_of_le (Nat.pow_pos (by decide)) hlo
  have hne : (M v).length ≠ 0 := fun h => by have := (M_nil_iff v).1 h; omega
  refine Runs.no (by omega) (Runs.suc ?_)
  simp only [r_nearest.j0]
  by_cases h1 : (n : Int) + x < -340
  ·
   refine Runs.yes (decide_eq_true h1) ((Runs.pure _).of ?_)
   rw [hK.unique (dec_zero_small hhi (by omega))]; rfl
  ·
   refine Runs.no (by simpa using h1) ?_
   rw [w64 (n := (n : Int) + x) (by omega) (by omega)]
   by_cases h2 : (n : Int) + x > 320
   ·
    refine Runs.yes h2 ((Runs.pure _).of ?_)
    rw [hK.unique (dec_inf_great hlo (by omega))]; rfl
   ·
    refine Runs.no h2 ?_
    have hX : v < 2 ^ (4 * n) := by
     refine Nat.lt_of_lt_of_le hhi ?_
     rw [Nat.pow_mul]
     exact Nat.pow_le_pow_left (by decide) n
    have h00 : rungVal 0 = 0 := rfl
    have := rnear_l0 v x (4 * n) (by omega) (by omega) hX (by omega) K hK INF 0 INF (by omega) (by decide) (Nat.le_refl _) (by rw [h00, Nat.zero_mul]; exact Nat.zero_le _) (.inl rfl)
    exact this
end Go.Proofs.YtjlnfnfdibfniaaDoor.Pl
namespace Go.Proofs.YtjlnfnfdibfniaaDoor.Pl
open F Hd Go.RowKit Go.Proofs.YtjlnfnfdibfniaaDoorW.PrintWords Go.Proofs.YtjlnfnfdibfniaaDoorW.PrintMore
theorem near_bits {N D a b q t m rest E r : Nat} (h1 : q * (D * 2 ^ a) ≤ N * 2 ^ b) (h2 : N * 2 ^ b < (q + 1) * (D * 2 ^ a)) (ht : 1 ≤ t) (hE : E + b = a + t)
  (hq : q = 2 ^ t * m + rest) (hrest : rest < 2 ^ t) (hm : m < 9007199254740992) (hEm : E = 0 ∨ 4503599627370496 ≤ m)
  (hr : r = 1 ∧ (2 ^ (t - 1) < rest ∨ rest = 2 ^ (t - 1) ∧ (q * (D * 2 ^ a) < N * 2 ^ b ∨ m % 2 = 1)) ∨ r = 0 ∧ (rest < 2 ^ (t - 1) ∨ rest = 2 ^ (t - 1) ∧ q * (D * 2 ^ a) = N * 2 ^ b ∧ m % 2 = 0)) :
  IsNear N D (min (E * 4503599627370496 + m + r) INF) := by
 have hPQ : 2 ^ E * 2 ^ b = 2 ^ a * 2 ^ t := by rw [← Nat.pow_add, ← Nat.pow_add, hE]
 have hT : 2 ^ t = 2 * 2 ^ (t - 1) := by rw [← Nat.pow_succ']; congr 1; omega
 have e0 := rung_of hEm hm
 have e1 := rung_next hEm hm
 have hQ : 0 < 2 ^ b := Nat.two_pow_pos b
 have hpar : (E * 4503599627370496 + m) % 2 = m % 2 := by omega
 have emid : mid (E * 4503599627370496 + m) * D * 2 ^ b = 2 * (2 ^ t * m * (D * 2 ^ a)) + 2 * (2 ^ (t - 1) * (D * 2 ^ a)) := by
  unfold mid
  rw [e0, e1]
  generalize 2 ^ E = P at *
  generalize 2 ^ b = Q at *
  generalize 2 ^ a = A at *
  generalize 2 ^ t = T at *
  generalize 2 ^ (t - 1) = h at *
  grind
 have elow : m * 2 ^ E * D * 2 ^ b = 2 ^ t * m * (D * 2 ^ a) := by
  generalize 2 ^ E = P at *
  generalize 2 ^ b = Q at *
  generalize 2 ^ a = A at *
  generalize 2 ^ t = T at *
  grind
 have ehigh : (m + 1) * 2 ^ E * D * 2 ^ b = 2 ^ t * m * (D * 2 ^ a) + 2 ^ t * (D * 2 ^ a) := by
  generalize 2 ^ E = P at *
  generalize 2 ^ b = Q at *
  generalize 2 ^ a = A at *
  generalize 2 ^ t = T at *
  grind
 have k1 : q * (D * 2 ^ a) = 2 ^ t * m * (D * 2 ^ a) + rest * (D * 2 ^ a) := by rw [hq, Nat.add_mul]
 have k2 : (q + 1) * (D * 2 ^ a) = q * (D * 2 ^ a) + D * 2 ^ a := by rw [Nat.add_mul, Nat.one_mul]
 have k3 : rest * (D * 2 ^ a) + D * 2 ^ a ≤ 2 ^ t * (D * 2 ^ a) := by
  have := Nat.mul_le_mul_right (D * 2 ^ a) (show rest + 1 ≤ 2 ^ t from hrest)
  rwa [Nat.add_mul, Nat.one_mul] at this
 have k4 : ∀ x y : Nat, x < y → x * (D * 2 ^ a) + D * 2 ^ a ≤ y * (D * 2 ^ a) := by
  intro x y h
  have := Nat.mul_le_mul_right (D * 2 ^ a) (show x + 1 ≤ y from h)
  rwa [Nat.add_mul, Nat.one_mul] at this
 have k5 := k4 rest (2 ^ (t - 1))
 have k6 := k4 (2 ^ (t - 1)) rest
 rw [k2, k1] at h2
 rw [k1] at h1 hr
 have hA : 0 < D * 2 ^ a := by omega
 generalize 2 ^ t * m * (D * 2 ^ a) = U at *
 generalize hR : rest * (D * 2 ^ a) = R at *
 generalize hH : 2 ^ (t - 1) * (D * 2 ^ a) = H at *
 generalize 2 ^ t * (D * 2 ^ a) = TT at *
 generalize D * 2 ^ a = A at *
 have eRH : rest = 2 ^ (t - 1) → R = H := fun h => by rw [← hR, ← hH, h]
 refine near_of ?_ ?_ ?_
 ·
  rw [e0]
  refine Nat.le_of_mul_le_mul_right (c := 2 ^ b) ?_ hQ
  rw [elow]; omega
 ·
  rw [e1]
  refine Nat.lt_of_mul_lt_mul_right (a := 2 ^ b) ?_
  rw [ehigh]; omega
 ·
  have lt1 : ∀ x y : Nat, x * 2 ^ b < y * 2 ^ b → x < y := fun x y h => Nat.lt_of_mul_lt_mul_right (a := 2 ^ b) h
  have eq1 : ∀ x y : Nat, x * 2 ^ b = y * 2 ^ b → x = y := fun x y h => Nat.eq_of_mul_eq_mul_right hQ h
  have e2 : 2 * N * 2 ^ b = 2 * (N * 2 ^ b) := Nat.mul_assoc ..
  rw [hpar]
  rcases hr with ⟨rfl, h⟩ | ⟨rfl, h⟩
  ·
   refine .inr ⟨rfl, ?_⟩
   rcases h with h | ⟨h, h'⟩
   ·
    refine .inl (lt1 _ _ ?_)
    rw [emid, e2]; have := k6 h; omega
   ·
    have := eRH h
    rcases h' with h' | h'
    ·
     refine .inl (lt1 _ _ ?_)
     rw [emid, e2]; omega
    ·
     rcases Nat.lt_or_ge (U + R) (N * 2 ^ b) with c | c
     ·
      refine .inl (lt1 _ _ ?_)
      rw [emid, e2]; omega
     ·
      refine .inr ⟨eq1 _ _ ?_, h'⟩
      rw [emid, e2]; omega
  ·
   refine .inl ⟨rfl, ?_⟩
   rcases h with h | ⟨h, h', h''⟩
   ·
    refine .inl (lt1 _ _ ?_)
    rw [emid, e2]; have := k5 h; omega
   ·
    have := eRH h
    refine .inr ⟨eq1 _ _ ?_, h''⟩
    rw [emid, e2]; omega
theorem wraps_u64 (n : Int) (h0 : 0 ≤ n) (h1 : n < 2 ^ 64) : IntKind.u64.wrap n = n := by rw [IntKind.wrap_u64]; omega
theorem near_j2 (M : Nat) (E : Nat) (x : Int) (hx : x = (E : Int) - 1074) (hE : E ≤ 1000000) (hM : M < 9007199254740992) (hEM : E = 0 ∨ 4503599627370496 ≤ M) :
  Runs (fun k => num_nearest.j2 k x (M : Int)) ((min (E * 4503599627370496 + M) INF : Nat) : Int) := by
 refine Runs.suc ?_
 simp only [num_nearest.j2]
 have hI : INF = 9218868437227405312 := rfl
 by_cases h1 : x > 971
 ·
  refine Runs.yes h1 ((Runs.pure _).of ?_)
  omega
 ·
  refine Runs.no h1 ?_
  by_cases h2 : M < 4503599627370496
  ·
   refine Runs.yes (by omega) ((Runs.pure _).of ?_)
   omega
  ·
   refine Runs.no (by omega) ((Runs.pure _).of ?_)
   have e1 : Go.bits .and .u64 (M : Int) 4503599627370495 = ((M - 4503599627370496 : Nat) : Int) := by
    have := bits_mask .u64 64 (by decide) wraps_u64 52 (by decide) (M : Int) (by omega) (by omega)
    have e : (2 : Int) ^ 52 = 4503599627370496 := by decide
    rw [e] at this
    rw [show (4503599627370495 : Int) = 4503599627370496 - 1 by decide, this]; omega
   rw [e1, w64 (n := x - -1074) (by omega) (by omega), w64 (by omega) (by omega), u64w (n := x - -1074 + 1) (by omega) (by omega), u64w (by omega) (by omega)]
   have e52 : (2 : Int) ^ 52 = 4503599627370496 := by decide
   have e64 : (2 : Int) ^ 64 = 18446744073709551616 := by decide
   rw [bits_join .u64 64 (by decide) wraps_u64 52 _ _ (by omega) (by rw [e52]; omega) (by rw [e64]; omega) (by omega) (by rw [e52]; omega) (by rw [e64]; omega)]
   omega
theorem near_j1 (M : Nat) (E t : Nat) (x : Int) (hx : x + t = (E : Int) - 1074) (_ht : t ≤ 100000) (hE : E ≤ 100000) (hM : M ≤ 9007199254740992) (hEM : E = 0 ∨ 4503599627370496 ≤ M) :
  Runs (fun k => num_nearest.j1 k x (t : Int) (M : Int)) ((min (E * 4503599627370496 + M) INF : Nat) : Int) := by
 refine Runs.suc ?_
 simp only [num_nearest.j1]
 rw [w64 (n := x + t) (by omega) (by omega), w64 (by omega) (by omega)]
 by_cases h1 : M = 9007199254740992
 ·
  refine Runs.yes (by omega) ?_
  refine (near_j2 4503599627370496 (E + 1) _ (by omega) (by omega) (by omega) (by omega)).of ?_
  omega
 ·
  refine Runs.no (by omega) ?_
  exact near_j2 M E _ hx (by omega) (by omega) hEM
theorem near_j0 (m r : Nat) (E t : Nat) (x : Int) (hx : x + t = (E : Int) - 1074) (ht : t ≤ 100000) (hE : E ≤ 100000) (hM : m < 9007199254740992) (hEM : E = 0 ∨ 4503599627370496 ≤ m) (f : Bool) (hf : r = if f = true then 1 else 0) :
  Runs (fun k => num_nearest.j0 k x (t : Int) (m : Int) f) ((min (E * 4503599627370496 + m + r) INF : Nat) : Int) := by
 refine Runs.suc ?_
 simp only [num_nearest.j0]
 rw [u64w (by omega) (by omega)]
 cases f with
 | true =>
  rw [if_pos rfl] at hf
  refine Runs.yes rfl ?_
  have := near_j1 (m + 1) E t x hx ht hE (by omega) (by omega)
  rw [hf, Nat.add_assoc]; exact this
 | false =>
  rw [if_neg Bool.false_ne_true] at hf
  refine Runs.no Bool.false_ne_true ?_
  rw [hf, Nat.add_zero]
  exact near_j1 m E t x hx ht hE (by omega) hEM
theorem nearest_f (q : Nat) (e : Int) (more : Bool) (N D a b : Nat) (hq0 : 2 ^ 54 ≤ q) (hq1 : q < 2 ^ 60) (he : (a : Int) - b = e + 1074) (ha : a ≤ 50000) (hb : b ≤ 50000)
  (h1 : q * (D * 2 ^ a) ≤ N * 2 ^ b) (h2 : N * 2 ^ b < (q + 1) * (D * 2 ^ a)) (hm : more = decide (q * (D * 2 ^ a) < N * 2 ^ b)) :
  ∃ K : Nat, IsNear N D K ∧ Runs (fun k => num_nearest.f k (q : Int) e more) (K : Int) := by
 obtain ⟨g1, g2⟩ := bitLen_spec 64 q (by omega)
 obtain ⟨g2, g3⟩ := g2 (by omega)
 obtain ⟨s, hs⟩ : ∃ s, s = Lib.bitLenAux 64 q := ⟨_, rfl⟩
 rw [← hs] at g1 g2 g3
 have hs0 : 55 ≤ s := by
  rcases Nat.lt_or_ge s 55 with c | c
  ·
   have := Nat.pow_le_pow_right (n := 2) (by decide) (show s ≤ 54 by omega); omega
  ·
   exact c
 have hs1 : s ≤ 60 := by
  rcases Nat.lt_or_ge 60 s with c | c
  ·
   have := Nat.pow_le_pow_right (n := 2) (by decide) (show 60 ≤ s - 1 by omega); omega
  ·
   exact c
 obtain ⟨t, ht⟩ : ∃ t : Nat, (t : Int) = mx ((s : Int) - 53) (-1074 - e) := ⟨(mx ((s : Int) - 53) (-1074 - e)).toNat, by unfold mx; split <;> omega⟩
 have hmx := ht
 unfold mx at hmx
 obtain ⟨E, hE⟩ : ∃ E : Nat, E + b = a + t := ⟨a + t - b, by split at hmx <;> omega⟩
 have ht1 : s ≤ 53 + t := by split at hmx <;> omega
 have hEt : E = 0 ∧ s < 53 + t ∨ s = 53 + t := by split at hmx <;> omega
 have ht2 : 2 ≤ t := by omega
 have ht3 : t ≤ 60000 := by split at hmx <;> omega
 have hl : Lib.bitLen q = s := hs.symm
 have hT : 0 < 2 ^ t := Nat.two_pow_pos t
 have hdm : q = 2 ^ t * (q / 2 ^ t) + q % 2 ^ t := (Nat.div_add_mod q (2 ^ t)).symm
 have hrl : q % 2 ^ t < 2 ^ t := Nat.mod_lt _ hT
 have hm53 : q / 2 ^ t < 9007199254740992 := by
  refine Nat.div_lt_of_lt_mul ?_
  have := Nat.pow_le_pow_right (n := 2) (by decide) ht1
  rw [Nat.pow_add, show (2 : Nat) ^ 53 = 9007199254740992 by decide] at this
  rw [Nat.mul_comm]; omega
 have hEm : E = 0 ∨ 4503599627370496 ≤ q / 2 ^ t := by
  rcases hEt with c | c
  ·
   exact .inl c.1
  ·
   refine .inr ((Nat.le_div_iff_mul_le hT).2 ?_)
   rw [show (4503599627370496 : Nat) = 2 ^ 52 by decide, ← Nat.pow_add, show 52 + t = s - 1 by omega]
   exact g3
 have hx : e + t = (E : Int) - 1074 := by omega
 have core := fun r hr => near_bits (r := r) h1 h2 (by omega) hE hdm hrl hm53 hEm hr
 have mod2 : ((q / 2 ^ t : Nat) : Int).tmod 2 = ((q / 2 ^ t % 2 : Nat) : Int) := by rw [Int.tmod_eq_emod_of_nonneg (Int.natCast_nonneg _)]; exact (Int.natCast_emod ..).symm
 simp only [num_nearest.f]
 have eL : bits_Len64.f (q : Int) = some (s : Int) := by
  unfold bits_Len64.f
  rw [if_pos (by omega), Int.toNat_natCast, hl]
 rw [eL]
 simp only [Option.bind_some]
 rw [w64 (n := (s : Int) - 52) (by omega) (by omega), w64 (n := (s : Int) - 52 - 1) (by omega) (by omega), w64 (n := -1074 - e) (by omega) (by omega), show (s : Int) - 52 - 1 = (s : Int) - 53 by omega, ← ht]
 by_cases hbig : t > 63
 ·
  refine ⟨_, core 0 (.inr ⟨rfl, ?_⟩), ?_⟩
  ·
   have hqs : q < 2 ^ 60 := hq1
   have : 2 ^ 60 ≤ 2 ^ (t - 1) := Nat.pow_le_pow_right (by decide) (by omega)
   left
   exact Nat.lt_of_le_of_lt (Nat.mod_le _ _) (by omega)
  ·
   refine Runs.yes (by omega) ((Runs.pure _).of ?_)
   have : q / 2 ^ t = 0 := by
    refine Nat.div_eq_of_lt ?_
    have : 2 ^ 60 ≤ 2 ^ t := Nat.pow_le_pow_right (by decide) (by omega)
    omega
   rw [this]
   have : E = 0 := by omega
   subst this
   rfl
 ·
  have ht63 : t ≤ 63 := by omega
  have hT64 : 2 ^ t ≤ 2 ^ 63 := Nat.pow_le_pow_right (by decide) ht63
  have hTh : 2 ^ (t - 1) ≤ 2 ^ 63 := Nat.pow_le_pow_right (by decide) (by omega)
  rw [w64 (n := (t : Int) - 1) (by omega) (by omega), show (t : Int) - 1 = ((t - 1 : Nat) : Int) by omega]
  have sh1 : ∀ j : Nat, j ≤ 63 → shl .u64 1 (j : Int) = ((2 ^ j : Nat) : Int) := by
   intro j hj
   unfold shl
   have e : min (j : Int).toNat IntKind.u64.bits = j := by rw [Int.toNat_natCast]; show min j 64 = j; omega
   rw [e, Int.one_mul]
   have e2 : (2 : Int) ^ j = ((2 ^ j : Nat) : Int) := by simp
   have := Nat.pow_le_pow_right (n := 2) (by decide) hj
   rw [e2]
   generalize 2 ^ j = z at *
   exact u64w (by omega) (by omega)
  have shr1 : shr .u64 (q : Int) (t : Int) = ((q / 2 ^ t : Nat) : Int) := by
   unfold shr
   have e : min (t : Int).toNat IntKind.u64.bits = t := by rw [Int.toNat_natCast]; show min t 64 = t; omega
   rw [e]; simp
  have msk : Go.bits .and .u64 (q : Int) (((2 ^ t : Nat) : Int) - 1) = ((q % 2 ^ t : Nat) : Int) := by
   have := bits_mask .u64 64 (by decide) wraps_u64 t (by omega) (q : Int) (by omega) (by omega)
   have e : ((2 : Int) ^ t) = ((2 ^ t : Nat) : Int) := by simp
   rw [e] at this
   rw [this]; exact (Int.natCast_emod ..).symm
  rw [sh1 t ht63, sh1 (t - 1) (by omega), shr1, u64w (n := ((2 ^ t : Nat) : Int) - 1) (by omega) (by omega), msk]
  have hE5 : E ≤ 100000 := by omega
  have j0 := fun r f hf => near_j0 (q / 2 ^ t) r E t e hx (by omega) hE5 hm53 hEm f hf
  rw [mod2]
  by_cases c1 : 2 ^ (t - 1) < q % 2 ^ t
  ·
   refine ⟨_, core 1 (.inl ⟨rfl, .inl c1⟩), ?_⟩
   exact Runs.no (by omega) (Runs.yes (by omega) (Runs.yes (by omega) (Runs.yes (by omega) (j0 1 true rfl))))
  ·
   by_cases c2 : q % 2 ^ t = 2 ^ (t - 1)
   ·
    cases hmore : more with
    | true =>
     rw [hmore] at hm
     have := of_decide_eq_true hm.symm
     refine ⟨_, core 1 (.inl ⟨rfl, .inr ⟨c2, .inl this⟩⟩), ?_⟩
     exact Runs.no (by omega) (Runs.yes (by omega) (Runs.yes (by omega) (Runs.no (by omega) (Runs.yes (by omega) (Runs.yes rfl (j0 1 true rfl))))))
    | false =>
     rw [hmore] at hm
     have := of_decide_eq_false hm.symm
     by_cases c3 : q / 2 ^ t % 2 = 1
     ·
      refine ⟨_, core 1 (.inl ⟨rfl, .inr ⟨c2, .inr c3⟩⟩), ?_⟩
      refine Runs.no (by omega) (Runs.yes (by omega) (Runs.yes (by omega) (Runs.no (by omega) (Runs.yes (by omega) (Runs.no Bool.false_ne_true (j0 1 _ ?_))))))
      rw [c3]; rfl
     ·
      refine ⟨_, core 0 (.inr ⟨rfl, .inr ⟨c2, by omega, by omega⟩⟩), ?_⟩
      refine Runs.no (by omega) (Runs.yes (by omega) (Runs.yes (by omega) (Runs.no (by omega) (Runs.yes (by omega) (Runs.no Bool.false_ne_true (j0 0 _ ?_))))))
      rw [show q / 2 ^ t % 2 = 0 by omega]; rfl
   ·
    refine ⟨_, core 0 (.inr ⟨rfl, .inl (by omega)⟩), ?_⟩
    exact Runs.no (by omega) (Runs.yes (by omega) (Runs.yes (by omega) (Runs.no (by omega) (Runs.no (by omega) (j0 0 false rfl)))))
end Go.Proofs.YtjlnfnfdibfniaaDoor.Pl
namespace Go.Proofs.YtjlnfnfdibfniaaDoor.Pl
open F Hd Go.RowKit Go.Proofs.YtjlnfnfdibfniaaDoorW.PrintWords Go.Proofs.YtjlnfnfdibfniaaDoorW.PrintMore
theorem extract_upto (s : ByteArray) (i : Nat) : (s.extract 0 i).data.toList = s.data.toList.take i := by
 rw [ByteArray.data_extract, Array.toList_extract]; simp
theorem extract_from (s : ByteArray) (a : Nat) : (s.extract a s.size).data.toList = s.data.toList.drop a := by
 rw [ByteArray.data_extract, Array.toList_extract]
 have : s.size = s.data.toList.length := by rw [Array.length_toList]; rfl
 rw [List.extract_eq_take_drop, this, List.take_of_length_le (by rw [List.length_drop]; omega)]
theorem len_data (s : ByteArray) : s.data.toList.length = s.size := by rw [Array.length_toList]; rfl
theorem bytes_ext {a b : ByteArray} (h : a.data.toList = b.data.toList) : a = b := by
 cases a; cases b; simp at h; simp [h]
theorem bt_get (s : ByteArray) (i : Nat) (h : i < s.data.toList.length) : bt s (i : Int) = (s.data.toList[i].toNat : Int) := by
 have h' : i < s.size := by rw [← len_data]; exact h
 unfold bt
 simp only [Int.toNat_natCast]
 rw [dif_pos h']
 simp [ByteArray.getElem_eq_getElem_data]
theorem digit_f (c : UInt8) : num_digit.f (c.toNat : Int) = some (isDig c) := by
 unfold num_digit.f isDig
 by_cases h : 48 ≤ c.toNat
 ·
  rw [if_pos (by omega)]
  have : decide ((c.toNat : Int) ≤ 57) = decide (c.toNat ≤ 57) := decide_eq_decide.2 (by omega)
  simp [h, this]
 ·
  rw [if_neg (by omega)]; simp [h]
theorem refdigit_f (c : UInt8) : r_digit.f (c.toNat : Int) = some (isDig c) := digit_f c
theorem run_l0 (s : ByteArray) (hs : s.size ≤ 140737488351232) : ∀ (d i : Nat), i + d = s.data.toList.length → ∀ k, d < k → num_run.l0 k s (i : Int) = some (((i + ((s.data.toList.drop i).takeWhile isDig).length : Nat)) : Int) := by
 intro d
 induction d with
 | zero =>
  intro i hi k hk
  obtain ⟨k, rfl⟩ : ∃ k', k = k' + 1 := ⟨k - 1, by omega⟩
  rw [num_run.l0, if_neg (by rw [← len_data]; omega), List.drop_of_length_le (by omega)]
  simp
 | succ d ih =>
  intro i hi k hk
  obtain ⟨k, rfl⟩ : ∃ k', k = k' + 1 := ⟨k - 1, by omega⟩
  have hl : i < s.data.toList.length := by omega
  rw [num_run.l0, if_pos (by rw [← len_data]; omega), if_pos (by omega), bt_get s i hl, digit_f, Option.bind_some, List.drop_eq_getElem_cons hl, List.takeWhile_cons]
  have hlen := len_data s
  cases hd : isDig s.data.toList[i] with
  | true =>
   have hw : wrap64 ((i : Int) + 1) = ((i + 1 : Nat) : Int) := by rw [w64 (by omega) (by omega)]; omega
   rw [if_pos rfl, if_pos rfl, hw, ih (i + 1) (by omega) k (by omega), List.length_cons]
   congr 1; omega
  | false => rw [if_neg (by decide), if_neg (by decide)]; simp
theorem run_f (s : ByteArray) (hs : s.size ≤ 140737488351232) (k : Nat) (hk : s.size < k) : num_run.f k s = some ((s.data.toList.takeWhile isDig).length : Int) := by
 unfold num_run.f
 have := run_l0 s hs s.data.toList.length 0 (by omega) k (by rw [len_data]; exact hk)
 simpa using this
theorem takeWhile_all (l : List UInt8) : (l.takeWhile isDig).length = l.length ↔ ∀ c ∈ l, isDig c = true := by
 induction l with
 | nil => simp
 | cons a l ih =>
  rw [List.takeWhile_cons]
  cases h : isDig a with
  | true => simp [ih, h]
  | false => simp [h]
theorem sub48 (c : UInt8) (h : isDig c = true) : ((c.toNat : Int) - 48) % 256 = ((c.toNat - 48 : Nat) : Int) ∧ c.toNat - 48 ≤ 9 := by
 simp only [isDig, Bool.and_eq_true, decide_eq_true_eq] at h
 omega
end Go.Proofs.YtjlnfnfdibfniaaDoor.Pl
namespace Go.Proofs.YtjlnfnfdibfniaaDoor.Pl
open F Hd Go.RowKit Go.Proofs.YtjlnfnfdibfniaaDoorW.PrintWords Go.Proofs.YtjlnfnfdibfniaaDoorW.PrintMore
theorem few_two {n m : Nat} (h : n < 2 ^ m) (hm : m ≤ 31000000) : Few n := by
 refine few_of (s := m / 32 + 1) (Nat.lt_of_lt_of_le h ?_) (by omega)
 rw [show (4294967296 : Nat) = 2 ^ 32 by decide, ← Nat.pow_mul]
 exact Nat.pow_le_pow_right (by decide) (by omega)
theorem L_len (r : Nat) : decide ((0 : Nat) < (L r).length) = decide (0 < r) := by
 rcases Nat.eq_zero_or_pos r with h | h
 ·
  rw [h, L_zero]; rfl
 ·
  obtain ⟨l, x, e, _, _⟩ := lim_last (B := 4294967296) (by decide) r h
  have : 0 < (L r).length := by unfold L; rw [e]; simp
  rw [decide_eq_true this, decide_eq_true h]
theorem bits_l1 (s : Nat) (x7 : Int) (hs : Few (s * 2 ^ 58)) (K : Int) : ∀ j : Nat, j ≤ 58 → ∀ r q : Nat, Few r → r < s * 2 ^ j → q % 2 ^ j = 0 → q + 2 ^ j ≤ 2 ^ 58 →
  Runs (fun k => num_nearest.f k ((q + r / s : Nat) : Int) (wrap64 (-x7)) (decide (0 < r % s))) K → Runs (fun k => num_decimal_bits.l1 k (L r) (L s) x7 (q : Int) ((j : Int) - 1)) K := by
 intro j
 induction j with
 | zero =>
  intro _ r q hr hlt _ _ hK
  rw [Nat.pow_zero, Nat.mul_one] at hlt
  rw [Nat.div_eq_of_lt hlt, Nat.mod_eq_of_lt hlt, Nat.add_zero] at hK
  refine Runs.suc ?_
  simp only [num_decimal_bits.l1]
  refine Runs.no (by omega) ?_
  have e : decide ((0 : Int) < ((L r).length : Int)) = decide (0 < r) := by
   rw [← L_len r]; exact decide_eq_decide.2 (by omega)
  simp only [L_len]
  exact Runs.bind hK (Runs.pure _)
 | succ j ih =>
  intro hj r q hr hlt hq hqb hK
  refine Runs.suc ?_
  simp only [num_decimal_bits.l1]
  rw [show ((j + 1 : Nat) : Int) - 1 = (j : Int) by omega, w64 (n := (j : Int) - 1) (by omega) (by omega)]
  have hp : 2 ^ (j + 1) = 2 * 2 ^ j := by rw [Nat.pow_succ, Nat.mul_comm]
  have hp58 : 2 ^ (j + 1) ≤ 2 ^ 58 := Nat.pow_le_pow_right (by decide) hj
  have hst : s * 2 ^ j ≤ s * 2 ^ 58 := Nat.mul_le_mul_left _ (by omega)
  have hs1 : Few s := few_mono (Nat.le_mul_of_pos_right s (Nat.two_pow_pos 58)) hs
  refine Runs.yes (by omega) (Runs.bind (up_f s j hs1 (by omega)) (Runs.bind (against_f r (s * 2 ^ j) hr) ?_))
  have hq2 : q % 2 ^ j = 0 := by
   have h1 : 2 ^ j ∣ 2 ^ (j + 1) := ⟨2, by rw [hp]; exact Nat.mul_comm ..⟩
   exact Nat.mod_eq_zero_of_dvd (Nat.dvd_trans h1 (Nat.dvd_of_mod_eq_zero hq))
  by_cases hc : s * 2 ^ j ≤ r
  ·
   refine Runs.yes (by unfold cmpN; rw [if_neg (by omega)]; split <;> omega) (Runs.bind (less_f r (s * 2 ^ j) hr hc) ?_)
   refine Runs.yes (by omega) ?_
   have hsh : shl .u64 1 (j : Int) = ((2 ^ j : Nat) : Int) := by
    unfold shl
    have e : min (j : Int).toNat IntKind.u64.bits = j := by rw [Int.toNat_natCast]; show min j 64 = j; omega
    rw [e, Int.one_mul]
    have e2 : (2 : Int) ^ j = ((2 ^ j : Nat) : Int) := by simp
    rw [e2]
    generalize 2 ^ j = z at *
    exact u64w (by omega) (by omega)
   have hor : Go.bits .or .u64 (q : Int) ((2 ^ j : Nat) : Int) = ((q + 2 ^ j : Nat) : Int) := by
    have e64 : (2 : Int) ^ 64 = 18446744073709551616 := by decide
    have ej : ((2 : Int) ^ (j + 1)) = ((2 ^ (j + 1) : Nat) : Int) := by simp
    have hlt2 : 2 ^ j < 2 ^ (j + 1) := by have := Nat.two_pow_pos j; omega
    rw [bits_join .u64 64 (by decide) wraps_u64 (j + 1) (q : Int) _ (by omega) (by rw [ej, ← Int.natCast_emod, hq]; rfl) (by rw [e64]; omega) (Int.natCast_nonneg _) (by rw [ej]; exact Int.ofNat_lt.2 hlt2) (by rw [e64]; generalize 2 ^ j = z at *; omega)]
    exact (Int.natCast_add ..).symm
   rw [hsh, hor]
   have hs0 : 0 < s := by
    rcases Nat.eq_zero_or_pos s with h | h
    ·
     rw [h] at hlt; simp at hlt
    ·
     exact h
   have e1 : r = r - s * 2 ^ j + s * 2 ^ j := by omega
   have hdiv : r / s = (r - s * 2 ^ j) / s + 2 ^ j := by
    rw [e1, Nat.add_mul_div_left _ _ hs0, ← e1]
   have hmod : r % s = (r - s * 2 ^ j) % s := by
    rw [e1, Nat.add_mul_mod_self_left, ← e1]
   have hlt3 : r - s * 2 ^ j < s * 2 ^ j := by
    rw [hp, show s * (2 * 2 ^ j) = 2 * (s * 2 ^ j) by rw [Nat.mul_left_comm]] at hlt
    omega
   refine ih (by omega) (r - s * 2 ^ j) (q + 2 ^ j) (few_mono (Nat.sub_le ..) hr) hlt3 ?_ (by omega) ?_
   ·
    rw [Nat.add_mod, hq2, Nat.mod_self]; simp
   ·
    rw [← hmod, Nat.add_assoc, Nat.add_comm (2 ^ j), ← hdiv]; exact hK
  ·
   refine Runs.no (by unfold cmpN; rw [if_pos (by omega)]; omega) ?_
   exact ih (by omega) r q hr (by omega) hq2 (by omega) hK
theorem eq_aux1 (x s T Q : Nat) : x * (s * (T * Q)) = x * (s * Q) * T := by grind
theorem eq_aux2 (y r T : Nat) : y * (r * T * 1) = y * r * T := by grind
theorem eq_aux3 (y r T Q : Nat) : y * (r * T * Q) = y * (r * Q) * T := by grind
theorem bits_j2 (r s S : Nat) (hr0 : 0 < r) (hs0 : 0 < s) (hr : r < 2 ^ S) (hs : s < 2 ^ S) (hS : S ≤ 20000) :
  ∃ K : Nat, IsNear (r * 2 ^ 1074) s K ∧ Runs (fun k => num_decimal_bits.j2 k (L r) (L s)) (K : Int) := by
 obtain ⟨a, ea, a1, a2, a3⟩ := size_f r (few_two hr (by omega))
 obtain ⟨b, eb, b1, b2, b3⟩ := size_f s (few_two hs (by omega))
 obtain ⟨a2, a4⟩ := a2 hr0
 obtain ⟨b2, b4⟩ := b2 hs0
 have haS : a ≤ S := by
  rcases Nat.lt_or_ge S a with c | c
  ·
   have := Nat.pow_le_pow_right (n := 2) (by decide) (show S ≤ a - 1 by omega); omega
  ·
   exact c
 have hbS : b ≤ S := by
  rcases Nat.lt_or_ge S b with c | c
  ·
   have := Nat.pow_le_pow_right (n := 2) (by decide) (show S ≤ b - 1 by omega); omega
  ·
   exact c
 have main : ∀ (r1 s1 A B : Nat) (sh : Int), (A : Int) - B = 1074 - sh → A ≤ 50000 → B ≤ 50000 → -30000 ≤ sh → sh ≤ 30000 → (∃ S2, r1 < 2 ^ S2 ∧ s1 < 2 ^ S2 ∧ S2 ≤ 60000) → s1 * 2 ^ 55 ≤ r1 → r1 < s1 * 2 ^ 57 → (∀ x y : Nat, x * s1 ≤ y * r1 ↔ x * (s * 2 ^ A) ≤ y * (r * 2 ^ 1074 * 2 ^ B)) → (∀ x y : Nat, x * s1 < y * r1 ↔ x * (s * 2 ^ A) < y * (r * 2 ^ 1074 * 2 ^ B)) →
   ∃ K : Nat, IsNear (r * 2 ^ 1074) s K ∧ Runs (fun k => num_decimal_bits.j3 k (L r1) (L s1) sh) (K : Int) := by
  intro r1 s1 A B sh hAB hA hB hsh0 hsh1 hS2 hlo hhi hle hlt
  obtain ⟨S2, hr1, hs1, hS2⟩ := hS2
  have hs10 : 0 < s1 := by
   rcases Nat.eq_zero_or_pos s1 with h | h
   ·
    rw [h] at hhi; simp at hhi
   ·
    exact h
  have hq0 : 2 ^ 55 ≤ r1 / s1 := (Nat.le_div_iff_mul_le hs10).2 (by rw [Nat.mul_comm]; exact hlo)
  have hq1 : r1 / s1 < 2 ^ 57 := Nat.div_lt_of_lt_mul hhi
  have hdm := Nat.div_add_mod r1 s1
  have hml := Nat.mod_lt r1 hs10
  have c1 : r1 / s1 * (s * 2 ^ A) ≤ r * 2 ^ 1074 * 2 ^ B := by
   have := (hle (r1 / s1) 1).1 (by rw [Nat.one_mul]; exact Nat.div_mul_le_self ..)
   rwa [Nat.one_mul] at this
  have c2 : r * 2 ^ 1074 * 2 ^ B < (r1 / s1 + 1) * (s * 2 ^ A) := by
   have h : ¬ (r1 / s1 + 1) * s1 ≤ 1 * r1 := by
    rw [Nat.one_mul, Nat.add_mul, Nat.one_mul, Nat.mul_comm (r1 / s1)]; omega
   have := Nat.lt_of_not_le (fun g => h ((hle (r1 / s1 + 1) 1).2 g))
   rwa [Nat.one_mul] at this
  have c3 : decide (0 < r1 % s1) = decide (r1 / s1 * (s * 2 ^ A) < r * 2 ^ 1074 * 2 ^ B) := by
   have h := hlt (r1 / s1) 1
   rw [Nat.one_mul, Nat.one_mul] at h
   refine decide_eq_decide.2 (Iff.trans ?_ h)
   rw [Nat.mul_comm (r1 / s1)]; omega
  obtain ⟨K, hK, hrun⟩ := nearest_f (r1 / s1) (-sh) (decide (0 < r1 % s1)) (r * 2 ^ 1074) s A B (by omega) (by omega) (by omega) hA hB c1 c2 c3
  refine ⟨K, hK, Runs.suc ?_⟩
  simp only [num_decimal_bits.j3]
  have hfr : Few r1 := few_two hr1 (by omega)
  have hfs : Few (s1 * 2 ^ 58) := few_two (m := S2 + 58) (by rw [Nat.pow_add]; exact Nat.mul_lt_mul_of_pos_right hs1 (Nat.two_pow_pos 58)) (by omega)
  have hhi2 : r1 < s1 * 2 ^ 58 := Nat.lt_of_lt_of_le hhi (Nat.mul_le_mul_left _ (by decide))
  refine bits_l1 s1 sh hfs (K : Int) 58 (Nat.le_refl _) r1 0 hfr hhi2 (Nat.zero_mod _) (by decide) ?_
  rw [Nat.zero_add, w64 (by omega) (by omega)]
  exact hrun
 have hsz : ∀ (n c : Nat), (∀ r, num_nat_size.f (L n) = some r ↔ r = (c : Int)) → num_nat_size.f (L n) = some (c : Int) := fun n c h => (h _).2 rfl
 have e1 := hsz r a ea
 have e2 := hsz s b eb
 have hsh : wrap64 (56 - (wrap64 ((a : Int) - (b : Int)))) = 56 - ((a : Int) - b) := by rw [w64 (n := (a : Int) - b) (by omega) (by omega), w64 (by omega) (by omega)]
 have ha1 : 2 ^ a = 2 * 2 ^ (a - 1) := by rw [← Nat.pow_succ']; congr 1; omega
 have hb1 : 2 ^ b = 2 * 2 ^ (b - 1) := by rw [← Nat.pow_succ']; congr 1; omega
 by_cases hc : (a : Int) - b ≤ 56
 ·
  obtain ⟨n, hn⟩ : ∃ n : Nat, (n : Int) = 56 - ((a : Int) - b) := ⟨(56 - ((a : Int) - b)).toNat, by omega⟩
  have hr1 : r * 2 ^ n < 2 ^ (S + S + 100) := by
   have h1 : r * 2 ^ n < 2 ^ S * 2 ^ n := Nat.mul_lt_mul_of_pos_right hr (Nat.two_pow_pos n)
   rw [← Nat.pow_add] at h1
   exact Nat.lt_of_lt_of_le h1 (Nat.pow_le_pow_right (by decide) (by omega))
  have hs1 : s < 2 ^ (S + S + 100) := Nat.lt_of_lt_of_le hs (Nat.pow_le_pow_right (by decide) (by omega))
  have hlo : s * 2 ^ 55 ≤ r * 2 ^ n := by
   have h1 : s * 2 ^ 55 ≤ 2 ^ b * 2 ^ 55 := Nat.mul_le_mul_right _ (Nat.le_of_lt b1)
   have h2 : 2 ^ (a - 1) * 2 ^ n ≤ r * 2 ^ n := Nat.mul_le_mul_right _ a4
   rw [← Nat.pow_add] at h1 h2
   rw [show b + 55 = a - 1 + n by omega] at h1
   exact Nat.le_trans h1 h2
  have hhi : r * 2 ^ n < s * 2 ^ 57 := by
   have h1 : r * 2 ^ n < 2 ^ a * 2 ^ n := Nat.mul_lt_mul_of_pos_right a1 (Nat.two_pow_pos n)
   have h2 : 2 ^ (b - 1) * 2 ^ 57 ≤ s * 2 ^ 57 := Nat.mul_le_mul_right _ b4
   rw [← Nat.pow_add] at h1 h2
   rw [show a + n = b - 1 + 57 by omega] at h1
   exact Nat.lt_of_lt_of_le h1 h2
  have hT : 0 < 2 ^ 1074 := Nat.two_pow_pos 1074
  have eq1 : ∀ x y : Nat, x * (s * 2 ^ 1074) = x * s * 2 ^ 1074 ∧ y * (r * 2 ^ 1074 * 2 ^ n) = y * (r * 2 ^ n) * 2 ^ 1074 := by
   intro x y
   generalize 2 ^ 1074 = T
   exact ⟨(Nat.mul_assoc ..).symm, eq_aux3 y r T (2 ^ n)⟩
  obtain ⟨K, hK, hrun⟩ := main (r * 2 ^ n) s 1074 n (n : Int) (by omega) (by decide) (by omega) (by omega) (by omega) ⟨_, hr1, hs1, by omega⟩ hlo hhi
   (fun x y => by rw [(eq1 x y).1, (eq1 x y).2]; exact ⟨fun h => Nat.mul_le_mul_right _ h, fun h => Nat.le_of_mul_le_mul_right h hT⟩)
   (fun x y => by rw [(eq1 x y).1, (eq1 x y).2]; exact ⟨fun h => Nat.mul_lt_mul_of_pos_right h hT, fun h => Nat.lt_of_mul_lt_mul_right h⟩)
  refine ⟨K, hK, Runs.suc ?_⟩
  simp only [num_decimal_bits.j2, e1, e2, Option.bind_some]
  rw [hsh, ← hn]
  exact Runs.yes (by omega) (Runs.bind (up_f r n (few_two hr (by omega)) (by omega)) hrun)
 ·
  obtain ⟨n, hn⟩ : ∃ n : Nat, (n : Int) = ((a : Int) - b) - 56 := ⟨(((a : Int) - b) - 56).toNat, by omega⟩
  have hr1 : r < 2 ^ (S + S + 100) := Nat.lt_of_lt_of_le hr (Nat.pow_le_pow_right (by decide) (by omega))
  have hs1 : s * 2 ^ n < 2 ^ (S + S + 100) := by
   have h1 : s * 2 ^ n < 2 ^ S * 2 ^ n := Nat.mul_lt_mul_of_pos_right hs (Nat.two_pow_pos n)
   rw [← Nat.pow_add] at h1
   exact Nat.lt_of_lt_of_le h1 (Nat.pow_le_pow_right (by decide) (by omega))
  have hlo : s * 2 ^ n * 2 ^ 55 ≤ r := by
   have h1 : s * (2 ^ n * 2 ^ 55) ≤ 2 ^ b * (2 ^ n * 2 ^ 55) := Nat.mul_le_mul_right _ (Nat.le_of_lt b1)
   rw [← Nat.mul_assoc, ← Nat.pow_add, ← Nat.pow_add] at h1
   rw [show b + (n + 55) = a - 1 by omega] at h1
   exact Nat.le_trans h1 a4
  have hhi : r < s * 2 ^ n * 2 ^ 57 := by
   have h2 : 2 ^ (b - 1) * (2 ^ n * 2 ^ 57) ≤ s * (2 ^ n * 2 ^ 57) := Nat.mul_le_mul_right _ b4
   rw [← Nat.mul_assoc s, ← Nat.pow_add, ← Nat.pow_add] at h2
   rw [show b - 1 + (n + 57) = a by omega] at h2
   exact Nat.lt_of_lt_of_le a1 h2
  have hT : 0 < 2 ^ 1074 := Nat.two_pow_pos 1074
  have eq1 : ∀ x y : Nat, x * (s * 2 ^ (1074 + n)) = x * (s * 2 ^ n) * 2 ^ 1074 ∧ y * (r * 2 ^ 1074 * 2 ^ 0) = y * r * 2 ^ 1074 := by
   intro x y
   rw [Nat.pow_add 2 1074 n, Nat.pow_zero]
   generalize 2 ^ 1074 = T
   exact ⟨eq_aux1 x s T (2 ^ n), eq_aux2 y r T⟩
  obtain ⟨K, hK, hrun⟩ := main r (s * 2 ^ n) (1074 + n) 0 (-(n : Int)) (by omega) (by omega) (by omega) (by omega) (by omega) ⟨_, hr1, hs1, by omega⟩ hlo hhi
   (fun x y => by rw [(eq1 x y).1, (eq1 x y).2]; exact ⟨fun h => Nat.mul_le_mul_right _ h, fun h => Nat.le_of_mul_le_mul_right h hT⟩)
   (fun x y => by rw [(eq1 x y).1, (eq1 x y).2]; exact ⟨fun h => Nat.mul_lt_mul_of_pos_right h hT, fun h => Nat.lt_of_mul_lt_mul_right h⟩)
  refine ⟨K, hK, Runs.suc ?_⟩
  simp only [num_decimal_bits.j2, e1, e2, Option.bind_some]
  rw [hsh, show 56 - ((a : Int) - b) = -(n : Int) by omega]
  refine Runs.no (by omega) ?_
  rw [w64 (n := - -(n : Int)) (by omega) (by omega), Int.neg_neg]
  exact Runs.bind (up_f s n (few_two hs (by omega)) (by omega)) hrun
end Go.Proofs.YtjlnfnfdibfniaaDoor.Pl
namespace Go.Proofs.YtjlnfnfdibfniaaDoor.Pl
open F Hd Go.RowKit Go.Proofs.YtjlnfnfdibfniaaDoorW.PrintWords Go.Proofs.YtjlnfnfdibfniaaDoorW.PrintMore
def mk (l : List UInt8) : ByteArray := ⟨l.toArray⟩
theorem mk_data (l : List UInt8) : (mk l).data.toList = l := by simp [mk]
theorem mk_self (s : ByteArray) : mk s.data.toList = s := bytes_ext (mk_data _)
theorem mk_size (l : List UInt8) : (mk l).size = l.length := by rw [← len_data, mk_data]
theorem mk_list (l : List UInt8) : (mk l).toList = l := by rw [ByteArray.toList_eq, mk_data]
theorem mk_upto (l : List UInt8) (i : Nat) : (mk l).extract 0 i = mk (l.take i) := bytes_ext (by rw [extract_upto, mk_data, mk_data])
theorem mk_from (l : List UInt8) (i : Nat) : (mk l).extract i l.length = mk (l.drop i) := bytes_ext (by rw [← mk_size l, extract_from, mk_data, mk_data])
theorem mk_part (l : List UInt8) (i j : Nat) : (mk l).extract i j = mk ((l.drop i).take (j - i)) := bytes_ext (by
 rw [ByteArray.data_extract, Array.toList_extract, List.extract_eq_take_drop, mk_data, mk_data])
theorem mk_append (a b : List UInt8) : mk a ++ mk b = mk (a ++ b) := bytes_ext (by rw [mk_data]; simp [ByteArray.data_append, mk])
theorem mk_bt (l : List UInt8) (i : Nat) (h : i < l.length) : bt (mk l) (i : Int) = (l[i].toNat : Int) := by
 rw [bt_get (mk l) i (by rw [mk_data]; exact h)]; simp [mk_data]
theorem mk_bt0 (c : UInt8) (r : List UInt8) : bt (mk (c :: r)) 0 = (c.toNat : Int) := mk_bt (c :: r) 0 (by simp)
theorem val_append (a b : List UInt8) : val (a ++ b) = val a * 10 ^ b.length + val b := by
 induction b using snoc_ind with
 | h0 => simp [val]
 | h1 l c ih =>
  rw [← List.append_assoc, val_snoc, val_snoc, ih, List.length_append, List.length_singleton, Nat.pow_succ]
  grind
theorem val_cons_le (c : UInt8) (r : List UInt8) (h : 49 ≤ c.toNat) : 10 ^ r.length ≤ val (c :: r) := by
 have := val_append [c] r
 rw [List.singleton_append] at this
 rw [this]
 have h1 : 1 ≤ val [c] := by simp [val]; omega
 have := Nat.mul_le_mul_right (10 ^ r.length) h1
 omega
theorem pow10_lt (n : Nat) : 10 ^ n < 2 ^ (4 * n + 1) := by
 have : 10 ^ n ≤ 16 ^ n := Nat.pow_le_pow_left (by decide) n
 have e : (16 : Nat) ^ n = 2 ^ (4 * n) := by rw [Nat.pow_mul]
 have := Nat.two_pow_pos (4 * n)
 rw [Nat.pow_succ]; omega
theorem bits_end (v : Nat) (x : Int) (n : Nat) (hv0 : 0 < v) (hv : v < 10 ^ n) (hn : n ≤ 1000) (h1 : -330 ≤ (n : Int) + x) (h2 : (n : Int) + x ≤ 310) (sz : Int) (s : ByteArray) (_hsz : sz = (s.size : Int)) :
  ∃ K : Nat, DecNear v x K ∧ Runs (fun k => num_decimal_bits.l0 k (L v) sz sz s x) (K : Int) := by
 obtain ⟨S, hS⟩ : ∃ S, S = 6001 := ⟨_, rfl⟩
 have l1 : v * 10 ^ x.toNat < 2 ^ S := by
  have h3 : v * 10 ^ x.toNat < 10 ^ n * 10 ^ x.toNat := Nat.mul_lt_mul_of_pos_right hv (Nat.pow_pos (by decide))
  rw [← Nat.pow_add] at h3
  have h4 := pow10_lt (n + x.toNat)
  have h5 : 2 ^ (4 * (n + x.toNat) + 1) ≤ 2 ^ S := Nat.pow_le_pow_right (by decide) (by omega)
  exact Nat.lt_of_lt_of_le (Nat.lt_trans h3 h4) h5
 have l2 : 10 ^ (-x).toNat < 2 ^ S := by
  have h4 := pow10_lt (-x).toNat
  have h5 : 2 ^ (4 * (-x).toNat + 1) ≤ 2 ^ S := Nat.pow_le_pow_right (by decide) (by omega)
  exact Nat.lt_of_lt_of_le h4 h5
 obtain ⟨K, hK, hrun⟩ := bits_j2 (v * 10 ^ x.toNat) (10 ^ (-x).toNat) S (Nat.mul_pos hv0 (Nat.pow_pos (by decide))) (Nat.pow_pos (by decide)) l1 l2 (by omega)
 refine ⟨K, hK, Runs.suc ?_⟩
 simp only [num_decimal_bits.l0]
 refine Runs.no (by omega) (Runs.bind (of_f 1 (by decide)) ?_)
 by_cases hx : x ≥ 0
 ·
  refine Runs.yes hx ?_
  have e : (-x).toNat = 0 := by omega
  rw [e, Nat.pow_zero] at hrun
  have ex : x = (x.toNat : Int) := by omega
  rw [ex]
  have := tens_f v x.toNat (few_two l1 (by omega)) (by omega)
  refine Runs.bind this ?_
  exact hrun
 ·
  refine Runs.no hx ?_
  have e : x.toNat = 0 := by omega
  rw [e, Nat.pow_zero, Nat.mul_one] at hrun
  rw [w64 (by omega) (by omega)]
  have ex : -x = ((-x).toNat : Int) := by omega
  rw [ex]
  have := tens_f 1 (-x).toNat (by rw [Nat.one_mul]; exact few_two l2 (by omega)) (by omega)
  rw [Nat.one_mul] at this
  exact Runs.bind this hrun
theorem bits_l0 (l : List UInt8) (hd : ∀ c ∈ l, isDig c = true) (hlen : l.length ≤ 1000) (x : Int) (K : Int) (hK : Runs (fun k => num_decimal_bits.l0 k (L (val l)) (l.length : Int) (l.length : Int) (mk l) x) K) :
  ∀ d i, i + d = l.length → Runs (fun k => num_decimal_bits.l0 k (L (val (l.take i))) (l.length : Int) (i : Int) (mk l) x) K := by
 intro d
 induction d with
 | zero =>
  intro i hi
  obtain rfl : i = l.length := by omega
  rw [List.take_length]; exact hK
 | succ d ih =>
  intro i hi
  have hil : i < l.length := by omega
  refine Runs.suc ?_
  simp only [num_decimal_bits.l0]
  obtain ⟨e1, e2⟩ := sub48 l[i] (hd _ (List.getElem_mem hil))
  rw [mk_size, mk_bt l i hil, e1, w64 (by omega) (by omega)]
  have hv := val_lt (l.take i) (fun c hc => hd c (List.mem_of_mem_take hc))
  rw [List.length_take, Nat.min_eq_left (by omega)] at hv
  have hf : Few (val (l.take i)) := few_two (Nat.lt_trans hv (pow10_lt i)) (by omega)
  refine Runs.yes (by omega) (Runs.yes (by omega) (Runs.yes (by omega) (Runs.bind (times_f _ 10 (l[i].toNat - 48) hf (by decide) (by omega)) ?_)))
  have := ih (i + 1) (by omega)
  rw [List.take_succ_eq_append_getElem hil, val_snoc, Nat.mul_comm] at this
  exact this
theorem bits_f (l : List UInt8) (x : Int) (hd : ∀ c ∈ l, isDig c = true) (hz : ∀ c r, l = c :: r → 49 ≤ c.toNat) (hlen : l.length ≤ 1000) (hx0 : -1000000 ≤ x) (hx1 : x ≤ 1000000) :
  ∃ K : Nat, DecNear (val l) x K ∧ Runs (fun k => num_decimal_bits.f k (mk l) x) (K : Int) := by
 simp only [num_decimal_bits.f]
 rw [mk_list, mk_size, w64 (by omega) (by omega)]
 have hv := val_lt l hd
 rcases l with _ | ⟨c, r⟩
 ·
  refine ⟨0, ?_, Runs.yes rfl (Runs.suc ?_)⟩
  ·
   show IsNear (0 * _ * _) _ 0
   rw [none_aux]
   exact near_none (Nat.pow_pos (by decide))
  ·
   simp only [num_decimal_bits.j0]
   exact Runs.yes trivial (Runs.pure _)
 ·
  have hv0 := val_cons_le c r (hz c r rfl)
  have hp : 0 < 10 ^ r.length := Nat.pow_pos (by decide)
  have hl : (c :: r).length = r.length + 1 := rfl
  by_cases h1 : ((c :: r).length : Int) + x < -330
  ·
   refine ⟨0, dec_zero_small hv (by omega), Runs.no (by simp) (Runs.suc ?_)⟩
   simp only [num_decimal_bits.j0]
   exact Runs.yes (decide_eq_true h1) (Runs.pure _)
  ·
   by_cases h2 : ((c :: r).length : Int) + x > 310
   ·
    refine ⟨INF, dec_inf_great hv0 (by omega), Runs.no (by simp) (Runs.suc ?_)⟩
    simp only [num_decimal_bits.j0]
    exact Runs.no (by simpa using h1) (Runs.yes h2 (Runs.pure _))
   ·
    obtain ⟨K, hK, hrun⟩ := bits_end (val (c :: r)) x (c :: r).length (by omega) hv hlen (by omega) (by omega) ((c :: r).length : Int) (mk (c :: r)) (by rw [mk_size])
    refine ⟨K, hK, Runs.no (by simp) (Runs.suc ?_)⟩
    simp only [num_decimal_bits.j0]
    refine Runs.no (by simpa using h1) (Runs.no h2 ?_)
    rw [mk_size]
    have := bits_l0 (c :: r) hd hlen x (K : Int) hrun (c :: r).length 0 (by omega)
    rw [List.take_zero] at this
    rw [← L_zero]
    exact this
end Go.Proofs.YtjlnfnfdibfniaaDoor.Pl
namespace Go.Proofs.YtjlnfnfdibfniaaDoor.Pl
open F Hd Go.RowKit Go.Proofs.YtjlnfnfdibfniaaDoorW.PrintWords Go.Proofs.YtjlnfnfdibfniaaDoorW.PrintMore
def zs (l : List UInt8) : List UInt8 := l.dropWhile (fun c => c == 48)
theorem trimByte (l : List UInt8) : Runs (fun k => strings_trimLeftByte.l0 k (mk l) 48) (mk (zs l)) := by
 induction l with
 | nil =>
  refine Runs.suc ?_
  simp only [strings_trimLeftByte.l0]
  exact Runs.no (by rw [mk_size]; simp) (Runs.pure _)
 | cons c r ih =>
  refine Runs.suc ?_
  simp only [strings_trimLeftByte.l0]
  rw [mk_size, mk_bt0, mk_from]
  have hl : (c :: r).length = r.length + 1 := rfl
  refine Runs.yes (by omega) (Runs.yes (by omega) ?_)
  by_cases h : c.toNat = 48
  ·
   have hc : c = 48 := UInt8.toNat_inj.1 h
   refine Runs.yes (by omega) (Runs.yes (by omega) ?_)
   have : zs (c :: r) = zs r := by unfold zs; rw [hc]; rfl
   rw [this]; exact ih
  ·
   refine Runs.no (by omega) ((Runs.pure _).of ?_)
   have hc : (c == 48) = false := by
    rw [beq_eq_false_iff_ne]; intro e; rw [e] at h; exact h rfl
   unfold zs
   rw [List.dropWhile_cons, hc]; rfl
theorem trim_left (l : List UInt8) : Runs (fun k => strings_TrimLeft.f k (mk l) (⟨#[48]⟩ : ByteArray)) (mk (zs l)) := by
 simp only [strings_TrimLeft.f]
 rw [mk_list]
 have h48 : bt (⟨#[48]⟩ : ByteArray) 0 = 48 := rfl
 have hs : ((⟨#[48]⟩ : ByteArray).size : Int) = 1 := rfl
 by_cases h : l = []
 ·
  refine Runs.yes h (Runs.suc ?_)
  simp only [strings_TrimLeft.j0]
  refine Runs.yes trivial ((Runs.pure _).of ?_)
  rw [h]; rfl
 ·
  have hb : ((⟨#[48]⟩ : ByteArray).toList == ([] : List UInt8)) = false := by rw [ByteArray.toList_eq]; rfl
  refine Runs.no h (Runs.suc ?_)
  simp only [strings_TrimLeft.j0]
  rw [hb, h48, hs]
  refine Runs.no Bool.false_ne_true (Runs.yes rfl (Runs.yes (by decide) (Runs.suc ?_)))
  simp only [strings_TrimLeft.j1]
  rw [h48, hs]
  refine Runs.yes (by decide) (Runs.yes (by decide) ?_)
  simp only [strings_trimLeftByte.f]
  exact Runs.bind (trimByte l) (Runs.pure _)
theorem run_mk (l : List UInt8) (h : l.length ≤ 1000) : Runs (fun k => num_run.f k (mk l)) ((l.takeWhile isDig).length : Int) := by
 refine ⟨l.length + 1, fun k hk => ?_⟩
 have := run_f (mk l) (by rw [mk_size]; omega) k (by rw [mk_size]; omega)
 rwa [mk_data] at this
theorem exp_l0 (l : List UInt8) (hd : ∀ c ∈ l, isDig c = true) (hl : l.length ≤ 1000) (x6 x : Int) (hx6 : x6 = 1 ∨ x6 = -1) (hx : -1000 ≤ x) (hx' : x ≤ 1000) (ds : ByteArray) :
  ∀ d i, i + d = l.length → Runs (fun k => num_read.l0 k (mk l) x6 (min (val (l.take i)) 100000 : Nat) (l.length : Int) (i : Int) ds x) (ds, x + x6 * (min (val l) 100000 : Nat), true) := by
 intro d
 induction d with
 | zero =>
  intro i hi
  obtain rfl : i = l.length := by omega
  refine Runs.suc ?_
  simp only [num_read.l0]
  rw [List.take_length]
  refine Runs.no (by omega) ((Runs.pure _).of ?_)
  rcases hx6 with rfl | rfl
  ·
   rw [w64 (n := 1 * _) (by omega) (by omega), w64 (by omega) (by omega)]
  ·
   rw [w64 (n := -1 * _) (by omega) (by omega), w64 (by omega) (by omega)]
 | succ d ih =>
  intro i hi
  have hil : i < l.length := by omega
  refine Runs.suc ?_
  simp only [num_read.l0]
  obtain ⟨e1, e2⟩ := sub48 l[i] (hd _ (List.getElem_mem hil))
  rw [mk_size, mk_bt l i hil, e1, w64 (n := (i : Int) + 1) (by omega) (by omega)]
  refine Runs.yes (by omega) (Runs.yes (by omega) (Runs.yes (by omega) ?_))
  have e3 : mn (wrap64 (wrap64 (10 * ((min (val (l.take i)) 100000 : Nat) : Int)) + ((l[i].toNat - 48 : Nat) : Int))) 100000 = ((min (val (l.take (i + 1))) 100000 : Nat) : Int) := by
   rw [List.take_succ_eq_append_getElem hil, val_snoc]
   generalize val (l.take i) = v at *
   generalize l[i].toNat - 48 = w at *
   rw [w64 (n := 10 * _) (by omega) (by omega), w64 (by omega) (by omega)]
   unfold mn
   split <;> omega
  rw [e3]
  exact ih (i + 1) (by omega)
def ReadOut (o : Option (List UInt8 × Int)) (g : Nat → Option (ByteArray × Int × Bool)) : Prop :=
 match o with
 | none => ∃ a b, Runs g (a, b, false)
 | some (ds, x) => ∃ x', Ext x x' ∧ -200000 ≤ x' ∧ x' ≤ 200000 ∧ Runs g (mk (zs ds), x', true)
theorem ReadOut.suc {o : Option (List UInt8 × Int)} {g : Nat → Option (ByteArray × Int × Bool)} (h : ReadOut o (fun k => g (k + 1))) : ReadOut o g := by
 unfold ReadOut at h ⊢
 split
 ·
  obtain ⟨a, b, h⟩ := h
  exact ⟨a, b, h.suc⟩
 ·
  obtain ⟨x', h1, h2, h3, h⟩ := h
  exact ⟨x', h1, h2, h3, h.suc⟩
theorem ReadOut.yes {o : Option (List UInt8 × Int)} {c : Prop} [Decidable c] {A B : Nat → Option (ByteArray × Int × Bool)} (hc : c) (h : ReadOut o A) : ReadOut o (fun k => if c then A k else B k) := by
 have : (fun k => if c then A k else B k) = A := funext fun k => if_pos hc
 rw [this]; exact h
theorem ReadOut.no {o : Option (List UInt8 × Int)} {c : Prop} [Decidable c] {A B : Nat → Option (ByteArray × Int × Bool)} (hc : ¬ c) (h : ReadOut o B) : ReadOut o (fun k => if c then A k else B k) := by
 have : (fun k => if c then A k else B k) = B := funext fun k => if_neg hc
 rw [this]; exact h
theorem ReadOut.bind {α : Type} {o : Option (List UInt8 × Int)} {g : Nat → Option α} {h : Nat → α → Option (ByteArray × Int × Bool)} {a : α} (hg : Runs g a) (hh : ReadOut o (fun k => h k a)) : ReadOut o (fun k => (g k).bind (h k)) := by
 unfold ReadOut at hh ⊢
 split
 ·
  obtain ⟨x, y, hh⟩ := hh
  exact ⟨x, y, Runs.bind hg hh⟩
 ·
  obtain ⟨x', h1, h2, h3, hh⟩ := hh
  exact ⟨x', h1, h2, h3, Runs.bind hg hh⟩
theorem allDig_iff (l : List UInt8) : allDig l = true ↔ ∀ c ∈ l, isDig c = true := by unfold allDig; rw [List.all_eq_true]
theorem read_j3 (ds r : List UInt8) (neg : Bool) (x : Int) (hr : r.length ≤ 1000) (hx : -1000 ≤ x) (hx' : x ≤ 1000) :
  ReadOut ((if r = [] ∨ allDig r = false then none else some (if neg = true then -(val r : Int) else (val r : Int))).map (fun e => (ds, x + e))) (fun k => num_read.j3 k (mk r) (if neg = true then -1 else 1) (mk (zs ds)) x) := by
 refine ReadOut.suc ?_
 simp only [num_read.j3]
 rw [mk_list, mk_size]
 by_cases h : r = []
 ·
  rw [if_pos (show r = [] ∨ allDig r = false from .inl h)]
  refine ReadOut.yes h (ReadOut.suc ?_)
  simp only [num_read.j4]
  exact ⟨_, _, Runs.yes trivial (Runs.pure _)⟩
 ·
  refine ReadOut.no h (ReadOut.bind (run_mk r hr) (ReadOut.suc ?_))
  simp only [num_read.j4]
  cases hd : allDig r with
  | false =>
   rw [if_pos (show r = [] ∨ false = false from .inr rfl)]
   refine ReadOut.yes ?_ ⟨_, _, Runs.pure _⟩
   rw [bne_iff_ne]
   intro e
   have e' : (r.takeWhile isDig).length = r.length := by omega
   have := (allDig_iff r).2 ((takeWhile_all r).1 e')
   rw [hd] at this; cases this
  | true =>
   rw [if_neg (show ¬ (r = [] ∨ true = false) from fun h' => h'.elim h (fun h'' => by cases h''))]
   have hall := (allDig_iff r).1 hd
   have e' := (takeWhile_all r).2 hall
   refine ReadOut.no ?_ ?_
   ·
    rw [e']; simp
   ·
    rw [mk_size]
    have := exp_l0 r hall hr (if neg = true then -1 else 1) x (by split <;> simp) hx hx' (mk (zs ds)) r.length 0 (by omega)
    rw [List.take_zero] at this
    refine ⟨_, ?_, ?_, ?_, this⟩
    ·
     cases neg with
     | true =>
      rw [if_pos rfl, if_pos rfl]
      unfold Ext
      generalize val r = v
      omega
     | false =>
      rw [if_neg Bool.false_ne_true, if_neg Bool.false_ne_true]
      unfold Ext
      generalize val r = v
      omega
    ·
     generalize val r = v
     split <;> omega
    ·
     generalize val r = v
     split <;> omega
theorem read_j1 (ds r : List UInt8) (x : Int) (hr : r.length ≤ 1000) (hx : -1000 ≤ x) (hx' : x ≤ 1000) (c : UInt8) :
  ReadOut ((expOf r).map (fun e => (ds, x + e))) (fun k => num_read.j1 k (mk (c :: r)) false (mk (zs ds)) x) := by
 refine ReadOut.suc ?_
 simp only [num_read.j1]
 rw [mk_size, mk_from]
 have hl : (c :: r).length = r.length + 1 := rfl
 refine ReadOut.no (by decide) (ReadOut.yes (by omega) (ReadOut.bind (Runs.pure _) ?_))
 show ReadOut _ (fun k => if (mk r).toList = [] then _ else _)
 rw [mk_list]
 unfold expOf
 rcases r with _ | ⟨a, r⟩
 ·
  refine ReadOut.yes rfl (ReadOut.suc ?_)
  simp only [num_read.j2]
  refine ReadOut.no (by decide) ?_
  exact read_j3 ds [] false x hr hx hx'
 ·
  show ReadOut _ (fun k => if a :: r = [] then _ else if 0 < ((mk (a :: r)).size : Int) then if bt (mk (a :: r)) 0 = 43 then num_read.j2 k (mk (a :: r)) 1 true (mk (zs ds)) x else num_read.j2 k (mk (a :: r)) 1 (bt (mk (a :: r)) 0 == 45) (mk (zs ds)) x else none)
  rw [mk_size, mk_bt0]
  have hl2 : (a :: r).length = r.length + 1 := rfl
  refine ReadOut.no (by simp) (ReadOut.yes (by omega) ?_)
  by_cases h45 : a.toNat = 45
  ·
   have es : sgn (a :: r) = (true, r) := by unfold sgn; simp only; rw [if_pos h45]
   rw [es]
   refine ReadOut.no (by omega) (ReadOut.suc ?_)
   simp only [num_read.j2]
   rw [mk_size, mk_bt0, mk_from]
   refine ReadOut.yes (by rw [h45]; rfl) (ReadOut.yes (by omega) (ReadOut.yes (by omega) (ReadOut.yes (by omega) ?_)))
   exact read_j3 ds r true x (by omega) hx hx'
  ·
   by_cases h43 : a.toNat = 43
   ·
    have es : sgn (a :: r) = (false, r) := by unfold sgn; simp only; rw [if_neg h45, if_pos h43]
    rw [es]
    refine ReadOut.yes (by omega) (ReadOut.suc ?_)
    simp only [num_read.j2]
    rw [mk_size, mk_bt0, mk_from]
    refine ReadOut.yes trivial (ReadOut.yes (by omega) (ReadOut.no (by omega) (ReadOut.yes (by omega) ?_)))
    exact read_j3 ds r false x (by omega) hx hx'
   ·
    have es : sgn (a :: r) = (false, a :: r) := by unfold sgn; simp only; rw [if_neg h45, if_neg h43]
    rw [es]
    refine ReadOut.no (by omega) (ReadOut.suc ?_)
    simp only [num_read.j2]
    have hb : (((a.toNat : Int)) == 45) = false := by rw [beq_eq_false_iff_ne]; omega
    rw [hb]
    refine ReadOut.no (by decide) ?_
    exact read_j3 ds (a :: r) false x hr hx hx'
theorem read_j0 (ds m : List UInt8) (x : Int) (hm : m.length ≤ 1000) (hx : -1000 ≤ x) (hx' : x ≤ 1000) :
  ReadOut (tailOf ds x m) (fun k => num_read.j0 k (mk m) (mk ds) x) := by
 refine ReadOut.suc ?_
 simp only [num_read.j0]
 rw [mk_list, mk_list, mk_size]
 unfold tailOf
 by_cases h : ds = []
 ·
  rw [if_pos h]
  exact ⟨_, _, Runs.yes h (Runs.pure _)⟩
 ·
  rw [if_neg h]
  refine ReadOut.no h (ReadOut.bind (trim_left ds) ?_)
  rcases m with _ | ⟨c, r⟩
  ·
   refine ⟨x, .inl rfl, by omega, by omega, Runs.yes rfl (Runs.pure _)⟩
  ·
   have hl : (c :: r).length = r.length + 1 := rfl
   rw [mk_bt0]
   refine ReadOut.no (by simp) (ReadOut.yes (by omega) ?_)
   simp only
   by_cases h1 : c.toNat = 101
   ·
    rw [if_pos (show c.toNat = 101 ∨ c.toNat = 69 from .inl h1)]
    exact ReadOut.yes (by omega) (read_j1 ds r x (by omega) hx hx' c)
   ·
    refine ReadOut.no (by omega) ?_
    by_cases h2 : c.toNat = 69
    ·
     rw [if_pos (show c.toNat = 101 ∨ c.toNat = 69 from .inr h2)]
     have hb : (((c.toNat : Int)) != 69) = false := by rw [h2]; rfl
     rw [hb]
     exact read_j1 ds r x (by omega) hx hx' c
    ·
     rw [if_neg (show ¬ (c.toNat = 101 ∨ c.toNat = 69) by omega)]
     have hb : (((c.toNat : Int)) != 69) = true := by rw [bne_iff_ne]; omega
     rw [hb]
     refine ReadOut.suc ?_
     simp only [num_read.j1]
     exact ⟨_, _, Runs.yes trivial (Runs.pure _)⟩
theorem tw_len (l : List UInt8) : (l.takeWhile isDig).length ≤ l.length := by
 induction l with
 | nil => simp
 | cons a l ih => rw [List.takeWhile_cons]; split <;> simp <;> omega
theorem prefix_dot (c : UInt8) (r : List UInt8) : strings_HasPrefix.f (mk (c :: r)) (⟨#[46]⟩ : ByteArray) = some (decide (c.toNat = 46)) := by
 unfold strings_HasPrefix.f stringslite_HasPrefix.f
 have hone : (⟨#[46]⟩ : ByteArray).size = 1 := rfl
 have hol : (⟨#[46]⟩ : ByteArray).toList = [46] := by rw [ByteArray.toList_eq]
 have hl : (c :: r).length = r.length + 1 := rfl
 rw [hone, mk_size, hol]
 rw [if_pos (by omega), if_pos (by decide), if_pos (by omega)]
 have e : ((1 : Nat) : Int).toNat = 1 := rfl
 rw [e, mk_upto, mk_list, Option.bind_some]
 congr 1
 show (([c] : List UInt8) == [46]) = _
 by_cases h : c.toNat = 46
 ·
  have hc : c = 46 := UInt8.toNat_inj.1 h
  rw [decide_eq_true h, hc]; rfl
 ·
  rw [decide_eq_false h]
  rw [beq_eq_false_iff_ne]
  intro e; injection e with e; rw [e] at h; exact h rfl
theorem prefix_dot_nil : strings_HasPrefix.f (mk []) (⟨#[46]⟩ : ByteArray) = some false := by
 unfold strings_HasPrefix.f stringslite_HasPrefix.f
 have hone : (⟨#[46]⟩ : ByteArray).size = 1 := rfl
 rw [hone, mk_size, if_neg (by decide)]; rfl
theorem read_f (l : List UInt8) (hl : l.length ≤ 900) : ReadOut (dspec l) (fun k => num_read.f k (mk l)) := by
 simp only [num_read.f]
 have ht := tw_len l
 refine ReadOut.bind (run_mk l (by omega)) ?_
 rw [mk_size, Int.toNat_natCast, mk_upto, mk_from]
 refine ReadOut.yes (by omega) (ReadOut.yes (by omega) (ReadOut.bind (Runs.pure _) (ReadOut.bind (Runs.pure _) ?_)))
 have hd1 : (digs l).1 = l.take (l.takeWhile isDig).length := rfl
 have hd2 : (digs l).2 = l.drop (l.takeWhile isDig).length := rfl
 have hlen : (l.drop (l.takeWhile isDig).length).length ≤ 900 := by rw [List.length_drop]; omega
 unfold dspec
 rw [hd1, hd2]
 generalize l.drop (l.takeWhile isDig).length = m at hlen ⊢
 rcases m with _ | ⟨c, r⟩
 ·
  simp only []
  rw [prefix_dot_nil]
  refine ReadOut.bind (Runs.pure _) (ReadOut.no (by decide) ?_)
  exact read_j0 _ [] 0 (by simp) (by omega) (by omega)
 ·
  have hcl : (c :: r).length = r.length + 1 := rfl
  simp only []
  rw [prefix_dot]
  refine ReadOut.bind (Runs.pure _) ?_
  by_cases h : c.toNat = 46
  ·
   rw [if_pos h, decide_eq_true h]
   have htr := tw_len r
   rw [mk_size, mk_from]
   refine ReadOut.yes rfl (ReadOut.yes (by omega) (ReadOut.bind (run_mk r (by omega)) ?_))
   show ReadOut _ (fun k => if (1 : Int) ≤ wrap64 (1 + ((r.takeWhile isDig).length : Int)) then _ else _)
   have ew : wrap64 (1 + ((r.takeWhile isDig).length : Int)) = ((1 + (r.takeWhile isDig).length : Nat) : Int) := by rw [w64 (by omega) (by omega)]; omega
   have ew2 : wrap64 (-((r.takeWhile isDig).length : Int)) = -((r.takeWhile isDig).length : Int) := w64 (by omega) (by omega)
   rw [ew, ew2, Int.toNat_natCast, mk_part, mk_from, mk_size]
   refine ReadOut.yes (by omega) (ReadOut.yes (by omega) (ReadOut.bind (Runs.pure _) ?_))
   rw [show 1 + (r.takeWhile isDig).length - 1 = (r.takeWhile isDig).length by omega, show 1 + (r.takeWhile isDig).length = (r.takeWhile isDig).length + 1 by omega]
   show ReadOut _ (fun k => if (mk (l.take _)).size + (mk (r.take _)).size ≤ 9223372036854775807 then if 0 ≤ (((r.takeWhile isDig).length + 1 : Nat) : Int) then num_read.j0 k (mk (r.drop _)) (mk (l.take _) ++ mk (r.take _)) (-((r.takeWhile isDig).length : Int)) else none else none)
   rw [mk_size, mk_size, mk_append]
   have hb1 : (l.take (l.takeWhile isDig).length).length ≤ 900 := by rw [List.length_take]; omega
   have hb2 : (r.take (r.takeWhile isDig).length).length = (r.takeWhile isDig).length := by rw [List.length_take]; omega
   refine ReadOut.yes (by omega) (ReadOut.yes (by omega) ?_)
   have e1 : (digs r).1 = r.take (r.takeWhile isDig).length := rfl
   have e2 : (digs r).2 = r.drop (r.takeWhile isDig).length := rfl
   rw [e1, e2, hb2]
   exact read_j0 _ _ _ (by rw [List.length_drop]; omega) (by omega) (by omega)
  ·
   rw [if_neg h, decide_eq_false h]
   refine ReadOut.no (by decide) ?_
   exact read_j0 _ (c :: r) 0 (by omega) (by omega) (by omega)
theorem zs_val (l : List UInt8) : val (zs l) = val l := by
 induction l with
 | nil => rfl
 | cons c r ih =>
  unfold zs at ih ⊢
  rw [List.dropWhile_cons]
  split
  ·
   rename_i h
   rw [ih]
   have hc : c = 48 := by simpa using h
   have := val_append [c] r
   rw [List.singleton_append] at this
   rw [this, hc]
   have : val [48] = 0 := rfl
   rw [this]; simp
  ·
   rfl
theorem zs_head (l : List UInt8) (hd : ∀ c ∈ l, isDig c = true) : (∀ c r, zs l = c :: r → 49 ≤ c.toNat) ∧ (∀ c ∈ zs l, isDig c = true) ∧ (zs l).length ≤ l.length := by
 induction l with
 | nil => exact ⟨fun c r h => (by cases h), fun c h => (by cases h), Nat.le_refl _⟩
 | cons a l ih =>
  have ih := ih (fun c hc => hd c (List.mem_cons_of_mem _ hc))
  unfold zs at ih ⊢
  rw [List.dropWhile_cons]
  split
  ·
   refine ⟨ih.1, ih.2.1, ?_⟩
   rw [List.length_cons]; omega
  ·
   rename_i h
   refine ⟨?_, hd, Nat.le_refl _⟩
   intro c r e
   injection e with e _
   have h1 := hd a (List.mem_cons_self ..)
   rw [← e]
   simp only [isDig, Bool.and_eq_true, decide_eq_true_eq] at h1
   have : a.toNat ≠ 48 := by
    intro h2
    have : a = 48 := UInt8.toNat_inj.1 h2
    rw [this] at h; simp at h
   omega
theorem or_sign (K : Nat) (neg : Bool) (hK : K ≤ INF) : (Go.bits .or .u64 (K : Int) (if neg = true then 9223372036854775808 else 0)).toNat = K + signBit neg := by
 have hI : INF = 9218868437227405312 := rfl
 have e64 : (2 : Int) ^ 64 = 18446744073709551616 := by decide
 have e63 : (2 : Int) ^ 63 = 9223372036854775808 := by decide
 have hK0 := Go.IntKind.wrap_u64 0
 cases neg with
 | true =>
  rw [if_pos rfl]
  have h := (bits_nat .u64 64 (by decide) wraps_u64 K 9223372036854775808 (by omega) (by omega)).2
  have e : ((9223372036854775808 : Nat) : Int) = 9223372036854775808 := rfl
  rw [e] at h
  rw [h, Int.toNat_natCast]
  unfold signBit
  rw [if_pos rfl]
  have : K ||| 9223372036854775808 = 9223372036854775808 ||| K := Nat.or_comm ..
  rw [this]
  have h2 := Nat.two_pow_add_eq_or_of_lt (i := 63) (b := K) (by omega) 1
  rw [Nat.mul_one] at h2
  have e3 : (2 : Nat) ^ 63 = 9223372036854775808 := by decide
  rw [e3] at h2
  omega
 | false =>
  rw [if_neg Bool.false_ne_true]
  have h := (bits_nat .u64 64 (by decide) wraps_u64 K 0 (by omega) (by omega)).2
  have e : ((0 : Nat) : Int) = 0 := rfl
  rw [e] at h
  rw [h, Int.toNat_natCast, Nat.or_zero]
  rfl
theorem small_mk (l : List UInt8) (hl : l.length ≤ 1000) : num_small.f (mk l) = some (mk (l.map lowc)) := by
 unfold num_small.f
 rw [mk_size, if_pos (by omega)]
 show some (smallF (mk l)) = _
 unfold smallF
 rw [mk_data]; rfl
theorem parse_j1 (l r : List UInt8) (neg : Bool) (hl : l.length ≤ 400) (hr : r.length ≤ 900) (hs : sgn l = (neg, r)) :
  ∃ b e, ParseTo l b e ∧ Runs (fun k => num_Parse.j1 k (mk r) (if neg = true then 9223372036854775808 else 0)) (b, e) := by
 simp only [ParseTo, if_neg (show ¬ 400 < l.length by omega), hs]
 have hor := or_sign
 have hI : INF = 9218868437227405312 := rfl
 by_cases h1 : r.map lowc = [110, 97, 110]
 ·
  refine ⟨9221120237041090561, 0, by rw [if_pos h1]; exact ⟨rfl, rfl⟩, Runs.suc ?_⟩
  simp only [num_Parse.j1]
  rw [small_mk r (by omega)]
  refine Runs.bind (Runs.pure _) ?_
  show Runs (fun k => if (mk (r.map lowc)).toList = _ then _ else _) _
  rw [mk_list]
  exact Runs.yes h1 (Runs.pure _)
 ·
  simp only [if_neg h1]
  by_cases h2 : r.map lowc = [105, 110, 102] ∨ r.map lowc = [105, 110, 102, 105, 110, 105, 116, 121]
  ·
   refine ⟨INF + signBit neg, 0, by rw [if_pos h2]; exact ⟨rfl, rfl⟩, Runs.suc ?_⟩
   simp only [num_Parse.j1]
   rw [small_mk r (by omega)]
   refine Runs.bind (Runs.pure _) ?_
   have hp := hor INF neg (Nat.le_refl _)
   rw [hI] at hp
   show Runs (fun k => if (mk (r.map lowc)).toList = _ then _ else if (mk (r.map lowc)).toList = _ then _ else if (mk (r.map lowc)).toList = _ then _ else _) _
   rw [mk_list]
   refine Runs.no h1 ?_
   have hp' : (Go.bits .or .u64 9218868437227405312 (if neg = true then 9223372036854775808 else 0)).toNat = INF + signBit neg := hp
   rw [hp']
   by_cases h3 : r.map lowc = [105, 110, 102]
   ·
    exact Runs.yes h3 (Runs.pure _)
   ·
    refine Runs.no h3 (Runs.yes (h2.resolve_left h3) (Runs.pure _))
  ·
   simp only [if_neg h2]
   have hro := read_f r hr
   have hds := fun ds x => dspec_digs (l := r) (ds := ds) (x := x)
   have cont : ∀ (b : Nat) (e : Int), Runs (fun k => (num_read.f k (mk r)).bind fun bt601 => (if bt601.2.2 = true then ((num_decimal_bits.f k bt601.1 bt601.2.1).bind fun t605 => (some (((Go.bits .or .u64 t605 (if neg = true then 9223372036854775808 else 0)) : Int).toNat, 0))) else (some (0, 8)))) (b, e) →
     Runs (fun k => num_Parse.j1 k (mk r) (if neg = true then 9223372036854775808 else 0)) (b, e) := by
    intro b e h
    refine Runs.suc ?_
    simp only [num_Parse.j1]
    rw [small_mk r (by omega)]
    refine Runs.bind (Runs.pure _) ?_
    show Runs (fun k => if (mk (r.map lowc)).toList = _ then _ else if (mk (r.map lowc)).toList = _ then _ else if (mk (r.map lowc)).toList = _ then _ else _) _
    rw [mk_list]
    exact Runs.no h1 (Runs.no (fun h => h2 (.inl h)) (Runs.no (fun h => h2 (.inr h)) h))
   cases hd : dspec r with
   | none =>
    rw [hd] at hro
    obtain ⟨a, c, hrun⟩ := hro
    exact ⟨0, 8, ⟨rfl, rfl⟩, cont 0 8 (Runs.bind hrun (Runs.no Bool.false_ne_true (Runs.pure _)))⟩
   | some p =>
    obtain ⟨ds, x⟩ := p
    rw [hd] at hro
    obtain ⟨x', hx, hx0, hx1, hrun⟩ := hro
    obtain ⟨g1, g2, g3⟩ := hds ds x hd
    obtain ⟨z1, z2, z3⟩ := zs_head ds g1
    obtain ⟨K, hK, hrunK⟩ := bits_f (zs ds) x' z2 z1 (by omega) (by omega) (by omega)
    have hv := val_lt ds g1
    rw [zs_val] at hK
    refine ⟨K + signBit neg, 0, ⟨rfl, K, hK.ext hv (by omega) hx, rfl⟩, cont _ 0 (Runs.bind hrun (Runs.yes rfl (Runs.bind hrunK ((Runs.pure _).of ?_))))⟩
    rw [or_sign K neg hK.le]
theorem parse_f (l : List UInt8) (hbig : l.length ≤ 140737488351232) : ∃ b e, ParseTo l b e ∧ Runs (fun k => num_Parse.f k (mk l)) (b, e) := by
 by_cases h : 400 < l.length
 ·
  refine ⟨0, 8, by unfold ParseTo; rw [if_pos h]; exact ⟨rfl, rfl⟩, ?_⟩
  simp only [num_Parse.f]
  rw [mk_size]
  exact Runs.yes (by omega) (Runs.pure _)
 ·
  rcases l with _ | ⟨c, r⟩
  ·
   obtain ⟨b, e, hp, hrun⟩ := parse_j1 [] [] false (by simp) (by simp) rfl
   refine ⟨b, e, hp, ?_⟩
   simp only [num_Parse.f]
   rw [mk_size, mk_list]
   refine Runs.no (by simp) (Runs.yes rfl (Runs.suc ?_))
   simp only [num_Parse.j0]
   exact Runs.no (by decide) hrun
  ·
   have hl : (c :: r).length = r.length + 1 := rfl
   have main : ∀ neg s, sgn (c :: r) = (neg, s) → s.length ≤ 900 → Runs (fun k => num_Parse.j1 k (mk s) (if neg = true then 9223372036854775808 else 0)) = Runs (fun k => num_Parse.f k (mk (c :: r))) → ∃ b e, ParseTo (c :: r) b e ∧ Runs (fun k => num_Parse.f k (mk (c :: r))) (b, e) := by
    intro neg s hs hs2 he
    obtain ⟨b, e, hp, hrun⟩ := parse_j1 (c :: r) s neg (by omega) hs2 hs
    exact ⟨b, e, hp, by rw [← he]; exact hrun⟩
   have step : ∀ neg s, s.length ≤ 900 → sgn (c :: r) = (neg, s) → (∀ b e, Runs (fun k => num_Parse.j1 k (mk s) (if neg = true then 9223372036854775808 else 0)) (b, e) → Runs (fun k => num_Parse.f k (mk (c :: r))) (b, e)) → ∃ b e, ParseTo (c :: r) b e ∧ Runs (fun k => num_Parse.f k (mk (c :: r))) (b, e) := by
    intro neg s hs2 hs he
    obtain ⟨b, e, hp, hrun⟩ := parse_j1 (c :: r) s neg (by omega) hs2 hs
    exact ⟨b, e, hp, he b e hrun⟩
   by_cases h45 : c.toNat = 45
   ·
    refine step true r (by omega) (by unfold sgn; simp only; rw [if_pos h45]) (fun b e hrun => ?_)
    simp only [num_Parse.f]
    rw [mk_size, mk_list, mk_bt0]
    have hb : (((c.toNat : Int)) == 45) = true := by rw [beq_iff_eq]; omega
    rw [hb]
    refine Runs.no (by omega) (Runs.no (by simp) (Runs.yes (by omega) (Runs.no (by omega) (Runs.suc ?_))))
    simp only [num_Parse.j0]
    rw [mk_size, mk_bt0, mk_from]
    exact Runs.yes trivial (Runs.yes (by omega) (Runs.yes (by omega) (Runs.yes (by omega) hrun)))
   ·
    have hb : (((c.toNat : Int)) == 45) = false := by rw [beq_eq_false_iff_ne]; omega
    by_cases h43 : c.toNat = 43
    ·
     refine step false r (by omega) (by unfold sgn; simp only; rw [if_neg h45, if_pos h43]) (fun b e hrun => ?_)
     simp only [num_Parse.f]
     rw [mk_size, mk_list, mk_bt0]
     refine Runs.no (by omega) (Runs.no (by simp) (Runs.yes (by omega) (Runs.yes (by omega) (Runs.suc ?_))))
     simp only [num_Parse.j0]
     rw [mk_size, mk_bt0, mk_from]
     exact Runs.yes trivial (Runs.yes (by omega) (Runs.no (by omega) (Runs.yes (by omega) hrun)))
    ·
     refine step false (c :: r) (by omega) (by unfold sgn; simp only; rw [if_neg h45, if_neg h43]) (fun b e hrun => ?_)
     simp only [num_Parse.f]
     rw [mk_size, mk_list, mk_bt0, hb]
     refine Runs.no (by omega) (Runs.no (by simp) (Runs.yes (by omega) (Runs.no (by omega) (Runs.suc ?_))))
     simp only [num_Parse.j0]
     exact Runs.no (by decide) hrun
end Go.Proofs.YtjlnfnfdibfniaaDoor.Pl
namespace Go.Proofs.YtjlnfnfdibfniaaDoor.Pl
open F Hd Go.RowKit Go.Proofs.YtjlnfnfdibfniaaDoorW.PrintWords Go.Proofs.YtjlnfnfdibfniaaDoorW.PrintMore
theorem signed_f (K : Nat) (neg : Bool) (hK : K ≤ INF) : r_signed.f (K : Int) neg = some (K + signBit neg) := by
 unfold r_signed.f
 have := or_sign K neg hK
 cases neg with
 | true => rw [if_pos rfl]; rw [if_pos rfl] at this; rw [this]
 | false => rw [if_neg Bool.false_ne_true, Int.toNat_natCast]; rfl
theorem SizeOk.step {v n d : Nat} (h : SizeOk v n) (hd : d ≤ 9) : SizeOk (v * 10 + d) (if 0 < v * 10 + d then n + 1 else n) := by
 unfold SizeOk at h ⊢
 rcases h with ⟨rfl, rfl⟩ | ⟨h0, h1, h2⟩
 ·
  by_cases h : 0 < 0 * 10 + d
  ·
   rw [if_pos h]; right; simp; omega
  ·
   rw [if_neg h]; left; omega
 ·
  have hp : 0 < 10 ^ (n - 1) := Nat.pow_pos (by decide)
  rw [if_pos (by omega)]
  right
  obtain ⟨k, rfl⟩ : ∃ k, n = k + 1 := ⟨n - 1, by omega⟩
  rw [Nat.add_sub_cancel] at h1 ⊢
  rw [Nat.pow_succ 10 (k + 1)]
  refine ⟨by omega, ?_, by omega⟩
  rw [Nat.pow_succ]; omega
def FinTo (o : Option (List UInt8 × Int)) (neg : Bool) (b : Nat) (e : Int) : Prop :=
 match o with
 | none => b = 0 ∧ e = 8
 | some (ds, x) => e = 0 ∧ ∃ K, DecNear (val ds) x K ∧ b = K + signBit neg
theorem rexp_l0 (r : List UInt8) (neg : Bool) (hr : r.length ≤ 1000) : ∀ (d i n : Nat), i + d = r.length → (∀ c ∈ r.take i, isDig c = true) → n ≤ 10000000 → (n = val (r.take i) ∨ 1000000 ≤ n ∧ 1000000 ≤ val (r.take i)) →
  (if allDig r = true then ∃ n' : Nat, n' ≤ 10000000 ∧ (n' = val r ∨ 1000000 ≤ n' ∧ 1000000 ≤ val r) ∧ Runs (fun k => r_exponent.l0 k (mk r) neg (n : Int) (i : Int)) (if neg = true then -(n' : Int) else (n' : Int), decide (r ≠ []))
   else Runs (fun k => r_exponent.l0 k (mk r) neg (n : Int) (i : Int)) (0, false)) := by
 intro d
 induction d with
 | zero =>
  intro i n hi hd hn hv
  obtain rfl : i = r.length := by omega
  rw [List.take_length] at hd hv
  rw [if_pos ((allDig_iff r).2 hd)]
  refine ⟨n, hn, hv, Runs.suc ?_⟩
  simp only [r_exponent.l0]
  rw [mk_size]
  have e : decide (0 < r.length) = decide (r ≠ []) := decide_eq_decide.2 (by rw [List.length_pos_iff])
  rw [e]
  refine Runs.no (by omega) ?_
  cases neg with
  | true => rw [w64 (by omega) (by omega)]; exact Runs.yes rfl (Runs.pure _)
  | false => exact Runs.no (A := fun _ => some (wrap64 (-(n : Int)), decide (r ≠ []))) Bool.false_ne_true (Runs.pure _)
 | succ d ih =>
  intro i n hi hd hn hv
  have hil : i < r.length := by omega
  have stepRuns : ∀ R, Runs (fun k => if isDig r[i] = true then (if (n : Int) < 1000000 then (r_exponent.l0 k (mk r) neg (wrap64 ((wrap64 (10 * (n : Int))) + (((r[i].toNat : Int) - 48) % 256))) ((i + 1 : Nat) : Int)) else (r_exponent.l0 k (mk r) neg (n : Int) ((i + 1 : Nat) : Int))) else (some (0, false))) R →
    Runs (fun k => r_exponent.l0 k (mk r) neg (n : Int) (i : Int)) R := by
   intro R h
   refine Runs.suc ?_
   simp only [r_exponent.l0]
   rw [mk_size, mk_bt r i hil, refdigit_f, w64 (n := (i : Int) + 1) (by omega) (by omega)]
   exact Runs.yes (by omega) (Runs.yes (by omega) (Runs.bind (Runs.pure _) h))
  cases hdi : isDig r[i] with
  | false =>
   have : allDig r = false := by
    rw [← Bool.not_eq_true]
    intro h
    have := (allDig_iff r).1 h r[i] (List.getElem_mem hil)
    rw [hdi] at this; cases this
   rw [this, if_neg Bool.false_ne_true]
   refine stepRuns _ ?_
   rw [hdi]
   exact Runs.no Bool.false_ne_true (Runs.pure _)
  | true =>
   obtain ⟨e1, e2⟩ := sub48 r[i] hdi
   rw [hdi, e1] at stepRuns
   have hd' : ∀ c ∈ r.take (i + 1), isDig c = true := by
    rw [List.take_succ_eq_append_getElem hil]
    intro c hc
    rcases List.mem_append.1 hc with hc | hc
    ·
     exact hd c hc
    ·
     rw [List.mem_singleton.1 hc]; exact hdi
   have hvs : val (r.take (i + 1)) = 10 * val (r.take i) + (r[i].toNat - 48) := by rw [List.take_succ_eq_append_getElem hil, val_snoc]
   by_cases hc : n < 1000000
   ·
    have hnv : n = val (r.take i) := by omega
    have ih := ih (i + 1) (10 * n + (r[i].toNat - 48)) (by omega) hd' (by omega) (by rw [hvs]; omega)
    have ew : wrap64 (wrap64 (10 * (n : Int)) + ((r[i].toNat - 48 : Nat) : Int)) = ((10 * n + (r[i].toNat - 48) : Nat) : Int) := by
     rw [w64 (n := 10 * (n : Int)) (by omega) (by omega), w64 (by omega) (by omega)]; omega
    rw [ew] at stepRuns
    split at ih
    ·
     rename_i ha
     rw [if_pos ha]
     obtain ⟨n', g1, g2, g3⟩ := ih
     exact ⟨n', g1, g2, stepRuns _ (Runs.yes rfl (Runs.yes (by omega) g3))⟩
    ·
     rename_i ha
     rw [if_neg ha]
     exact stepRuns _ (Runs.yes rfl (Runs.yes (by omega) ih))
   ·
    have ih := ih (i + 1) n (by omega) hd' hn (by rw [hvs]; omega)
    split at ih
    ·
     rename_i ha
     rw [if_pos ha]
     obtain ⟨n', g1, g2, g3⟩ := ih
     exact ⟨n', g1, g2, stepRuns _ (Runs.yes rfl (Runs.no (by omega) g3))⟩
    ·
     rename_i ha
     rw [if_neg ha]
     exact stepRuns _ (Runs.yes rfl (Runs.no (by omega) ih))
def ExpOut (o : Option Int) (g : Nat → Option (Int × Bool)) : Prop :=
 match o with
 | none => ∃ a, Runs g (a, false)
 | some n => ∃ n' : Int, (n' = n ∨ 1000000 ≤ n ∧ 1000000 ≤ n' ∨ n ≤ -1000000 ∧ n' ≤ -1000000) ∧ -10000000 ≤ n' ∧ n' ≤ 10000000 ∧ Runs g (n', true)
theorem rexp_j2 (r : List UInt8) (neg : Bool) (hr : r.length ≤ 1000) :
  ExpOut (if r = [] ∨ allDig r = false then none else some (if neg = true then -(val r : Int) else (val r : Int))) (fun k => r_exponent.j2 k (mk r) neg) := by
 have h := rexp_l0 r neg hr r.length 0 0 (by omega) (fun c hc => by simp at hc) (by decide) (.inl rfl)
 have lift : ∀ R, Runs (fun k => r_exponent.l0 k (mk r) neg 0 0) R → Runs (fun k => r_exponent.j2 k (mk r) neg) R := by
  intro R h
  refine Runs.suc ?_
  simp only [r_exponent.j2]
  exact h
 cases hd : allDig r with
 | false =>
  rw [if_pos (show r = [] ∨ false = false from .inr rfl)]
  rw [hd, if_neg Bool.false_ne_true] at h
  exact ⟨0, lift _ h⟩
 | true =>
  rw [hd, if_pos rfl] at h
  obtain ⟨n', g1, g2, g3⟩ := h
  by_cases hne : r = []
  ·
   rw [if_pos (show r = [] ∨ true = false from .inl hne)]
   rw [decide_eq_false (fun h => h hne)] at g3
   exact ⟨_, lift _ g3⟩
  ·
   rw [if_neg (show ¬ (r = [] ∨ true = false) from fun h => h.elim hne (fun h => by cases h))]
   rw [decide_eq_true hne] at g3
   refine ⟨_, ?_, ?_, ?_, lift _ g3⟩
   ·
    cases neg with
    | true => rw [if_pos rfl, if_pos rfl]; omega
    | false => rw [if_neg Bool.false_ne_true, if_neg Bool.false_ne_true]; omega
   ·
    split <;> omega
   ·
    split <;> omega
theorem ExpOut.lift {o : Option Int} {g g' : Nat → Option (Int × Bool)} (h : ExpOut o g) (l : ∀ R, Runs g R → Runs g' R) : ExpOut o g' := by
 unfold ExpOut at h ⊢
 split
 ·
  obtain ⟨a, h⟩ := h; exact ⟨a, l _ h⟩
 ·
  obtain ⟨n', h1, h2, h3, h⟩ := h; exact ⟨n', h1, h2, h3, l _ h⟩
theorem rexp_f (c : UInt8) (r : List UInt8) (hr : r.length ≤ 900) :
  if c.toNat = 101 ∨ c.toNat = 69 then ExpOut (expOf r) (fun k => r_exponent.f k (mk (c :: r))) else Runs (fun k => r_exponent.f k (mk (c :: r))) (0, false) := by
 have hl : (c :: r).length = r.length + 1 := rfl
 have tof : ∀ b : Bool, (b = if c.toNat = 101 then false else ((c.toNat : Int) != 69)) → ∀ R, Runs (fun k => r_exponent.j0 k (mk (c :: r)) b) R → Runs (fun k => r_exponent.f k (mk (c :: r))) R := by
  intro b hb R h
  simp only [r_exponent.f]
  rw [mk_size, mk_bt0]
  refine Runs.yes (by omega) ?_
  by_cases h1 : c.toNat = 101
  ·
   rw [if_pos h1] at hb
   rw [hb] at h
   exact Runs.yes (by omega) h
  ·
   rw [if_neg h1] at hb
   rw [hb] at h
   exact Runs.no (by omega) h
 by_cases hc : c.toNat = 101 ∨ c.toNat = 69
 ·
  rw [if_pos hc]
  have hb : (false : Bool) = if c.toNat = 101 then false else ((c.toNat : Int) != 69) := by
   by_cases h1 : c.toNat = 101
   ·
    rw [if_pos h1]
   ·
    rw [if_neg h1, show c.toNat = 69 by omega]; rfl
  have toj1 : ∀ neg s, sgn r = (neg, s) → ∀ R, Runs (fun k => r_exponent.j2 k (mk s) neg) R → Runs (fun k => r_exponent.f k (mk (c :: r))) R := by
   intro neg s hs R h
   refine tof false hb R (Runs.suc ?_)
   simp only [r_exponent.j0]
   rw [mk_size, mk_from]
   refine Runs.no (by decide) (Runs.yes (by omega) (Runs.bind (Runs.pure _) ?_))
   show Runs (fun k => if ((mk r).size : Int) > 0 then (if 0 < ((mk r).size : Int) then (if bt (mk r) 0 = 43 then r_exponent.j1 k (mk r) false true else r_exponent.j1 k (mk r) false (bt (mk r) 0 == 45)) else none) else r_exponent.j1 k (mk r) false false) R
   rw [mk_size]
   rcases r with _ | ⟨a, t⟩
   ·
    injection hs with h1 h2
    refine Runs.no (by simp) (Runs.suc ?_)
    simp only [r_exponent.j1]
    rw [← h1, ← h2] at h
    exact Runs.no (by decide) h
   ·
    have hl2 : (a :: t).length = t.length + 1 := rfl
    rw [mk_bt0]
    unfold sgn at hs
    simp only at hs
    refine Runs.yes (by omega) (Runs.yes (by omega) ?_)
    by_cases h45 : a.toNat = 45
    ·
     rw [if_pos h45] at hs
     injection hs with h1 h2
     refine Runs.no (by omega) (Runs.suc ?_)
     simp only [r_exponent.j1]
     rw [mk_size, mk_bt0, mk_from]
     have hb2 : (((a.toNat : Int)) == 45) = true := by rw [beq_iff_eq]; omega
     rw [hb2]
     rw [← h1, ← h2] at h
     exact Runs.yes rfl (Runs.yes (by omega) (Runs.yes (by omega) h))
    ·
     rw [if_neg h45] at hs
     have hb2 : (((a.toNat : Int)) == 45) = false := by rw [beq_eq_false_iff_ne]; omega
     by_cases h43 : a.toNat = 43
     ·
      rw [if_pos h43] at hs
      injection hs with h1 h2
      refine Runs.yes (by omega) (Runs.suc ?_)
      simp only [r_exponent.j1]
      rw [mk_size, mk_bt0, mk_from, hb2]
      rw [← h1, ← h2] at h
      exact Runs.yes trivial (Runs.yes (by omega) (Runs.yes (by omega) h))
     ·
      rw [if_neg h43] at hs
      injection hs with h1 h2
      refine Runs.no (by omega) ?_
      rw [hb2]
      refine Runs.suc ?_
      simp only [r_exponent.j1]
      rw [← h1, ← h2] at h
      exact Runs.no (by decide) h
  unfold expOf
  have hsl : (sgn r).2.length ≤ r.length := by
   unfold sgn
   split
   ·
    simp
   ·
    split
    ·
     simp
    ·
     split <;> simp
  exact (rexp_j2 (sgn r).2 (sgn r).1 (by omega)).lift (toj1 (sgn r).1 (sgn r).2 rfl)
 ·
  rw [if_neg hc]
  have hb : (true : Bool) = if c.toNat = 101 then false else ((c.toNat : Int) != 69) := by
   rw [if_neg (by omega)]
   symm; rw [bne_iff_ne]; omega
  refine tof true hb _ (Runs.suc ?_)
  simp only [r_exponent.j0]
  exact Runs.yes trivial (Runs.pure _)
theorem rp_j6 (s ds : List UInt8) (neg any : Bool) (i n : Nat) (x : Int) (b : Nat) (e : Int) (hs : s.length ≤ 400) (hi : i ≤ s.length) (hany : any = decide (ds ≠ [])) (hd : ∀ c ∈ ds, isDig c = true) (hds : ds.length ≤ 900) (hn : n ≤ 1000) (hsz : SizeOk (val ds) n) (hx0 : -1000 ≤ x) (hx1 : x ≤ 1000)
  (h : FinTo (tailOf ds x (s.drop i)) neg b e) : Runs (fun k => r_Parse.j6 k (mk s) neg (i : Int) any (n : Int) (M (val ds)) x) (b, e) := by
 refine Runs.suc ?_
 simp only [r_Parse.j6]
 rw [mk_size]
 unfold tailOf at h
 by_cases hne : ds = []
 ·
  rw [if_pos hne] at h
  rw [hany, decide_eq_false (fun g => g hne)]
  refine Runs.no Bool.false_ne_true ((Runs.pure _).of ?_)
  rw [h.1, h.2]
 ·
  rw [if_neg hne] at h
  rw [hany, decide_eq_true hne]
  refine Runs.yes rfl ?_
  have hv := val_lt ds hd
  by_cases hil : i < s.length
  ·
   have hdr := List.drop_eq_getElem_cons hil
   rw [hdr] at h
   simp only at h
   refine Runs.yes (by omega) (Runs.yes (by omega) (Runs.yes (by omega) ?_))
   rw [Int.toNat_natCast, mk_from, hdr]
   have hex := rexp_f s[i] (s.drop (i + 1)) (by rw [List.length_drop]; omega)
   by_cases hc : s[i].toNat = 101 ∨ s[i].toNat = 69
   ·
    rw [if_pos hc] at h hex
    unfold ExpOut at hex
    cases he : expOf (s.drop (i + 1)) with
    | none =>
     rw [he] at h hex
     obtain ⟨a, hex⟩ := hex
     refine Runs.bind hex (Runs.no Bool.false_ne_true ((Runs.pure _).of ?_))
     obtain ⟨h1, h2⟩ := h
     rw [h1, h2]
    | some m =>
     rw [he] at h hex
     obtain ⟨n', g1, g2, g3, hex⟩ := hex
     obtain ⟨h1, K, hK, h2⟩ := h
     refine Runs.bind hex (Runs.yes rfl ?_)
     show Runs (fun k => (r_nearest.f k (M (val ds)) (wrap64 (x + n')) (n : Int)).bind _) _
     rw [w64 (by omega) (by omega)]
     have hK' : DecNear (val ds) (x + n') K := hK.ext hv (by omega) (by unfold Ext; omega)
     refine Runs.bind (rnearest_f (val ds) n (x + n') K hn hsz (by omega) (by omega) hK') ?_
     rw [signed_f K neg hK'.le]
     exact Runs.bind (Runs.pure _) ((Runs.pure _).of (by rw [h1, h2]))
   ·
    rw [if_neg hc] at h hex
    refine Runs.bind hex (Runs.no Bool.false_ne_true ((Runs.pure _).of ?_))
    obtain ⟨h1, h2⟩ := h
    rw [h1, h2]
  ·
   rw [List.drop_of_length_le (by omega)] at h
   obtain ⟨h1, K, hK, h2⟩ := h
   refine Runs.no (by omega) (Runs.bind (rnearest_f (val ds) n x K hn hsz (by omega) (by omega) hK) ?_)
   rw [signed_f K neg hK.le]
   exact Runs.bind (Runs.pure _) ((Runs.pure _).of (by rw [h1, h2]))
theorem rp_l1 (s : List UInt8) (neg : Bool) (p : Nat) (hp : p = 0 ∨ p = 1) (R : Nat × Int) (hs : s.length ≤ 400) : ∀ (ds rest pre : List UInt8) (i n : Nat) (any : Bool) (x : Int), s.drop i = ds ++ rest → i ≤ s.length → (∀ c ∈ ds, isDig c = true) → (∀ c r, rest = c :: r → isDig c = false) →
  (∀ c ∈ pre, isDig c = true) → pre.length + ds.length ≤ 900 → n ≤ pre.length → SizeOk (val pre) n → any = decide (pre ≠ []) → -1000 ≤ x - ds.length → x ≤ 1000 →
  (∀ n' : Nat, n' ≤ pre.length + ds.length → SizeOk (val (pre ++ ds)) n' → Runs (fun k => r_Parse.j5 k (mk s) neg ((i + ds.length : Nat) : Int) (decide (pre ++ ds ≠ [])) (n' : Int) (p : Int) false (M (val (pre ++ ds))) (if p = 1 then x - ds.length else x)) R) →
  Runs (fun k => r_Parse.l1 k (mk s) neg (i : Int) any (n : Int) (p : Int) (M (val pre)) x) R := by
 intro ds
 induction ds with
 | nil =>
  intro rest pre i n any x hdr hi hd hrest hpre hlen hn hsz hany hx0 hx1 h
  have h := h n (by simpa using hn) (by rw [List.append_nil]; exact hsz)
  rw [List.append_nil] at h
  have e1 : (if p = 1 then x - (([] : List UInt8).length : Int) else x) = x := by split <;> simp
  rw [e1, ← hany, List.length_nil, Nat.add_zero] at h
  refine Runs.suc ?_
  simp only [r_Parse.l1]
  rw [mk_size]
  by_cases hil : i < s.length
  ·
   have hg := List.drop_eq_getElem_cons hil
   rw [hdr, List.nil_append] at hg
   have := hrest _ _ hg
   rw [mk_bt s i hil, refdigit_f, this]
   exact Runs.yes (by omega) (Runs.yes (by omega) (Runs.bind (Runs.pure _) h))
  ·
   exact Runs.no (by omega) h
 | cons c ds ih =>
  intro rest pre i n any x hdr hi hd hrest hpre hlen hn hsz hany hx0 hx1 h
  have hil : i < s.length := by
   rcases Nat.lt_or_ge i s.length with g | g
   ·
    exact g
   ·
    rw [List.drop_of_length_le g] at hdr; cases hdr
  have hg := List.drop_eq_getElem_cons hil
  rw [hdr, List.cons_append] at hg
  injection hg with hc hrestd
  have hdc := hd c (List.mem_cons_self ..)
  obtain ⟨e1, e2⟩ := sub48 c hdc
  have hl1 : (c :: ds).length = ds.length + 1 := rfl
  have hvs : val (pre ++ [c]) = val pre * 10 + (c.toNat - 48) := by rw [val_snoc, Nat.mul_comm]
  have hstep := hsz.step e2
  rw [← hvs] at hstep
  have hpv := val_lt pre hpre
  have hfew : FewM (val pre) := by
   refine fewM_two (Nat.lt_trans hpv (pow10_lt pre.length)) (by omega)
  have ih' := fun (m : Nat) (hm : m ≤ (pre ++ [c]).length) (hsm : SizeOk (val (pre ++ [c])) m) (y : Int) (hy : y = if p = 1 then x - 1 else x) =>
   ih rest (pre ++ [c]) (i + 1) m true y hrestd.symm (by omega) (fun z hz => hd z (List.mem_cons_of_mem _ hz)) hrest
    (fun z hz => by
     rcases List.mem_append.1 hz with hz | hz
     ·
      exact hpre z hz
     ·
      rw [List.mem_singleton.1 hz]; exact hdc)
    (by rw [List.length_append, List.length_singleton]; omega) hm hsm (by symm; exact decide_eq_true (by simp)) (by rw [hy]; split <;> omega) (by rw [hy]; split <;> omega)
    (by
     intro n' hn' hs'
     rw [List.append_assoc, List.singleton_append] at hs' ⊢
     rw [List.length_append, List.length_singleton] at hn'
     have := h n' (by omega) hs'
     rw [show i + 1 + ds.length = i + (c :: ds).length by omega]
     have e3 : (if p = 1 then y - (ds.length : Int) else y) = (if p = 1 then x - ((c :: ds).length : Int) else x) := by
      rw [hy, hl1]; split <;> omega
     rw [e3]; exact this)
  refine Runs.suc ?_
  simp only [r_Parse.l1]
  rw [mk_size, mk_bt s i hil, refdigit_f, ← hc, hdc]
  refine Runs.yes (by omega) (Runs.yes (by omega) (Runs.bind (Runs.pure _) (Runs.suc ?_)))
  simp only [r_Parse.j5]
  rw [mk_size, mk_bt s i hil, ← hc, e1, w64 (n := (i : Int) + 1) (by omega) (by omega), w64 (n := (n : Int) + 1) (by omega) (by omega), w64 (n := x - 1) (by omega) (by omega)]
  refine Runs.yes trivial (Runs.yes (by omega) (Runs.yes (by omega) (Runs.bind (rtimes_f (val pre) 10 (c.toNat - 48) hfew (by decide) (by decide) (by omega)) ?_)))
  rw [← hvs]
  have hla : (pre ++ [c]).length = pre.length + 1 := by simp
  by_cases hpos : 0 < val (pre ++ [c])
  ·
   rw [if_pos hpos] at hstep
   have hne : (M (val (pre ++ [c]))).length ≠ 0 := fun g => by have := (M_nil_iff _).1 g; omega
   refine Runs.yes (by omega) ?_
   rcases hp with rfl | rfl
   ·
    exact Runs.no (by decide) (ih' (n + 1) (by omega) hstep x rfl)
   ·
    exact Runs.yes rfl (ih' (n + 1) (by omega) hstep (x - 1) rfl)
  ·
   rw [if_neg hpos] at hstep
   have hz : (M (val (pre ++ [c]))).length = 0 := (M_nil_iff _).2 (by omega)
   refine Runs.no (by omega) ?_
   rcases hp with rfl | rfl
   ·
    exact Runs.no (by decide) (ih' n (by omega) hstep x rfl)
   ·
    exact Runs.yes rfl (ih' n (by omega) hstep (x - 1) rfl)
end Go.Proofs.YtjlnfnfdibfniaaDoor.Pl
namespace Go.Proofs.YtjlnfnfdibfniaaDoor.Pl
open F Hd Go.RowKit Go.Proofs.YtjlnfnfdibfniaaDoorW.PrintWords Go.Proofs.YtjlnfnfdibfniaaDoorW.PrintMore
theorem tw_spec : ∀ l : List UInt8, ∃ a r, l.takeWhile isDig = a ∧ l = a ++ r ∧ (∀ c ∈ a, isDig c = true) ∧ (∀ c s, r = c :: s → isDig c = false) := by
 intro l
 induction l with
 | nil => exact ⟨[], [], rfl, rfl, fun c h => (by cases h), fun c s h => (by cases h)⟩
 | cons x l ih =>
  cases hx : isDig x with
  | false =>
   refine ⟨[], x :: l, by rw [List.takeWhile_cons, hx]; rfl, rfl, fun c h => (by cases h), ?_⟩
   intro c s h
   injection h with h _
   rw [← h]; exact hx
  | true =>
   obtain ⟨a, r, h1, h2, h3, h4⟩ := ih
   refine ⟨x :: a, r, by rw [List.takeWhile_cons, hx, if_pos rfl, h1], by rw [h2]; rfl, ?_, h4⟩
   intro c hc
   rcases List.mem_cons.1 hc with rfl | hc
   ·
    exact hx
   ·
    exact h3 c hc
theorem digs_spec (l : List UInt8) : l = (digs l).1 ++ (digs l).2 ∧ (∀ c ∈ (digs l).1, isDig c = true) ∧ (∀ c s, (digs l).2 = c :: s → isDig c = false) := by
 obtain ⟨a, r, h1, h2, h3, h4⟩ := tw_spec l
 have h5 : (digs l).1 = a := by
  unfold digs
  rw [h1, h2, List.take_left']; rfl
 have h6 : (digs l).2 = r := by
  unfold digs
  rw [h1, h2, List.drop_left']; rfl
 rw [h5, h6]
 exact ⟨h2, h3, h4⟩
theorem rp_l0 (s : List UInt8) (neg : Bool) (b : Nat) (e : Int) (hs : s.length ≤ 400) (h : FinTo (dspec s) neg b e) : Runs (fun k => r_Parse.l0 k (mk s) neg 0 false 0 0 ([] : List Int) 0) (b, e) := by
 obtain ⟨h1, h2, h3⟩ := digs_spec s
 have hlen : (digs s).1.length + (digs s).2.length = s.length := by rw [← List.length_append, ← h1]
 unfold dspec at h
 generalize (digs s).1 = a at *
 generalize hR : (digs s).2 = R at *
 have hdr : s.drop a.length = R := by
  conv => lhs; rw [h1]
  exact List.drop_left' rfl
 refine Runs.suc ?_
 simp only [r_Parse.l0]
 refine Runs.yes (by decide) ?_
 have hz : M (val []) = [] := M_zero
 have := rp_l1 s neg 0 (.inl rfl) (b, e) hs a R [] 0 0 false 0 (by rw [List.drop_zero]; exact h1) (by omega) h2 h3 (fun c hc => by cases hc) (by simp; omega) (by simp) (.inl ⟨rfl, rfl⟩) rfl (by omega) (by omega) (by
  intro n' hn' hsz
  rw [List.nil_append] at hsz ⊢
  rw [if_neg (by decide), Nat.zero_add]
  rw [List.length_nil, Nat.zero_add] at hn'
  refine Runs.suc ?_
  simp only [r_Parse.j5]
  rw [mk_size]
  refine Runs.no (by decide) (Runs.yes rfl ?_)
  rcases R with _ | ⟨c, r⟩
  ·
   simp only at h
   have hl0 : ([] : List UInt8).length = 0 := rfl
   refine Runs.no (by omega) ?_
   exact rp_j6 s a neg _ a.length n' 0 b e hs (by omega) rfl h2 (by omega) (by omega) hsz (by omega) (by omega) (by rw [hdr]; exact h)
  ·
   have hcl : (c :: r).length = r.length + 1 := rfl
   have hal : a.length < s.length := by omega
   have hg := List.drop_eq_getElem_cons hal
   rw [hdr] at hg
   injection hg with hc hr
   refine Runs.yes (by omega) (Runs.yes (by omega) ?_)
   rw [mk_bt s a.length hal, ← hc]
   simp only at h
   by_cases h46 : c.toNat = 46
   ·
    rw [if_pos h46] at h
    refine Runs.yes (by omega) (Runs.suc ?_)
    simp only [r_Parse.l0]
    rw [w64 (n := (a.length : Int) + 1) (by omega) (by omega), w64 (n := ((0 : Nat) : Int) + 1) (by omega) (by omega)]
    refine Runs.yes (by decide) ?_
    obtain ⟨k1, k2, k3⟩ := digs_spec r
    have klen : (digs r).1.length + (digs r).2.length = r.length := by rw [← List.length_append, ← k1]
    generalize (digs r).1 = d at *
    generalize hR2 : (digs r).2 = R2 at *
    have hdr2 : s.drop (a.length + 1) = d ++ R2 := by rw [← hr, ← k1]
    have hdr3 : s.drop (a.length + 1 + d.length) = R2 := by
     rw [← List.drop_drop, hdr2]
     exact List.drop_left' rfl
    have := rp_l1 s neg 1 (.inr rfl) (b, e) hs d R2 a (a.length + 1) n' (decide (a ≠ [])) 0 hdr2 (by omega) k2 k3 h2 (by omega) hn' hsz rfl (by omega) (by omega) (by
     intro n'' hn'' hsz''
     rw [if_pos rfl]
     refine Runs.suc ?_
     simp only [r_Parse.j5]
     refine Runs.no (by decide) (Runs.no (by decide) (Runs.suc ?_))
     simp only [r_Parse.l0]
     rw [w64 (n := ((1 : Nat) : Int) + 1) (by omega) (by omega)]
     refine Runs.no (by decide) ?_
     refine rp_j6 s (a ++ d) neg _ (a.length + 1 + d.length) n'' (0 - (d.length : Int)) b e hs (by omega) rfl ?_ (by rw [List.length_append]; omega) (by omega) hsz'' (by omega) (by omega) (by rw [hdr3, Int.zero_sub]; exact h)
     intro z hz
     rcases List.mem_append.1 hz with hz | hz
     ·
      exact h2 z hz
     ·
      exact k2 z hz)
    exact this
   ·
    rw [if_neg h46] at h
    refine Runs.no (by omega) ?_
    exact rp_j6 s a neg _ a.length n' 0 b e hs (by omega) rfl h2 (by omega) (by omega) hsz (by omega) (by omega) (by rw [hdr]; exact h))
 rw [hz] at this
 exact this
theorem low_mk (l : List UInt8) (hl : l.length ≤ 1000) : r_lower.f (mk l) = some (mk (l.map lowc)) := by
 unfold r_lower.f
 rw [mk_size, if_pos (by omega)]
 show some (smallF (mk l)) = _
 unfold smallF
 rw [mk_data]; rfl
theorem rparse_j1 (l r : List UInt8) (neg : Bool) (b : Nat) (e : Int) (hl : l.length ≤ 400) (hr : r.length ≤ 400) (hs : sgn l = (neg, r)) (h : ParseTo l b e) : Runs (fun k => r_Parse.j1 k (mk r) neg) (b, e) := by
 simp only [ParseTo, if_neg (show ¬ 400 < l.length by omega), hs] at h
 have hI : INF = 9218868437227405312 := rfl
 have lift : ∀ R, Runs (fun k => if r.map lowc = ([110, 97, 110] : List UInt8) then ((r_NaN.f).bind fun t643 => (some (t643, 0))) else (if r.map lowc = ([105, 110, 102] : List UInt8) then (r_Parse.j2 k (mk r) neg true) else (r_Parse.j2 k (mk r) neg (r.map lowc == ([105, 110, 102, 105, 110, 105, 116, 121] : List UInt8))))) R → Runs (fun k => r_Parse.j1 k (mk r) neg) R := by
  intro R h
  refine Runs.suc ?_
  simp only [r_Parse.j1]
  rw [low_mk r (by omega)]
  refine Runs.bind (Runs.pure _) ?_
  show Runs (fun k => if (mk (r.map lowc)).toList = _ then _ else if (mk (r.map lowc)).toList = _ then _ else r_Parse.j2 k (mk r) neg ((mk (r.map lowc)).toList == _)) R
  rw [mk_list]
  exact h
 refine lift _ ?_
 have inf : b = INF + signBit neg ∧ e = 0 → Runs (fun k => r_Parse.j2 k (mk r) neg true) (b, e) := by
  intro h
  refine Runs.suc ?_
  simp only [r_Parse.j2]
  have := signed_f INF neg (Nat.le_refl _)
  have h2 : r_signed.f 9218868437227405312 neg = some (INF + signBit neg) := this
  rw [h2]
  exact Runs.yes trivial (Runs.bind (Runs.pure _) ((Runs.pure _).of (by rw [h.1, h.2])))
 by_cases h1 : r.map lowc = [110, 97, 110]
 ·
  rw [if_pos h1] at h
  refine Runs.yes h1 (Runs.bind (Runs.pure (9221120237041090561 : Int).toNat) ((Runs.pure _).of ?_))
  rw [h.1, h.2]; rfl
 ·
  rw [if_neg h1] at h
  refine Runs.no h1 ?_
  by_cases h2 : r.map lowc = [105, 110, 102]
  ·
   rw [if_pos (.inl h2)] at h
   exact Runs.yes h2 (inf h)
  ·
   refine Runs.no h2 ?_
   by_cases h3 : r.map lowc = [105, 110, 102, 105, 110, 105, 116, 121]
   ·
    rw [if_pos (.inr h3)] at h
    have : (r.map lowc == [105, 110, 102, 105, 110, 105, 116, 121]) = true := beq_iff_eq.2 h3
    rw [this]
    exact inf h
   ·
    rw [if_neg (fun g => g.elim h2 h3)] at h
    have : (r.map lowc == [105, 110, 102, 105, 110, 105, 116, 121]) = false := beq_eq_false_iff_ne.2 h3
    rw [this]
    refine Runs.suc ?_
    simp only [r_Parse.j2]
    refine Runs.no (by decide) (rp_l0 r neg b e hr ?_)
    unfold FinTo
    exact h
theorem rparse_f (l : List UInt8) (b : Nat) (e : Int) (h : ParseTo l b e) : Runs (fun k => r_Parse.f k (mk l)) (b, e) := by
 by_cases hb : 400 < l.length
 ·
  unfold ParseTo at h
  rw [if_pos hb] at h
  simp only [r_Parse.f]
  rw [mk_size]
  exact Runs.yes (by omega) ((Runs.pure _).of (by rw [h.1, h.2]))
 ·
  simp only [r_Parse.f]
  rw [mk_size]
  refine Runs.no (by omega) ?_
  rcases l with _ | ⟨c, r⟩
  ·
   refine Runs.no (by simp) (Runs.suc ?_)
   simp only [r_Parse.j0]
   exact Runs.no (by decide) (rparse_j1 [] [] false b e (by simp) (by simp) rfl h)
  ·
   have hl : (c :: r).length = r.length + 1 := rfl
   rw [mk_bt0]
   refine Runs.yes (by omega) (Runs.yes (by omega) ?_)
   by_cases h45 : c.toNat = 45
   ·
    have hb2 : (((c.toNat : Int)) == 45) = true := by rw [beq_iff_eq]; omega
    refine Runs.no (by omega) ?_
    rw [hb2]
    refine Runs.suc ?_
    simp only [r_Parse.j0]
    rw [mk_size, mk_bt0, mk_from, hb2]
    exact Runs.yes trivial (Runs.yes (by omega) (Runs.yes (by omega) (rparse_j1 (c :: r) r true b e (by omega) (by omega) (by unfold sgn; simp only; rw [if_pos h45]) h)))
   ·
    have hb2 : (((c.toNat : Int)) == 45) = false := by rw [beq_eq_false_iff_ne]; omega
    by_cases h43 : c.toNat = 43
    ·
     refine Runs.yes (by omega) (Runs.suc ?_)
     simp only [r_Parse.j0]
     rw [mk_size, mk_bt0, mk_from, hb2]
     exact Runs.yes trivial (Runs.yes (by omega) (Runs.yes (by omega) (rparse_j1 (c :: r) r false b e (by omega) (by omega) (by unfold sgn; simp only; rw [if_neg h45, if_pos h43]) h)))
    ·
     refine Runs.no (by omega) ?_
     rw [hb2]
     refine Runs.suc ?_
     simp only [r_Parse.j0]
     exact Runs.no (by decide) (rparse_j1 (c :: r) (c :: r) false b e (by omega) (by omega) (by unfold sgn; simp only; rw [if_neg h45, if_neg h43]) h)
end Go.Proofs.YtjlnfnfdibfniaaDoor.Pl
namespace Go.Proofs.YtjlnfnfdibfniaaDoor.Pl
theorem wakes : F.w_wakes.f 400 = some true := by kernel_rfl
end Go.Proofs.YtjlnfnfdibfniaaDoor.Pl
namespace Go.Proofs.YtjlnfnfdibfniaaDoor.Pl
open F Hd Go.RowKit Go.Proofs.YtjlnfnfdibfniaaDoorW.PrintWords Go.Proofs.YtjlnfnfdibfniaaDoorW.PrintMore
theorem wakes_runs : Runs (fun k => F.w_wakes.f k) true := by
 refine ⟨400, fun k hk => ?_⟩
 obtain ⟨d, rfl⟩ : ∃ d, k = 400 + d := ⟨k - 400, by omega⟩
 induction d with
 | zero => exact wakes
 | succ d ih => exact F.w_wakes.mono _ _ (ih (by omega))
theorem bits_eq (a : Nat) : q_Bits.f a a = some true := by unfold q_Bits.f; simp
end Go.Proofs.YtjlnfnfdibfniaaDoor.Pl
namespace Go.Proofs.YtjlnfnfdibfniaaDoor.F
open Hd Pl Go.RowKit Go.Proofs.YtjlnfnfdibfniaaDoorW.PrintWords Go.Proofs.YtjlnfnfdibfniaaDoorW.PrintMore
theorem parse_both (s : ByteArray) (h : s.size ≤ 140737488351232) : ∃ b e, Runs (fun k => num_Parse.f k s) (b, e) ∧ Runs (fun k => r_Parse.f k s) (b, e) := by
 obtain ⟨b, e, hp, hrun⟩ := parse_f s.data.toList (by rw [len_data]; exact h)
 have h2 := rparse_f s.data.toList b e hp
 rw [mk_self] at hrun h2
 exact ⟨b, e, hrun, h2⟩
theorem parse_both' (s : ByteArray) : ∃ b e, Runs (fun k => num_Parse.f k s) (b, e) ∧ Runs (fun k => r_Parse.f k s) (b, e) := by
 by_cases h : s.size ≤ 140737488351232
 ·
  exact parse_both s h
 ·
  refine ⟨0, 8, ?_, ?_⟩
  ·
   simp only [num_Parse.f]
   exact Runs.yes (by omega) (Runs.pure _)
  ·
   simp only [r_Parse.f]
   exact Runs.yes (by omega) (Runs.pure _)
theorem parse_law_l0 (l : List ByteArray) : ∀ (d i : Nat), i + d = 4 → Runs (fun k => w_NumParse.l0 k l (i : Int)) true := by
 have last : ∀ x : Int, Runs (fun k => w_NumParse.j1 k l x false) true := by
  intro x
  refine Runs.suc ?_
  simp only [w_NumParse.j1]
  exact Runs.no (by decide) (Runs.bind wakes_runs (Runs.pure _))
 intro d
 induction d with
 | zero =>
  intro i hi
  refine Runs.suc ?_
  simp only [w_NumParse.l0]
  rw [decide_eq_false (show ¬ ((i : Int) < 4) by omega)]
  by_cases h : i < l.length
  ·
   exact Runs.yes (by omega) (last _)
  ·
   exact Runs.no (by omega) (last _)
 | succ d ih =>
  intro i hi
  refine Runs.suc ?_
  simp only [w_NumParse.l0]
  by_cases h : i < l.length
  ·
   rw [decide_eq_true (show ((i : Int) < 4) by omega)]
   refine Runs.yes (by omega) (Runs.suc ?_)
   simp only [w_NumParse.j1]
   obtain ⟨b, e, h1, h2⟩ := parse_both' (rdOf ByteArray.empty l (i : Int))
   refine Runs.yes trivial (Runs.yes (by omega) (Runs.yes (by omega) (Runs.bind h1 (Runs.bind h2 (Runs.yes rfl ?_)))))
   show Runs (fun k => (q_Bits.f b b).bind _) true
   rw [bits_eq]
   refine Runs.bind (Runs.pure _) (Runs.yes rfl ?_)
   have := ih (i + 1) (by omega)
   rw [show ((i + 1 : Nat) : Int) = wrap64 ((i : Int) + 1) by rw [w64 (by omega) (by omega)]; omega] at this
   exact this
  ·
   exact Runs.no (by omega) (last _)
def w_NumParse.Pure : Prop := ∀ l : List ByteArray, ∃ k, w_NumParse.f k l = some true
theorem law_parse_ : w_NumParse.Pure := by
 intro l
 have h : Runs (fun k => w_NumParse.f k l) true := by
  simp only [w_NumParse.f]
  exact parse_law_l0 l 4 0 (by omega)
 obtain ⟨K, hK⟩ := h
 exact ⟨K, hK K (Nat.le_refl _)⟩
def IsStrs (w : World) (a : Option Addr) (len cap : Nat) (zs : List ByteArray) : Prop :=
 (a = none ∧ len = 0 ∧ cap = 0 ∧ zs = []) ∨ ∃ x, a = some x ∧ len ≤ cap ∧ cap ≤ maxLen ∧ zs.length = len ∧ ∀ i, i < len → w.cell? (x.add i) = some (.string (zs.getD i ByteArray.empty))
theorem isStrs_take {w : World} {x : Addr} {len cap : Nat} {zs : List ByteArray} (hl : len ≤ cap) (hm : cap ≤ maxLen) (hz : zs.length = cap) (hcell : ∀ i, i < zs.length → w.cell? (x.add i) = some (.string (zs.getD i ByteArray.empty))) : IsStrs w (some x) len cap (zs.take len) := by
 refine .inr ⟨x, rfl, hl, hm, by rw [List.length_take]; omega, fun i hi => ?_⟩
 rw [hcell i (by omega)]
 congr 2
 rw [List.getD_eq_getElem?_getD, List.getD_eq_getElem?_getD, List.getElem?_take, if_pos hi]
theorem IsStrs.reads {w : World} {a : Option Addr} {len cap : Nat} {zs : List ByteArray} (h : IsStrs w a len cap zs) : len = zs.length ∧ Kd.C Kd.string w a zs.length zs ∧ zs.length ≤ cap := by
 rcases h with ⟨rfl, rfl, rfl, rfl⟩ | ⟨x, rfl, h1, h2, h3, h4⟩
 ·
  exact ⟨rfl, Kd.C_nil _ _, Nat.le_refl _⟩
 ·
  subst h3
  refine ⟨rfl, ⟨rfl, ?_, fun _ => ⟨x, rfl, ?_⟩⟩, h1⟩
  ·
   have : maxLen ≤ 9223372036854775807 := by decide
   omega
  ·
   intro j p hp
   have hj : j < zs.length := (List.getElem?_eq_some_iff.1 hp).1
   refine ⟨[.string p], rfl, rfl, ?_⟩
   intro i u hu
   have hi : i = 0 := by
    have := (List.getElem?_eq_some_iff.1 hu).1
    simp at this; exact this
   subst hi
   have e : u = .string p := by simpa using hu.symm
   have hc := h4 j hj
   rw [List.getD_eq_getElem?_getD, hp] at hc
   rw [e]
   have e2 : j * (Kd.string).sz + 0 = j := by show j * 1 + 0 = j; omega
   rw [e2]; exact hc
theorem w_NumParse.walk (P : w_NumParse.Pure) (a0 : Option Addr) (len0 cap0 : Nat) (z0 : List ByteArray) (w : World) (w0 : IsStrs w a0 len0 cap0 z0) :
  Calls Tryd.prog 4 #[.slice a0 len0 cap0] w fun e w' => e = .returned (.bool true) ∧ Below w.heap.size w w' := by
 obtain ⟨rfl, hr, hc⟩ := w0.reads
 obtain ⟨k, h⟩ := P z0
 exact w_NumParse.calls k a0 cap0 z0 true w hr hc h
end Go.Proofs.YtjlnfnfdibfniaaDoor.F
namespace Go.Proofs.YtjlnfnfdibfniaaDoor.Pl
theorem law_parse : F.w_NumParse.Pure := F.law_parse_
end Go.Proofs.YtjlnfnfdibfniaaDoor.Pl
namespace Go.Proofs.YtjlnfnfdibfniaaDoor.numParse
open Go.ChangeShapes Go.WideShapes Go.ChangeAt Go.RowKit
open Go.ChangeMaps (open_string shut_string)
set_option linter.unusedVariables false
theorem own : ownKnob Tryd.prog.godebug = none := by kernel_rfl
theorem laidOut : laidOutB Tryd.prog = true := by kernel_rfl
def IsRow (k : IntKind) (w : World) (a : Option Addr) (len cap : Nat) (zs : List Int) : Prop :=
  (a = none ∧ len = 0 ∧ cap = 0 ∧ zs = []) ∨
  ∃ x, a = some x ∧ len ≤ cap ∧ cap ≤ maxLen ∧ zs.length = cap ∧ (∀ i, i < zs.length → w.cell? (x.add i) = some (.int k (zs.getD i 0))) ∧ ∀ n ∈ zs, (Lit.int k n).wf = true
set_option maxRecDepth 100000 in
theorem lifted (os : Os) (started : os.Started) (H : Type) (enc : TypeId × Value → H) :
    ReturnsInHanded {} Tryd.checked os 4 .any (fun w args => (Rows.numParseSpec.pre enc Tryd.prog Tryd.f4 [] false w args ∧ laidMetH Tryd.prog Rows.numParseRow.laid w) ∧ sizedMet enc Tryd.prog Tryd.f4 (OpenSpec.ofChange Rows.numParseSpec) false w args)
      (Rows.numParseSpec.post enc Tryd.prog Tryd.f4 false true false false) := by
  refine returnsInHanded_of_change_and (C := Tryd.checked) (X := fun w _ => laidMetH Tryd.prog Rows.numParseRow.laid w) (fun _ _ _ hh h => h.of_heap hh) own started (by kernel_rfl) Tryd.func4
    (ChangeSpec.witness_shaped (enc := enc) (C := Tryd.checked) (os := os) (X := fun w _ => laidMetH Tryd.prog Rows.numParseRow.laid w) false (World.laidAll Tryd.prog os Rows.numParseRow.laid) #[.slice none 0 0] 8 (World.laidAll_os _ _ _)
      (World.shaped_of_ZipB (by kernel_rfl) (by kernel_rfl)) (by kernel_rfl) (by kernel_rfl) (by kernel_rfl)
      (by rw [MakeChecks.laidMetH_plain _ _ _ (by kernel_rfl)]; exact laidMet_laidAll _ (by kernel_rfl) (by kernel_rfl))) ?_
  intro W base args ds gs before hval0 hW _ hsz0 _ _
  have hsz : (DataW.weightsEach Tryd.prog (Tryd.f4.params.toList ++ Rows.numParseSpec.plain.varTypes Tryd.prog) (ds ++ gs)).all (· ≤ reachBytes) = true := hsz0
  have hval : ∀ (j : Nat) t v, Tryd.f4.params[j]? = some t → args[j]? = some v → Value.okWide Tryd.prog W .any base t v := hval0
  have hW' := hW
  obtain ⟨p, q, hA0, hV, rfl, _, _⟩ := hW
  have hA : DataW.TrodAll enc Tryd.prog W 0 (fun _ => true) true Tryd.f4.params.toList args.toList ds p := hA0
  rw [Tryd.params4] at hA hval hsz
  obtain ⟨v0, vs0, d0, ds0, p0, q0, hargs, rfl, rfl, h0, r0⟩ := trodAll_cons hA
  obtain ⟨rfl, rfl, rfl⟩ := trodAll_nil r0
  obtain rfl : args = #[v0] := by cases args; simp_all
  obtain ⟨rfl, rfl⟩ := trodVars_none hV
  obtain ⟨a0, len0, cap0, rfl⟩ := okWide_slice Tryd.underlying31 (hval 0 31 v0 rfl rfl)
  have k0 := h0
  have lt0 : ∀ x ∈ p0, x.block < W.heap.size := by obtain ⟨m, hm⟩ := k0; exact DataW.trod_lt m _ _ _ hm
  obtain ⟨z0, w0⟩ : ∃ zs, F.IsStrs W a0 len0 cap0 zs := by
    obtain ⟨fuel, hf⟩ := h0
    rcases open_strings Tryd.underlying31 Tryd.underlying9 (by kernel_rfl) hf with ⟨hcs, _⟩ | ⟨x, l, c, zs, hcs, _, hl, hm, hz, _, hcell, _⟩
    · simp [Value.cells] at hcs
      obtain ⟨rfl, rfl, rfl⟩ := hcs
      exact ⟨[], .inl ⟨rfl, rfl, rfl, rfl⟩⟩
    · simp [Value.cells] at hcs
      obtain ⟨rfl, rfl, rfl⟩ := hcs
      exact ⟨zs.take len0, F.isStrs_take hl hm (by simpa using hz) hcell⟩
  clear hA0 hval0 hsz0 hsz
  refine (F.w_NumParse.walk Pl.law_parse a0 len0 cap0 z0 W w0).mono fun e W' ⟨he, bel⟩ => ?_
  subst he
  exact ⟨_, rfl, _, _, _, [], _, [], hW', trodAll_mk1 (shut_bool Tryd.underlying4 _), (trodAll_cons_mk (Below.trod laidOut (by kernel_rfl) (of_decide_eq_true (by kernel_rfl)) k0 bel lt0) trodAll_mk0), rfl, bel.frame _, fun h => by cases h⟩
theorem over : Rows.numParseRow.holds Tryd.pinned (OpenSpec.ofChange Rows.numParseSpec) :=
  OpenClaim.holds_of_wide 4 Tryd.f4 rfl rfl rfl rfl rfl rfl rfl ⟨rfl, rfl, rfl, rfl, rfl⟩ rfl rfl rfl rfl rfl (by kernel_rfl) Tryd.func4 (by kernel_rfl)
    (of_decide_eq_true (by kernel_rfl)) (by unfold Func.isWrapper; first | (rw [if_pos (by decide +kernel)]; kernel_rfl) | (rw [if_neg (by decide +kernel)]; exact ⟨rfl, rfl⟩))
    (fun os started H enc _ => lifted os started H enc)
theorem card_holds : Rows.NumParseCardSaid :=
  Claim7.holds_tied_plain_at .later [] [.data, .pinned] true (true, "a90acdf829413157ef6e6e8aea78a484b42a66cc9924c82fc4fb50f94bff3414") false over (fun _ h => by cases h) (by kernel_rfl) (fun _ h => by cases h) numParse_row_tie rfl ⟨rfl, rfl⟩ (by kernel_rfl) rfl
    (fun f fn hf hfn => by
      obtain rfl : f = 4 := Option.some.inj ((show Tryd.prog.funcNamed "vigil/vigillaw03.NumParse" = some 4 by kernel_rfl).symm.trans hf) |>.symm
      obtain rfl : fn = Tryd.f4 := (Option.some.inj (Tryd.func4.symm.trans hfn)).symm
      exact ⟨by kernel_rfl, fun j t ht => by
        rw [Tryd.params4] at ht
        have hm : t ∈ [31] := by have h_ := Array.mem_of_getElem? ht; simp at h_ ⊢; omega
        have hall : ([31].all fun u => !Tryd.prog.wantsStandIn u) = true := by kernel_rfl
        exact (show Tryd.prog.wantsStandIn t = false by simpa using List.all_eq_true.1 hall t hm)⟩)
    (by kernel_rfl)
#print axioms card_holds
end Go.Proofs.YtjlnfnfdibfniaaDoor.numParse
namespace Go.Proofs.YtjlnfnfdibfniaaDoor
theorem numParse_card : Rows.NumParseCardSaid := numParse.card_holds
end Go.Proofs.YtjlnfnfdibfniaaDoor

