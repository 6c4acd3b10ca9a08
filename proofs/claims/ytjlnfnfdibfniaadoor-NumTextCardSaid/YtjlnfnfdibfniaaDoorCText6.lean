/- Words and walked functions of the proof (part 6). -/
import Derived.Test.YtjlnfnfdibfniaaDoorCText5
import Derived.Laws.Bits64
import Derived.Laws.BitsLemmas
import Ieee.Arith
import GoSem.Core.Float
import Derived.Laws.FloatArith
import Derived.Laws.BitsAllLaws
import Derived.Laws.Strings
import Derived.KernelRfl
namespace Go.Proofs.YtjlnfnfdibfniaaDoor.Pl
open F Hd Go.RowKit Go.Proofs.YW.PWords Go.Proofs.YW.PMore
theorem w64 {n : Int} (h0 : -9223372036854775808 ≤ n) (h1 : n ≤ 9223372036854775807) : wrap64 n = n := by unfold wrap64; omega
theorem u64w {n : Int} (h0 : 0 ≤ n) (h1 : n < 18446744073709551616) : IntKind.u64.wrap n = n := by rw [IntKind.wrap_u64]; omega
theorem rd_get (l : List Int) (i : Nat) (h : i < l.length) : rd l (i : Int) = l[i] := by
 unfold rd
 rw [Int.toNat_natCast, List.getD_eq_getElem?_getD, List.getElem?_eq_getElem h]; rfl
def L (n : Nat) : List Int := lim 4294967296 n
theorem L_zero : L 0 = [] := lim_zero _
theorem L_nv (n : Nat) : nv 4294967296 (L n) = n := nv_lim (by decide) n
theorem L_wf (n : Nat) : Wf 4294967296 (L n) := wf_lim (by decide) n
def Few (n : Nat) : Prop := (L n).length ≤ 1000000
theorem few_of {n s : Nat} (h : n < 4294967296 ^ s) (hs : s ≤ 1000000) : Few n := Nat.le_trans (lim_len (by decide) s n h) hs
theorem trim_runs (l : List Int) (hw : Wf 4294967296 l) (hl : l.length ≤ 10000000) : Runs (fun k => num_nat_trim.l0 k l) (L (nv 4294967296 l)) := by
 generalize hn : l.length = n at hl
 induction n generalizing l with
 | zero =>
  have : l = [] := List.length_eq_zero_iff.1 hn
  subst this
  refine Runs.suc ?_
  simp only [num_nat_trim.l0]
  refine Runs.no (by simp) ?_
  exact (Runs.pure _).of (by rw [nv, L_zero])
 | succ n ih =>
  obtain ⟨m, x, rfl⟩ : ∃ m x, l = m ++ [x] := by
   rcases snoc_cases l with h | h
   ·
    rw [h] at hn; simp at hn
   ·
    exact h
  have hlen : m.length = n := by simpa using hn
  have hll : (m ++ [x]).length = m.length + 1 := by simp
  have hwr : wrap64 (((m ++ [x]).length : Int) - 1) = (m.length : Int) := by rw [hll, w64 (by omega) (by omega)]; omega
  have hrd : rd (m ++ [x]) (m.length : Int) = x := by
   rw [rd_get _ _ (by rw [hll]; omega)]; simp
  refine Runs.suc ?_
  simp only [num_nat_trim.l0]
  rw [hwr, hrd]
  refine Runs.yes (by rw [hll]; omega) (Runs.yes (by omega) (Runs.yes (by rw [hll]; omega) ?_))
  have hx := hw x (by simp)
  by_cases h0 : x = 0
  ·
   refine Runs.yes h0 (Runs.yes (by rw [hll]; omega) ?_)
   rw [h0, nv_snoc_zero, Int.toNat_natCast, List.take_left']
   ·
    exact ih m hw.left hlen (by omega)
   ·
    rfl
  ·
   refine Runs.no h0 ?_
   refine (Runs.pure _).of ?_
   exact (lim_snoc (by decide) hw.left (by omega) hx.2).symm
theorem trim_f (l : List Int) (hw : Wf 4294967296 l) (hl : l.length ≤ 10000000) : Runs (fun k => num_nat_trim.f k l) (L (nv 4294967296 l)) := trim_runs l hw hl
theorem of_f (n : Nat) (h : n < 18446744073709551616) : Runs (fun k => num_of.f k (n : Int)) (L n) := by
 simp only [num_of.f]
 refine Runs.bind (trim_f _ ?_ (by simp)) ?_
 ·
  intro x hx
  simp only [List.mem_cons, List.not_mem_nil, or_false] at hx
  omega
 ·
  refine (Runs.pure _).of ?_
  congr 1
  simp only [nv]
  omega
theorem times_loop (l : List Int) (hw : Wf 4294967296 l) (hlen : l.length ≤ 1000000) (m : Nat) (hm : m < 4294967296) :
  ∀ (d i : Nat), i + d = l.length → ∀ (out : List Int) (c : Nat), out.length = l.length + 1 → Wf 4294967296 (out.take i) → c < 4294967296 →
  Runs (fun k => num_nat_times.l0 k l (m : Int) out (c : Int) l (l.length : Int) (i : Int)) (L (nv 4294967296 (out.take i) + 4294967296 ^ i * (c + m * nv 4294967296 (l.drop i)))) := by
 intro d
 induction d with
 | zero =>
  intro i hi out c ho hwo hc
  obtain rfl : i = l.length := by omega
  refine Runs.suc ?_
  simp only [num_nat_times.l0]
  refine Runs.no (by omega) (Runs.yes (by omega) (Runs.yes (by omega) ?_))
  rw [show ((c : Int) % 4294967296) = (c : Int) by omega, Int.toNat_natCast]
  have hset : out.set l.length (c : Int) = out.take l.length ++ [(c : Int)] := by
   have := take_set_succ out l.length (c : Int) (by omega)
   rw [← this, List.take_of_length_le (by rw [List.length_set]; omega)]
  rw [hset]
  refine Runs.bind (trim_f _ (hwo.append (Wf.one (by omega) (by omega))) (by simp; omega)) ((Runs.pure _).of ?_)
  rw [nv_append, nv_one, List.length_take, Nat.min_eq_left (by omega), List.drop_of_length_le (Nat.le_refl _)]
  simp [nv]
 | succ d ih =>
  intro i hi out c ho hwo hc
  have hil : i < l.length := by omega
  have hx := hw.get hil
  obtain ⟨y, hy⟩ := Int.eq_ofNat_of_zero_le hx.1
  have hy1 : y < 4294967296 := by omega
  have hym : y * m ≤ 4294967295 * 4294967295 := Nat.mul_le_mul (by omega) (by omega)
  refine Runs.suc ?_
  simp only [num_nat_times.l0]
  rw [rd_get l i hil, hy, u64w (n := (y : Int)) (by omega) (by omega), u64w (n := (m : Int)) (by omega) (by omega)]
  have e1 : (y : Int) * (m : Int) = ((y * m : Nat) : Int) := by simp
  rw [e1, u64w (n := ((y * m : Nat) : Int)) (by omega) (by omega), u64w (n := (c : Int) + ((y * m : Nat) : Int)) (by omega) (by omega)]
  have e2 : ((c : Int) + ((y * m : Nat) : Int)) % 4294967296 = (((c + y * m) % 4294967296 : Nat) : Int) := by omega
  have e3 : ((c : Int) + ((y * m : Nat) : Int)) / 4294967296 = (((c + y * m) / 4294967296 : Nat) : Int) := by omega
  rw [e2, e3, w64 (by omega) (by omega), Int.toNat_natCast]
  refine Runs.yes (by omega) (Runs.yes (by omega) (Runs.yes (by omega) (Runs.yes (by omega) ?_)))
  have hq : (c + y * m) % 4294967296 + 4294967296 * ((c + y * m) / 4294967296) = c + y * m := Nat.mod_add_div ..
  have hr : (c + y * m) % 4294967296 < 4294967296 := Nat.mod_lt _ (by decide)
  have hq2 : (c + y * m) / 4294967296 < 4294967296 := by omega
  generalize (c + y * m) % 4294967296 = r at *
  generalize (c + y * m) / 4294967296 = q at *
  have ht := take_set_succ out i (r : Int) (by omega)
  have := ih (i + 1) (by omega) (out.set i (r : Int)) q (by rw [List.length_set]; exact ho) (by rw [ht]; exact hwo.append (Wf.one (by omega) (by omega))) hq2
  refine Runs.of this ?_
  congr 1
  rw [ht, nv_append, nv_one, List.length_take, Nat.min_eq_left (by omega), nv_drop _ l i hil, hy, Int.toNat_natCast]
  simp only [Int.toNat_natCast]
  generalize nv 4294967296 (List.take i out) = N
  generalize nv 4294967296 (l.drop (i + 1)) = D
  rw [Nat.pow_succ]
  generalize 4294967296 ^ i = p
  grind
theorem times_f (a m p : Nat) (ha : Few a) (hm : m < 4294967296) (hp : p < 4294967296) : Runs (fun k => num_nat_times.f k (L a) (m : Int) (p : Int)) (L (a * m + p)) := by
 have ha' := ha
 unfold Few at ha'
 simp only [num_nat_times.f]
 rw [w64 (by omega) (by omega), u64w (n := (p : Int)) (by omega) (by omega)]
 have e : ((L a).length + 1 : Int).toNat = (L a).length + 1 := by omega
 rw [e]
 refine Runs.yes (by omega) (Runs.yes (by omega) ?_)
 refine Runs.of (times_loop (L a) (L_wf a) ha' m hm (L a).length 0 (by omega) _ p (by simp) (by rw [List.take_zero]; exact Wf.nil _) hp) ?_
 congr 1
 rw [List.take_zero, List.drop_zero, L_nv, nv]
 grind
theorem few_mono {a b : Nat} (h : a ≤ b) (hb : Few b) : Few a := by
 refine few_of (s := (L b).length) (Nat.lt_of_le_of_lt h ?_) hb
 exact lim_le (by decide) b
theorem tens_l1 (n : Nat) : ∀ (a : Nat), Few (a * 10 ^ n) → n ≤ 1000000 → Runs (fun k => num_nat_tens.l1 k (L a) (n : Int)) (L (a * 10 ^ n)) := by
 induction n with
 | zero =>
  intro a ha _
  refine Runs.suc ?_
  simp only [num_nat_tens.l1]
  exact Runs.no (by omega) ((Runs.pure _).of (by simp))
 | succ n ih =>
  intro a ha hn
  refine Runs.suc ?_
  simp only [num_nat_tens.l1]
  have hp : 0 < 10 ^ (n + 1) := Nat.pow_pos (by decide)
  refine Runs.yes (by omega) (Runs.bind (times_f a 10 0 (few_mono (Nat.le_mul_of_pos_right a hp) ha) (by decide) (by decide)) ?_)
  rw [w64 (by omega) (by omega), show ((n + 1 : Nat) : Int) - 1 = (n : Int) by omega]
  have e : a * 10 ^ (n + 1) = (a * 10 + 0) * 10 ^ n := by rw [Nat.pow_succ]; grind
  rw [e]
  exact ih (a * 10 + 0) (by rw [← e]; exact ha) (by omega)
theorem tens_l0 (q : Nat) : ∀ (a n : Nat), n / 9 = q → Few (a * 10 ^ n) → n ≤ 1000000 → Runs (fun k => num_nat_tens.l0 k (L a) (n : Int)) (L (a * 10 ^ n)) := by
 induction q with
 | zero =>
  intro a n hq ha hn
  refine Runs.suc ?_
  simp only [num_nat_tens.l0]
  exact Runs.no (by omega) (tens_l1 n a ha hn)
 | succ q ih =>
  intro a n hq ha hn
  refine Runs.suc ?_
  simp only [num_nat_tens.l0]
  obtain ⟨m, rfl⟩ : ∃ m, n = m + 9 := ⟨n - 9, by omega⟩
  have hp : 0 < 10 ^ (m + 9) := Nat.pow_pos (by decide)
  refine Runs.yes (by omega) (Runs.bind (times_f a 1000000000 0 (few_mono (Nat.le_mul_of_pos_right a hp) ha) (by decide) (by decide)) ?_)
  rw [w64 (by omega) (by omega), show ((m + 9 : Nat) : Int) - 9 = (m : Int) by omega]
  have e : a * 10 ^ (m + 9) = (a * 1000000000 + 0) * 10 ^ m := by rw [Nat.pow_add]; grind
  rw [e]
  exact ih _ m (by omega) (by rw [← e]; exact ha) (by omega)
theorem tens_f (a n : Nat) (h : Few (a * 10 ^ n)) (hn : n ≤ 1000000) : Runs (fun k => num_nat_tens.f k (L a) (n : Int)) (L (a * 10 ^ n)) := tens_l0 _ a n rfl h hn
end Go.Proofs.YtjlnfnfdibfniaaDoor.Pl
namespace Go.Proofs.YtjlnfnfdibfniaaDoor.Pl
open F Hd Go.RowKit Go.Proofs.YW.PWords Go.Proofs.YW.PMore
theorem bitLen_spec : ∀ (f x : Nat), x < 2 ^ f → x < 2 ^ Lib.bitLenAux f x ∧ (0 < x → 0 < Lib.bitLenAux f x ∧ 2 ^ (Lib.bitLenAux f x - 1) ≤ x) := by
 intro f
 induction f with
 | zero =>
  intro x h
  have : x = 0 := by simpa using h
  subst this; simp [Lib.bitLenAux]
 | succ f ih =>
  intro x h
  rw [Lib.bitLenAux]
  by_cases h0 : x = 0
  ·
   subst h0; simp
  ·
   rw [if_neg h0]
   have h2 : x / 2 < 2 ^ f := by rw [Nat.pow_succ] at h; omega
   obtain ⟨g1, g2⟩ := ih (x / 2) h2
   have hz : x / 2 = 0 → Lib.bitLenAux f (x / 2) = 0 := by
    intro h3
    rw [h3]
    cases f with
    | zero => rfl
    | succ f => rw [Lib.bitLenAux, if_pos rfl]
   generalize Lib.bitLenAux f (x / 2) = s at *
   refine ⟨?_, fun _ => ⟨by omega, ?_⟩⟩
   ·
    rw [Nat.add_comm 1 s, Nat.pow_succ]; omega
   ·
    rw [show 1 + s - 1 = s by omega]
    rcases Nat.eq_zero_or_pos (x / 2) with h3 | h3
    ·
     rw [hz h3]; simp; omega
    ·
     obtain ⟨g3, g4⟩ := g2 h3
     obtain ⟨t, rfl⟩ : ∃ t, s = t + 1 := ⟨s - 1, by omega⟩
     rw [Nat.add_sub_cancel] at g4
     rw [Nat.pow_succ]; omega
theorem size_f (n : Nat) (h : Few n) : ∃ s : Nat, (∀ r, num_nat_size.f (L n) = some r ↔ r = (s : Int)) ∧ n < 2 ^ s ∧ (0 < n → 0 < s ∧ 2 ^ (s - 1) ≤ n) ∧ s ≤ 32000000 := by
 unfold Few at h
 rcases Nat.eq_zero_or_pos n with h0 | h0
 ·
  refine ⟨0, ?_, by rw [h0]; simp, fun h => by omega, by omega⟩
  intro r
  rw [h0, L_zero]
  unfold num_nat_size.f
  rw [if_pos (by simp)]
  constructor
  ·
   intro e; injection e with e; rw [← e]; rfl
  ·
   intro e; rw [e]; rfl
 ·
  obtain ⟨l, x, e, hx0, hx1⟩ := lim_last (B := 4294967296) (by decide) n h0
  have e' : L n = l ++ [x] := e
  rw [e'] at h
  have hll : (l ++ [x]).length = l.length + 1 := by simp
  obtain ⟨y, rfl⟩ := Int.eq_ofNat_of_zero_le (Int.le_of_lt hx0)
  have hv : n = nv 4294967296 l + 4294967296 ^ l.length * y := by
   have := L_nv n
   rw [e', nv_append, nv_one, Int.toNat_natCast] at this
   exact this.symm
  have hl : nv 4294967296 l < 4294967296 ^ l.length := nv_lt (by decide) (by have := L_wf n; rw [e'] at this; exact this.left)
  have hp : 4294967296 ^ l.length = 2 ^ (32 * l.length) := by rw [Nat.pow_mul]
  rw [hp] at hv hl
  have hy0 : 0 < y := by omega
  have hy : y < 4294967296 := by omega
  obtain ⟨g1, g2⟩ := bitLen_spec 64 y (by omega)
  obtain ⟨g2, g3⟩ := g2 hy0
  have g4 : Lib.bitLenAux 64 y ≤ 32 := by
   rcases Nat.lt_or_ge 32 (Lib.bitLenAux 64 y) with h5 | h5
   ·
    have := Nat.pow_le_pow_right (n := 2) (by decide) (show 32 ≤ Lib.bitLenAux 64 y - 1 by omega)
    have e32 : 2 ^ 32 = 4294967296 := by decide
    omega
   ·
    exact h5
  refine ⟨32 * l.length + Lib.bitLenAux 64 y, ?_, ?_, fun _ => ⟨by omega, ?_⟩, by omega⟩
  ·
   intro r
   rw [e']
   unfold num_nat_size.f
   rw [w64 (n := ((l ++ [(y : Int)]).length : Int) - 1) (by omega) (by omega), show ((l ++ [(y : Int)]).length : Int) - 1 = (l.length : Int) by omega]
   rw [if_neg (by omega), if_pos (by omega), if_pos (by omega), rd_get _ _ (by omega)]
   rw [List.getElem_append_right (Nat.le_refl _)]
   simp only [Nat.sub_self, List.getElem_cons_zero]
   unfold bits_Len32.f
   rw [if_pos (by omega), Option.bind_some, Int.toNat_natCast, w64 (n := 32 * (l.length : Int)) (by omega) (by omega)]
   show some (wrap64 (32 * (l.length : Int) + (Lib.bitLenAux 64 y : Int))) = some r ↔ _
   rw [w64 (by omega) (by omega)]
   constructor
   ·
    intro e; injection e with e; omega
   ·
    intro e; rw [e]; congr 1
  ·
   rw [Nat.pow_add, hv]
   generalize 2 ^ (32 * l.length) = p at *
   have : p * (y + 1) ≤ p * 2 ^ Lib.bitLenAux 64 y := Nat.mul_le_mul_left p g1
   rw [Nat.mul_add] at this
   omega
  ·
   rw [show 32 * l.length + Lib.bitLenAux 64 y - 1 = 32 * l.length + (Lib.bitLenAux 64 y - 1) by omega, Nat.pow_add, hv]
   generalize 2 ^ (32 * l.length) = p at *
   have : p * 2 ^ (Lib.bitLenAux 64 y - 1) ≤ p * y := Nat.mul_le_mul_left p g3
   omega
theorem wraps_u32 (n : Int) (h0 : 0 ≤ n) (h1 : n < 2 ^ 32) : IntKind.u32.wrap n = n := by rw [IntKind.wrap_u32]; omega
theorem join32 (s w c : Nat) (hs : s < 32) (hc : c < 2 ^ s) : Go.bits .or .u32 (((w * 2 ^ s : Nat) : Int) % 4294967296) (c : Int) = ((w * 2 ^ s % 4294967296 + c : Nat) : Int) := by
 have h2 : (2 : Int) ^ 32 = 4294967296 := by decide
 have h3 : 2 ^ 32 = 2 ^ (32 - s) * 2 ^ s := by rw [← Nat.pow_add]; congr 1; omega
 have hle : 2 ^ s ≤ 2 ^ 31 := Nat.pow_le_pow_right (by decide) (by omega)
 have hm : w * 2 ^ s % 4294967296 = (w % 2 ^ (32 - s)) * 2 ^ s := by
  rw [show (4294967296 : Nat) = 2 ^ (32 - s) * 2 ^ s by rw [← h3], Nat.mul_mod_mul_right]
 have e : ((w * 2 ^ s : Nat) : Int) % 4294967296 = (((w % 2 ^ (32 - s)) * 2 ^ s : Nat) : Int) := by rw [← hm]; omega
 have hlt : (w % 2 ^ (32 - s)) * 2 ^ s < 4294967296 := by rw [← hm]; exact Nat.mod_lt _ (by decide)
 have hdv : (((w % 2 ^ (32 - s)) * 2 ^ s : Nat) : Int) % 2 ^ s = 0 := by
  have : ((2 : Int) ^ s) = ((2 ^ s : Nat) : Int) := by simp
  rw [this, ← Int.natCast_emod, Nat.mul_mod_left]; rfl
 have hcc : (c : Int) < 2 ^ s := by exact_mod_cast hc
 rw [e, bits_join .u32 32 (by decide) wraps_u32 s _ _ (by omega) hdv (by rw [h2]; omega) (by omega) hcc (by rw [h2]; omega), hm]
 omega
theorem up_loop (l : List Int) (hw : Wf 4294967296 l) (hlen : l.length ≤ 1000000) (n : Nat) :
  ∀ (d i : Nat), i + d = l.length → ∀ (out : List Int) (c : Nat), out.length ≤ 8000000 + i → Wf 4294967296 out → c < 2 ^ (n % 32) →
  Runs (fun k => num_nat_up.l0 k (n : Int) out (c : Int) l (l.length : Int) (i : Int)) (L (nv 4294967296 out + 4294967296 ^ out.length * (c + 2 ^ (n % 32) * nv 4294967296 (l.drop i)))) := by
 have hs : n % 32 < 32 := Nat.mod_lt _ (by decide)
 have hpl : 2 ^ (n % 32) ≤ 2 ^ 31 := Nat.pow_le_pow_right (by decide) (by omega)
 have ht : Int.tmod (n : Int) 32 = ((n % 32 : Nat) : Int) := by rw [Int.tmod_eq_emod_of_nonneg (by omega)]; omega
 generalize n % 32 = s at *
 intro d
 induction d with
 | zero =>
  intro i hi out c ho hwo hc
  obtain rfl : i = l.length := by omega
  refine Runs.suc ?_
  simp only [num_nat_up.l0]
  refine Runs.no (by omega) (Runs.yes (by omega) ?_)
  refine Runs.bind (trim_f _ (hwo.append (Wf.one (by omega) (by omega))) (by simp; omega)) ((Runs.pure _).of ?_)
  rw [nv_append, nv_one, List.drop_of_length_le (Nat.le_refl _)]
  simp [nv]
 | succ d ih =>
  intro i hi out c ho hwo hc
  have hil : i < l.length := by omega
  have hx := hw.get hil
  obtain ⟨y, hy⟩ := Int.eq_ofNat_of_zero_le hx.1
  have hy1 : y < 4294967296 := by omega
  have hyp : y * 2 ^ s < 4294967296 * 2 ^ s := Nat.mul_lt_mul_of_pos_right hy1 (Nat.two_pow_pos _)
  refine Runs.suc ?_
  simp only [num_nat_up.l0]
  have hsh : shl .u64 (y : Int) (s : Int) = ((y * 2 ^ s : Nat) : Int) := by
   unfold shl
   have e : min (s : Int).toNat IntKind.u64.bits = s := by rw [Int.toNat_natCast]; show min s 64 = s; omega
   rw [e]
   have e2 : (y : Int) * 2 ^ s = ((y * 2 ^ s : Nat) : Int) := by simp
   rw [e2]
   exact u64w (by omega) (by omega)
  rw [rd_get l i hil, hy, u64w (n := (y : Int)) (by omega) (by omega), ht, hsh, join32 s y c hs hc]
  have hq : y * 2 ^ s % 4294967296 + 4294967296 * (y * 2 ^ s / 4294967296) = y * 2 ^ s := Nat.mod_add_div ..
  have h3 : 4294967296 = 2 ^ (32 - s) * 2 ^ s := by rw [← Nat.pow_add, show 32 - s + s = 32 by omega]
  have hr : y * 2 ^ s % 4294967296 + c < 4294967296 := by
   have h4 : y * 2 ^ s % (2 ^ (32 - s) * 2 ^ s) = (y % 2 ^ (32 - s)) * 2 ^ s := Nat.mul_mod_mul_right ..
   rw [← h3] at h4
   have h5 : (y % 2 ^ (32 - s) + 1) * 2 ^ s ≤ 2 ^ (32 - s) * 2 ^ s := Nat.mul_le_mul_right _ (Nat.mod_lt _ (Nat.two_pow_pos _))
   rw [← h3, Nat.add_mul, Nat.one_mul] at h5
   omega
  have hq2 : y * 2 ^ s / 4294967296 < 2 ^ s := Nat.div_lt_of_lt_mul hyp
  have e3 : ((y * 2 ^ s : Nat) : Int) / 4294967296 % 4294967296 = ((y * 2 ^ s / 4294967296 : Nat) : Int) := by omega
  rw [e3, w64 (by omega) (by omega)]
  refine Runs.yes (by omega) (Runs.yes (by omega) (Runs.yes (by omega) (Runs.yes (by omega) (Runs.yes (by omega) ?_))))
  have := ih (i + 1) (by omega) (out ++ [((y * 2 ^ s % 4294967296 + c : Nat) : Int)]) (y * 2 ^ s / 4294967296) (by simp; omega) (hwo.append (Wf.one (by omega) (by omega))) hq2
  refine Runs.of this ?_
  congr 1
  rw [nv_append, nv_one, List.length_append, List.length_singleton, nv_drop _ l i hil, hy, Int.toNat_natCast]
  simp only [Int.toNat_natCast]
  generalize y * 2 ^ s / 4294967296 = q at *
  generalize y * 2 ^ s % 4294967296 = r at *
  generalize nv 4294967296 out = N
  generalize nv 4294967296 (l.drop (i + 1)) = D
  rw [Nat.pow_succ]
  generalize 4294967296 ^ out.length = p
  generalize 2 ^ s = t at *
  grind
theorem up_f (a n : Nat) (ha : Few a) (hn : n ≤ 100000000) : Runs (fun k => num_nat_up.f k (L a) (n : Int)) (L (a * 2 ^ n)) := by
 have ha' := ha
 unfold Few at ha'
 simp only [num_nat_up.f]
 have e1 : Int.tdiv (n : Int) 32 = ((n / 32 : Nat) : Int) := by rw [Int.tdiv_eq_ediv_of_nonneg (by omega)]; omega
 rw [e1, w64 (n := ((n / 32 : Nat) : Int)) (by omega) (by omega), w64 (n := ((n / 32 : Nat) : Int) + _) (by omega) (by omega), w64 (by omega) (by omega)]
 refine Runs.yes (by omega) (Runs.yes (by omega) (Runs.yes (by omega) ?_))
 rw [Int.toNat_natCast]
 refine Runs.of (up_loop (L a) (L_wf a) ha' n (L a).length 0 (by omega) _ 0 (by simp; omega) (Wf.zeros (by decide) _) (Nat.two_pow_pos _)) ?_
 congr 1
 rw [nv_zeros, List.length_replicate, List.drop_zero, L_nv]
 have : 2 ^ n = 4294967296 ^ (n / 32) * 2 ^ (n % 32) := by
  rw [show (4294967296 : Nat) = 2 ^ 32 by decide, ← Nat.pow_mul, ← Nat.pow_add]
  congr 1; omega
 rw [this]
 grind
def cmpN (a b : Nat) : Int := if a < b then -1 else if b < a then 1 else 0
theorem against_loop (a b : List Int) (ha : Wf 4294967296 a) (hb : Wf 4294967296 b) (hlen : a.length = b.length) (hl : a.length ≤ 1000000) :
  ∀ j, j ≤ a.length → Runs (fun k => num_nat_against.l0 k a b ((j : Int) - 1)) (cmpN (nv 4294967296 (a.take j)) (nv 4294967296 (b.take j))) := by
 intro j
 induction j with
 | zero =>
  intro _
  refine Runs.suc ?_
  simp only [num_nat_against.l0]
  exact Runs.no (by omega) ((Runs.pure _).of (by simp [nv, cmpN]))
 | succ j ih =>
  intro hj
  have h1 : j < a.length := by omega
  have h2 : j < b.length := by omega
  refine Runs.suc ?_
  simp only [num_nat_against.l0]
  rw [show ((j + 1 : Nat) : Int) - 1 = (j : Int) by omega, rd_get a j h1, rd_get b j h2, w64 (by omega) (by omega)]
  refine Runs.yes (by omega) (Runs.yes (by omega) (Runs.yes (by omega) (Runs.yes (by omega) ?_)))
  obtain ⟨x, hx⟩ := Int.eq_ofNat_of_zero_le (ha.get h1).1
  obtain ⟨y, hy⟩ := Int.eq_ofNat_of_zero_le (hb.get h2).1
  have g1 := nv_lt (B := 4294967296) (by decide) (l := a.take j) (fun z hz => ha z (List.mem_of_mem_take hz))
  have g2 := nv_lt (B := 4294967296) (by decide) (l := b.take j) (fun z hz => hb z (List.mem_of_mem_take hz))
  rw [List.length_take, Nat.min_eq_left (by omega)] at g1 g2
  rw [nv_take_succ _ a j h1, nv_take_succ _ b j h2, hx, hy, Int.toNat_natCast, Int.toNat_natCast]
  have ih := ih (by omega)
  generalize nv 4294967296 (a.take j) = N at *
  generalize nv 4294967296 (b.take j) = M at *
  generalize 4294967296 ^ j = p at *
  by_cases c1 : x < y
  ·
   refine Runs.yes (by omega) ((Runs.pure _).of ?_)
   have : p * (x + 1) ≤ p * y := Nat.mul_le_mul_left p c1
   rw [Nat.mul_add] at this
   unfold cmpN
   rw [if_pos (by omega)]
  ·
   refine Runs.no (by omega) ?_
   by_cases c2 : y < x
   ·
    refine Runs.yes (by omega) ((Runs.pure _).of ?_)
    have : p * (y + 1) ≤ p * x := Nat.mul_le_mul_left p c2
    rw [Nat.mul_add] at this
    unfold cmpN
    rw [if_neg (by omega), if_pos (by omega)]
   ·
    refine Runs.no (by omega) ?_
    have : x = y := by omega
    subst this
    refine ih.of ?_
    unfold cmpN
    generalize p * x = z
    by_cases c3 : N < M
    ·
     rw [if_pos c3, if_pos (by omega)]
    ·
     rw [if_neg c3, if_neg (show ¬ N + z < M + z by omega)]
     by_cases c4 : M < N
     ·
      rw [if_pos c4, if_pos (by omega)]
     ·
      rw [if_neg c4, if_neg (by omega)]
theorem lim_lt {B : Nat} (hB : 2 ≤ B) {a b : Nat} (h : (lim B a).length < (lim B b).length) : a < b := by
 rcases Nat.lt_or_ge a b with h1 | h1
 ·
  exact h1
 ·
  have := lim_len hB (lim B a).length b (Nat.lt_of_le_of_lt h1 (lim_le hB a))
  omega
theorem against_f (a b : Nat) (ha : Few a) : Runs (fun k => num_nat_against.f k (L a) (L b)) (cmpN a b) := by
 unfold Few at ha
 simp only [num_nat_against.f]
 by_cases h1 : (L a).length < (L b).length
 ·
  refine Runs.yes (by omega) ((Runs.pure _).of ?_)
  have := lim_lt (by decide) h1
  unfold cmpN; rw [if_pos this]
 ·
  refine Runs.no (by omega) ?_
  by_cases h2 : (L b).length < (L a).length
  ·
   refine Runs.yes (by omega) ((Runs.pure _).of ?_)
   have := lim_lt (by decide) h2
   unfold cmpN; rw [if_neg (by omega), if_pos this]
  ·
   refine Runs.no (by omega) ?_
   have he : (L a).length = (L b).length := by omega
   have := against_loop (L a) (L b) (L_wf a) (L_wf b) he ha (L a).length (Nat.le_refl _)
   rw [w64 (by omega) (by omega)]
   refine this.of ?_
   have e1 : (L a).take (L a).length = L a := List.take_length
   have e2 : (L b).take (L a).length = L b := by rw [he]; exact List.take_length
   rw [e1, e2, L_nv, L_nv]
theorem plus_l0 (l s : List Int) (hw : Wf 4294967296 l) (hws : Wf 4294967296 s) (hlen : l.length ≤ 1000001) (hsl : s.length ≤ l.length) :
  ∀ (d i : Nat), i + d = l.length → ∀ (out : List Int) (c : Nat), out.length = l.length + 1 → Wf 4294967296 (out.take i) → c < 2 →
  Runs (fun k => num_nat_plus.l0 k l s out (c : Int) l (l.length : Int) (i : Int)) (L (nv 4294967296 (out.take i) + 4294967296 ^ i * (c + nv 4294967296 (l.drop i) + nv 4294967296 (s.drop i)))) := by
 intro d
 induction d with
 | zero =>
  intro i hi out c ho hwo hc
  obtain rfl : i = l.length := by omega
  refine Runs.suc ?_
  simp only [num_nat_plus.l0]
  refine Runs.no (by omega) (Runs.yes (by omega) (Runs.yes (by omega) ?_))
  rw [show ((c : Int) % 4294967296) = (c : Int) by omega, Int.toNat_natCast]
  have hset : out.set l.length (c : Int) = out.take l.length ++ [(c : Int)] := by
   have := take_set_succ out l.length (c : Int) (by omega)
   rw [← this, List.take_of_length_le (by rw [List.length_set]; omega)]
  rw [hset]
  refine Runs.bind (trim_f _ (hwo.append (Wf.one (by omega) (by omega))) (by simp; omega)) ((Runs.pure _).of ?_)
  rw [nv_append, nv_one, List.length_take, Nat.min_eq_left (by omega), List.drop_of_length_le (Nat.le_refl _), List.drop_of_length_le hsl]
  simp [nv]
 | succ d ih =>
  intro i hi out c ho hwo hc
  have hil : i < l.length := by omega
  obtain ⟨y, hy⟩ := Int.eq_ofNat_of_zero_le (hw.get hil).1
  have hy1 : y < 4294967296 := by have := (hw.get hil).2; omega
  refine Runs.suc ?_
  simp only [num_nat_plus.l0]
  rw [rd_get l i hil, hy, u64w (n := (y : Int)) (by omega) (by omega), u64w (n := (c : Int) + (y : Int)) (by omega) (by omega), w64 (by omega) (by omega), Int.toNat_natCast]
  refine Runs.yes (by omega) (Runs.yes (by omega) (Runs.yes (by omega) ?_))
  by_cases his : i < s.length
  ·
   obtain ⟨z, hz⟩ := Int.eq_ofNat_of_zero_le (hws.get his).1
   have hz1 : z < 4294967296 := by have := (hws.get his).2; omega
   rw [rd_get s i his, hz, u64w (n := (z : Int)) (by omega) (by omega), u64w (n := (c : Int) + (y : Int) + (z : Int)) (by omega) (by omega)]
   refine Runs.yes (by omega) (Runs.yes (by omega) ?_)
   have e2 : ((c : Int) + (y : Int) + (z : Int)) % 4294967296 = (((c + y + z) % 4294967296 : Nat) : Int) := by omega
   have e3 : ((c : Int) + (y : Int) + (z : Int)) / 4294967296 = (((c + y + z) / 4294967296 : Nat) : Int) := by omega
   rw [e2, e3]
   have hq : (c + y + z) % 4294967296 + 4294967296 * ((c + y + z) / 4294967296) = c + y + z := Nat.mod_add_div ..
   have hr : (c + y + z) % 4294967296 < 4294967296 := Nat.mod_lt _ (by decide)
   have hq2 : (c + y + z) / 4294967296 < 2 := by omega
   generalize (c + y + z) % 4294967296 = r at *
   generalize (c + y + z) / 4294967296 = q at *
   have ht := take_set_succ out i (r : Int) (by omega)
   have := ih (i + 1) (by omega) (out.set i (r : Int)) q (by rw [List.length_set]; exact ho) (by rw [ht]; exact hwo.append (Wf.one (by omega) (by omega))) hq2
   refine Runs.of this ?_
   congr 1
   rw [ht, nv_append, nv_one, List.length_take, Nat.min_eq_left (by omega), nv_drop _ l i hil, nv_drop _ s i his, hy, hz]
   simp only [Int.toNat_natCast]
   generalize nv 4294967296 (List.take i out) = N
   generalize nv 4294967296 (l.drop (i + 1)) = D
   generalize nv 4294967296 (s.drop (i + 1)) = E
   rw [Nat.pow_succ]
   generalize 4294967296 ^ i = p
   grind
  ·
   refine Runs.no (by omega) (Runs.yes (by omega) ?_)
   have e2 : ((c : Int) + (y : Int)) % 4294967296 = (((c + y) % 4294967296 : Nat) : Int) := by omega
   have e3 : ((c : Int) + (y : Int)) / 4294967296 = (((c + y) / 4294967296 : Nat) : Int) := by omega
   rw [e2, e3]
   have hq : (c + y) % 4294967296 + 4294967296 * ((c + y) / 4294967296) = c + y := Nat.mod_add_div ..
   have hr : (c + y) % 4294967296 < 4294967296 := Nat.mod_lt _ (by decide)
   have hq2 : (c + y) / 4294967296 < 2 := by omega
   generalize (c + y) % 4294967296 = r at *
   generalize (c + y) / 4294967296 = q at *
   have ht := take_set_succ out i (r : Int) (by omega)
   have := ih (i + 1) (by omega) (out.set i (r : Int)) q (by rw [List.length_set]; exact ho) (by rw [ht]; exact hwo.append (Wf.one (by omega) (by omega))) hq2
   refine Runs.of this ?_
   congr 1
   rw [ht, nv_append, nv_one, List.length_take, Nat.min_eq_left (by omega), nv_drop _ l i hil, hy, List.drop_of_length_le (show s.length ≤ i + 1 by omega), List.drop_of_length_le (show s.length ≤ i by omega)]
   simp only [Int.toNat_natCast, nv]
   generalize nv 4294967296 (List.take i out) = N
   generalize nv 4294967296 (l.drop (i + 1)) = D
   rw [Nat.pow_succ]
   generalize 4294967296 ^ i = p
   grind
theorem plus_l101 (l s : List Int) (hw : Wf 4294967296 l) (hws : Wf 4294967296 s) (hlen : l.length ≤ 1000001) (hsl : s.length ≤ l.length) :
  ∀ (d i : Nat), i + d = l.length → ∀ (out : List Int) (c : Nat), out.length = l.length + 1 → Wf 4294967296 (out.take i) → c < 2 →
  Runs (fun k => num_nat_plus.l101 k l s out (c : Int) l (l.length : Int) (i : Int)) (L (nv 4294967296 (out.take i) + 4294967296 ^ i * (c + nv 4294967296 (l.drop i) + nv 4294967296 (s.drop i)))) := by
 intro d
 induction d with
 | zero =>
  intro i hi out c ho hwo hc
  obtain rfl : i = l.length := by omega
  refine Runs.suc ?_
  simp only [num_nat_plus.l101]
  refine Runs.no (by omega) (Runs.yes (by omega) (Runs.yes (by omega) ?_))
  rw [show ((c : Int) % 4294967296) = (c : Int) by omega, Int.toNat_natCast]
  have hset : out.set l.length (c : Int) = out.take l.length ++ [(c : Int)] := by
   have := take_set_succ out l.length (c : Int) (by omega)
   rw [← this, List.take_of_length_le (by rw [List.length_set]; omega)]
  rw [hset]
  refine Runs.bind (trim_f _ (hwo.append (Wf.one (by omega) (by omega))) (by simp; omega)) ((Runs.pure _).of ?_)
  rw [nv_append, nv_one, List.length_take, Nat.min_eq_left (by omega), List.drop_of_length_le (Nat.le_refl _), List.drop_of_length_le hsl]
  simp [nv]
 | succ d ih =>
  intro i hi out c ho hwo hc
  have hil : i < l.length := by omega
  obtain ⟨y, hy⟩ := Int.eq_ofNat_of_zero_le (hw.get hil).1
  have hy1 : y < 4294967296 := by have := (hw.get hil).2; omega
  refine Runs.suc ?_
  simp only [num_nat_plus.l101]
  rw [rd_get l i hil, hy, u64w (n := (y : Int)) (by omega) (by omega), u64w (n := (c : Int) + (y : Int)) (by omega) (by omega), w64 (by omega) (by omega), Int.toNat_natCast]
  refine Runs.yes (by omega) (Runs.yes (by omega) (Runs.yes (by omega) ?_))
  by_cases his : i < s.length
  ·
   obtain ⟨z, hz⟩ := Int.eq_ofNat_of_zero_le (hws.get his).1
   have hz1 : z < 4294967296 := by have := (hws.get his).2; omega
   rw [rd_get s i his, hz, u64w (n := (z : Int)) (by omega) (by omega), u64w (n := (c : Int) + (y : Int) + (z : Int)) (by omega) (by omega)]
   refine Runs.yes (by omega) (Runs.yes (by omega) ?_)
   have e2 : ((c : Int) + (y : Int) + (z : Int)) % 4294967296 = (((c + y + z) % 4294967296 : Nat) : Int) := by omega
   have e3 : ((c : Int) + (y : Int) + (z : Int)) / 4294967296 = (((c + y + z) / 4294967296 : Nat) : Int) := by omega
   rw [e2, e3]
   have hq : (c + y + z) % 4294967296 + 4294967296 * ((c + y + z) / 4294967296) = c + y + z := Nat.mod_add_div ..
   have hr : (c + y + z) % 4294967296 < 4294967296 := Nat.mod_lt _ (by decide)
   have hq2 : (c + y + z) / 4294967296 < 2 := by omega
   generalize (c + y + z) % 4294967296 = r at *
   generalize (c + y + z) / 4294967296 = q at *
   have ht := take_set_succ out i (r : Int) (by omega)
   have := ih (i + 1) (by omega) (out.set i (r : Int)) q (by rw [List.length_set]; exact ho) (by rw [ht]; exact hwo.append (Wf.one (by omega) (by omega))) hq2
   refine Runs.of this ?_
   congr 1
   rw [ht, nv_append, nv_one, List.length_take, Nat.min_eq_left (by omega), nv_drop _ l i hil, nv_drop _ s i his, hy, hz]
   simp only [Int.toNat_natCast]
   generalize nv 4294967296 (List.take i out) = N
   generalize nv 4294967296 (l.drop (i + 1)) = D
   generalize nv 4294967296 (s.drop (i + 1)) = E
   rw [Nat.pow_succ]
   generalize 4294967296 ^ i = p
   grind
  ·
   refine Runs.no (by omega) (Runs.yes (by omega) ?_)
   have e2 : ((c : Int) + (y : Int)) % 4294967296 = (((c + y) % 4294967296 : Nat) : Int) := by omega
   have e3 : ((c : Int) + (y : Int)) / 4294967296 = (((c + y) / 4294967296 : Nat) : Int) := by omega
   rw [e2, e3]
   have hq : (c + y) % 4294967296 + 4294967296 * ((c + y) / 4294967296) = c + y := Nat.mod_add_div ..
   have hr : (c + y) % 4294967296 < 4294967296 := Nat.mod_lt _ (by decide)
   have hq2 : (c + y) / 4294967296 < 2 := by omega
   generalize (c + y) % 4294967296 = r at *
   generalize (c + y) / 4294967296 = q at *
   have ht := take_set_succ out i (r : Int) (by omega)
   have := ih (i + 1) (by omega) (out.set i (r : Int)) q (by rw [List.length_set]; exact ho) (by rw [ht]; exact hwo.append (Wf.one (by omega) (by omega))) hq2
   refine Runs.of this ?_
   congr 1
   rw [ht, nv_append, nv_one, List.length_take, Nat.min_eq_left (by omega), nv_drop _ l i hil, hy, List.drop_of_length_le (show s.length ≤ i + 1 by omega), List.drop_of_length_le (show s.length ≤ i by omega)]
   simp only [Int.toNat_natCast, nv]
   generalize nv 4294967296 (List.take i out) = N
   generalize nv 4294967296 (l.drop (i + 1)) = D
   rw [Nat.pow_succ]
   generalize 4294967296 ^ i = p
   grind
theorem plus_f (a b : Nat) (ha : Few a) (hb : Few b) : Runs (fun k => num_nat_plus.f k (L a) (L b)) (L (a + b)) := by
 unfold Few at ha hb
 simp only [num_nat_plus.f]
 rw [w64 (n := ((L b).length : Int) + 1) (by omega) (by omega), w64 (n := ((L a).length : Int) + 1) (by omega) (by omega)]
 rw [show (((L b).length : Int) + 1).toNat = (L b).length + 1 by omega, show (((L a).length : Int) + 1).toNat = (L a).length + 1 by omega]
 by_cases h : (L a).length < (L b).length
 ·
  refine Runs.yes (by omega) (Runs.yes (by omega) (Runs.yes (by omega) ?_))
  refine (plus_l0 (L b) (L a) (L_wf b) (L_wf a) (by omega) (by omega) (L b).length 0 (by omega) _ 0 (by simp) (by rw [List.take_zero]; exact Wf.nil _) (by omega)).of ?_
  congr 1
  rw [List.take_zero, List.drop_zero, List.drop_zero, L_nv, L_nv, nv]; grind
 ·
  refine Runs.no (by omega) (Runs.yes (by omega) (Runs.yes (by omega) ?_))
  refine (plus_l101 (L a) (L b) (L_wf a) (L_wf b) (by omega) (by omega) (L a).length 0 (by omega) _ 0 (by simp) (by rw [List.take_zero]; exact Wf.nil _) (by omega)).of ?_
  congr 1
  rw [List.take_zero, List.drop_zero, List.drop_zero, L_nv, L_nv, nv]; grind
theorem less_digit (w b y : Nat) (hw : w < 4294967296) (hb : b < 2) (hy : y < 4294967296) :
  ∃ d q : Nat, IntKind.u64.wrap (IntKind.u64.wrap ((w : Int) - b) - y) % 4294967296 = (d : Int) ∧ IntKind.u64.wrap (IntKind.u64.wrap ((w : Int) - b) - y) / 9223372036854775808 = (q : Int) ∧ d < 4294967296 ∧ q < 2 ∧ w + 4294967296 * q = d + b + y := by
 rw [IntKind.wrap_u64, IntKind.wrap_u64]
 by_cases h : b + y ≤ w
 ·
  exact ⟨w - b - y, 0, by omega, by omega, by omega, by omega, by omega⟩
 ·
  exact ⟨w + 4294967296 - b - y, 1, by omega, by omega, by omega, by omega, by omega⟩
theorem less_digit0 (w b : Nat) (hw : w < 4294967296) (hb : b < 2) :
  ∃ d q : Nat, IntKind.u64.wrap ((w : Int) - b) % 4294967296 = (d : Int) ∧ IntKind.u64.wrap ((w : Int) - b) / 9223372036854775808 = (q : Int) ∧ d < 4294967296 ∧ q < 2 ∧ w + 4294967296 * q = d + b := by
 rw [IntKind.wrap_u64]
 by_cases h : b ≤ w
 ·
  exact ⟨w - b, 0, by omega, by omega, by omega, by omega, by omega⟩
 ·
  exact ⟨w + 4294967296 - b, 1, by omega, by omega, by omega, by omega, by omega⟩
theorem less_loop (l s : List Int) (hw : Wf 4294967296 l) (hws : Wf 4294967296 s) (hlen : l.length ≤ 1000000) :
  ∀ (d i : Nat), i + d = l.length → ∀ (out : List Int) (c : Nat), out.length = l.length → Wf 4294967296 (out.take i) → c < 2 → c + nv 4294967296 (s.drop i) ≤ nv 4294967296 (l.drop i) →
  Runs (fun k => num_nat_less.l0 k s out (c : Int) l (l.length : Int) (i : Int)) (L (nv 4294967296 (out.take i) + 4294967296 ^ i * (nv 4294967296 (l.drop i) - (c + nv 4294967296 (s.drop i))))) := by
 intro d
 induction d with
 | zero =>
  intro i hi out c ho hwo hc hle
  obtain rfl : i = l.length := by omega
  rw [List.drop_of_length_le (Nat.le_refl _)] at hle ⊢
  rw [nv] at hle ⊢
  refine Runs.suc ?_
  simp only [num_nat_less.l0]
  refine Runs.no (by omega) ?_
  have : out.take l.length = out := List.take_of_length_le (by omega)
  rw [this] at hwo ⊢
  exact Runs.bind (trim_f _ hwo (by omega)) ((Runs.pure _).of (by simp))
 | succ d ih =>
  intro i hi out c ho hwo hc hle
  have hil : i < l.length := by omega
  obtain ⟨w, hy⟩ := Int.eq_ofNat_of_zero_le (hw.get hil).1
  have hw1 : w < 4294967296 := by have := (hw.get hil).2; omega
  refine Runs.suc ?_
  simp only [num_nat_less.l0]
  rw [rd_get l i hil, hy, u64w (n := (w : Int)) (by omega) (by omega), w64 (by omega) (by omega), Int.toNat_natCast]
  refine Runs.yes (by omega) (Runs.yes (by omega) (Runs.yes (by omega) ?_))
  rw [nv_drop _ l i hil, hy, Int.toNat_natCast] at hle ⊢
  by_cases his : i < s.length
  ·
   obtain ⟨y, hz⟩ := Int.eq_ofNat_of_zero_le (hws.get his).1
   have hz1 : y < 4294967296 := by have := (hws.get his).2; omega
   rw [rd_get s i his, hz, u64w (n := (y : Int)) (by omega) (by omega)]
   obtain ⟨r, q, e2, e3, hr, hq2, hq⟩ := less_digit w c y hw1 hc hz1
   rw [e2, e3]
   refine Runs.yes (by omega) (Runs.yes (by omega) ?_)
   have ht := take_set_succ out i (r : Int) (by omega)
   rw [nv_drop _ s i his, hz, Int.toNat_natCast] at hle ⊢
   have := ih (i + 1) (by omega) (out.set i (r : Int)) q (by rw [List.length_set]; exact ho) (by rw [ht]; exact hwo.append (Wf.one (by omega) (by omega))) hq2 (by omega)
   refine Runs.of this ?_
   congr 1
   rw [ht, nv_append, nv_one, List.length_take, Nat.min_eq_left (by omega)]
   simp only [Int.toNat_natCast]
   generalize nv 4294967296 (List.take i out) = N
   generalize nv 4294967296 (l.drop (i + 1)) = D at *
   generalize nv 4294967296 (s.drop (i + 1)) = E at *
   rw [Nat.pow_succ]
   generalize 4294967296 ^ i = p
   obtain ⟨X, hX⟩ : ∃ X, D = X + (q + E) := ⟨D - (q + E), by omega⟩
   rw [show D - (q + E) = X by omega, show w + 4294967296 * D - (c + (y + 4294967296 * E)) = r + 4294967296 * X by omega]
   grind
  ·
   refine Runs.no (by omega) ?_
   obtain ⟨r, q, e2, e3, hr, hq2, hq⟩ := less_digit0 w c hw1 hc
   rw [e2, e3]
   refine Runs.yes (by omega) ?_
   have ht := take_set_succ out i (r : Int) (by omega)
   have hs1 : s.drop (i + 1) = [] := List.drop_of_length_le (by omega)
   rw [List.drop_of_length_le (show s.length ≤ i by omega), nv] at hle ⊢
   have := ih (i + 1) (by omega) (out.set i (r : Int)) q (by rw [List.length_set]; exact ho) (by rw [ht]; exact hwo.append (Wf.one (by omega) (by omega))) hq2 (by rw [hs1, nv]; omega)
   refine Runs.of this ?_
   congr 1
   rw [ht, nv_append, nv_one, List.length_take, Nat.min_eq_left (by omega), hs1, nv]
   simp only [Int.toNat_natCast]
   generalize nv 4294967296 (List.take i out) = N
   generalize nv 4294967296 (l.drop (i + 1)) = D at *
   rw [Nat.pow_succ]
   generalize 4294967296 ^ i = p
   obtain ⟨X, hX⟩ : ∃ X, D = X + q := ⟨D - q, by omega⟩
   rw [show D - (q + 0) = X by omega, show w + 4294967296 * D - (c + 0) = r + 4294967296 * X by omega]
   grind
theorem less_f (a b : Nat) (ha : Few a) (h : b ≤ a) : Runs (fun k => num_nat_less.f k (L a) (L b)) (L (a - b)) := by
 unfold Few at ha
 simp only [num_nat_less.f]
 rw [Int.toNat_natCast]
 refine Runs.yes (by omega) (Runs.yes (by omega) ?_)
 refine (less_loop (L a) (L b) (L_wf a) (L_wf b) ha (L a).length 0 (by omega) _ 0 (by simp) (by rw [List.take_zero]; exact Wf.nil _) (by omega) (by rw [List.drop_zero, List.drop_zero, L_nv, L_nv]; omega)).of ?_
 congr 1
 rw [List.take_zero, List.drop_zero, List.drop_zero, L_nv, L_nv, nv]
 simp
end Go.Proofs.YtjlnfnfdibfniaaDoor.Pl
namespace Go.Proofs.YtjlnfnfdibfniaaDoor.Pl
open Ieee
def rungVal (r : Nat) : Nat := if r < 2 ^ 52 then r else (2 ^ 52 + r % 2 ^ 52) * 2 ^ (r / 2 ^ 52 - 1)
theorem rungVal_succ (r : Nat) : rungVal r < rungVal (r + 1) := by
 unfold rungVal
 by_cases h1 : r + 1 < 2 ^ 52
 ·
  rw [if_pos h1, if_pos (by omega)]; omega
 ·
  rw [if_neg h1]
  by_cases h2 : r < 2 ^ 52
  ·
   rw [if_pos h2]
   have : r + 1 = 2 ^ 52 := by omega
   rw [this]; omega
  ·
   rw [if_neg h2]
   obtain ⟨q, hq⟩ : ∃ q, q = r / 2 ^ 52 := ⟨_, rfl⟩
   obtain ⟨s, hs⟩ : ∃ s, s = r % 2 ^ 52 := ⟨_, rfl⟩
   have hd : r = 2 ^ 52 * q + s := by rw [hq, hs]; exact (Nat.div_add_mod r (2 ^ 52)).symm
   have hs' : s < 2 ^ 52 := by rw [hs]; exact Nat.mod_lt _ (by decide)
   have hq' : 1 ≤ q := by omega
   rw [← hq, ← hs]
   by_cases h3 : s + 1 < 2 ^ 52
   ·
    have e1 : (r + 1) / 2 ^ 52 = q := by omega
    have e2 : (r + 1) % 2 ^ 52 = s + 1 := by omega
    rw [e1, e2]
    exact Nat.mul_lt_mul_of_pos_right (by omega) (Nat.two_pow_pos _)
   ·
    have e1 : (r + 1) / 2 ^ 52 = q + 1 := by omega
    have e2 : (r + 1) % 2 ^ 52 = 0 := by omega
    rw [e1, e2]
    have e3 : q + 1 - 1 = (q - 1) + 1 := by omega
    rw [e3, Nat.pow_succ]
    have hp := Nat.two_pow_pos (q - 1)
    calc (2 ^ 52 + s) * 2 ^ (q - 1) < (2 ^ 52 * 2) * 2 ^ (q - 1) := Nat.mul_lt_mul_of_pos_right (by omega) hp
     _ = (2 ^ 52 + 0) * (2 ^ (q - 1) * 2) := by rw [Nat.add_zero, Nat.mul_assoc, Nat.mul_comm 2]
theorem rungVal_lt {r t : Nat} (h : r < t) : rungVal r < rungVal t := by
 induction h with
 | refl => exact rungVal_succ r
 | step _ ih => exact Nat.lt_trans ih (rungVal_succ _)
theorem rungVal_lt_iff {r t : Nat} : rungVal r < rungVal t ↔ r < t := by
 constructor
 ·
  intro h
  rcases Nat.lt_trichotomy r t with h1 | h1 | h1
  ·
   exact h1
  ·
   subst h1; omega
  ·
   have := rungVal_lt h1; omega
 ·
  exact rungVal_lt
def srung (x : Nat) : Int := if x / 2 ^ 63 % 2 == 1 then -((x % 2 ^ 63 : Nat) : Int) else ((x % 2 ^ 63 : Nat) : Int)
def isNum (x : Nat) : Prop := x % 2 ^ 63 ≤ 2047 * 2 ^ 52
theorem weight : double.signWeight = 2 ^ 63 := rfl
theorem infR : double.infRung = 2047 * 2 ^ 52 := rfl
theorem bin : double.binade = 2 ^ 52 := rfl
theorem read_nan {y : Nat} (h : ¬ isNum y) : double.read y = .nan (y / 2 ^ 63 % 2 == 1) (y % 2 ^ 63 - 2047 * 2 ^ 52) := by
 unfold isNum at h
 have h1 : ¬ y % double.signWeight < double.binade := by rw [weight, bin]; omega
 have h2 : ¬ y % double.signWeight < double.infRung := by rw [weight, infR]; omega
 have h3 : ¬ y % double.signWeight = double.infRung := by rw [weight, infR]; omega
 unfold Format.read
 simp only []
 rw [if_neg h1, if_neg h2, if_neg h3, weight, infR]
theorem order_nan_left {x y : Nat} (h : ¬ isNum x) : double.order x y = none := by
 unfold Format.order
 rw [read_nan h]
 rfl
theorem order_nan_right {x y : Nat} (h : ¬ isNum y) : double.order x y = none := by
 unfold Format.order
 rw [read_nan h]
 cases double.read x <;> rfl
theorem read_num {x : Nat} (h : x % 2 ^ 63 < 2047 * 2 ^ 52) : ∃ m e : Nat, double.read x = .number (x / 2 ^ 63 % 2 == 1) m (double.leastPlace + (e : Int)) ∧ m * 2 ^ e = rungVal (x % 2 ^ 63) := by
 unfold rungVal
 by_cases h1 : x % 2 ^ 63 < 2 ^ 52
 ·
  have g1 : x % double.signWeight < double.binade := by rw [weight, bin]; exact h1
  refine ⟨x % 2 ^ 63, 0, ?_, by rw [if_pos h1]; omega⟩
  unfold Format.read
  simp only []
  rw [if_pos g1, weight, Int.natCast_zero, Int.add_zero]
 ·
  have g1 : ¬ x % double.signWeight < double.binade := by rw [weight, bin]; exact h1
  have g2 : x % double.signWeight < double.infRung := by rw [weight, infR]; exact h
  refine ⟨2 ^ 52 + x % 2 ^ 63 % 2 ^ 52, x % 2 ^ 63 / 2 ^ 52 - 1, ?_, by rw [if_neg h1]⟩
  unfold Format.read
  simp only []
  rw [if_neg g1, if_pos g2, weight, bin]
theorem read_inf {x : Nat} (h : x % 2 ^ 63 = 2047 * 2 ^ 52) : double.read x = .infinity (x / 2 ^ 63 % 2 == 1) := by
 have h1 : ¬ x % double.signWeight < double.binade := by rw [weight, bin]; omega
 have h2 : ¬ x % double.signWeight < double.infRung := by rw [weight, infR]; omega
 have h3 : x % double.signWeight = double.infRung := by rw [weight, infR]; omega
 unfold Format.read
 simp only []
 rw [if_neg h1, if_neg h2, if_pos h3, weight]
theorem compare_congr {a b c d : Int} (h1 : a < b ↔ c < d) (h2 : b < a ↔ d < c) : compare a b = compare c d := by
 simp only [compare, compareOfLessAndEq]
 by_cases e1 : a < b
 ·
  rw [if_pos e1, if_pos (h1.1 e1)]
 ·
  rw [if_neg e1, if_neg (fun h => e1 (h1.2 h))]
  by_cases e2 : b < a
  ·
   rw [if_neg (show ¬ a = b by omega), if_neg (show ¬ c = d by have := h2.1 e2; omega)]
  ·
   have h3 : ¬ d < c := fun h => e2 (h2.2 h)
   have h4 : ¬ c < d := fun h => e1 (h1.2 h)
   rw [if_pos (show a = b by omega), if_pos (show c = d by omega)]
theorem cmp_lt {a b : Int} (h : a < b) : compare a b = .lt := by simp only [compare, compareOfLessAndEq]; rw [if_pos h]
theorem cmp_gt {a b : Int} (h : b < a) : compare a b = .gt := by simp only [compare, compareOfLessAndEq]; rw [if_neg (by omega), if_neg (by omega)]
theorem cmp_eq {a b : Int} (h : a = b) : compare a b = .eq := by simp only [compare, compareOfLessAndEq]; rw [if_neg (by omega), if_pos h]
theorem cmp_lt_iff {a b : Int} : compare a b = .lt ↔ a < b := by
 rcases Int.lt_trichotomy a b with h | h | h
 ·
  simp [cmp_lt h, h]
 ·
  simp only [cmp_eq h]; constructor <;> intro h' <;> first | cases h' | omega
 ·
  simp only [cmp_gt h]; constructor <;> intro h' <;> first | cases h' | omega
theorem cmp_gt_iff {a b : Int} : compare a b = .gt ↔ b < a := by
 rcases Int.lt_trichotomy a b with h | h | h
 ·
  simp only [cmp_lt h]; constructor <;> intro h' <;> first | cases h' | omega
 ·
  simp only [cmp_eq h]; constructor <;> intro h' <;> first | cases h' | omega
 ·
  simp [cmp_gt h, h]
theorem cmp_eq_iff {a b : Int} : compare a b = .eq ↔ a = b := by
 rcases Int.lt_trichotomy a b with h | h | h
 ·
  rw [cmp_lt h]; exact ⟨(fun h' => nomatch h'), (fun h' => by omega)⟩
 ·
  rw [cmp_eq h]; exact ⟨fun _ => h, fun _ => rfl⟩
 ·
  rw [cmp_gt h]; exact ⟨(fun h' => nomatch h'), (fun h' => by omega)⟩
def sg (s : Bool) (v : Nat) : Int := if s then -(v : Int) else (v : Int)
theorem sg_scale (s t : Bool) (a b p : Nat) (hp : 0 < p) : (sg s a < sg t b ↔ sg s (a * p) < sg t (b * p)) := by
 have k1 : ∀ a b : Nat, a < b ↔ a * p < b * p := fun a b => (Nat.mul_lt_mul_right hp).symm
 have h1 := k1 a b
 have h2 := k1 b a
 have h3 := k1 0 a
 have h4 := k1 0 b
 rw [Nat.zero_mul] at h3 h4
 generalize a * p = a' at *
 generalize b * p = b' at *
 cases s <;> cases t <;> simp only [sg] <;> simp <;> omega
theorem sg_mono (s t : Bool) {r u : Nat} : (sg s (rungVal r) < sg t (rungVal u) ↔ sg s r < sg t u) := by
 have h1 := @rungVal_lt_iff r u
 have h2 := @rungVal_lt_iff u r
 have h3 := @rungVal_lt_iff 0 r
 have h4 := @rungVal_lt_iff 0 u
 have h0 : rungVal 0 = 0 := rfl
 rw [h0] at h3 h4
 generalize rungVal r = r' at *
 generalize rungVal u = u' at *
 cases s <;> cases t <;> simp only [sg] <;> simp <;> omega
theorem srung_eq (x : Nat) : srung x = sg (x / 2 ^ 63 % 2 == 1) (x % 2 ^ 63) := rfl
theorem signed_eq (s : Bool) (m u : Nat) : signed s m u = sg s (m * 2 ^ u) := by
 unfold signed sg
 rw [Nat.shiftLeft_eq]
theorem order_eq {x y : Nat} (hx : isNum x) (hy : isNum y) : double.order x y = some (compare (srung x) (srung y)) := by
 unfold isNum at hx hy
 unfold Format.order
 rw [srung_eq, srung_eq]
 by_cases ix : x % 2 ^ 63 = 2047 * 2 ^ 52
 ·
  rw [read_inf ix]
  by_cases iy : y % 2 ^ 63 = 2047 * 2 ^ 52
  ·
   rw [read_inf iy, ix, iy]
   cases (x / 2 ^ 63 % 2 == 1) <;> cases (y / 2 ^ 63 % 2 == 1) <;> rfl
  ·
   obtain ⟨m, e, hr, _⟩ := read_num (x := y) (by omega)
   rw [hr, ix]
   have hlt : y % 2 ^ 63 < 2047 * 2 ^ 52 := by omega
   generalize y % 2 ^ 63 = v at hlt
   cases (x / 2 ^ 63 % 2 == 1) <;> cases (y / 2 ^ 63 % 2 == 1) <;> first | exact congrArg some (cmp_lt (by simp only [sg]; simp; omega)).symm | exact congrArg some (cmp_gt (by simp only [sg]; simp; omega)).symm
 ·
  by_cases iy : y % 2 ^ 63 = 2047 * 2 ^ 52
  ·
   obtain ⟨m, e, hr, _⟩ := read_num (x := x) (by omega)
   rw [hr, read_inf iy, iy]
   have hlt : x % 2 ^ 63 < 2047 * 2 ^ 52 := by omega
   generalize x % 2 ^ 63 = v at hlt
   cases (x / 2 ^ 63 % 2 == 1) <;> cases (y / 2 ^ 63 % 2 == 1) <;> first | exact congrArg some (cmp_lt (by simp only [sg]; simp; omega)).symm | exact congrArg some (cmp_gt (by simp only [sg]; simp; omega)).symm
  ·
   obtain ⟨m, e, hr, hm⟩ := read_num (x := x) (by omega)
   obtain ⟨n, q, hs, hn⟩ := read_num (x := y) (by omega)
   rw [hr, hs]
   simp only [Datum.order]
   rw [signed_eq, signed_eq]
   refine congrArg some (compare_congr ?_ ?_)
   ·
    rw [← sg_mono (r := x % 2 ^ 63) (u := y % 2 ^ 63), ← hm, ← hn]
    rcases Nat.le_total e q with h | h
    ·
     have e1 : min (double.leastPlace + (e : Int)) (double.leastPlace + (q : Int)) = double.leastPlace + e := by omega
     rw [e1]
     have e2 : (double.leastPlace + (e : Int) - (double.leastPlace + e)).toNat = 0 := by omega
     have e3 : (double.leastPlace + (q : Int) - (double.leastPlace + e)).toNat = q - e := by omega
     rw [e2, e3]
     have hq : q = (q - e) + e := by omega
     rw [sg_scale _ _ _ _ (2 ^ e) (Nat.two_pow_pos _)]
     rw [Nat.mul_assoc, Nat.mul_assoc, ← Nat.pow_add, ← Nat.pow_add, Nat.zero_add, ← hq]
    ·
     have e1 : min (double.leastPlace + (e : Int)) (double.leastPlace + (q : Int)) = double.leastPlace + q := by omega
     rw [e1]
     have e2 : (double.leastPlace + (e : Int) - (double.leastPlace + q)).toNat = e - q := by omega
     have e3 : (double.leastPlace + (q : Int) - (double.leastPlace + q)).toNat = 0 := by omega
     rw [e2, e3]
     have hq : e = (e - q) + q := by omega
     rw [sg_scale _ _ _ _ (2 ^ q) (Nat.two_pow_pos _)]
     rw [Nat.mul_assoc, Nat.mul_assoc, ← Nat.pow_add, ← Nat.pow_add, Nat.zero_add, ← hq]
   ·
    rw [← sg_mono (r := y % 2 ^ 63) (u := x % 2 ^ 63), ← hm, ← hn]
    rcases Nat.le_total e q with h | h
    ·
     have e1 : min (double.leastPlace + (e : Int)) (double.leastPlace + (q : Int)) = double.leastPlace + e := by omega
     rw [e1]
     have e2 : (double.leastPlace + (e : Int) - (double.leastPlace + e)).toNat = 0 := by omega
     have e3 : (double.leastPlace + (q : Int) - (double.leastPlace + e)).toNat = q - e := by omega
     rw [e2, e3]
     have hq : q = (q - e) + e := by omega
     rw [sg_scale _ _ _ _ (2 ^ e) (Nat.two_pow_pos _)]
     rw [Nat.mul_assoc, Nat.mul_assoc, ← Nat.pow_add, ← Nat.pow_add, Nat.zero_add, ← hq]
    ·
     have e1 : min (double.leastPlace + (e : Int)) (double.leastPlace + (q : Int)) = double.leastPlace + q := by omega
     rw [e1]
     have e2 : (double.leastPlace + (e : Int) - (double.leastPlace + q)).toNat = e - q := by omega
     have e3 : (double.leastPlace + (q : Int) - (double.leastPlace + q)).toNat = 0 := by omega
     rw [e2, e3]
     have hq : e = (e - q) + q := by omega
     rw [sg_scale _ _ _ _ (2 ^ q) (Nat.two_pow_pos _)]
     rw [Nat.mul_assoc, Nat.mul_assoc, ← Nat.pow_add, ← Nat.pow_add, Nat.zero_add, ← hq]
theorem order_iff {x y : Nat} (c : Ordering) : (FloatKind.f64.format.order x y == some c) = true ↔ isNum x ∧ isNum y ∧ compare (srung x) (srung y) = c := by
 show (double.order x y == some c) = true ↔ _
 by_cases hx : isNum x
 ·
  by_cases hy : isNum y
  ·
   rw [order_eq hx hy]; simp [hx, hy]
  ·
   rw [order_nan_right hy]; simp [hy]
 ·
  rw [order_nan_left hx]; simp [hx]
theorem eq_iff {x y : Nat} : (FloatKind.f64.format.order x y == some Ordering.eq) = true ↔ isNum x ∧ isNum y ∧ srung x = srung y := by rw [order_iff, cmp_eq_iff]
theorem lt_iff {x y : Nat} : (FloatKind.f64.format.order x y == some Ordering.lt) = true ↔ isNum x ∧ isNum y ∧ srung x < srung y := by rw [order_iff, cmp_lt_iff]
theorem gt_iff {x y : Nat} : (FloatKind.f64.format.order x y == some Ordering.gt) = true ↔ isNum x ∧ isNum y ∧ srung y < srung x := by rw [order_iff, cmp_gt_iff]
end Go.Proofs.YtjlnfnfdibfniaaDoor.Pl
namespace Go.Proofs.YtjlnfnfdibfniaaDoor.Pl
def INF : Nat := 9218868437227405312
def mid (K : Nat) : Nat := rungVal K + rungVal (K + 1)
structure IsNear (N D K : Nat) : Prop where
 le : K ≤ INF
 lo : 0 < K → mid (K - 1) * D < 2 * N ∨ mid (K - 1) * D = 2 * N ∧ K % 2 = 0
 hi : K < INF → 2 * N < mid K * D ∨ 2 * N = mid K * D ∧ K % 2 = 0
theorem rung_of {m E : Nat} (h : E = 0 ∨ 4503599627370496 ≤ m) (hm : m < 9007199254740992) : rungVal (E * 4503599627370496 + m) = m * 2 ^ E := by
 have e52 : (2 : Nat) ^ 52 = 4503599627370496 := by decide
 unfold rungVal
 rw [e52]
 by_cases h1 : m < 4503599627370496
 ·
  have : E = 0 := by omega
  subst this
  rw [if_pos (by omega)]; simp
 ·
  rw [if_neg (by omega)]
  have e1 : (E * 4503599627370496 + m) / 4503599627370496 - 1 = E := by omega
  have e2 : 4503599627370496 + (E * 4503599627370496 + m) % 4503599627370496 = m := by omega
  rw [e1, e2]
theorem rung_next {m E : Nat} (h : E = 0 ∨ 4503599627370496 ≤ m) (hm : m < 9007199254740992) : rungVal (E * 4503599627370496 + m + 1) = (m + 1) * 2 ^ E := by
 by_cases h1 : m + 1 < 9007199254740992
 ·
  have := rung_of (m := m + 1) (E := E) (by omega) h1
  rw [Nat.add_assoc]; exact this
 ·
  have : m + 1 = 9007199254740992 := by omega
  have h2 := rung_of (m := 4503599627370496) (E := E + 1) (by omega) (by omega)
  rw [show E * 4503599627370496 + m + 1 = (E + 1) * 4503599627370496 + 4503599627370496 by omega, h2, this, Nat.pow_succ]
  omega
def DecNear (dig : Nat) (x : Int) (K : Nat) : Prop := IsNear (dig * 10 ^ x.toNat * 2 ^ 1074) (10 ^ (-x).toNat) K
theorem pow_join {a b c : Nat} (h : a + b = c) : 2 ^ c = 2 ^ a * 2 ^ b := by rw [← h, Nat.pow_add]
theorem pow_two {a b c d : Nat} (h : a + b = c + d) : 2 ^ a * 2 ^ b = 2 ^ c * 2 ^ d := by rw [← Nat.pow_add, ← Nat.pow_add, h]
theorem rung_inf : rungVal INF = 2 ^ 1024 * 2 ^ 1074 := by
 have := rung_of (m := 4503599627370496) (E := 2046) (by omega) (by omega)
 rw [show INF = 2046 * 4503599627370496 + 4503599627370496 by decide, this, show (4503599627370496 : Nat) = 2 ^ 52 by decide]
 exact pow_two (a := 52) (b := 2046) (c := 1024) (d := 1074) rfl
end Go.Proofs.YtjlnfnfdibfniaaDoor.Pl
namespace Go.Proofs.YtjlnfnfdibfniaaDoor.Pl
open F Hd Go.RowKit Go.Proofs.YW.PWords Go.Proofs.YW.PMore
def M (n : Nat) : List Int := lim 10000 n
theorem M_zero : M 0 = [] := lim_zero _
theorem M_pos {n : Nat} (h : 0 < n) : M n = ((n % 10000 : Nat) : Int) :: M (n / 10000) := lim_pos (by decide) h
theorem M_nil_iff (n : Nat) : (M n).length = 0 ↔ n = 0 := by
 constructor
 ·
  intro h
  rcases Nat.eq_zero_or_pos n with h0 | h0
  ·
   exact h0
  ·
   rw [M_pos h0] at h; simp at h
 ·
  intro h; rw [h, M_zero]; rfl
theorem M_nv (n : Nat) : nv 10000 (M n) = n := nv_lim (by decide) n
theorem M_wf (n : Nat) : Wf 10000 (M n) := wf_lim (by decide) n
def FewM (n : Nat) : Prop := (M n).length ≤ 1000000
theorem fewM_mono {a b : Nat} (h : a ≤ b) (hb : FewM b) : FewM a := Nat.le_trans (lim_len (by decide) (M b).length a (Nat.lt_of_le_of_lt h (lim_le (by decide) b))) hb
theorem fewM_two {n m : Nat} (h : n < 2 ^ m) (hm : m ≤ 1000000) : FewM n := by
 refine Nat.le_trans (lim_len (by decide) m n (Nat.lt_of_lt_of_le h ?_)) hm
 exact Nat.pow_le_pow_left (by decide) m
theorem M_drop (a : Nat) : ∀ i, (M a).drop i = M (a / 10000 ^ i) := by
 intro i
 induction i generalizing a with
 | zero => simp
 | succ i ih =>
  rcases Nat.eq_zero_or_pos a with h | h
  ·
   rw [h, M_zero, Nat.zero_div, M_zero]; rfl
  ·
   rw [M_pos h, List.drop_succ_cons, ih, Nat.div_div_eq_div_mul, Nat.pow_succ, Nat.mul_comm]
theorem M_get (a i : Nat) (h : i < (M a).length) : 0 < a / 10000 ^ i ∧ (M a)[i] = ((a / 10000 ^ i % 10000 : Nat) : Int) := by
 have h1 := M_drop a i
 have h2 := List.drop_eq_getElem_cons h
 rw [h1] at h2
 have hp : 0 < a / 10000 ^ i := by
  rcases Nat.eq_zero_or_pos (a / 10000 ^ i) with h0 | h0
  ·
   rw [h0, M_zero] at h2; cases h2
  ·
   exact h0
 rw [M_pos hp] at h2
 injection h2 with h3 _
 exact ⟨hp, h3.symm⟩
theorem M_end (a i : Nat) (h : (M a).length ≤ i) : a / 10000 ^ i = 0 := by
 have h1 := M_drop a i
 rw [List.drop_of_length_le h] at h1
 rcases Nat.eq_zero_or_pos (a / 10000 ^ i) with h0 | h0
 ·
  exact h0
 ·
  rw [M_pos h0] at h1; cases h1
theorem rtimes_l1 : ∀ (c : Nat) (out : List Int), c ≤ 1152921504606846976 → out.length + (M c).length ≤ 10000000 → Runs (fun k => r_times.l1 k out (c : Int)) (out ++ M c) := by
 intro c
 induction c using Nat.strongRecOn with
 | ind c ih =>
  intro out hc hl
  refine Runs.suc ?_
  simp only [r_times.l1]
  rcases Nat.eq_zero_or_pos c with h0 | h0
  ·
   rw [h0, M_zero, List.append_nil]
   exact Runs.no (by omega) (Runs.pure _)
  ·
   have e1 : Int.tmod (c : Int) 10000 = ((c % 10000 : Nat) : Int) := by rw [Int.tmod_eq_emod_of_nonneg (by omega)]; omega
   have e2 : wrap64 (Int.tdiv (c : Int) 10000) = ((c / 10000 : Nat) : Int) := by rw [Int.tdiv_eq_ediv_of_nonneg (by omega), w64 (by omega) (by omega)]; omega
   rw [e1, e2]
   rw [M_pos h0] at hl ⊢
   rw [List.length_cons] at hl
   refine Runs.yes (by omega) (Runs.yes (by omega) ?_)
   refine (ih (c / 10000) (by omega) _ (by omega) (by simp; omega)).of ?_
   simp
theorem div_small (c z : Nat) (hc : c ≤ 1152921504606846976) (hz : z ≤ 9999 * 10000) : (c + z) / 10000 ≤ 1152921504606846976 := by omega
theorem div_step (c z : Nat) (hc : c ≤ 1152921504606846976) (hz : z ≤ 9999 * 10000) : wrap64 ((z : Nat) : Int) = (z : Int) ∧ wrap64 ((z : Int) + (c : Int)) = (z : Int) + (c : Int) ∧
  Int.tmod ((z : Int) + (c : Int)) 10000 = (((c + z) % 10000 : Nat) : Int) ∧ wrap64 (Int.tdiv ((z : Int) + (c : Int)) 10000) = (((c + z) / 10000 : Nat) : Int) := by
 refine ⟨w64 (by omega) (by omega), w64 (by omega) (by omega), ?_, ?_⟩
 ·
  rw [Int.tmod_eq_emod_of_nonneg (by omega)]; omega
 ·
  rw [Int.tdiv_eq_ediv_of_nonneg (by omega), w64 (by omega) (by omega)]; omega
theorem M_split (r z : Nat) : (((r + 10000 * z) % 10000 : Nat) : Int) :: M ((r + 10000 * z) / 10000) = ((r % 10000 : Nat) : Int) :: M (r / 10000 + z) := by
 rw [Nat.add_mul_mod_self_left, Nat.add_mul_div_left _ _ (by decide)]
theorem rtimes_l0 (a m : Nat) (ha : FewM a) (hm : 1 ≤ m) (hm2 : m ≤ 10000) : ∀ (d i : Nat), i + d = (M a).length → ∀ (out : List Int) (c : Nat), c ≤ 1152921504606846976 → out.length ≤ i →
  Runs (fun k => r_times.l0 k (M a) (m : Int) out (c : Int) (i : Int)) (out ++ M (c + m * (a / 10000 ^ i))) := by
 unfold FewM at ha
 intro d
 induction d with
 | zero =>
  intro i hi out c hc ho
  refine Runs.suc ?_
  simp only [r_times.l0]
  refine Runs.no (by omega) ?_
  rw [M_end a i (by omega), Nat.mul_zero, Nat.add_zero]
  refine rtimes_l1 c out hc ?_
  have := lim_len (B := 10000) (by decide) 60 c (Nat.lt_of_le_of_lt hc (by decide : 1152921504606846976 < 10000 ^ 60))
  have e : (M c).length = (lim 10000 c).length := rfl
  omega
 | succ d ih =>
  intro i hi out c hc ho
  have hil : i < (M a).length := by omega
  obtain ⟨hp, hg⟩ := M_get a i hil
  refine Runs.suc ?_
  simp only [r_times.l0]
  rw [rd_get _ i hil, hg]
  have hdv : a / 10000 ^ (i + 1) = a / 10000 ^ i / 10000 := by rw [Nat.div_div_eq_div_mul, Nat.pow_succ]
  have hr : a / 10000 ^ i % 10000 < 10000 := Nat.mod_lt _ (by decide)
  have hdm : a / 10000 ^ i % 10000 + 10000 * (a / 10000 ^ i / 10000) = a / 10000 ^ i := Nat.mod_add_div ..
  have ih := ih (i + 1) (by omega)
  rw [hdv] at ih
  generalize a / 10000 ^ i = v at *
  generalize hy : v % 10000 = y at *
  generalize hq : v / 10000 = q at *
  have hym : y * m ≤ 9999 * 10000 := Nat.mul_le_mul (by omega) hm2
  have e0 : (y : Int) * (m : Int) = ((y * m : Nat) : Int) := by simp
  obtain ⟨e3, e4, e1, e2⟩ := div_step c (y * m) hc hym
  rw [e0, e3, e4]
  have hcq : (c + y * m) / 10000 ≤ 1152921504606846976 := div_small c (y * m) hc hym
  rw [e1, e2, w64 (n := (i : Int) + 1) (by omega) (by omega)]
  refine Runs.yes (by omega) (Runs.yes (by omega) (Runs.yes (by omega) ?_))
  refine (ih (out ++ [(((c + y * m) % 10000 : Nat) : Int)]) ((c + y * m) / 10000) hcq (by rw [List.length_append, List.length_singleton]; omega)).of ?_
  have hval : c + m * v = (c + y * m) + 10000 * (m * q) := by rw [← hdm]; grind
  have hpos : 0 < c + m * v := Nat.lt_of_lt_of_le (Nat.mul_pos hm hp) (Nat.le_add_left ..)
  have hM : M (c + m * v) = (((c + y * m) % 10000 : Nat) : Int) :: M ((c + y * m) / 10000 + m * q) := by
   rw [M_pos hpos, hval]
   exact M_split (c + y * m) (m * q)
  rw [hM, List.append_assoc]
  rfl
theorem rtimes_f (a m p : Nat) (ha : FewM a) (hm : 1 ≤ m) (hm2 : m ≤ 10000) (hp : p ≤ 1152921504606846976) : Runs (fun k => r_times.f k (M a) (m : Int) (p : Int)) (M (a * m + p)) := by
 simp only [r_times.f]
 refine (rtimes_l0 a m ha hm hm2 (M a).length 0 (by omega) [] p hp (by simp)).of ?_
 rw [List.nil_append, Nat.pow_zero, Nat.div_one, Nat.add_comm, Nat.mul_comm]
theorem rof_f (n : Nat) (h : n ≤ 1152921504606846976) : Runs (fun k => r_of.f k (n : Int)) (M n) := by
 simp only [r_of.f]
 have := rtimes_f 0 1 n (by unfold FewM; rw [M_zero]; simp) (by decide) (by decide) h
 rw [M_zero, Nat.zero_mul, Nat.zero_add] at this
 exact Runs.bind this (Runs.pure _)
theorem rpow_l1 (b : Nat) (hb : 1 ≤ b) (hb2 : b ≤ 10) (N : Nat) (hN : N ≤ 1000000) : ∀ (d i a : Nat), i + d = N → FewM (a * b ^ d) → Runs (fun k => r_power.l1 k (M a) (b : Int) (N : Int) (i : Int)) (M (a * b ^ d)) := by
 intro d
 induction d with
 | zero =>
  intro i a hi _
  refine Runs.suc ?_
  simp only [r_power.l1]
  exact Runs.no (by omega) ((Runs.pure _).of (by simp))
 | succ d ih =>
  intro i a hi hf
  refine Runs.suc ?_
  simp only [r_power.l1]
  refine Runs.yes (by omega) ?_
  rcases Nat.eq_zero_or_pos a with h0 | h0
  ·
   rw [h0, M_zero, Nat.zero_mul, M_zero]
   exact Runs.no (by simp) (Runs.pure _)
  ·
   have hne : (M a).length ≠ 0 := fun h => by have := (M_nil_iff a).1 h; omega
   have e : a * b ^ (d + 1) = (a * b + 0) * b ^ d := by rw [Nat.pow_succ]; grind
   have hp : 0 < b ^ (d + 1) := Nat.pow_pos hb
   refine Runs.yes (by omega) (Runs.bind (rtimes_f a b 0 (fewM_mono (Nat.le_mul_of_pos_right a hp) hf) hb (by omega) (by decide)) ?_)
   rw [w64 (by omega) (by omega), e]
   exact ih (i + 1) (a * b + 0) (by omega) (by rw [← e]; exact hf)
theorem M_shift (a : Nat) (ha : 0 < a) : ∀ q, List.replicate q 0 ++ M a = M (a * 10000 ^ q) := by
 intro q
 induction q with
 | zero => simp
 | succ q ih =>
  have hp : 0 < a * 10000 ^ (q + 1) := Nat.mul_pos ha (Nat.pow_pos (by decide))
  have e : a * 10000 ^ (q + 1) = 10000 * (a * 10000 ^ q) := by rw [Nat.pow_succ]; grind
  rw [M_pos hp, e, Nat.mul_mod_right, Nat.mul_div_cancel_left _ (by decide), ← ih]; rfl
theorem rpow_j3 (a b n : Nat) (hb : 1 ≤ b) (hb2 : b ≤ 10) (hn : n ≤ 1000000) (hf : FewM (a * b ^ n)) : Runs (fun k => r_power.j3 k (M a) (b : Int) (n : Int)) (M (a * b ^ n)) := by
 refine Runs.suc ?_
 simp only [r_power.j3]
 exact rpow_l1 b hb hb2 n hn n 0 a (by omega) hf
theorem rpow2_l0 : ∀ (q a n : Nat), n / 13 = q → n ≤ 1000000 → FewM (a * 2 ^ n) → Runs (fun k => r_power.l0 k (M a) 2 (n : Int)) (M (a * 2 ^ n)) := by
 intro q
 induction q with
 | zero =>
  intro a n hq hn hf
  refine Runs.suc ?_
  simp only [r_power.l0]
  refine Runs.yes trivial (Runs.no (by omega) (Runs.suc ?_))
  simp only [r_power.j1]
  refine Runs.no (by decide) (Runs.suc ?_)
  simp only [r_power.j2]
  exact Runs.no (by decide) (rpow_j3 a 2 n (by decide) (by decide) hn hf)
 | succ q ih =>
  intro a n hq hn hf
  obtain ⟨m, rfl⟩ : ∃ m, n = m + 13 := ⟨n - 13, by omega⟩
  refine Runs.suc ?_
  simp only [r_power.l0]
  have e : a * 2 ^ (m + 13) = (a * 8192 + 0) * 2 ^ m := by rw [Nat.pow_add]; grind
  refine Runs.yes trivial (Runs.yes (by omega) (Runs.bind (rtimes_f a 8192 0 (fewM_mono (Nat.le_mul_of_pos_right a (Nat.two_pow_pos _)) hf) (by decide) (by decide) (by decide)) ?_))
  rw [w64 (by omega) (by omega), show ((m + 13 : Nat) : Int) - 13 = (m : Int) by omega, e]
  exact ih _ m (by omega) (by omega) (by rw [← e]; exact hf)
theorem rpow2_f (a n : Nat) (hn : n ≤ 1000000) (hf : FewM (a * 2 ^ n)) : Runs (fun k => r_power.f k (M a) 2 (n : Int)) (M (a * 2 ^ n)) := by
 simp only [r_power.f]
 exact rpow2_l0 _ a n rfl hn hf
theorem rpow10_f (a n : Nat) (hn : n ≤ 1000000) (hf : FewM (a * 10 ^ n)) : Runs (fun k => r_power.f k (M a) 10 (n : Int)) (M (a * 10 ^ n)) := by
 simp only [r_power.f]
 refine Runs.suc ?_
 simp only [r_power.l0]
 refine Runs.no (by decide) (Runs.suc ?_)
 simp only [r_power.j1]
 refine Runs.yes trivial ?_
 by_cases h4 : n < 4
 ·
  refine Runs.no (by omega) (Runs.suc ?_)
  simp only [r_power.j2]
  exact Runs.no (by decide) (rpow_j3 a 10 n (by decide) (by decide) hn hf)
 ·
  refine Runs.yes (by omega) (Runs.suc ?_)
  simp only [r_power.j2]
  rcases Nat.eq_zero_or_pos a with h0 | h0
  ·
   rw [h0, Nat.zero_mul, M_zero]
   refine Runs.no (by simp) ?_
   have := rpow_j3 0 10 n (by decide) (by decide) hn (by rw [Nat.zero_mul]; unfold FewM; rw [M_zero]; simp)
   rw [Nat.zero_mul, M_zero] at this
   exact this
  ·
   have hne : (M a).length ≠ 0 := fun h => by have := (M_nil_iff a).1 h; omega
   have e1 : Int.tdiv (n : Int) 4 = ((n / 4 : Nat) : Int) := by rw [Int.tdiv_eq_ediv_of_nonneg (by omega)]; omega
   have e2 : Int.tmod (n : Int) 4 = ((n % 4 : Nat) : Int) := by rw [Int.tmod_eq_emod_of_nonneg (by omega)]; omega
   rw [e1, e2, w64 (by omega) (by omega), Int.toNat_natCast]
   have hl : (M a).length ≤ 1000000 := fewM_mono (Nat.le_mul_of_pos_right a (Nat.pow_pos (by decide))) hf
   refine Runs.yes (by simp; omega) (Runs.yes (by omega) (Runs.yes (by omega) (Runs.bind (Runs.pure _) ?_)))
   show Runs (fun k => if (List.replicate (n / 4) (0 : Int)).length + (M a).length < 17592186044416 then r_power.j3 k (List.replicate (n / 4) 0 ++ M a) 10 ((n % 4 : Nat) : Int) else none) _
   rw [List.length_replicate, M_shift a h0]
   have e3 : a * 10 ^ n = a * 10000 ^ (n / 4) * 10 ^ (n % 4) := by
    rw [Nat.mul_assoc, show (10000 : Nat) = 10 ^ 4 by decide, ← Nat.pow_mul, ← Nat.pow_add]
    congr 2; omega
   rw [e3] at hf ⊢
   exact Runs.yes (by omega) (rpow_j3 _ 10 (n % 4) (by decide) (by decide) (by omega) hf)
theorem cmpN_step {N M' p x y : Nat} (h1 : N < p) (h2 : M' < p) : cmpN (N + p * x) (M' + p * y) = if x = y then cmpN N M' else if x < y then -1 else 1 := by
 by_cases c : x = y
 ·
  subst c
  rw [if_pos rfl]
  unfold cmpN
  generalize p * x = z
  by_cases c3 : N < M'
  ·
   rw [if_pos c3, if_pos (by omega)]
  ·
   rw [if_neg c3, if_neg (show ¬ N + z < M' + z by omega)]
   by_cases c4 : M' < N
   ·
    rw [if_pos c4, if_pos (by omega)]
   ·
    rw [if_neg c4, if_neg (by omega)]
 ·
  rw [if_neg c]
  by_cases c1 : x < y
  ·
   have : p * (x + 1) ≤ p * y := Nat.mul_le_mul_left p c1
   rw [Nat.mul_add] at this
   unfold cmpN
   rw [if_pos c1, if_pos (by omega)]
  ·
   have : p * (y + 1) ≤ p * x := Nat.mul_le_mul_left p (by omega)
   rw [Nat.mul_add] at this
   unfold cmpN
   rw [if_neg c1, if_neg (by omega), if_pos (by omega)]
theorem rcmp_loop (a b : List Int) (ha : Wf 10000 a) (hb : Wf 10000 b) (hlen : a.length = b.length) (hl : a.length ≤ 1000000) :
  ∀ j, j ≤ a.length → Runs (fun k => r_cmp.l0 k a b ((j : Int) - 1)) (cmpN (nv 10000 (a.take j)) (nv 10000 (b.take j))) := by
 intro j
 induction j with
 | zero =>
  intro _
  refine Runs.suc ?_
  simp only [r_cmp.l0]
  exact Runs.no (by omega) ((Runs.pure _).of (by simp [nv, cmpN]))
 | succ j ih =>
  intro hj
  have h1 : j < a.length := by omega
  have h2 : j < b.length := by omega
  refine Runs.suc ?_
  simp only [r_cmp.l0]
  rw [show ((j + 1 : Nat) : Int) - 1 = (j : Int) by omega, rd_get a j h1, rd_get b j h2, w64 (by omega) (by omega)]
  refine Runs.yes (by omega) (Runs.yes (by omega) (Runs.yes (by omega) (Runs.yes (by omega) ?_)))
  obtain ⟨x, hx⟩ := Int.eq_ofNat_of_zero_le (ha.get h1).1
  obtain ⟨y, hy⟩ := Int.eq_ofNat_of_zero_le (hb.get h2).1
  have g1 := nv_lt (B := 10000) (by decide) (l := a.take j) (fun z hz => ha z (List.mem_of_mem_take hz))
  have g2 := nv_lt (B := 10000) (by decide) (l := b.take j) (fun z hz => hb z (List.mem_of_mem_take hz))
  rw [List.length_take, Nat.min_eq_left (by omega)] at g1 g2
  rw [nv_take_succ _ a j h1, nv_take_succ _ b j h2, hx, hy, Int.toNat_natCast, Int.toNat_natCast, cmpN_step g1 g2]
  by_cases c : x = y
  ·
   rw [if_pos c]
   exact Runs.yes (by omega) (ih (by omega))
  ·
   rw [if_neg c]
   refine Runs.no (by omega) ?_
   by_cases c1 : x < y
   ·
    rw [if_pos c1]; exact Runs.yes (by omega) (Runs.pure _)
   ·
    rw [if_neg c1]; exact Runs.no (by omega) (Runs.pure _)
theorem rcmp_f (a b : Nat) (ha : FewM a) : Runs (fun k => r_cmp.f k (M a) (M b)) (cmpN a b) := by
 unfold FewM at ha
 simp only [r_cmp.f]
 by_cases h0 : (M a).length = (M b).length
 ·
  refine Runs.yes (by omega) ?_
  have := rcmp_loop (M a) (M b) (M_wf a) (M_wf b) h0 ha (M a).length (Nat.le_refl _)
  rw [w64 (by omega) (by omega)]
  refine this.of ?_
  have e1 : (M a).take (M a).length = M a := List.take_length
  have e2 : (M b).take (M a).length = M b := by rw [h0]; exact List.take_length
  rw [e1, e2, M_nv, M_nv]
 ·
  refine Runs.no (by omega) ?_
  by_cases h1 : (M a).length < (M b).length
  ·
   refine Runs.yes (by omega) ((Runs.pure _).of ?_)
   have := lim_lt (B := 10000) (by decide) h1
   unfold cmpN; rw [if_pos this]
  ·
   refine Runs.no (by omega) ((Runs.pure _).of ?_)
   have := lim_lt (B := 10000) (by decide) (show (M b).length < (M a).length by omega)
   unfold cmpN; rw [if_neg (by omega), if_pos this]
theorem cmpN_mul (a b c : Nat) (h : 0 < c) : cmpN (a * c) (b * c) = cmpN a b := by
 unfold cmpN
 by_cases h1 : a < b
 ·
  rw [if_pos h1, if_pos (Nat.mul_lt_mul_of_pos_right h1 h)]
 ·
  rw [if_neg h1, if_neg (fun g => h1 (Nat.lt_of_mul_lt_mul_right g))]
  by_cases h2 : b < a
  ·
   rw [if_pos h2, if_pos (Nat.mul_lt_mul_of_pos_right h2 h)]
  ·
   rw [if_neg h2, if_neg (fun g => h2 (Nat.lt_of_mul_lt_mul_right g))]
theorem eq_aux6 (X A B T : Nat) : X * A * B * T = X * B * (A * T) := by grind
theorem eq_aux7 (m B T : Nat) : m * B * T = m * T * B := by grind
theorem eq_aux8 (m T B : Nat) : m * (T * 2) * B = m * T * B * 2 := by grind
theorem eq_aux9 (A T : Nat) : A * (T * 2) = 2 * (A * T) := by grind
theorem eq_aux10 (m T : Nat) : m * T + (m + 1) * T = (2 * m + 1) * T := by grind
theorem eq_aux5 (m A B T : Nat) : m * A * B * T = m * (A * T) * B := by grind
theorem below_f (m X : Nat) (e x : Int) (E : Nat) (S : Nat) (hE : (E : Int) = e + 1075) (hm : m ≤ 1152921504606846976) (he : e ≤ 5000) (hx0 : -10000 ≤ x) (hx1 : x ≤ 10000) (hX : X < 2 ^ S) (hS : S ≤ 500000) :
  Runs (fun k => r_below.f k (m : Int) e (M X) x) (cmpN (m * 2 ^ E * 10 ^ (-x).toNat) (X * 10 ^ x.toNat * 2 ^ 1075)) := by
 have p10 : ∀ n : Nat, 10 ^ n ≤ 2 ^ (4 * n) := by
  intro n
  rw [Nat.pow_mul]
  exact Nat.pow_le_pow_left (by decide) n
 have hm60 : m < 2 ^ 61 := Nat.lt_of_le_of_lt hm (by decide)
 have fX : ∀ u v : Nat, u ≤ 10000 → v ≤ 10000 → FewM (X * 2 ^ u * 10 ^ v) := by
  intro u v hu hv
  have h1 : X * 2 ^ u * 10 ^ v < 2 ^ S * 2 ^ u * 2 ^ (4 * v) := by
   refine Nat.lt_of_lt_of_le (Nat.mul_lt_mul_of_pos_right (Nat.mul_lt_mul_of_pos_right hX (Nat.two_pow_pos u)) (Nat.pow_pos (by decide))) ?_
   exact Nat.mul_le_mul_left _ (p10 v)
  rw [← Nat.pow_add, ← Nat.pow_add] at h1
  exact fewM_two h1 (by omega)
 have fm : ∀ u v : Nat, u ≤ 10000 → v ≤ 10000 → FewM (m * 2 ^ u * 10 ^ v) := by
  intro u v hu hv
  have h1 : m * 2 ^ u * 10 ^ v < 2 ^ 61 * 2 ^ u * 2 ^ (4 * v) := by
   refine Nat.lt_of_lt_of_le (Nat.mul_lt_mul_of_pos_right (Nat.mul_lt_mul_of_pos_right hm60 (Nat.two_pow_pos u)) (Nat.pow_pos (by decide))) ?_
   exact Nat.mul_le_mul_left _ (p10 v)
  rw [← Nat.pow_add, ← Nat.pow_add] at h1
  exact fewM_two h1 (by omega)
 have fX' : ∀ v : Nat, v ≤ 10000 → FewM (X * 10 ^ v) := by
  intro v hv
  have := fX 0 v (by omega) hv
  rwa [Nat.pow_zero, Nat.mul_one] at this
 have fm' : ∀ v : Nat, v ≤ 10000 → FewM (m * 10 ^ v) := by
  intro v hv
  have := fm 0 v (by omega) hv
  rwa [Nat.pow_zero, Nat.mul_one] at this
 have fX0 : ∀ u : Nat, u ≤ 10000 → FewM (X * 2 ^ u) := by
  intro u hu
  have := fX u 0 hu (by omega)
  rwa [Nat.pow_zero, Nat.mul_one] at this
 have fm0 : ∀ u : Nat, u ≤ 10000 → FewM (m * 2 ^ u) := by
  intro u hu
  have := fm u 0 hu (by omega)
  rwa [Nat.pow_zero, Nat.mul_one] at this
 have fm1 : FewM m := by
  have := fm0 0 (by omega)
  rwa [Nat.pow_zero, Nat.mul_one] at this
 have key : ∀ a b f : Nat, a * 2 ^ f = m * 2 ^ E * 10 ^ (-x).toNat → b * 2 ^ f = X * 10 ^ x.toNat * 2 ^ 1075 → cmpN a b = cmpN (m * 2 ^ E * 10 ^ (-x).toNat) (X * 10 ^ x.toNat * 2 ^ 1075) := by
  intro a b f h1 h2
  rw [← h1, ← h2, cmpN_mul _ _ _ (Nat.two_pow_pos f)]
 simp only [r_below.f]
 refine Runs.bind (rof_f m hm) ?_
 by_cases he1 : e > 0
 ·
  refine Runs.yes he1 ?_
  have ee : e = (e.toNat : Int) := by omega
  have hE2 : E = e.toNat + 1075 := by omega
  rw [ee]
  refine Runs.bind (rpow2_f m e.toNat (by omega) (fm0 _ (by omega))) ?_
  by_cases hx2 : x > 0
  ·
   refine Runs.yes hx2 ?_
   have ex : x = (x.toNat : Int) := by omega
   have ex2 : (-x).toNat = 0 := by omega
   have key := key (m * 2 ^ e.toNat) (X * 10 ^ x.toNat) 1075 (by rw [ex2, Nat.pow_zero, Nat.mul_one, hE2, Nat.pow_add 2 e.toNat 1075, Nat.mul_assoc]) rfl
   refine Runs.bind (a := M (X * 10 ^ x.toNat)) ?_ ?_
   ·
    have := rpow10_f X x.toNat (by omega) (fX' _ (by omega))
    rw [← ex] at this; exact this
   ·
    exact Runs.bind (rcmp_f _ _ (fm0 _ (by omega))) ((Runs.pure _).of key)
  ·
   refine Runs.no hx2 ?_
   have ex : -x = ((-x).toNat : Int) := by omega
   have ex2 : x.toNat = 0 := by omega
   have key := key (m * 2 ^ e.toNat * 10 ^ (-x).toNat) X 1075 (by rw [hE2, Nat.pow_add 2 e.toNat 1075]; exact eq_aux5 ..) (by rw [ex2, Nat.pow_zero, Nat.mul_one])
   rw [w64 (by omega) (by omega)]
   refine Runs.bind (a := M (m * 2 ^ e.toNat * 10 ^ (-x).toNat)) ?_ ?_
   ·
    have := rpow10_f (m * 2 ^ e.toNat) (-x).toNat (by omega) (fm _ _ (by omega) (by omega))
    rw [← ex] at this; exact this
   ·
    exact Runs.bind (rcmp_f _ _ (fm _ _ (by omega) (by omega))) ((Runs.pure _).of key)
 ·
  refine Runs.no he1 ?_
  have ee : -e = ((-e).toNat : Int) := by omega
  have hE2 : (-e).toNat + E = 1075 := by omega
  have hE3 : 2 ^ 1075 = 2 ^ (-e).toNat * 2 ^ E := by rw [← Nat.pow_add, hE2]
  rw [w64 (n := -e) (by omega) (by omega)]
  refine Runs.bind (a := M (X * 2 ^ (-e).toNat)) ?_ ?_
  ·
   have := rpow2_f X (-e).toNat (by omega) (fX0 _ (by omega))
   rw [← ee] at this; exact this
  by_cases hx2 : x > 0
  ·
   refine Runs.yes hx2 ?_
   have ex : x = (x.toNat : Int) := by omega
   have ex2 : (-x).toNat = 0 := by omega
   have key := key m (X * 2 ^ (-e).toNat * 10 ^ x.toNat) E (by rw [ex2, Nat.pow_zero, Nat.mul_one]) (by rw [hE3]; exact eq_aux6 ..)
   refine Runs.bind (a := M (X * 2 ^ (-e).toNat * 10 ^ x.toNat)) ?_ ?_
   ·
    have := rpow10_f (X * 2 ^ (-e).toNat) x.toNat (by omega) (fX _ _ (by omega) (by omega))
    rw [← ex] at this; exact this
   ·
    exact Runs.bind (rcmp_f _ _ fm1) ((Runs.pure _).of key)
  ·
   refine Runs.no hx2 ?_
   have ex : -x = ((-x).toNat : Int) := by omega
   have ex2 : x.toNat = 0 := by omega
   have key := key (m * 10 ^ (-x).toNat) (X * 2 ^ (-e).toNat) E (eq_aux7 m (10 ^ (-x).toNat) (2 ^ E)) (by rw [ex2, Nat.pow_zero, Nat.mul_one, hE3, Nat.mul_assoc])
   rw [w64 (by omega) (by omega)]
   refine Runs.bind (a := M (m * 10 ^ (-x).toNat)) ?_ ?_
   ·
    have := rpow10_f m (-x).toNat (by omega) (fm' _ (by omega))
    rw [← ex] at this; exact this
   ·
    exact Runs.bind (rcmp_f _ _ (fm' _ (by omega))) ((Runs.pure _).of key)
end Go.Proofs.YtjlnfnfdibfniaaDoor.Pl
namespace Go.Proofs.YtjlnfnfdibfniaaDoor.Pl
open Hd
def isDig (c : UInt8) : Bool := decide (48 ≤ c.toNat) && decide (c.toNat ≤ 57)
def val (l : List UInt8) : Nat := l.foldl (fun v c => 10 * v + (c.toNat - 48)) 0
theorem snoc_ind {α : Type} {P : List α → Prop} (h0 : P []) (h1 : ∀ l c, P l → P (l ++ [c])) (l : List α) : P l := by
 have h : ∀ r : List α, P r.reverse := by
  intro r
  induction r with
  | nil => exact h0
  | cons a r ih => rw [List.reverse_cons]; exact h1 _ _ ih
 have := h l.reverse
 rwa [List.reverse_reverse] at this
theorem val_snoc (l : List UInt8) (c : UInt8) : val (l ++ [c]) = 10 * val l + (c.toNat - 48) := by simp [val]
theorem dig_of (n : Nat) (h : n < 10) : (UInt8.ofNat (48 + n)).toNat = 48 + n := by
 rw [UInt8.toNat_ofNat']; omega
theorem dec_spec (n : Nat) (h : n < 10 ^ 20) : val (dec n) = n ∧ (∀ c ∈ dec n, isDig c = true) ∧ dec n ≠ [] ∧ (0 < n → ∀ c r, dec n = c :: r → c.toNat ≠ 48) := by
 induction n using Nat.strongRecOn with
 | _ n ih =>
  rw [dec_step n h]
  have hd := dig_of (n % 10) (Nat.mod_lt _ (by decide))
  unfold dec0
  by_cases h0 : n / 10 = 0
  ·
   rw [if_pos h0]
   refine ⟨?_, ?_, by simp, ?_⟩
   ·
    rw [val_snoc, hd]; simp [val]; omega
   ·
    intro c hc
    rw [List.nil_append, List.mem_singleton] at hc
    subst hc
    simp only [isDig, hd, Bool.and_eq_true, decide_eq_true_eq]; omega
   ·
    intro hn c r hr
    rw [List.nil_append, List.cons.injEq] at hr
    rw [← hr.1, hd]; omega
  ·
   rw [if_neg h0]
   obtain ⟨i1, i2, i3, i4⟩ := ih (n / 10) (by omega) (by omega)
   refine ⟨?_, ?_, by simp, ?_⟩
   ·
    rw [val_snoc, hd, i1]; omega
   ·
    intro c hc
    rcases List.mem_append.1 hc with hc | hc
    ·
     exact i2 c hc
    ·
     rw [List.mem_singleton] at hc
     subst hc
     simp only [isDig, hd, Bool.and_eq_true, decide_eq_true_eq]; omega
   ·
    intro hn c r hr
    cases hq : dec (n / 10) with
    | nil => exact absurd hq i3
    | cons a b =>
     rw [hq] at hr
     rw [List.cons_append, List.cons.injEq] at hr
     rw [← hr.1]
     exact i4 (by omega) a b hq
theorem decF_short : ∀ (f n e : Nat), n < 10 ^ (e + 1) → (decF f n).length ≤ e + 1
 | 0, _, _, _ => by simp [decF]
 | f + 1, n, 0, h => by
  rw [decF, if_pos (by omega)]; simp
 | f + 1, n, e + 1, h => by
  have h1 : n / 10 < 10 ^ (e + 1) := by rw [Nat.pow_succ] at h; omega
  have := decF_short f (n / 10) e h1
  rw [decF]
  split <;> simp <;> omega
end Go.Proofs.YtjlnfnfdibfniaaDoor.Pl
namespace Go.Proofs.YtjlnfnfdibfniaaDoor.Pl
def signBit (n : Bool) : Nat := if n = true then 9223372036854775808 else 0
end Go.Proofs.YtjlnfnfdibfniaaDoor.Pl
namespace Go.Proofs.YtjlnfnfdibfniaaDoor.Pl
open F Hd Go.RowKit Go.Proofs.YW.PWords Go.Proofs.YW.PMore
theorem wraps64 (n : Int) (h0 : 0 ≤ n) (h1 : n < 2 ^ 64) : IntKind.u64.wrap n = n := by rw [IntKind.wrap_u64]; omega
theorem rparts_f (K : Nat) (h : K < INF) : ∃ m E : Nat, r_parts.f (K : Int) = some ((m : Int), (E : Int) - 1074) ∧ m < 9007199254740992 ∧ (E = 0 ∨ 4503599627370496 ≤ m) ∧ K = E * 4503599627370496 + m ∧ E ≤ 2045 := by
 have hI : INF = 9218868437227405312 := rfl
 have e1 : Go.bits .and .u64 ((K : Int) / 4503599627370496) 2047 = ((K / 4503599627370496 : Nat) : Int) := by
  have := bits_mask .u64 64 (by decide) wraps64 11 (by decide) ((K : Int) / 4503599627370496) (by omega) (by omega)
  have e : (2 : Int) ^ 11 = 2048 := by decide
  rw [e] at this
  rw [show (2047 : Int) = 2048 - 1 by decide, this]; omega
 have e2 : Go.bits .and .u64 (K : Int) 4503599627370495 = ((K % 4503599627370496 : Nat) : Int) := by
  have := bits_mask .u64 64 (by decide) wraps64 52 (by decide) (K : Int) (by omega) (by omega)
  have e : (2 : Int) ^ 52 = 4503599627370496 := by decide
  rw [e] at this
  rw [show (4503599627370495 : Int) = 4503599627370496 - 1 by decide, this]; omega
 unfold r_parts.f
 rw [e1, e2, w64 (n := ((K / 4503599627370496 : Nat) : Int)) (by omega) (by omega), w64 (n := ((K % 4503599627370496 : Nat) : Int)) (by omega) (by omega), w64 (n := ((K % 4503599627370496 : Nat) : Int) + 4503599627370496) (by omega) (by omega), w64 (n := ((K / 4503599627370496 : Nat) : Int) - 1075) (by omega) (by omega)]
 by_cases h0 : K / 4503599627370496 = 0
 ·
  rw [if_pos (by omega)]
  refine ⟨K % 4503599627370496, 0, rfl, by omega, .inl rfl, by omega, by omega⟩
 ·
  rw [if_neg (by omega)]
  refine ⟨K % 4503599627370496 + 4503599627370496, K / 4503599627370496 - 1, ?_, by omega, .inr (by omega), by omega, by omega⟩
  congr 2
  omega
theorem cmpN_lt (a b : Nat) : cmpN a b < 0 ↔ a < b := by
 unfold cmpN
 split
 ·
  constructor <;> intro _ <;> omega
 ·
  split
  ·
   constructor <;> intro _ <;> omega
  ·
   constructor <;> intro _ <;> omega
theorem cmpN_eq (a b : Nat) : cmpN a b = 0 ↔ a = b := by
 unfold cmpN
 split
 ·
  constructor <;> intro _ <;> omega
 ·
  split
  ·
   constructor <;> intro _ <;> omega
  ·
   constructor <;> intro _ <;> omega
theorem rung_below (m X E : Nat) (x : Int) (S : Nat) (K : Nat) (hK : rungVal K = m * 2 ^ E) (hE : E ≤ 2045) (hm : m < 9007199254740992) (hx0 : -10000 ≤ x) (hx1 : x ≤ 10000) (hX : X < 2 ^ S) (hS : S ≤ 500000) :
  Runs (fun k => r_below.f k (m : Int) ((E : Int) - 1074) (M X) x) (cmpN (rungVal K * 10 ^ (-x).toNat) (X * 10 ^ x.toNat * 2 ^ 1074)) := by
 have := below_f m X ((E : Int) - 1074) x (E + 1) S (by omega) (by omega) (by omega) hx0 hx1 hX hS
 refine this.of ?_
 have e1 : m * 2 ^ (E + 1) * 10 ^ (-x).toNat = rungVal K * 10 ^ (-x).toNat * 2 := by rw [hK, Nat.pow_succ]; exact eq_aux8 ..
 have e2 : X * 10 ^ x.toNat * 2 ^ 1075 = X * 10 ^ x.toNat * 2 ^ 1074 * 2 := by rw [pow_join (a := 1074) (b := 1) (c := 1075) rfl, Nat.pow_one]; generalize 2 ^ 1074 = T; exact (Nat.mul_assoc ..).symm
 rw [e1, e2, cmpN_mul _ _ 2 (by decide)]
theorem mid_below (m X E : Nat) (x : Int) (S : Nat) (K : Nat) (hK : mid K = (2 * m + 1) * 2 ^ E) (hE : E ≤ 2045) (hm : m < 9007199254740992) (hx0 : -10000 ≤ x) (hx1 : x ≤ 10000) (hX : X < 2 ^ S) (hS : S ≤ 500000) :
  Runs (fun k => r_below.f k ((2 * m + 1 : Nat) : Int) ((E : Int) - 1074 - 1) (M X) x) (cmpN (mid K * 10 ^ (-x).toNat) (2 * (X * 10 ^ x.toNat * 2 ^ 1074))) := by
 have := below_f (2 * m + 1) X ((E : Int) - 1074 - 1) x E S (by omega) (by omega) (by omega) hx0 hx1 hX hS
 refine this.of ?_
 have e2 : X * 10 ^ x.toNat * 2 ^ 1075 = 2 * (X * 10 ^ x.toNat * 2 ^ 1074) := by rw [pow_join (a := 1074) (b := 1) (c := 1075) rfl, Nat.pow_one]; generalize 2 ^ 1074 = T; exact eq_aux9 ..
 rw [hK, e2]
end Go.Proofs.YtjlnfnfdibfniaaDoor.Pl
namespace Go.Proofs.YtjlnfnfdibfniaaDoor.Pl
open F Hd Go.RowKit Go.Proofs.YW.PWords Go.Proofs.YW.PMore
theorem rplus_l0 : ∀ (v i : Nat), i + (M v).length ≤ 1000000 → Runs (fun k => r_plus.l0 k (List.replicate i 0 ++ M v) (i : Int)) (List.replicate i 0 ++ M (v + 1)) := by
 intro v
 induction v using Nat.strongRecOn with
 | ind v ih =>
  intro i hl
  refine Runs.suc ?_
  simp only [r_plus.l0]
  rcases Nat.eq_zero_or_pos v with h0 | h0
  ·
   have h1 : M 0 = [] := M_zero
   have h2 : M (0 + 1) = [1] := by rw [M_pos (by decide)]; rw [show (0 + 1) / 10000 = 0 by decide, M_zero]; rfl
   rw [h0, h1, h2, List.append_nil]
   refine Runs.no (by simp) (Runs.yes (by rw [List.length_replicate]; omega) (Runs.pure _))
  ·
   have hM := M_pos h0
   rw [hM] at hl ⊢
   rw [List.length_cons] at hl
   have hlen : (List.replicate i (0 : Int) ++ ((v % 10000 : Nat) : Int) :: M (v / 10000)).length = i + 1 + (M (v / 10000)).length := by simp; omega
   have hg : rd (List.replicate i (0 : Int) ++ ((v % 10000 : Nat) : Int) :: M (v / 10000)) (i : Int) = ((v % 10000 : Nat) : Int) := by
    rw [rd_get _ i (by rw [hlen]; omega), List.getElem_append_right (by simp)]
    simp
   have hset : ∀ z : Int, (List.replicate i (0 : Int) ++ ((v % 10000 : Nat) : Int) :: M (v / 10000)).set i z = List.replicate i 0 ++ z :: M (v / 10000) := by
    intro z
    rw [List.set_append_right _ _ (by simp)]
    simp
   rw [hg, hlen, Int.toNat_natCast, hset, hset]
   refine Runs.yes (by omega) (Runs.yes (by omega) ?_)
   by_cases c : v % 10000 < 9999
   ·
    refine Runs.yes (by omega) ((Runs.pure _).of ?_)
    have e1 : (v + 1) % 10000 = v % 10000 + 1 := by omega
    have e2 : (v + 1) / 10000 = v / 10000 := by omega
    rw [M_pos (show 0 < v + 1 by omega), e1, e2, w64 (by omega) (by omega)]
    congr 2
   ·
    refine Runs.no (by omega) ?_
    have e1 : (v + 1) % 10000 = 0 := by omega
    have e2 : (v + 1) / 10000 = v / 10000 + 1 := by omega
    have ih := ih (v / 10000) (by omega) (i + 1) (by omega)
    have hrep : ∀ l : List Int, List.replicate i 0 ++ 0 :: l = List.replicate (i + 1) 0 ++ l := by
     intro l
     rw [List.replicate_succ', List.append_assoc]; rfl
    rw [w64 (by omega) (by omega), M_pos (show 0 < v + 1 by omega), e1, e2]
    show Runs _ (List.replicate i 0 ++ 0 :: M (v / 10000 + 1))
    rw [hrep, hrep]
    exact ih
theorem rplus_f (v : Nat) (h : FewM v) : Runs (fun k => r_plus.f k (M v)) (M (v + 1)) := by
 unfold FewM at h
 simp only [r_plus.f]
 refine Runs.bind (Runs.pure _) ?_
 show Runs (fun k => if ([] : List Int).length + (M v).length < 17592186044416 then r_plus.l0 k ([] ++ M v) 0 else none) _
 rw [List.length_nil, List.nil_append]
 refine Runs.yes (by omega) ?_
 have := rplus_l0 v 0 (by omega)
 simpa using this
theorem M_lt (a i : Nat) : i < (M a).length ↔ 0 < a / 10000 ^ i := by
 constructor
 ·
  intro h; exact (M_get a i h).1
 ·
  intro h
  rcases Nat.lt_or_ge i (M a).length with c | c
  ·
   exact c
  ·
   rw [M_end a i c] at h; omega
theorem add_conv (z : Nat) (hz : z ≤ 19999) : Int.tmod (z : Int) 10000 = ((z % 10000 : Nat) : Int) ∧ wrap64 (Int.tdiv (z : Int) 10000) = ((z / 10000 : Nat) : Int) := by
 constructor
 ·
  rw [Int.tmod_eq_emod_of_nonneg (by omega)]; omega
 ·
  rw [Int.tdiv_eq_ediv_of_nonneg (by omega), w64 (by omega) (by omega)]; omega
theorem radd_l0 (a b : Nat) (ha : FewM a) (hb : FewM b) : ∀ (S i c : Nat) (out : List Int), S = c + a / 10000 ^ i + b / 10000 ^ i → c ≤ 1 → out.length ≤ i → (i ≤ 1000000 ∨ S = 0 ∧ i ≤ 1000001) →
  Runs (fun k => r_add.l0 k (M a) (M b) out (c : Int) (i : Int)) (out ++ M S) := by
 unfold FewM at ha hb
 intro S
 induction S using Nat.strongRecOn with
 | ind S ih =>
  intro i c out hS hc ho hi
  have la := M_lt a i
  have lb := M_lt b i
  have ga : i < (M a).length → rd (M a) (i : Int) = ((a / 10000 ^ i % 10000 : Nat) : Int) := fun h => by rw [rd_get _ i h, (M_get a i h).2]
  have gb : i < (M b).length → rd (M b) (i : Int) = ((b / 10000 ^ i % 10000 : Nat) : Int) := fun h => by rw [rd_get _ i h, (M_get b i h).2]
  have da : a / 10000 ^ (i + 1) = a / 10000 ^ i / 10000 := by rw [Nat.div_div_eq_div_mul, Nat.pow_succ]
  have db : b / 10000 ^ (i + 1) = b / 10000 ^ i / 10000 := by rw [Nat.div_div_eq_div_mul, Nat.pow_succ]
  generalize a / 10000 ^ i = A at *
  generalize b / 10000 ^ i = B at *
  refine Runs.suc ?_
  simp only [r_add.l0]
  rcases Nat.eq_zero_or_pos S with h0 | h0
  ·
   rw [h0, M_zero, List.append_nil]
   clear da db ih
   refine Runs.no (by omega) (Runs.no (by omega) (Runs.suc ?_))
   simp only [r_add.j1]
   exact Runs.no (by simp; omega) (Runs.pure _)
  ·
   have hnext : ∀ z : Nat, S = z + 10000 * (A / 10000 + B / 10000) → z ≤ 19999 → out.length < 17592186044416 →
     Runs (fun k => r_add.l0 k (M a) (M b) (out ++ [((z % 10000 : Nat) : Int)]) ((z / 10000 : Nat) : Int) ((i + 1 : Nat) : Int)) (out ++ M S) := by
    intro z hz hz2 _
    have e1 : S % 10000 = z % 10000 := by clear da db ih; omega
    have e2 : S / 10000 = z / 10000 + A / 10000 + B / 10000 := by clear da db ih; omega
    have hlast : i + 1 ≤ 1000000 ∨ S / 10000 = 0 ∧ i + 1 ≤ 1000001 := by
     clear da db ih
     rcases Nat.lt_or_ge i 1000000 with g | g
     ·
      exact .inl (by omega)
     ·
      exact .inr ⟨by omega, by omega⟩
    have := ih (S / 10000) (by clear da db ih; omega) (i + 1) (z / 10000) (out ++ [((z % 10000 : Nat) : Int)]) (by rw [e2, da, db]) (by clear da db ih; omega) (by rw [List.length_append, List.length_singleton]; clear da db ih; omega) hlast
    rw [List.append_assoc] at this
    rw [M_pos h0, e1]
    exact this
   clear da db ih
   have fin_ : Runs (fun k => r_add.j1 k (M a) (M b) out (c : Int) (i : Int) true) (out ++ M S) := by
    refine Runs.suc ?_
    simp only [r_add.j1]
    have ew : wrap64 ((i : Int) + 1) = ((i + 1 : Nat) : Int) := by rw [w64 (by omega) (by omega)]; omega
    rw [ew]
    have conv := add_conv
    refine Runs.yes trivial ?_
    by_cases ca : i < (M a).length
    ·
     rw [ga ca]
     refine Runs.yes (by omega) (Runs.yes (by omega) ?_)
     by_cases cb : i < (M b).length
     ·
      rw [gb cb]
      obtain ⟨z, hz⟩ : ∃ z, z = c + A % 10000 + B % 10000 := ⟨_, rfl⟩
      have hzl : z ≤ 19999 := by omega
      have e : wrap64 (wrap64 ((c : Int) + ((A % 10000 : Nat) : Int)) + ((B % 10000 : Nat) : Int)) = (z : Int) := by
       rw [w64 (n := (c : Int) + _) (by omega) (by omega), w64 (by omega) (by omega)]; omega
      obtain ⟨v1, v2⟩ := conv z hzl
      rw [e, v1, v2]
      refine Runs.yes (by omega) (Runs.yes (by omega) (hnext z ?_ hzl (by omega)))
      omega
     ·
      have hb0 : B = 0 := by omega
      obtain ⟨z, hz⟩ : ∃ z, z = c + A % 10000 := ⟨_, rfl⟩
      have hzl : z ≤ 19999 := by omega
      have e : wrap64 ((c : Int) + ((A % 10000 : Nat) : Int)) = (z : Int) := by
       rw [w64 (by omega) (by omega)]; omega
      obtain ⟨v1, v2⟩ := conv z hzl
      rw [e, v1, v2]
      refine Runs.no (by omega) (Runs.yes (by omega) (hnext z ?_ hzl (by omega)))
      omega
    ·
     have ha0 : A = 0 := by omega
     refine Runs.no (by omega) ?_
     by_cases cb : i < (M b).length
     ·
      rw [gb cb]
      obtain ⟨z, hz⟩ : ∃ z, z = c + B % 10000 := ⟨_, rfl⟩
      have hzl : z ≤ 19999 := by omega
      have e : wrap64 ((c : Int) + ((B % 10000 : Nat) : Int)) = (z : Int) := by
       rw [w64 (by omega) (by omega)]; omega
      obtain ⟨v1, v2⟩ := conv z hzl
      rw [e, v1, v2]
      refine Runs.yes (by omega) (Runs.yes (by omega) (Runs.yes (by omega) (hnext z ?_ hzl (by omega))))
      omega
     ·
      have hb0 : B = 0 := by omega
      obtain ⟨v1, v2⟩ := conv c (by omega)
      rw [v1, v2]
      refine Runs.no (by omega) (Runs.yes (by omega) (hnext c ?_ (by omega) (by omega)))
      omega
   by_cases ca : i < (M a).length
   ·
    exact Runs.yes (by omega) fin_
   ·
    refine Runs.no (by omega) ?_
    by_cases cb : i < (M b).length
    ·
     exact Runs.yes (by omega) fin_
    ·
     refine Runs.no (by omega) ?_
     have : decide ((c : Int) > 0) = true := decide_eq_true (by omega)
     rw [this]
     exact fin_
theorem radd_f (a b : Nat) (ha : FewM a) (hb : FewM b) : Runs (fun k => r_add.f k (M a) (M b)) (M (a + b)) := by
 simp only [r_add.f]
 have := radd_l0 a b ha hb (a + b) 0 0 [] (by simp) (by omega) (by simp) (.inl (by omega))
 rw [List.nil_append] at this
 exact this
theorem rtrim_runs (l : List Int) (hw : Wf 10000 l) (hl : l.length ≤ 10000000) : Runs (fun k => r_minus.l1 k l) (M (nv 10000 l)) := by
 generalize hn : l.length = n at hl
 induction n generalizing l with
 | zero =>
  have : l = [] := List.length_eq_zero_iff.1 hn
  subst this
  refine Runs.suc ?_
  simp only [r_minus.l1]
  refine Runs.no (by simp) ?_
  exact (Runs.pure _).of (by rw [nv, M_zero])
 | succ n ih =>
  obtain ⟨m, x, rfl⟩ : ∃ m x, l = m ++ [x] := by
   rcases snoc_cases l with h | h
   ·
    rw [h] at hn; simp at hn
   ·
    exact h
  have hlen : m.length = n := by simpa using hn
  have hll : (m ++ [x]).length = m.length + 1 := by simp
  have hwr : wrap64 (((m ++ [x]).length : Int) - 1) = (m.length : Int) := by rw [hll, w64 (by omega) (by omega)]; omega
  have hrd : rd (m ++ [x]) (m.length : Int) = x := by
   rw [rd_get _ _ (by rw [hll]; omega)]; simp
  refine Runs.suc ?_
  simp only [r_minus.l1]
  rw [hwr, hrd]
  refine Runs.yes (by rw [hll]; omega) (Runs.yes (by omega) (Runs.yes (by rw [hll]; omega) ?_))
  have hx := hw x (by simp)
  by_cases h0 : x = 0
  ·
   refine Runs.yes h0 (Runs.yes (by rw [hll]; omega) ?_)
   rw [h0, nv_snoc_zero, Int.toNat_natCast, List.take_left']
   ·
    exact ih m hw.left hlen (by omega)
   ·
    rfl
  ·
   refine Runs.no h0 ?_
   refine (Runs.pure _).of ?_
   exact (lim_snoc (by decide) hw.left (by omega) hx.2).symm
theorem rminus_l0 (l s : List Int) (hw : Wf 10000 l) (hws : Wf 10000 s) (hlen : l.length ≤ 1000000) :
  ∀ (d i : Nat), i + d = l.length → ∀ (out : List Int) (c : Nat), out.length = i → Wf 10000 out → c < 2 → c + nv 10000 (s.drop i) ≤ nv 10000 (l.drop i) →
  Runs (fun k => r_minus.l0 k l s out (c : Int) (i : Int)) (M (nv 10000 out + 10000 ^ i * (nv 10000 (l.drop i) - (c + nv 10000 (s.drop i))))) := by
 intro d
 induction d with
 | zero =>
  intro i hi out c ho hwo hc hle
  obtain rfl : i = l.length := by omega
  rw [List.drop_of_length_le (Nat.le_refl _)] at hle ⊢
  rw [nv] at hle ⊢
  refine Runs.suc ?_
  simp only [r_minus.l0]
  refine Runs.no (by omega) ((rtrim_runs out hwo (by omega)).of (by simp))
 | succ d ih =>
  intro i hi out c ho hwo hc hle
  have hil : i < l.length := by omega
  obtain ⟨w, hy⟩ := Int.eq_ofNat_of_zero_le (hw.get hil).1
  have hw1 : w < 10000 := by have := (hw.get hil).2; omega
  have ew : wrap64 ((i : Int) + 1) = ((i + 1 : Nat) : Int) := by rw [w64 (by omega) (by omega)]; omega
  rw [nv_drop _ l i hil, hy, Int.toNat_natCast] at hle ⊢
  have go : ∀ y E : Nat, y < 10000 → nv 10000 (s.drop i) = y + 10000 * E → E = nv 10000 (s.drop (i + 1)) →
    Runs (fun k => if (w : Int) - c - y < 0 then (if out.length < 17592186044416 then (r_minus.l0 k l s (out ++ [wrap64 ((w : Int) - c - y + 10000)]) 1 ((i + 1 : Nat) : Int)) else none) else (if out.length < 17592186044416 then (r_minus.l0 k l s (out ++ [(w : Int) - c - y]) 0 ((i + 1 : Nat) : Int)) else none))
     (M (nv 10000 out + 10000 ^ i * (w + 10000 * nv 10000 (l.drop (i + 1)) - (c + nv 10000 (s.drop i))))) := by
   intro y E hy1 hv hE
   rw [hv] at hle ⊢
   have step : ∀ r q : Nat, r < 10000 → q < 2 → w + 10000 * q = r + c + y → Runs (fun k => r_minus.l0 k l s (out ++ [(r : Int)]) (q : Int) ((i + 1 : Nat) : Int)) (M (nv 10000 out + 10000 ^ i * (w + 10000 * nv 10000 (l.drop (i + 1)) - (c + (y + 10000 * E))))) := by
    intro r q hr hq he
    have := ih (i + 1) (by omega) (out ++ [(r : Int)]) q (by rw [List.length_append, List.length_singleton]; omega) (hwo.append (Wf.one (by omega) (by omega))) hq (by rw [← hE]; omega)
    refine this.of ?_
    congr 1
    rw [nv_append, nv_one, ho, ← hE, Int.toNat_natCast]
    generalize nv 10000 out = N
    generalize nv 10000 (l.drop (i + 1)) = D at *
    rw [Nat.pow_succ]
    generalize 10000 ^ i = p
    obtain ⟨X, hX⟩ : ∃ X, D = X + (q + E) := ⟨D - (q + E), by omega⟩
    rw [show D - (q + E) = X by omega, show w + 10000 * D - (c + (y + 10000 * E)) = r + 10000 * X by omega]
    grind
   by_cases cneg : (w : Int) - c - y < 0
   ·
    refine Runs.yes cneg (Runs.yes (by omega) ?_)
    have e : wrap64 ((w : Int) - c - y + 10000) = ((w + 10000 - c - y : Nat) : Int) := by rw [w64 (by omega) (by omega)]; omega
    rw [e]
    exact step (w + 10000 - c - y) 1 (by omega) (by omega) (by omega)
   ·
    refine Runs.no cneg (Runs.yes (by omega) ?_)
    have e : (w : Int) - c - y = ((w - c - y : Nat) : Int) := by omega
    rw [e]
    exact step (w - c - y) 0 (by omega) (by omega) (by omega)
  refine Runs.suc ?_
  simp only [r_minus.l0]
  rw [rd_get l i hil, hy, ew, w64 (n := (w : Int) - c) (by omega) (by omega)]
  refine Runs.yes (by omega) (Runs.yes (by omega) ?_)
  by_cases his : i < s.length
  ·
   obtain ⟨y, hz⟩ := Int.eq_ofNat_of_zero_le (hws.get his).1
   have hz1 : y < 10000 := by have := (hws.get his).2; omega
   rw [rd_get s i his, hz, w64 (n := (w : Int) - c - y) (by omega) (by omega)]
   refine Runs.yes (by omega) (go y _ hz1 ?_ rfl)
   rw [nv_drop _ s i his, hz, Int.toNat_natCast]
  ·
   have := go 0 0 (by decide) (by rw [List.drop_of_length_le (by omega)]; rfl) (by rw [List.drop_of_length_le (by omega)]; rfl)
   rw [show (w : Int) - c - ((0 : Nat) : Int) = (w : Int) - c by omega] at this
   exact Runs.no (by omega) this
theorem rminus_f (a b : Nat) (ha : FewM a) (h : b ≤ a) : Runs (fun k => r_minus.f k (M a) (M b)) (M (a - b)) := by
 unfold FewM at ha
 simp only [r_minus.f]
 refine (rminus_l0 (M a) (M b) (M_wf a) (M_wf b) ha (M a).length 0 (by omega) [] 0 rfl (Wf.nil _) (by omega) (by rw [List.drop_zero, List.drop_zero, M_nv, M_nv]; omega)).of ?_
 congr 1
 rw [List.drop_zero, List.drop_zero, M_nv, M_nv, nv]
 simp
end Go.Proofs.YtjlnfnfdibfniaaDoor.Pl
namespace Go.Proofs.YtjlnfnfdibfniaaDoor.Pl
open F Hd Go.RowKit Go.Proofs.YW.PWords Go.Proofs.YW.PMore
theorem cmpN_cases2 (a b : Nat) : a < b ∧ cmpN a b = -1 ∨ a = b ∧ cmpN a b = 0 ∨ b < a ∧ cmpN a b = 1 := by
 unfold cmpN
 rcases Nat.lt_trichotomy a b with h | h | h
 ·
  exact .inl ⟨h, if_pos h⟩
 ·
  exact .inr (.inl ⟨h, by rw [if_neg (by omega), if_neg (by omega)]⟩)
 ·
  exact .inr (.inr ⟨h, by rw [if_neg (by omega), if_pos h]⟩)
theorem eq_aux11 (m T D : Nat) : 2 * m * (T * 2) * D = 2 * (m * T) * D * 2 := by grind
theorem low_below (K m E X : Nat) (x : Int) (S : Nat) (h0 : 0 < K) (hm : m < 9007199254740992) (hEm : E = 0 ∨ 4503599627370496 ≤ m) (hKE : K = E * 4503599627370496 + m) (hE : E ≤ 2045) (hx0 : -10000 ≤ x) (hx1 : x ≤ 10000) (hX : X < 2 ^ S) (hS : S ≤ 500000) :
  (¬ (m = 4503599627370496 ∧ 0 < E) → Runs (fun k => r_below.f k ((2 * m - 1 : Nat) : Int) ((E : Int) - 1074 - 1) (M X) x) (cmpN (mid (K - 1) * 10 ^ (-x).toNat) (2 * (X * 10 ^ x.toNat * 2 ^ 1074)))) ∧
  (m = 4503599627370496 ∧ 0 < E → Runs (fun k => r_below.f k ((4 * m - 1 : Nat) : Int) ((E : Int) - 1074 - 2) (M X) x) (cmpN (mid (K - 1) * 10 ^ (-x).toNat) (2 * (X * 10 ^ x.toNat * 2 ^ 1074)))) := by
 have e2 : X * 10 ^ x.toNat * 2 ^ 1075 = 2 * (X * 10 ^ x.toNat * 2 ^ 1074) := by rw [pow_join (a := 1074) (b := 1) (c := 1075) rfl, Nat.pow_one]; generalize 2 ^ 1074 = T; exact eq_aux9 ..
 have r0 : rungVal K = m * 2 ^ E := by rw [hKE]; exact rung_of hEm hm
 constructor
 ·
  intro c
  have rm : rungVal (K - 1) = (m - 1) * 2 ^ E := by
   have h1 : K - 1 = E * 4503599627370496 + (m - 1) := by omega
   rw [h1]
   exact rung_of (by omega) (by omega)
  have hlo : mid (K - 1) = (2 * m - 1) * 2 ^ E := by
   unfold mid
   rw [show K - 1 + 1 = K by omega, rm, r0]
   obtain ⟨j, rfl⟩ : ∃ j, m = j + 1 := ⟨m - 1, by omega⟩
   rw [Nat.add_sub_cancel, show 2 * (j + 1) - 1 = 2 * j + 1 by omega]; clear e2; grind
  have := below_f (2 * m - 1) X ((E : Int) - 1074 - 1) x E S (by omega) (by omega) (by omega) hx0 hx1 hX hS
  refine this.of ?_
  rw [hlo, e2]
 ·
  intro ⟨c1, c2⟩
  obtain ⟨G, rfl⟩ : ∃ G, E = G + 1 := ⟨E - 1, by omega⟩
  have rm : rungVal (K - 1) = 9007199254740991 * 2 ^ G := by
   have : K - 1 = G * 4503599627370496 + 9007199254740991 := by omega
   rw [this]; exact rung_of (.inr (by omega)) (by omega)
  have hlo : mid (K - 1) = (4 * m - 1) * 2 ^ G := by
   unfold mid
   rw [show K - 1 + 1 = K by omega, rm, r0, Nat.pow_succ, c1]
   clear e2; grind
  have := below_f (4 * m - 1) X (((G + 1 : Nat) : Int) - 1074 - 2) x G S (by omega) (by omega) (by omega) hx0 hx1 hX hS
  refine this.of ?_
  rw [hlo, e2]
theorem reads_low (W : Int) (ev : Bool) (P : Prop) (hP : (W < 0 ∨ W = 0 ∧ ev = true) ↔ P) : ∃ b : Bool, (b = true ↔ P) ∧ Runs (fun _ => if W < 0 then (some true) else (if W = 0 then (some ev) else (some false))) b := by
 by_cases c : W < 0
 ·
  exact ⟨true, by rw [← hP]; simp [c], Runs.yes c (Runs.pure _)⟩
 ·
  by_cases c2 : W = 0
  ·
   refine ⟨ev, ?_, Runs.no c (Runs.yes c2 (Runs.pure _))⟩
   rw [← hP]
   exact ⟨fun h => .inr ⟨c2, h⟩, fun h => h.elim (fun g => absurd g c) (fun g => g.2)⟩
  ·
   refine ⟨false, ?_, Runs.no c (Runs.no c2 (Runs.pure _))⟩
   rw [← hP]
   exact ⟨fun h => (by cases h), fun h => h.elim (fun g => absurd g c) (fun g => absurd g.1 c2)⟩
theorem reads_tail (U W : Int) (ev : Bool) (P : Prop) (key : P ↔ (U > 0 ∨ U = 0 ∧ ev = true) ∧ (W < 0 ∨ W = 0 ∧ ev = true)) (g : Nat → Option Int) (hg : Runs g W) :
  ∃ b : Bool, (b = true ↔ P) ∧ Runs (fun k => (g k).bind fun t412 => (if U > 0 then (if t412 < 0 then (some true) else (if t412 = 0 then (some ev) else (some false))) else (if U = 0 then (if ev = true then (if t412 < 0 then (some true) else (if t412 = 0 then (some ev) else (some false))) else (some false)) else (some false)))) b := by
 by_cases c : U > 0
 ·
  obtain ⟨b, h1, h2⟩ := reads_low W ev P (by rw [key]; exact ⟨fun h => ⟨.inl c, h⟩, fun h => h.2⟩)
  exact ⟨b, h1, Runs.bind hg (Runs.yes c h2)⟩
 ·
  by_cases c2 : U = 0
  ·
   by_cases c3 : ev = true
   ·
    obtain ⟨b, h1, h2⟩ := reads_low W ev P (by rw [key]; exact ⟨fun h => ⟨.inr ⟨c2, c3⟩, h⟩, fun h => h.2⟩)
    exact ⟨b, h1, Runs.bind hg (Runs.no c (Runs.yes c2 (Runs.yes c3 h2)))⟩
   ·
    refine ⟨false, ?_, Runs.bind hg (Runs.no c (Runs.yes c2 (Runs.no c3 (Runs.pure _))))⟩
    rw [key]
    exact ⟨fun h => (by cases h), fun h => h.1.elim (fun g => absurd g c) (fun g => absurd g.2 c3)⟩
  ·
   refine ⟨false, ?_, Runs.bind hg (Runs.no c (Runs.no c2 (Runs.pure _)))⟩
   rw [key]
   exact ⟨fun h => (by cases h), fun h => h.1.elim (fun g => absurd g c) (fun g => absurd g.1 c2)⟩
theorem near_cmp (N D K : Nat) (h0 : 0 < K) (hK : K < INF) : IsNear N D K ↔ (cmpN (mid K * D) (2 * N) > 0 ∨ cmpN (mid K * D) (2 * N) = 0 ∧ K % 2 = 0) ∧ (cmpN (mid (K - 1) * D) (2 * N) < 0 ∨ cmpN (mid (K - 1) * D) (2 * N) = 0 ∧ K % 2 = 0) := by
 have gt : ∀ a b : Nat, cmpN a b > 0 ↔ b < a := by
  intro a b
  rcases cmpN_cases2 a b with ⟨g1, g2⟩ | ⟨g1, g2⟩ | ⟨g1, g2⟩ <;> constructor <;> intro h <;> omega
 rw [gt, cmpN_eq, cmpN_lt, cmpN_eq]
 constructor
 ·
  intro h
  have a := h.hi hK
  have b := h.lo h0
  exact ⟨by omega, by omega⟩
 ·
  rintro ⟨a, b⟩
  exact ⟨by omega, fun _ => by omega, fun _ => by omega⟩
theorem reads_f (K N : Nat) (x : Int) (S : Nat) (h0 : 0 < K) (hK : K < INF) (hx0 : -10000 ≤ x) (hx1 : x ≤ 10000) (hX : N < 2 ^ S) (hS : S ≤ 500000) :
  ∃ b : Bool, (b = true ↔ DecNear N x K) ∧ Runs (fun k => r_reads.f k (K : Int) (M N) x) b := by
 have hI : INF = 9218868437227405312 := rfl
 obtain ⟨m, E, hp, hm, hEm, hKE, hE⟩ := rparts_f K hK
 have r0 : rungVal K = m * 2 ^ E := by rw [hKE]; exact rung_of hEm hm
 have r1 : rungVal (K + 1) = (m + 1) * 2 ^ E := by rw [hKE]; exact rung_next hEm hm
 have hmd : mid K = (2 * m + 1) * 2 ^ E := by unfold mid; rw [r0, r1]; exact eq_aux10 ..
 have hup := mid_below m N E x S K hmd hE hm hx0 hx1 hX hS
 obtain ⟨hl1, hl2⟩ := low_below K m E N x S h0 hm hEm hKE hE hx0 hx1 hX hS
 have hev : ((Int.tmod (K : Int) 2) == 0) = decide (K % 2 = 0) := by
  have e : Int.tmod (K : Int) 2 = ((K % 2 : Nat) : Int) := by rw [Int.tmod_eq_emod_of_nonneg (by omega)]; omega
  rw [e]
  by_cases c : K % 2 = 0
  ·
   rw [decide_eq_true c, beq_iff_eq]; omega
  ·
   rw [decide_eq_false c, beq_eq_false_iff_ne]; omega
 have key : DecNear N x K ↔ (cmpN (mid K * 10 ^ (-x).toNat) (2 * (N * 10 ^ x.toNat * 2 ^ 1074)) > 0 ∨ cmpN (mid K * 10 ^ (-x).toNat) (2 * (N * 10 ^ x.toNat * 2 ^ 1074)) = 0 ∧ K % 2 = 0) ∧ (cmpN (mid (K - 1) * 10 ^ (-x).toNat) (2 * (N * 10 ^ x.toNat * 2 ^ 1074)) < 0 ∨ cmpN (mid (K - 1) * 10 ^ (-x).toNat) (2 * (N * 10 ^ x.toNat * 2 ^ 1074)) = 0 ∧ K % 2 = 0) := near_cmp _ _ K h0 hK
 obtain ⟨U, hU⟩ : ∃ U, U = cmpN (mid K * 10 ^ (-x).toNat) (2 * (N * 10 ^ x.toNat * 2 ^ 1074)) := ⟨_, rfl⟩
 obtain ⟨W, hW⟩ : ∃ W, W = cmpN (mid (K - 1) * 10 ^ (-x).toNat) (2 * (N * 10 ^ x.toNat * 2 ^ 1074)) := ⟨_, rfl⟩
 rw [← hU] at hup key
 rw [← hW] at hl1 hl2 key
 have tail := fun g (hg : Runs g W) => reads_tail U W (decide (K % 2 = 0)) (DecNear N x K) (by rw [decide_eq_true_eq]; exact key) g hg
 clear hU hW key
 have openR : ∀ b : Bool, Runs (fun k => if (m : Int) = 4503599627370496 then r_reads.j0 k (m : Int) ((E : Int) - 1074) (decide (K % 2 = 0)) U (decide ((E : Int) - 1074 > (-1074))) (M N) x else r_reads.j0 k (m : Int) ((E : Int) - 1074) (decide (K % 2 = 0)) U false (M N) x) b → Runs (fun k => r_reads.f k (K : Int) (M N) x) b := by
  intro b h
  simp only [r_reads.f]
  rw [hp, hev]
  refine Runs.bind (Runs.pure _) ?_
  show Runs (fun k => (r_below.f k (wrap64 (wrap64 (2 * (m : Int)) + 1)) (wrap64 ((E : Int) - 1074 - 1)) (M N) x).bind _) b
  rw [w64 (n := 2 * (m : Int)) (by omega) (by omega), w64 (n := 2 * (m : Int) + 1) (by omega) (by omega), w64 (n := (E : Int) - 1074 - 1) (by omega) (by omega), show 2 * (m : Int) + 1 = ((2 * m + 1 : Nat) : Int) by omega]
  exact Runs.bind hup h
 have plain : ¬ (m = 4503599627370496 ∧ 0 < E) → ∃ b : Bool, (b = true ↔ DecNear N x K) ∧ Runs (fun k => r_reads.j0 k (m : Int) ((E : Int) - 1074) (decide (K % 2 = 0)) U false (M N) x) b := by
  intro c
  obtain ⟨b, h1, h2⟩ := tail _ (hl1 c)
  refine ⟨b, h1, Runs.suc ?_⟩
  simp only [r_reads.j0]
  rw [w64 (n := 2 * (m : Int)) (by omega) (by omega), w64 (n := 2 * (m : Int) - 1) (by omega) (by omega), w64 (n := (E : Int) - 1074 - 1) (by omega) (by omega), show 2 * (m : Int) - 1 = ((2 * m - 1 : Nat) : Int) by omega]
  exact Runs.no (by decide) h2
 by_cases c1 : m = 4503599627370496
 ·
  by_cases c2 : 0 < E
  ·
   obtain ⟨b, h1, h2⟩ := tail _ (hl2 ⟨c1, c2⟩)
   refine ⟨b, h1, openR b (Runs.yes (by omega) (Runs.suc ?_))⟩
   simp only [r_reads.j0]
   rw [w64 (n := 4 * (m : Int)) (by omega) (by omega), w64 (n := 4 * (m : Int) - 1) (by omega) (by omega), w64 (n := (E : Int) - 1074 - 2) (by omega) (by omega), show 4 * (m : Int) - 1 = ((4 * m - 1 : Nat) : Int) by omega]
   exact Runs.yes (decide_eq_true (by omega)) h2
  ·
   obtain ⟨b, h1, h2⟩ := plain (fun h => c2 h.2)
   refine ⟨b, h1, openR b (Runs.yes (by omega) ?_)⟩
   rw [decide_eq_false (show ¬ ((E : Int) - 1074 > -1074) by omega)]
   exact h2
 ·
  obtain ⟨b, h1, h2⟩ := plain (fun h => c1 h.1)
  exact ⟨b, h1, openR b (Runs.no (by omega) h2)⟩
theorem nearer_f (K a b : Nat) (x : Int) (S : Nat) (hK : K < INF) (hx0 : -10000 ≤ x) (hx1 : x ≤ 10000) (ha : FewM a) (hb : FewM b) (hX : a + b < 2 ^ S) (hS : S ≤ 500000) :
  Runs (fun k => r_nearer.f k (K : Int) (M a) x (M b) x) (cmpN (2 * rungVal K * 10 ^ (-x).toNat) ((a + b) * 10 ^ x.toNat * 2 ^ 1074)) := by
 obtain ⟨m, E, hp, hm, hEm, hKE, hE⟩ := rparts_f K hK
 have r0 : rungVal K = m * 2 ^ E := by rw [hKE]; exact rung_of hEm hm
 simp only [r_nearer.f]
 rw [hp]
 refine Runs.bind (Runs.pure _) (Runs.bind (radd_f a b ha hb) ?_)
 show Runs (fun k => (r_below.f k (wrap64 (2 * (m : Int))) ((E : Int) - 1074) (M (a + b)) x).bind _) _
 rw [w64 (n := 2 * (m : Int)) (by omega) (by omega), show 2 * (m : Int) = ((2 * m : Nat) : Int) by omega]
 have := below_f (2 * m) (a + b) ((E : Int) - 1074) x (E + 1) S (by omega) (by omega) (by omega) hx0 hx1 hX hS
 refine Runs.bind this ((Runs.pure _).of ?_)
 have e1 : 2 * m * 2 ^ (E + 1) * 10 ^ (-x).toNat = 2 * rungVal K * 10 ^ (-x).toNat * 2 := by rw [r0, Nat.pow_succ]; exact eq_aux11 ..
 have e2 : (a + b) * 10 ^ x.toNat * 2 ^ 1075 = (a + b) * 10 ^ x.toNat * 2 ^ 1074 * 2 := by rw [pow_join (a := 1074) (b := 1) (c := 1075) rfl, Nat.pow_one]; generalize 2 ^ 1074 = T; exact (Nat.mul_assoc ..).symm
 rw [e1, e2, cmpN_mul _ _ 2 (by decide)]
end Go.Proofs.YtjlnfnfdibfniaaDoor.Pl
namespace Go.Proofs.YtjlnfnfdibfniaaDoor.Pl
open F Hd Go.RowKit Go.Proofs.YW.PWords Go.Proofs.YW.PMore
def fd : Nat → Nat → Nat → List Int
 | 0, _, _ => []
 | n + 1, a, b => ((a * 10 / b : Nat) : Int) :: fd n (a * 10 % b) b
theorem ex_l3 (b : Nat) (x : Int) (out : List Int) (i : Int) (R : List Int × Int) (hb : 0 < b) (Z : Nat) (hZ : FewM Z) (hout : out.length ≤ 1000) (hi : 0 ≤ i) (hi2 : i ≤ 1000) : ∀ (q a d : Nat), a / b = q → a ≤ Z → d + q ≤ 1000 →
  Runs (fun k => r_expansion.l2 k x (M (a % b)) (M b) (out ++ [((d + q : Nat) : Int)]) (i + 1)) R → Runs (fun k => r_expansion.l3 k x (M a) (M b) out i (d : Int)) R := by
 intro q
 induction q with
 | zero =>
  intro a d hq ha hd h
  have hlt : a < b := by
   rcases Nat.lt_or_ge a b with c | c
   ·
    exact c
   ·
    have := Nat.div_pos c hb; omega
  rw [Nat.mod_eq_of_lt hlt] at h
  refine Runs.suc ?_
  simp only [r_expansion.l3]
  rw [w64 (n := i + 1) (by omega) (by omega)]
  refine Runs.bind (rcmp_f a b (fewM_mono ha hZ)) (Runs.no ?_ (Runs.yes (by omega) h))
  rcases cmpN_cases2 a b with ⟨h1, h2⟩ | ⟨h1, h2⟩ | ⟨h1, h2⟩ <;> omega
 | succ q ih =>
  intro a d hq ha hd h
  have hge : b ≤ a := by
   rcases Nat.lt_or_ge a b with c | c
   ·
    rw [Nat.div_eq_of_lt c] at hq; omega
   ·
    exact c
  refine Runs.suc ?_
  simp only [r_expansion.l3]
  refine Runs.bind (rcmp_f a b (fewM_mono ha hZ)) (Runs.yes ?_ (Runs.bind (rminus_f a b (fewM_mono ha hZ) hge) ?_))
  ·
   rcases cmpN_cases2 a b with ⟨h1, h2⟩ | ⟨h1, h2⟩ | ⟨h1, h2⟩ <;> omega
  ·
   rw [w64 (n := (d : Int) + 1) (by omega) (by omega), show (d : Int) + 1 = ((d + 1 : Nat) : Int) by omega]
   have hq2 : (a - b) / b = q := by
    have e : a = a - b + b := by omega
    have := Nat.add_div_right (a - b) hb
    rw [← e] at this
    omega
   refine ih (a - b) (d + 1) hq2 (by omega) (by omega) ?_
   have hm : (a - b) % b = a % b := by
    have e : a = a - b + b := by omega
    conv => rhs; rw [e, Nat.add_mod_right]
   rw [hm, show d + 1 + q = d + (q + 1) by omega]
   exact h
theorem ex_l2 (b : Nat) (x : Int) (hb : 0 < b) (hF : FewM (b * 10)) : ∀ (n i a : Nat) (out : List Int), i + n = 18 → a < b → out.length ≤ i → Runs (fun k => r_expansion.l2 k x (M a) (M b) out (i : Int)) (out ++ fd n a b, x) := by
 intro n
 induction n with
 | zero =>
  intro i a out hi ha ho
  refine Runs.suc ?_
  simp only [r_expansion.l2]
  exact Runs.no (by omega) ((Runs.pure _).of (by rw [fd, List.append_nil]))
 | succ n ih =>
  intro i a out hi ha ho
  have hq : a * 10 / b ≤ 9 := by
   have : a * 10 / b < 10 := Nat.div_lt_of_lt_mul (by omega)
   omega
  refine Runs.suc ?_
  simp only [r_expansion.l2]
  have ht := rtimes_f a 10 0 (fewM_mono (by omega) hF) (by decide) (by decide) (by decide)
  rw [Nat.add_zero] at ht
  refine Runs.yes (by omega) (Runs.bind ht ?_)
  refine ex_l3 b x out (i : Int) _ hb (b * 10) hF (by omega) (by omega) (by omega) (a * 10 / b) (a * 10) 0 rfl (by omega) (by omega) ?_
  have := ih (i + 1) (a * 10 % b) (out ++ [((a * 10 / b : Nat) : Int)]) (by omega) (Nat.mod_lt _ hb) (by rw [List.length_append, List.length_singleton]; omega)
  rw [Nat.zero_add, show (i : Int) + 1 = ((i + 1 : Nat) : Int) by omega]
  refine this.of ?_
  rw [fd, List.append_assoc]; rfl
def ge10 (K : Nat) (y : Int) : Prop := 1 * 10 ^ y.toNat * 2 ^ 1074 ≤ rungVal K * 10 ^ (-y).toNat
def exA (m : Nat) (e x : Int) : Nat := m * 2 ^ e.toNat * 10 ^ (-x).toNat
def exB (e x : Int) : Nat := 1 * 2 ^ (-e).toNat * 10 ^ x.toNat
theorem few_prod (m u v : Nat) (hm : m ≤ 1152921504606846976) (hu : u ≤ 10000) (hv : v ≤ 10000) : FewM (m * 2 ^ u * 10 ^ v) := by
 have h10 : 10 ^ v ≤ 2 ^ (4 * v) := by rw [Nat.pow_mul]; exact Nat.pow_le_pow_left (by decide) v
 have hm2 : m < 2 ^ 61 := Nat.lt_of_le_of_lt hm (by decide)
 have h1 : m * 2 ^ u * 10 ^ v < 2 ^ 61 * 2 ^ u * 2 ^ (4 * v) := by
  refine Nat.lt_of_lt_of_le (Nat.mul_lt_mul_of_pos_right (Nat.mul_lt_mul_of_pos_right hm2 (Nat.two_pow_pos u)) (Nat.pow_pos (by decide))) ?_
  exact Nat.mul_le_mul_left _ h10
 rw [← Nat.pow_add, ← Nat.pow_add] at h1
 exact fewM_two h1 (by omega)
theorem few_prod1 (m u : Nat) (hm : m ≤ 1152921504606846976) (hu : u ≤ 10000) : FewM (m * 2 ^ u) := by
 have := few_prod m u 0 hm hu (by decide)
 rwa [Nat.pow_zero, Nat.mul_one] at this
theorem ex_j2 {R : List Int × Int} (x : Int) (A B : Nat) (h : Runs (fun k => r_expansion.l2 k x (M (A * 10 ^ (-x).toNat)) (M (B * 10 ^ x.toNat)) [] 0) R) (hx0 : -10000 ≤ x) (hx1 : x ≤ 10000) (hA : FewM (A * 10 ^ (-x).toNat)) (hB : FewM (B * 10 ^ x.toNat)) :
  Runs (fun k => r_expansion.j2 k x (M A) (M B)) R := by
 refine Runs.suc ?_
 simp only [r_expansion.j2]
 by_cases c : x > 0
 ·
  have e1 : (-x).toNat = 0 := by omega
  have e2 : x = (x.toNat : Int) := by omega
  rw [e1, Nat.pow_zero, Nat.mul_one] at h
  have := rpow10_f B x.toNat (by omega) hB
  rw [← e2] at this
  refine Runs.yes c (Runs.bind this (Runs.suc ?_))
  simp only [r_expansion.j3]
  exact h
 ·
  have e1 : x.toNat = 0 := by omega
  have e2 : -x = ((-x).toNat : Int) := by omega
  rw [e1, Nat.pow_zero, Nat.mul_one] at h
  have := rpow10_f A (-x).toNat (by omega) hA
  rw [← e2] at this
  rw [w64 (by omega) (by omega)]
  refine Runs.no c (Runs.bind this (Runs.suc ?_))
  simp only [r_expansion.j3]
  exact h
theorem ex_l1 (K m E : Nat) (hm : m < 9007199254740992) (hE : E ≤ 2045) (hrv : rungVal K = m * 2 ^ E) (X : Int) (hX0 : -5000 ≤ X) (hX1 : X ≤ 5000) (hlt : exA m ((E : Int) - 1074) X < exB ((E : Int) - 1074) X) (hn : ¬ ge10 K X) :
  ∀ (g : Nat) (y : Int), y + g = X → -5000 ≤ y → (∀ z, y ≤ z → z < X → ge10 K z) → Runs (fun k => r_expansion.l1 k (m : Int) ((E : Int) - 1074) y) (fd 18 (exA m ((E : Int) - 1074) X) (exB ((E : Int) - 1074) X), X) := by
 have cm : ∀ y : Int, -5000 ≤ y → y ≤ 5000 → Runs (fun k => r_below.f k (m : Int) ((E : Int) - 1074) (M 1) y) (cmpN (rungVal K * 10 ^ (-y).toNat) (1 * 10 ^ y.toNat * 2 ^ 1074)) :=
  fun y h0 h1 => rung_below m 1 E y 1 K hrv hE hm (by omega) (by omega) (by decide) (by decide)
 have ge : ∀ y : Int, cmpN (rungVal K * 10 ^ (-y).toNat) (1 * 10 ^ y.toNat * 2 ^ 1074) ≥ 0 ↔ ge10 K y := by
  intro y
  unfold ge10
  generalize 1 * 10 ^ y.toNat * 2 ^ 1074 = a
  generalize rungVal K * 10 ^ (-y).toNat = b
  rcases cmpN_cases2 b a with ⟨h1, h2⟩ | ⟨h1, h2⟩ | ⟨h1, h2⟩ <;> constructor <;> intro h <;> omega
 have hof := rof_f 1 (by decide)
 intro g
 induction g with
 | zero =>
  intro y hy hy0 _
  have hyX : y = X := by omega
  subst hyX
  refine Runs.suc ?_
  simp only [r_expansion.l1]
  refine Runs.bind hof (Runs.bind (cm y hy0 hX1) (Runs.no (fun h => hn ((ge y).1 h)) (Runs.bind (rof_f m (by omega)) (Runs.bind hof ?_))))
  have hB0 : 0 < exB ((E : Int) - 1074) y := Nat.mul_pos (Nat.mul_pos (by decide) (Nat.two_pow_pos _)) (Nat.pow_pos (by decide))
  have fA := few_prod m ((E : Int) - 1074).toNat (-y).toNat (by omega) (by omega) (by omega)
  have fB := few_prod 1 (-((E : Int) - 1074)).toNat y.toNat (by decide) (by omega) (by omega)
  have fB10 : FewM (exB ((E : Int) - 1074) y * 10) := by
   have := few_prod 1 (-((E : Int) - 1074)).toNat (y.toNat + 1) (by decide) (by omega) (by omega)
   rw [Nat.pow_succ, ← Nat.mul_assoc] at this
   exact this
  have last := ex_l2 (exB ((E : Int) - 1074) y) y hB0 fB10 18 0 (exA m ((E : Int) - 1074) y) [] (by omega) hlt (by simp)
  rw [List.nil_append] at last
  by_cases c : (E : Int) - 1074 > 0
  ·
   have e1 : (-((E : Int) - 1074)).toNat = 0 := by omega
   have e2 : (E : Int) - 1074 = (((E : Int) - 1074).toNat : Int) := by omega
   have hp := rpow2_f m ((E : Int) - 1074).toNat (by omega) (few_prod1 _ _ (by omega) (by omega))
   rw [← e2] at hp
   refine Runs.yes c (Runs.bind hp ?_)
   rw [e1, Nat.pow_zero, Nat.mul_one] at fB
   refine ex_j2 y _ 1 ?_ (by omega) (by omega) fA fB
   have : exB ((E : Int) - 1074) y = 1 * 10 ^ y.toNat := by unfold exB; rw [e1, Nat.pow_zero, Nat.mul_one]
   rw [← this]
   exact last
  ·
   have e1 : ((E : Int) - 1074).toNat = 0 := by omega
   have e2 : -((E : Int) - 1074) = ((-((E : Int) - 1074)).toNat : Int) := by omega
   have hp := rpow2_f 1 (-((E : Int) - 1074)).toNat (by omega) (few_prod1 _ _ (by decide) (by omega))
   rw [← e2] at hp
   rw [w64 (by omega) (by omega)]
   refine Runs.no c (Runs.bind hp ?_)
   rw [e1, Nat.pow_zero, Nat.mul_one] at fA
   refine ex_j2 y m _ ?_ (by omega) (by omega) fA fB
   have : exA m ((E : Int) - 1074) y = m * 10 ^ (-y).toNat := by unfold exA; rw [e1, Nat.pow_zero, Nat.mul_one]
   rw [← this]
   exact last
 | succ g ih =>
  intro y hy hy0 hall
  refine Runs.suc ?_
  simp only [r_expansion.l1]
  rw [w64 (n := y + 1) (by omega) (by omega)]
  refine Runs.bind hof (Runs.bind (cm y hy0 (by omega)) (Runs.yes ((ge y).2 (hall y (by omega) (by omega))) ?_))
  exact ih (y + 1) (by omega) (by omega) (fun z h1 h2 => hall z (by omega) h2)
def gy (t : Int) : Int := Int.tdiv (t * 30103) 100000 - 2
theorem gy_all : ∀ t : Fin 2200, 10 ^ (gy ((t.val : Int) - 1100)).toNat * 2 ^ (1 - ((t.val : Int) - 1100)).toNat ≤ 2 ^ (((t.val : Int) - 1100) - 1).toNat * 10 ^ (-(gy ((t.val : Int) - 1100))).toNat := by decide +kernel
theorem gy_ok (t : Int) (h0 : -1100 ≤ t) (h1 : t < 1100) : 10 ^ (gy t).toNat * 2 ^ (1 - t).toNat ≤ 2 ^ (t - 1).toNat * 10 ^ (-(gy t)).toNat := by
 have := gy_all ⟨(t + 1100).toNat, by omega⟩
 have e : (((t + 1100).toNat : Nat) : Int) - 1100 = t := by omega
 simp only [e] at this
 exact this
theorem ge10_guess (K m E z : Nat) (hrv : rungVal K = m * 2 ^ E) (hE : E ≤ 2045) (hz : z ≤ 53) (hm : 2 ^ z ≤ m) : ge10 K (gy ((E : Int) - 1074 + ((z + 1 : Nat) : Int))) := by
 obtain ⟨t, ht⟩ : ∃ t : Int, t = (E : Int) - 1074 + ((z + 1 : Nat) : Int) := ⟨_, rfl⟩
 rw [← ht]
 have h := gy_ok t (by omega) (by omega)
 unfold ge10
 rw [Nat.one_mul, hrv]
 generalize 10 ^ (gy t).toNat = P at *
 generalize 10 ^ (-(gy t)).toNat = Q at *
 obtain ⟨u, hu⟩ : ∃ u, (1 - t).toNat + u = 1074 := ⟨1074 - (1 - t).toNat, by omega⟩
 have e1 : 2 ^ 1074 = 2 ^ (1 - t).toNat * 2 ^ u := pow_join (a := (1 - t).toNat) (b := u) (c := 1074) hu
 have e2 : 2 ^ (t - 1).toNat * 2 ^ u = 2 ^ z * 2 ^ E := pow_two (a := (t - 1).toNat) (b := u) (c := z) (d := E) (by omega)
 rw [e1]
 have h2 := Nat.mul_le_mul_right (2 ^ u) h
 have h3 : 2 ^ z * 2 ^ E * Q ≤ m * 2 ^ E * Q := Nat.mul_le_mul_right _ (Nat.mul_le_mul_right _ hm)
 have e3 : P * (2 ^ (1 - t).toNat * 2 ^ u) = P * 2 ^ (1 - t).toNat * 2 ^ u := (Nat.mul_assoc ..).symm
 have e4 : 2 ^ (t - 1).toNat * Q * 2 ^ u = 2 ^ (t - 1).toNat * 2 ^ u * Q := Nat.mul_right_comm ..
 rw [e3]
 rw [e4, e2] at h2
 exact Nat.le_trans h2 h3
end Go.Proofs.YtjlnfnfdibfniaaDoor.Pl
namespace Go.Proofs.YtjlnfnfdibfniaaDoor.Pl
open F Hd Go.RowKit Go.Proofs.YW.PWords Go.Proofs.YW.PMore
def dnB (r b : Nat) (ev : Bool) : Bool := decide (r < b) || (decide (r = b) && ev)
def upB (r s a : Nat) (ev : Bool) : Bool := decide (s < r + a) || (decide (s = r + a) && ev)
def adjB (r s d : Nat) (down up : Bool) : Bool := up && (!down || decide (s < 2 * r) || (decide (s = 2 * r) && decide (d % 2 = 1)))
theorem cmpN_cases (a b : Nat) : a < b ∧ cmpN a b = -1 ∨ a = b ∧ cmpN a b = 0 ∨ b < a ∧ cmpN a b = 1 := by
 unfold cmpN
 rcases Nat.lt_trichotomy a b with h | h | h
 ·
  exact .inl ⟨h, if_pos h⟩
 ·
  exact .inr (.inl ⟨h, by rw [if_neg (by omega), if_neg (by omega)]⟩)
 ·
  exact .inr (.inr ⟨h, by rw [if_neg (by omega), if_pos h]⟩)
theorem sh_inner (s b a : Nat) (ev : Bool) (l : List Int) (x : Int) (R : List Int × Int) (hs : 0 < s) (B : Nat) (hB : Few B) : ∀ (q r d : Nat), r / s = q → r ≤ B → d + q ≤ 200 →
  Runs (fun k => num_shortest.l1 k (L (r % s)) (L s) (L b) (L a) ev l ((d + q : Nat) : Int) x) R → Runs (fun k => num_shortest.l1 k (L r) (L s) (L b) (L a) ev l (d : Int) x) R := by
 intro q
 induction q with
 | zero =>
  intro r d hq hr hd h
  have hlt : r < s := by
   rcases Nat.lt_or_ge r s with c | c
   ·
    exact c
   ·
    have := Nat.div_pos c hs; omega
  rw [Nat.mod_eq_of_lt hlt] at h
  exact h
 | succ q ih =>
  intro r d hq hr hd h
  have hge : s ≤ r := by
   rcases Nat.lt_or_ge r s with c | c
   ·
    rw [Nat.div_eq_of_lt c] at hq; omega
   ·
    exact c
  refine Runs.suc ?_
  simp only [num_shortest.l1]
  refine Runs.bind (against_f r s (few_mono hr hB)) ?_
  refine Runs.yes (by rcases cmpN_cases r s with ⟨h1, h2⟩ | ⟨h1, h2⟩ | ⟨h1, h2⟩ <;> omega) (Runs.bind (less_f r s (few_mono hr hB) hge) ?_)
  rw [show ((d : Int) + 1) % 256 = ((d + 1 : Nat) : Int) by omega]
  have hq2 : (r - s) / s = q := by
   have e : r = r - s + s := by omega
   have := Nat.add_div_right (r - s) hs
   rw [← e] at this
   omega
  refine ih (r - s) (d + 1) hq2 (by omega) (by omega) ?_
  have hm : (r - s) % s = r % s := by
   have e : r = r - s + s := by omega
   conv => rhs; rw [e, Nat.add_mod_right]
  rw [hm, show d + 1 + q = d + (q + 1) by omega]
  exact h
theorem sh_test (r s b a : Nat) (d : Int) (ev : Bool) (l : List Int) (x : Int) (R : List Int × Int) (hr : r < s) (hF : Few (s + a))
  (h : Runs (fun k => num_shortest.j2 k (L r) (L s) (L b) (L a) ev l d (dnB r b ev) (upB r s a ev) x) R) : Runs (fun k => num_shortest.l1 k (L r) (L s) (L b) (L a) ev l d x) R := by
 have hfr : Few r := few_mono (by omega) hF
 have hfa : Few a := few_mono (by omega) hF
 have hfra : Few (r + a) := few_mono (by omega) hF
 refine Runs.suc ?_
 simp only [num_shortest.l1]
 refine Runs.bind (against_f r s hfr) ?_
 have e0 : cmpN r s = -1 := by unfold cmpN; rw [if_pos hr]
 refine Runs.no (by rw [e0]; decide) (Runs.bind (against_f r b hfr) (Runs.bind (plus_f r a hfr hfa) ?_))
 refine Runs.bind (against_f (r + a) s hfra) ?_
 have eu : ∀ z, cmpN (r + a) s = z → (z = -1 → upB r s a ev = false) ∧ (z = 0 → upB r s a ev = ev) ∧ (z = 1 → upB r s a ev = true) := by
  intro z hz
  unfold upB
  rcases cmpN_cases (r + a) s with ⟨h1, h2⟩ | ⟨h1, h2⟩ | ⟨h1, h2⟩
  ·
   rw [decide_eq_false (show ¬ s < r + a by omega), decide_eq_false (show ¬ s = r + a by omega)]
   refine ⟨fun _ => by simp, fun h => by omega, fun h => by omega⟩
  ·
   rw [decide_eq_false (show ¬ s < r + a by omega), decide_eq_true h1.symm]
   refine ⟨fun h => by omega, fun _ => by simp, fun h => by omega⟩
  ·
   rw [decide_eq_true h1]
   refine ⟨fun h => by omega, fun h => by omega, fun _ => by simp⟩
 have ed : ∀ z, cmpN r b = z → (z = -1 → dnB r b ev = true) ∧ (z = 0 → dnB r b ev = ev) ∧ (z = 1 → dnB r b ev = false) := by
  intro z hz
  unfold dnB
  rcases cmpN_cases r b with ⟨h1, h2⟩ | ⟨h1, h2⟩ | ⟨h1, h2⟩
  ·
   rw [decide_eq_true h1]
   refine ⟨fun _ => by simp, fun h => by omega, fun h => by omega⟩
  ·
   rw [decide_eq_false (show ¬ r < b by omega), decide_eq_true h1]
   refine ⟨fun h => by omega, fun _ => by simp, fun h => by omega⟩
  ·
   rw [decide_eq_false (show ¬ r < b by omega), decide_eq_false (show ¬ r = b by omega)]
   refine ⟨fun h => by omega, fun h => by omega, fun _ => by simp⟩
 have cu : cmpN (r + a) s = -1 ∨ cmpN (r + a) s = 0 ∨ cmpN (r + a) s = 1 := by rcases cmpN_cases (r + a) s with h | h | h <;> simp [h.2]
 have cd : cmpN r b = -1 ∨ cmpN r b = 0 ∨ cmpN r b = 1 := by rcases cmpN_cases r b with h | h | h <;> simp [h.2]
 have up3 : ∀ D : Bool, D = dnB r b ev → Runs (fun k => if cmpN (r + a) s > 0 then num_shortest.j2 k (L r) (L s) (L b) (L a) ev l d D true x else if cmpN (r + a) s = 0 then num_shortest.j2 k (L r) (L s) (L b) (L a) ev l d D ev x else num_shortest.j2 k (L r) (L s) (L b) (L a) ev l d D false x) R := by
  intro D hD
  rw [hD]
  rcases cu with hu | hu | hu
  ·
   refine Runs.no (by omega) (Runs.no (by omega) ?_)
   rw [← (eu _ hu).1 rfl]; exact h
  ·
   refine Runs.no (by omega) (Runs.yes hu ?_)
   rw [(eu _ hu).2.1 rfl] at h; exact h
  ·
   refine Runs.yes (by omega) ?_
   rw [← (eu _ hu).2.2 rfl]; exact h
 rcases cd with hd | hd | hd
 ·
  exact Runs.yes (by omega) (up3 true ((ed _ hd).1 rfl).symm)
 ·
  exact Runs.no (by omega) (Runs.yes hd (up3 ev ((ed _ hd).2.1 rfl).symm))
 ·
  exact Runs.no (by omega) (Runs.no (by omega) (up3 false ((ed _ hd).2.2 rfl).symm))
theorem sh_skip (r s b a : Nat) (ev down : Bool) (x : Int) (R : List Int × Int) (hx : -100000 ≤ x) (hx1 : x ≤ 100000) (h : Runs (fun k => num_shortest.l0 k (L r) (L s) (L b) (L a) ev [] (x - 1)) R) :
  Runs (fun k => num_shortest.j2 k (L r) (L s) (L b) (L a) ev [] 48 down false x) R := by
 refine Runs.suc ?_
 simp only [num_shortest.j2]
 refine Runs.yes rfl (Runs.yes trivial (Runs.suc ?_))
 simp only [num_shortest.j3]
 rw [w64 (by omega) (by omega)]
 exact Runs.yes rfl h
theorem sh_go (r s b a : Nat) (ev : Bool) (l : List Int) (d x : Int) (R : List Int × Int) (hl : l.length ≤ 100000) (hn : ¬ (l = [] ∧ d = 48)) (h : Runs (fun k => num_shortest.l0 k (L r) (L s) (L b) (L a) ev (l ++ [d]) x) R) :
  Runs (fun k => num_shortest.j2 k (L r) (L s) (L b) (L a) ev l d false false x) R := by
 have j3 : Runs (fun k => num_shortest.j3 k (L r) (L s) (L b) (L a) ev l d false false false x) R := by
  refine Runs.suc ?_
  simp only [num_shortest.j3]
  refine Runs.no Bool.false_ne_true (Runs.no Bool.false_ne_true (Runs.suc ?_))
  simp only [num_shortest.j4]
  exact Runs.yes rfl (Runs.yes (by omega) h)
 refine Runs.suc ?_
 simp only [num_shortest.j2]
 by_cases h1 : l.length = 0
 ·
  refine Runs.yes (by omega) (Runs.no (fun h2 => hn ⟨List.length_eq_zero_iff.1 h1, h2⟩) j3)
 ·
  exact Runs.no (by omega) j3
theorem sh_stop (r s b a d : Nat) (ev down up : Bool) (l : List Int) (x : Int) (hl : l.length ≤ 100000) (hd : d ≤ 200) (hr : Few (r * 2)) (hs : down = true ∨ up = true) (hn : ¬ (l = [] ∧ d = 48 ∧ up = false)) :
  Runs (fun k => num_shortest.j2 k (L r) (L s) (L b) (L a) ev l (d : Int) down up x) (l ++ [((d + (adjB r s d down up).toNat : Nat) : Int)], x) := by
 have j4 : Runs (fun k => num_shortest.j4 k (L r) (L s) (L b) (L a) ev l (d : Int) down up false x) (l ++ [((d + (adjB r s d down up).toNat : Nat) : Int)], x) := by
  refine Runs.suc ?_
  simp only [num_shortest.j4]
  have hr1 : Few r := few_mono (by omega) hr
  have e1 := up_f r 1 hr1 (by decide)
  rw [Nat.pow_one] at e1
  refine Runs.no Bool.false_ne_true (Runs.bind e1 (Runs.bind (against_f (r * 2) s hr) ?_))
  have hm : Int.tmod (d : Int) 2 = ((d % 2 : Nat) : Int) := by rw [Int.tmod_eq_emod_of_nonneg (by omega)]; omega
  rw [hm, show ((d : Int) + 1) % 256 = ((d + 1 : Nat) : Int) by omega]
  have plain : ∀ e : Bool, e = false → Runs (fun _ => if l.length < 140737488355328 then some (l ++ [(d : Int)], x) else none) (l ++ [((d + e.toNat : Nat) : Int)], x) := by
   intro e he
   rw [he]
   exact Runs.yes (by omega) (Runs.pure _)
  have more : ∀ e : Bool, e = true → Runs (fun _ => if l.length < 140737488355328 then some (l ++ [((d + 1 : Nat) : Int)], x) else none) (l ++ [((d + e.toNat : Nat) : Int)], x) := by
   intro e he
   rw [he]
   exact Runs.yes (by omega) (Runs.pure _)
  unfold adjB
  cases up with
  | false => exact Runs.no Bool.false_ne_true (plain _ (by simp))
  | true =>
   refine Runs.yes rfl ?_
   cases down with
   | false => exact Runs.no Bool.false_ne_true (more _ (by simp))
   | true =>
    refine Runs.yes rfl ?_
    rcases cmpN_cases (r * 2) s with ⟨h1, h2⟩ | ⟨h1, h2⟩ | ⟨h1, h2⟩
    ·
     refine Runs.no (by omega) (Runs.no (by omega) (plain _ ?_))
     rw [decide_eq_false (show ¬ s < 2 * r by omega), decide_eq_false (show ¬ s = 2 * r by omega)]; rfl
    ·
     refine Runs.no (by omega) (Runs.yes h2 ?_)
     rw [decide_eq_false (show ¬ s < 2 * r by omega), decide_eq_true (show s = 2 * r by omega)]
     by_cases h3 : d % 2 = 1
     ·
      rw [decide_eq_true h3]; exact Runs.yes (by omega) (more _ rfl)
     ·
      rw [decide_eq_false h3]; exact Runs.no (by omega) (plain _ rfl)
    ·
     refine Runs.yes (by omega) (more _ ?_)
     rw [decide_eq_true (show s < 2 * r by omega)]; rfl
 have j3 : Runs (fun k => num_shortest.j3 k (L r) (L s) (L b) (L a) ev l (d : Int) down up false x) (l ++ [((d + (adjB r s d down up).toNat : Nat) : Int)], x) := by
  refine Runs.suc ?_
  simp only [num_shortest.j3]
  refine Runs.no Bool.false_ne_true ?_
  cases down with
  | true => exact Runs.yes rfl j4
  | false =>
   have : up = true := by rcases hs with h | h; cases h; exact h
   rw [this] at j4 ⊢
   exact Runs.no Bool.false_ne_true j4
 refine Runs.suc ?_
 simp only [num_shortest.j2]
 by_cases h1 : l.length = 0
 ·
  refine Runs.yes (by omega) ?_
  by_cases h2 : d = 48
  ·
   have : up = true := by
    cases up with
    | true => rfl
    | false => exact absurd ⟨List.length_eq_zero_iff.1 h1, h2, rfl⟩ hn
   rw [this] at j3 ⊢
   exact Runs.yes (by omega) j3
  ·
   exact Runs.no (by omega) j3
 ·
  exact Runs.no (by omega) j3
def dg : Nat → Nat → Nat → Nat → List Nat
 | 0, _, _, _ => []
 | J + 1, r, s, e => if J = 0 then [r * 10 / s + e] else r * 10 / s :: dg J (r * 10 % s) s e
def ints (l : List Nat) : List Int := l.map (fun q => ((48 + q : Nat) : Int))
def rem (r s i : Nat) : Nat := r * 10 ^ i % s
theorem rem_succ (r s i : Nat) : rem (r * 10 % s) s i = rem r s (i + 1) := by
 unfold rem
 rw [Nat.mod_mul_mod, Nat.pow_succ]
 congr 1; grind
theorem quo_succ (r s i : Nat) (hs : 0 < s) (hi : 0 < i) : (r * 10 ^ (i + 1) / s) % 10 = ((r * 10 % s) * 10 ^ i / s) % 10 := by
 have h1 : r * 10 ^ (i + 1) = (r * 10 % s) * 10 ^ i + s * (r * 10 / s * 10 ^ i) := by
  have := Nat.mod_add_div (r * 10) s
  rw [Nat.pow_succ]
  generalize r * 10 % s = u at *
  generalize r * 10 / s = v at *
  have h2 : r * (10 ^ i * 10) = (r * 10) * 10 ^ i := by grind
  rw [h2, ← this]; grind
 rw [h1, Nat.add_mul_div_left _ _ hs]
 obtain ⟨j, rfl⟩ : ∃ j, i = j + 1 := ⟨i - 1, by omega⟩
 rw [Nat.pow_succ 10 j]
 generalize (r * 10 % s) * (10 ^ j * 10) / s = u
 generalize r * 10 / s = v
 have : v * (10 ^ j * 10) = 10 * (v * 10 ^ j) := by grind
 rw [this]; omega
def dn (r s b i : Nat) (ev : Bool) : Bool := dnB (rem r s i) (b * 10 ^ i) ev
def up (r s a i : Nat) (ev : Bool) : Bool := upB (rem r s i) s (a * 10 ^ i) ev
def adj (r s b a i : Nat) (ev : Bool) : Nat := (adjB (rem r s i) s (r * 10 ^ i / s) (dn r s b i ev) (up r s a i ev)).toNat
theorem dn_succ (r s b i : Nat) (ev : Bool) : dn (r * 10 % s) s (b * 10) i ev = dn r s b (i + 1) ev := by
 unfold dn; rw [rem_succ, Nat.pow_succ]; congr 1; grind
theorem up_succ (r s a i : Nat) (ev : Bool) : up (r * 10 % s) s (a * 10) i ev = up r s a (i + 1) ev := by
 unfold up; rw [rem_succ, Nat.pow_succ]; congr 1; grind
theorem adjB_par (r s d d' : Nat) (down up : Bool) (h : d % 2 = d' % 2) : adjB r s d down up = adjB r s d' down up := by
 unfold adjB; rw [h]
theorem adj_succ (r s b a i : Nat) (ev : Bool) (hs : 0 < s) (hi : 0 < i) : adj (r * 10 % s) s (b * 10) (a * 10) i ev = adj r s b a (i + 1) ev := by
 unfold adj
 rw [rem_succ, dn_succ, up_succ]
 congr 1
 refine adjB_par _ _ _ _ _ _ ?_
 have := quo_succ r s i hs hi
 omega
theorem sh_run (s : Nat) (ev : Bool) (x : Int) (_hx : -100000 ≤ x) (_hx1 : x ≤ 100000) (hs : 0 < s) : ∀ (J r b a : Nat) (l : List Int), 1 ≤ J → r < s → (∀ i, 1 ≤ i → i < J → dn r s b i ev = false ∧ up r s a i ev = false) → (dn r s b J ev = true ∨ up r s a J ev = true) →
  (l ≠ [] ∨ r * 10 / s ≠ 0 ∨ J = 1 ∧ up r s a 1 ev = true) → l.length + J ≤ 100000 → Few (s * 20 + b * 10 ^ J + a * 10 ^ J) →
  Runs (fun k => num_shortest.l0 k (L r) (L s) (L b) (L a) ev l x) (l ++ ints (dg J r s (adj r s b a J ev)), x) := by
 intro J
 induction J with
 | zero => intro r b a l h; omega
 | succ J ih =>
  intro r b a l _ hr hno hyes hfirst hl hF
  have hp : 1 ≤ 10 ^ J := Nat.pow_pos (by decide)
  have hpp : 10 ^ (J + 1) = 10 ^ J * 10 := Nat.pow_succ ..
  have hb : b * 10 ≤ b * 10 ^ (J + 1) := by rw [hpp]; exact Nat.mul_le_mul_left _ (by omega)
  have ha : a * 10 ≤ a * 10 ^ (J + 1) := by rw [hpp]; exact Nat.mul_le_mul_left _ (by omega)
  have hq : r * 10 / s ≤ 9 := by
   have : r * 10 / s < 10 := Nat.div_lt_of_lt_mul (by omega)
   omega
  have hml : r * 10 % s < s := Nat.mod_lt _ hs
  refine Runs.suc ?_
  simp only [num_shortest.l0]
  have t1 := tens_f r 1 (by rw [Nat.pow_one]; exact few_mono (by omega) hF) (by decide)
  have t2 := tens_f b 1 (by rw [Nat.pow_one]; exact few_mono (by omega) hF) (by decide)
  have t3 := tens_f a 1 (by rw [Nat.pow_one]; exact few_mono (by omega) hF) (by decide)
  rw [Nat.pow_one] at t1 t2 t3
  refine Runs.bind t1 (Runs.bind t2 (Runs.bind t3 ?_))
  refine sh_inner s (b * 10) (a * 10) ev l x _ hs (r * 10) (few_mono (by omega) hF) (r * 10 / s) (r * 10) 48 rfl (Nat.le_refl _) (by omega) ?_
  refine sh_test (r * 10 % s) s (b * 10) (a * 10) _ ev l x _ hml (few_mono (by omega) hF) ?_
  have e1 : dnB (r * 10 % s) (b * 10) ev = dn r s b 1 ev := by unfold dn rem; rw [Nat.pow_one]
  have e2 : upB (r * 10 % s) s (a * 10) ev = up r s a 1 ev := by unfold up rem; rw [Nat.pow_one]
  rw [e1, e2]
  rcases Nat.eq_zero_or_pos J with hJ | hJ
  ·
   subst hJ
   have e3 : dg 1 r s (adj r s b a 1 ev) = [r * 10 / s + adj r s b a 1 ev] := rfl
   rw [Nat.zero_add] at hyes ⊢
   rw [e3]
   have := sh_stop (r * 10 % s) s (b * 10) (a * 10) (48 + r * 10 / s) ev (dn r s b 1 ev) (up r s a 1 ev) l x (by omega) (by omega) (few_mono (by omega) hF) hyes (by
    rintro ⟨g1, g2, g3⟩
    rcases hfirst with h | h | ⟨_, h⟩
    ·
     exact h g1
    ·
     omega
    ·
     rw [g3] at h; cases h)
   refine this.of ?_
   have e4 : adjB (r * 10 % s) s (48 + r * 10 / s) (dn r s b 1 ev) (up r s a 1 ev) = adjB (rem r s 1) s (r * 10 ^ 1 / s) (dn r s b 1 ev) (up r s a 1 ev) := by
    unfold rem
    rw [Nat.pow_one]
    exact adjB_par _ _ _ _ _ _ (by omega)
   rw [e4]
   unfold adj ints
   rw [List.map_singleton, Nat.add_assoc]
  ·
   obtain ⟨n1, n2⟩ := hno 1 (by omega) (by omega)
   rw [n1, n2]
   refine sh_go _ _ _ _ _ _ _ _ _ (by omega) ?_ ?_
   ·
    rintro ⟨g1, g2⟩
    rcases hfirst with h | h | ⟨h, _⟩
    ·
     exact h g1
    ·
     omega
    ·
     omega
   ·
    have ih := ih (r * 10 % s) (b * 10) (a * 10) (l ++ [((48 + r * 10 / s : Nat) : Int)]) (by omega) hml (fun i h1 h2 => by
     rw [dn_succ, up_succ]; exact hno (i + 1) (by omega) (by omega)) (by rw [dn_succ, up_succ]; exact hyes) (.inl (by simp)) (by rw [List.length_append, List.length_singleton]; omega) (by
      refine few_mono ?_ hF
      rw [hpp]
      have e5 : b * 10 * 10 ^ J = b * (10 ^ J * 10) := by grind
      have e6 : a * 10 * 10 ^ J = a * (10 ^ J * 10) := by grind
      omega)
    rw [adj_succ r s b a J ev hs hJ] at ih
    refine ih.of ?_
    have e7 : dg (J + 1) r s (adj r s b a (J + 1) ev) = r * 10 / s :: dg J (r * 10 % s) s (adj r s b a (J + 1) ev) := by
     rw [dg, if_neg (by omega)]
    rw [e7]
    unfold ints
    rw [List.map_cons, List.append_assoc]
    rfl
end Go.Proofs.YtjlnfnfdibfniaaDoor.Pl
namespace Go.Proofs.YtjlnfnfdibfniaaDoor.Pl
structure Sc (T K p q r s b a : Nat) : Prop where
 hT : 0 < T
 hs : 0 < s
 ha : 0 < a
 hb : 0 < b
 hbr : b < r
 hv : r * 10 ^ q * T = rungVal K * 10 ^ p * s
 hu : 2 * (r + a) * 10 ^ q * T = mid K * 10 ^ p * s
 hl : mid (K - 1) * 10 ^ p * s + 2 * b * 10 ^ q * T = 2 * r * 10 ^ q * T
theorem Sc.more {T K p q r s b a : Nat} (h : Sc T K p q r s b a) : Sc T K p (q + 1) r (s * 10) b a := by
 obtain ⟨h1, h2, h3, h4, h5, h6, h7, h8⟩ := h
 refine ⟨h1, by omega, h3, h4, h5, ?_, ?_, ?_⟩
 ·
  rw [Nat.pow_succ]; generalize 10 ^ q = Q at *; generalize 10 ^ p = P at *; grind
 ·
  rw [Nat.pow_succ]; generalize 10 ^ q = Q at *; generalize 10 ^ p = P at *; grind
 ·
  rw [Nat.pow_succ]; generalize 10 ^ q = Q at *; generalize 10 ^ p = P at *; grind
theorem Sc.less {T K p q r s b a : Nat} (h : Sc T K p q r s b a) : Sc T K (p + 1) q (r * 10) s (b * 10) (a * 10) := by
 obtain ⟨h1, h2, h3, h4, h5, h6, h7, h8⟩ := h
 refine ⟨h1, h2, by omega, by omega, by omega, ?_, ?_, ?_⟩
 ·
  rw [Nat.pow_succ]; generalize 10 ^ q = Q at *; generalize 10 ^ p = P at *; grind
 ·
  rw [Nat.pow_succ]; generalize 10 ^ q = Q at *; generalize 10 ^ p = P at *; grind
 ·
  rw [Nat.pow_succ]; generalize 10 ^ q = Q at *; generalize 10 ^ p = P at *; grind
theorem mul_lt_iff {a b c : Nat} (hc : 0 < c) : a * c < b * c ↔ a < b := ⟨fun h => Nat.lt_of_mul_lt_mul_right h, fun h => Nat.mul_lt_mul_of_pos_right h hc⟩
theorem mul_eq_iff {a b c : Nat} (hc : 0 < c) : a * c = b * c ↔ a = b := ⟨fun h => Nat.eq_of_mul_eq_mul_right hc h, fun h => by rw [h]⟩
theorem Sc.lo_iff {T K p q r s b a : Nat} (h : Sc T K p q r s b a) (J N A B : Nat) (hA : 0 < A) (hAB : 10 ^ q * B = 10 ^ p * 10 ^ J * A) :
  (mid (K - 1) * B < 2 * (N * A * T) ↔ 10 ^ J * r < N * s + 10 ^ J * b) ∧ (mid (K - 1) * B = 2 * (N * A * T) ↔ 10 ^ J * r = N * s + 10 ^ J * b) := by
 have hQ : 0 < 10 ^ q := Nat.pow_pos (by decide)
 have hl := h.hl
 have hC : 0 < s * 10 ^ q := Nat.mul_pos h.hs hQ
 have hD : 0 < 2 * A * 10 ^ q * T := Nat.mul_pos (Nat.mul_pos (by omega) hQ) h.hT
 have e1 : 2 * (N * A * T) * (s * 10 ^ q) = (N * s) * (2 * A * 10 ^ q * T) := by
  generalize 10 ^ q = Q; grind
 have e2 : mid (K - 1) * B * (s * 10 ^ q) + (10 ^ J * b) * (2 * A * 10 ^ q * T) = (10 ^ J * r) * (2 * A * 10 ^ q * T) := by
  have : mid (K - 1) * B * (s * 10 ^ q) = mid (K - 1) * s * (10 ^ q * B) := by generalize 10 ^ q = Q; grind
  rw [this, hAB]
  generalize 10 ^ q = Q at *; generalize 10 ^ p = P at *; generalize 10 ^ J = X at *
  generalize mid (K - 1) = m at *
  grind
 rw [← mul_lt_iff hC, e1, ← mul_eq_iff hC, e1]
 have e3 : (N * s + 10 ^ J * b) * (2 * A * 10 ^ q * T) = N * s * (2 * A * 10 ^ q * T) + 10 ^ J * b * (2 * A * 10 ^ q * T) := Nat.add_mul ..
 rw [← mul_lt_iff (a := 10 ^ J * r) hD, ← mul_eq_iff (a := 10 ^ J * r) hD, e3, ← e2]
 constructor
 ·
  constructor <;> intro h <;> omega
 ·
  constructor <;> intro h <;> omega
theorem Sc.hi_iff {T K p q r s b a : Nat} (h : Sc T K p q r s b a) (J N A B : Nat) (hA : 0 < A) (hAB : 10 ^ q * B = 10 ^ p * 10 ^ J * A) :
  (2 * (N * A * T) < mid K * B ↔ N * s < 10 ^ J * (r + a)) ∧ (2 * (N * A * T) = mid K * B ↔ N * s = 10 ^ J * (r + a)) := by
 have hQ : 0 < 10 ^ q := Nat.pow_pos (by decide)
 have hu := h.hu
 have hC : 0 < s * 10 ^ q := Nat.mul_pos h.hs hQ
 have hD : 0 < 2 * A * 10 ^ q * T := Nat.mul_pos (Nat.mul_pos (by omega) hQ) h.hT
 have e1 : 2 * (N * A * T) * (s * 10 ^ q) = (N * s) * (2 * A * 10 ^ q * T) := by
  generalize 10 ^ q = Q; grind
 have e2 : mid K * B * (s * 10 ^ q) = (10 ^ J * (r + a)) * (2 * A * 10 ^ q * T) := by
  have : mid K * B * (s * 10 ^ q) = mid K * s * (10 ^ q * B) := by generalize 10 ^ q = Q; grind
  rw [this, hAB]
  generalize 10 ^ q = Q at *; generalize 10 ^ p = P at *; generalize 10 ^ J = X at *
  generalize mid K = m at *
  grind
 rw [← mul_lt_iff hC, e1, e2, mul_lt_iff hD, ← mul_eq_iff hC, e1, e2, mul_eq_iff hD]
 exact ⟨Iff.rfl, Iff.rfl⟩
def RdK (K : Nat) (ev : Bool) (J N r s b a : Nat) : Prop := (10 ^ J * r < N * s + 10 ^ J * b ∨ 10 ^ J * r = N * s + 10 ^ J * b ∧ ev = true) ∧ (N * s < 10 ^ J * (r + a) ∨ N * s = 10 ^ J * (r + a) ∧ ev = true) ∧ 0 < K
theorem Sc.near_iff {T K p q r s b a : Nat} (h : Sc T K p q r s b a) (hK0 : 0 < K) (hK : K < INF) (J N A B : Nat) (hA : 0 < A) (hAB : 10 ^ q * B = 10 ^ p * 10 ^ J * A) (ev : Bool) (hev : ev = decide (K % 2 = 0)) :
  IsNear (N * A * T) B K ↔ RdK K ev J N r s b a := by
 obtain ⟨l1, l2⟩ := h.lo_iff J N A B hA hAB
 obtain ⟨u1, u2⟩ := h.hi_iff J N A B hA hAB
 have he : ev = true ↔ K % 2 = 0 := by rw [hev, decide_eq_true_eq]
 unfold RdK
 constructor
 ·
  intro g
  refine ⟨?_, ?_, hK0⟩
  ·
   rcases g.lo hK0 with g1 | ⟨g1, g2⟩
   ·
    exact .inl (l1.1 g1)
   ·
    exact .inr ⟨l2.1 g1, he.2 g2⟩
  ·
   rcases g.hi hK with g1 | ⟨g1, g2⟩
   ·
    exact .inl (u1.1 g1)
   ·
    exact .inr ⟨u2.1 g1, he.2 g2⟩
 ·
  rintro ⟨g1, g2, _⟩
  refine ⟨Nat.le_of_lt hK, fun _ => ?_, fun _ => ?_⟩
  ·
   rcases g1 with g1 | ⟨g1, g3⟩
   ·
    exact .inl (l1.2 g1)
   ·
    exact .inr ⟨l2.2 g1, he.1 g3⟩
  ·
   rcases g2 with g1 | ⟨g1, g3⟩
   ·
    exact .inl (u1.2 g1)
   ·
    exact .inr ⟨u2.2 g1, he.1 g3⟩
theorem dec_iff {K p q r s b a : Nat} (h : Sc (2 ^ 1074) K p q r s b a) (hK0 : 0 < K) (hK : K < INF) (J N : Nat) (ev : Bool) (hev : ev = decide (K % 2 = 0)) :
  DecNear N ((q : Int) - p - J) K ↔ RdK K ev J N r s b a := by
 unfold DecNear
 refine h.near_iff hK0 hK J N _ _ (Nat.pow_pos (by decide)) ?_ ev hev
 rw [← Nat.pow_add, ← Nat.pow_add, ← Nat.pow_add]
 congr 1
 omega
theorem start_sc (T K m E : Nat) (hT : 0 < T) (hK0 : 0 < K) (hm : m < 9007199254740992) (hEm : E = 0 ∨ 4503599627370496 ≤ m) (hKE : K = E * 4503599627370496 + m) (u w : Nat) (hw : 2 ^ u * T = 2 ^ E * 2 ^ w) :
  Sc T K 0 0 ((if m = 4503599627370496 ∧ 0 < E then 4 * m else 2 * m) * 2 ^ u) ((if m = 4503599627370496 ∧ 0 < E then 4 else 2) * 2 ^ w) (1 * 2 ^ u) ((if m = 4503599627370496 ∧ 0 < E then 2 else 1) * 2 ^ u) := by
 have hu : 0 < 2 ^ u := Nat.two_pow_pos u
 have hw0 : 0 < 2 ^ w := Nat.two_pow_pos w
 have hm0 : 0 < m := by omega
 have r0 : rungVal K = m * 2 ^ E := by rw [hKE]; exact rung_of hEm hm
 have r1 : rungVal (K + 1) = (m + 1) * 2 ^ E := by rw [hKE]; exact rung_next hEm hm
 have hmid : mid K = (2 * m + 1) * 2 ^ E := by unfold mid; rw [r0, r1]; grind
 by_cases c : m = 4503599627370496 ∧ 0 < E
 ·
  rw [if_pos c, if_pos c, if_pos c]
  obtain ⟨c1, c2⟩ := c
  obtain ⟨F, rfl⟩ : ∃ F, E = F + 1 := ⟨E - 1, by omega⟩
  have rm : rungVal (K - 1) = 9007199254740991 * 2 ^ F := by
   have : K - 1 = F * 4503599627370496 + 9007199254740991 := by omega
   rw [this]; exact rung_of (.inr (by omega)) (by omega)
  have hlo : mid (K - 1) = (9007199254740991 + 2 * m) * 2 ^ F := by
   unfold mid
   rw [show K - 1 + 1 = K by omega, rm, r0, Nat.pow_succ]; grind
  rw [Nat.pow_succ] at r0 hmid hw
  refine ⟨hT, Nat.mul_pos (by decide) hw0, Nat.mul_pos (by decide) hu, Nat.mul_pos (by decide) hu, ?_, ?_, ?_, ?_⟩
  ·
   rw [Nat.mul_comm 1, Nat.mul_comm (4 * m)]; exact Nat.mul_lt_mul_of_pos_left (by omega) hu
  ·
   rw [r0]; generalize 2 ^ u = U at *; generalize 2 ^ w = W at *; generalize 2 ^ F = G at *; grind
  ·
   rw [hmid]; generalize 2 ^ u = U at *; generalize 2 ^ w = W at *; generalize 2 ^ F = G at *; grind
  ·
   rw [hlo, c1]; generalize 2 ^ u = U at *; generalize 2 ^ w = W at *; generalize 2 ^ F = G at *; grind
 ·
  rw [if_neg c, if_neg c, if_neg c]
  have rm : rungVal (K - 1) = (m - 1) * 2 ^ E := by
   have h1 : K - 1 = E * 4503599627370496 + (m - 1) := by omega
   rw [h1]
   exact rung_of (by omega) (by omega)
  have hlo : mid (K - 1) = (2 * m - 1) * 2 ^ E := by
   unfold mid
   rw [show K - 1 + 1 = K by omega, rm, r0]
   obtain ⟨j, rfl⟩ : ∃ j, m = j + 1 := ⟨m - 1, by omega⟩
   rw [Nat.add_sub_cancel, show 2 * (j + 1) - 1 = 2 * j + 1 by omega]; grind
  refine ⟨hT, Nat.mul_pos (by decide) hw0, Nat.mul_pos (by decide) hu, Nat.mul_pos (by decide) hu, ?_, ?_, ?_, ?_⟩
  ·
   rw [Nat.mul_comm 1, Nat.mul_comm (2 * m)]; exact Nat.mul_lt_mul_of_pos_left (by omega) hu
  ·
   rw [r0]; generalize 2 ^ u = U at *; generalize 2 ^ w = W at *; generalize 2 ^ E = G at *; grind
  ·
   rw [hmid]; generalize 2 ^ u = U at *; generalize 2 ^ w = W at *; generalize 2 ^ E = G at *; grind
  ·
   rw [hlo]
   obtain ⟨j, rfl⟩ : ∃ j, m = j + 1 := ⟨m - 1, by omega⟩
   rw [show 2 * (j + 1) - 1 = 2 * j + 1 by omega]
   generalize 2 ^ u = U at *; generalize 2 ^ w = W at *; generalize 2 ^ E = G at *; grind
end Go.Proofs.YtjlnfnfdibfniaaDoor.Pl
namespace Go.Proofs.YtjlnfnfdibfniaaDoor.Pl
open Go.RowKit
def guess (n : Int) : Option Int := (FloatKind.f64.format.mul (floatOfInt .f64 n) 4599094314157230187).bind fun a => (Hd.math_Ceil.f a).bind fun b => floatToIntVal .f64 b .i64
def okG (n : Int) : Bool := match guess n with | some g => decide (-400 ≤ g ∧ g ≤ 400) | none => false
theorem guess_all : ∀ n : Fin 2400, okG ((n.val : Int) - 1200) = true := by decide +kernel
theorem guess_ok (n : Int) (h0 : -1200 ≤ n) (h1 : n < 1200) : ∃ a b g, FloatKind.f64.format.mul (floatOfInt .f64 n) 4599094314157230187 = some a ∧ Hd.math_Ceil.f a = some b ∧ floatToIntVal .f64 b .i64 = some g ∧ -400 ≤ g ∧ g ≤ 400 := by
 have := guess_all ⟨(n + 1200).toNat, by omega⟩
 have e : (((n + 1200).toNat : Nat) : Int) - 1200 = n := by omega
 simp only [e] at this
 unfold okG guess at this
 cases h2 : FloatKind.f64.format.mul (floatOfInt .f64 n) 4599094314157230187 with
 | none => rw [h2] at this; cases this
 | some a =>
  rw [h2, Option.bind_some] at this
  cases h3 : Hd.math_Ceil.f a with
  | none => rw [h3] at this; cases this
  | some b =>
   rw [h3, Option.bind_some] at this
   cases h4 : floatToIntVal .f64 b .i64 with
   | none => rw [h4] at this; cases this
   | some g =>
    rw [h4] at this
    have := of_decide_eq_true this
    exact ⟨a, b, g, rfl, h3, h4, this⟩
end Go.Proofs.YtjlnfnfdibfniaaDoor.Pl
namespace Go.Proofs.YtjlnfnfdibfniaaDoor.Pl
open F Hd Go.RowKit Go.Proofs.YW.PWords Go.Proofs.YW.PMore
theorem few2 {n m : Nat} (h : n < 2 ^ m) (hm : m ≤ 31000000) : Few n := by
 refine few_of (s := m / 32 + 1) (Nat.lt_of_lt_of_le h ?_) (by omega)
 rw [show (4294967296 : Nat) = 2 ^ 32 by decide, ← Nat.pow_mul]
 exact Nat.pow_le_pow_right (by decide) (by omega)
theorem least (P : Nat → Prop) (n : Nat) (h : P n) : ∃ m, m ≤ n ∧ P m ∧ ∀ i, i < m → ¬ P i := by
 induction n using Nat.strongRecOn with
 | ind n ih =>
  by_cases c : ∃ i, i < n ∧ P i
  ·
   obtain ⟨i, hi, hP⟩ := c
   obtain ⟨m, h1, h2, h3⟩ := ih i hi hP
   exact ⟨m, by omega, h2, h3⟩
  ·
   exact ⟨n, Nat.le_refl _, h, fun i hi hP => c ⟨i, hi, hP⟩⟩
structure DigAt (K : Nat) (ev : Bool) (J p q r s b a : Nat) : Prop where
 sc : Sc (2 ^ 1074) K p q r s b a
 lt : r < s
 top : r + a < s ∨ r + a = s ∧ ev = false
 pos : 1 ≤ J
 no : ∀ i, 1 ≤ i → i < J → dn r s b i ev = false ∧ up r s a i ev = false
 yes : dn r s b J ev = true ∨ up r s a J ev = true
 first : r * 10 / s ≠ 0 ∨ J = 1 ∧ up r s a 1 ev = true
theorem tens1 (a : Nat) (h : Few (a * 10)) : Runs (fun k => num_nat_tens.f k (L a) 1) (L (a * 10)) := by
 have := tens_f a 1 (by rw [Nat.pow_one]; exact h) (by decide)
 rw [Nat.pow_one] at this
 exact this
theorem skip_loop (T K : Nat) (ev : Bool) (s q S : Nat) (hS : s < 2 ^ S) (hS2 : S ≤ 1000000) (hq : q ≤ 10000) : ∀ (g r b a p : Nat), s ≤ r * 10 ^ g → p + g ≤ 20000 → Sc T K p q r s b a → r < s → (r + a < s ∨ r + a = s ∧ ev = false) →
  ∃ r' b' a' p', Sc T K p' q r' s b' a' ∧ r' < s ∧ (r' + a' < s ∨ r' + a' = s ∧ ev = false) ∧ (r' * 10 / s ≠ 0 ∨ up r' s a' 1 ev = true) ∧ p' ≤ p + g ∧
   ∀ R, Runs (fun k => num_shortest.l0 k (L r') (L s) (L b') (L a') ev [] ((q : Int) - p')) R → Runs (fun k => num_shortest.l0 k (L r) (L s) (L b) (L a) ev [] ((q : Int) - p)) R := by
 intro g
 induction g with
 | zero => intro r b a p h1 _ _ h2 _; rw [Nat.pow_zero, Nat.mul_one] at h1; omega
 | succ g ih =>
  intro r b a p h1 hpg hsc hlt htop
  by_cases c : r * 10 / s ≠ 0 ∨ up r s a 1 ev = true
  ·
   exact ⟨r, b, a, p, hsc, hlt, htop, c, by omega, fun R h => h⟩
  ·
   have c1 : r * 10 / s = 0 := by
    rcases Nat.eq_zero_or_pos (r * 10 / s) with h | h
    ·
     exact h
    ·
     exact absurd (.inl (by omega)) c
   have c2 : up r s a 1 ev = false := by
    cases h : up r s a 1 ev with
    | false => rfl
    | true => exact absurd (.inr h) c
   have hlt2 : r * 10 < s := by
    rcases Nat.lt_or_ge (r * 10) s with h | h
    ·
     exact h
    ·
     have := Nat.div_pos h hsc.hs; omega
   have hrem : rem r s 1 = r * 10 := by unfold rem; rw [Nat.pow_one, Nat.mod_eq_of_lt hlt2]
   have htop2 : r * 10 + a * 10 < s ∨ r * 10 + a * 10 = s ∧ ev = false := by
    unfold up upB at c2
    rw [hrem, Nat.pow_one, Bool.or_eq_false_iff] at c2
    obtain ⟨d1, d2⟩ := c2
    have d1 := of_decide_eq_false d1
    rcases Nat.lt_or_ge (r * 10 + a * 10) s with h | h
    ·
     exact .inl h
    ·
     right
     have : s = r * 10 + a * 10 := by omega
     rw [decide_eq_true this] at d2
     exact ⟨this.symm, by simpa using d2⟩
   have hp1 : r * 10 ^ (g + 1) = r * 10 * 10 ^ g := by rw [Nat.pow_succ]; grind
   obtain ⟨r', b', a', p', g1, g2, g3, g4, g5, g6⟩ := ih (r * 10) (b * 10) (a * 10) (p + 1) (by rw [← hp1]; exact h1) (by omega) hsc.less hlt2 htop2
   refine ⟨r', b', a', p', g1, g2, g3, g4, by omega, fun R h => ?_⟩
   have h := g6 R h
   have hbr := hsc.hbr
   have hfs : ∀ z, z ≤ s * 4 → Few z := fun z hz => few2 (m := S + 2) (by rw [Nat.pow_add]; omega) (by omega)
   refine Runs.suc ?_
   simp only [num_shortest.l0]
   refine Runs.bind (tens1 r (hfs _ (by omega))) (Runs.bind (tens1 b (hfs _ (by omega))) (Runs.bind (tens1 a (hfs _ (by omega))) ?_))
   refine sh_inner s (b * 10) (a * 10) ev [] _ _ hsc.hs (r * 10) (hfs _ (by omega)) (r * 10 / s) (r * 10) 48 rfl (Nat.le_refl _) (by omega) ?_
   rw [c1, Nat.mod_eq_of_lt hlt2]
   refine sh_test (r * 10) s (b * 10) (a * 10) _ ev [] _ _ hlt2 (hfs _ (by omega)) ?_
   have e2 : upB (r * 10) s (a * 10) ev = false := by rw [← c2]; unfold up; rw [hrem, Nat.pow_one]
   rw [e2]
   refine sh_skip _ _ _ _ _ _ _ _ (by omega) (by omega) ?_
   rw [show (q : Int) - p - 1 = (q : Int) - ((p + 1 : Nat) : Int) by omega]
   exact h
theorem top_f (r a s : Nat) (ev : Bool) (hF : Few (r + a)) : Runs (fun k => num_Digits_1.f k (L r) (L a) (L s) ev) (upB r s a ev) := by
 simp only [num_Digits_1.f]
 have hr : Few r := few_mono (by omega) hF
 have ha : Few a := few_mono (by omega) hF
 refine Runs.bind (plus_f r a hr ha) (Runs.bind (against_f (r + a) s hF) ((Runs.pure _).of ?_))
 unfold upB
 rcases cmpN_cases (r + a) s with ⟨h1, h2⟩ | ⟨h1, h2⟩ | ⟨h1, h2⟩
 ·
  rw [h2, decide_eq_false (show ¬ s < r + a by omega), decide_eq_false (show ¬ s = r + a by omega)]; rfl
 ·
  rw [h2, decide_eq_false (show ¬ s < r + a by omega), decide_eq_true h1.symm]; simp
 ·
  rw [h2, decide_eq_true h1]; rfl
theorem top_loop (T K : Nat) (ev : Bool) (r b a p S : Nat) (neg : Bool) (hra : r + a < 2 ^ S) (hS2 : S ≤ 100000) (hp : p ≤ 10000) : ∀ (g s q : Nat), r + a < s * 10 ^ g → q + g ≤ 20000 → s < 2 ^ (S + 4) → Sc T K p q r s b a →
  ∃ s' q', Sc T K p q' r s' b a ∧ (r + a < s' ∨ r + a = s' ∧ ev = false) ∧ s' < 2 ^ (S + 4) ∧ q' ≤ q + g ∧
   ∀ R : List Int × Int, Runs (fun k => num_shortest.f k (L r) (L s') (L b) (L a) ev ((q' : Int) - p)) R → Runs (fun k => num_Digits.l0 k neg (L b) ((q : Int) - p) (L r) (L s) (L a) ev) (strOfNums R.1, R.2, neg) := by
 have hF : Few (r + a) := few2 hra (by omega)
 have stop : ∀ (s q : Nat), upB r s a ev = false → ∀ R : List Int × Int, Runs (fun k => num_shortest.f k (L r) (L s) (L b) (L a) ev ((q : Int) - p)) R → Runs (fun k => num_Digits.l0 k neg (L b) ((q : Int) - p) (L r) (L s) (L a) ev) (strOfNums R.1, R.2, neg) := by
  intro s q hu R h
  have ht := top_f r a s ev hF
  rw [hu] at ht
  refine Runs.suc ?_
  simp only [num_Digits.l0]
  exact Runs.bind ht (Runs.no Bool.false_ne_true (Runs.bind h (Runs.pure _)))
 have nt : ∀ s, upB r s a ev = false → r + a < s ∨ r + a = s ∧ ev = false := by
  intro s hu
  unfold upB at hu
  rw [Bool.or_eq_false_iff] at hu
  obtain ⟨d1, d2⟩ := hu
  have d1 := of_decide_eq_false d1
  rcases Nat.lt_or_ge (r + a) s with h | h
  ·
   exact .inl h
  ·
   right
   have : s = r + a := by omega
   rw [decide_eq_true this] at d2
   exact ⟨this.symm, by simpa using d2⟩
 intro g
 induction g with
 | zero =>
  intro s q h1 _ h2 hsc
  rw [Nat.pow_zero, Nat.mul_one] at h1
  have hu : upB r s a ev = false := by
   unfold upB
   rw [decide_eq_false (show ¬ s < r + a by omega), decide_eq_false (show ¬ s = r + a by omega)]; rfl
  exact ⟨s, q, hsc, nt s hu, h2, by omega, stop s q hu⟩
 | succ g ih =>
  intro s q h1 hqg h2 hsc
  cases hu : upB r s a ev with
  | false => exact ⟨s, q, hsc, nt s hu, h2, by omega, stop s q hu⟩
  | true =>
   have hle : s ≤ r + a := by
    unfold upB at hu
    rw [Bool.or_eq_true, decide_eq_true_eq, Bool.and_eq_true, decide_eq_true_eq] at hu
    omega
   have hp1 : s * 10 ^ (g + 1) = s * 10 * 10 ^ g := by rw [Nat.pow_succ]; grind
   have hs10 : s * 10 < 2 ^ (S + 4) := by rw [Nat.pow_add]; omega
   obtain ⟨s', q', g1, g2, g3, g4, g5⟩ := ih (s * 10) (q + 1) (by rw [← hp1]; exact h1) (by omega) hs10 hsc.more
   refine ⟨s', q', g1, g2, g3, by omega, fun R h => ?_⟩
   have h := g5 R h
   have ht := top_f r a s ev hF
   rw [hu] at ht
   refine Runs.suc ?_
   simp only [num_Digits.l0]
   refine Runs.bind ht (Runs.yes rfl (Runs.bind (tens1 s (few2 hs10 (by omega))) ?_))
   rw [w64 (by omega) (by omega), show (q : Int) - p + 1 = ((q + 1 : Nat) : Int) - p by omega]
   exact h
theorem dig_core (K : Nat) (ev neg : Bool) (p q r s b a S : Nat) (hS : S ≤ 5000) (hra : r + a < 2 ^ S) (hs : s < 2 ^ (S + 4)) (hp : p ≤ 1000) (hq : q ≤ 1000) (hsc : Sc (2 ^ 1074) K p q r s b a) :
  ∃ J p' q' r' s' b' a', DigAt K ev J p' q' r' s' b' a' ∧ p' ≤ 10000 ∧ q' ≤ 10000 ∧
   Runs (fun k => num_Digits.l0 k neg (L b) ((q : Int) - p) (L r) (L s) (L a) ev) (strOfNums (ints (dg J r' s' (adj r' s' b' a' J ev))), (q' : Int) - p', neg) := by
 have big : ∀ n : Nat, 2 ^ n ≤ 10 ^ n := fun n => Nat.pow_le_pow_left (by decide) n
 have hs0 := hsc.hs
 obtain ⟨s1, q1, g1, g2, g3, g4, g5⟩ := top_loop (2 ^ 1074) K ev r b a p S neg hra (by omega) (by omega) S s q (by
  have := big S
  have h2 : 10 ^ S ≤ s * 10 ^ S := Nat.le_mul_of_pos_left _ hs0
  omega) (by omega) hs hsc
 have hr0 : 0 < r := by have := hsc.hbr; omega
 have hlt : r < s1 := by have := g1.ha; omega
 obtain ⟨r2, b2, a2, p2, k1, k2, k3, k4, k5, k6⟩ := skip_loop (2 ^ 1074) K ev s1 q1 (S + 4) g3 (by omega) (by omega) (S + 4) r b a p (by
  have := big (S + 4)
  have h2 : 10 ^ (S + 4) ≤ r * 10 ^ (S + 4) := Nat.le_mul_of_pos_left _ hr0
  omega) (by omega) g1 hlt g2
 have ha2 := k1.ha
 have hbr2 := k1.hbr
 obtain ⟨J, hJ1, hJ2, hJ3⟩ := least (fun i => 1 ≤ i ∧ (dn r2 s1 b2 i ev = true ∨ up r2 s1 a2 i ev = true)) (S + 4) (by
  refine ⟨by omega, .inr ?_⟩
  unfold up upB
  have h1 := big (S + 4)
  have h2 : 10 ^ (S + 4) ≤ a2 * 10 ^ (S + 4) := Nat.le_mul_of_pos_left _ ha2
  rw [decide_eq_true (show s1 < rem r2 s1 (S + 4) + a2 * 10 ^ (S + 4) by omega)]; rfl)
 have hno : ∀ i, 1 ≤ i → i < J → dn r2 s1 b2 i ev = false ∧ up r2 s1 a2 i ev = false := by
  intro i h1 h2
  have := hJ3 i h2
  cases hd : dn r2 s1 b2 i ev with
  | true => exact absurd ⟨h1, .inl hd⟩ this
  | false =>
   cases hu : up r2 s1 a2 i ev with
   | true => exact absurd ⟨h1, .inr hu⟩ this
   | false => exact ⟨rfl, rfl⟩
 have hfirst : r2 * 10 / s1 ≠ 0 ∨ J = 1 ∧ up r2 s1 a2 1 ev = true := by
  rcases k4 with h | h
  ·
   exact .inl h
  ·
   refine .inr ⟨?_, h⟩
   rcases Nat.lt_or_ge 1 J with c | c
   ·
    have := hno 1 (by omega) c
    rw [h] at this; cases this.2
   ·
    omega
 refine ⟨J, p2, q1, r2, s1, b2, a2, ⟨k1, k2, k3, hJ2.1, hno, hJ2.2, hfirst⟩, by omega, by omega, ?_⟩
 have hrun := sh_run s1 ev ((q1 : Int) - p2) (by omega) (by omega) k1.hs J r2 b2 a2 [] hJ2.1 k2 hno hJ2.2 (by
  rcases hfirst with h | h
  ·
   exact .inr (.inl h)
  ·
   exact .inr (.inr h)) (by simp; omega) (by
   have h10 : 10 ^ J ≤ 2 ^ (4 * J) := by rw [Nat.pow_mul]; exact Nat.pow_le_pow_left (by decide) J
   have hb : b2 * 10 ^ J ≤ s1 * 2 ^ (4 * J) := Nat.mul_le_mul (by omega) h10
   have ha : a2 * 10 ^ J ≤ s1 * 2 ^ (4 * J) := Nat.mul_le_mul (by omega) h10
   have hm : s1 * 2 ^ (4 * J) < 2 ^ (S + 4) * 2 ^ (4 * J) := Nat.mul_lt_mul_of_pos_right g3 (Nat.two_pow_pos _)
   rw [← Nat.pow_add] at hm
   have hm2 : 2 ^ (S + 4 + 4 * J) ≤ 2 ^ (S + 4 + 4 * (S + 4)) := Nat.pow_le_pow_right (by decide) (by omega)
   have hm3 : 2 ^ (S + 4) ≤ 2 ^ (S + 4 + 4 * (S + 4)) := Nat.pow_le_pow_right (by decide) (by omega)
   refine few2 (m := S + 4 + 4 * (S + 4) + 6) ?_ (by omega)
   rw [Nat.pow_add 2 (S + 4 + 4 * (S + 4))]
   generalize 2 ^ (S + 4 + 4 * (S + 4)) = Z at *
   omega)
 rw [List.nil_append] at hrun
 refine g5 (ints (dg J r2 s1 (adj r2 s1 b2 a2 J ev)), (q1 : Int) - p2) ?_
 simp only [num_shortest.f]
 exact k6 _ hrun
end Go.Proofs.YtjlnfnfdibfniaaDoor.Pl
namespace Go.Proofs.YtjlnfnfdibfniaaDoor.Pl
open F Hd Go.RowKit Go.Proofs.YW.PWords Go.Proofs.YW.PMore
theorem ge10_down {K : Nat} {y : Int} (h : ge10 K (y + 1)) : ge10 K y := by
 unfold ge10 at h ⊢
 generalize 2 ^ 1074 = T at *
 by_cases c : 0 ≤ y
 ·
  have e1 : (y + 1).toNat = y.toNat + 1 := by omega
  have e2 : (-(y + 1)).toNat = 0 := by omega
  have e3 : (-y).toNat = 0 := by omega
  rw [e1, e2, Nat.pow_succ, Nat.one_mul] at h
  rw [e3, Nat.one_mul]
  refine Nat.le_trans (Nat.mul_le_mul_right T ?_) h
  omega
 ·
  have e1 : (y + 1).toNat = 0 := by omega
  have e2 : y.toNat = 0 := by omega
  have e3 : (-y).toNat = (-(y + 1)).toNat + 1 := by omega
  rw [e1] at h
  rw [e2, e3, Nat.pow_succ]
  refine Nat.le_trans h ?_
  rw [← Nat.mul_assoc]
  omega
theorem ge10_le {K : Nat} {y z : Int} (hyz : y ≤ z) (h : ge10 K z) : ge10 K y := by
 obtain ⟨n, hn⟩ : ∃ n : Nat, z = y + n := ⟨(z - y).toNat, by omega⟩
 subst hn
 clear hyz
 induction n with
 | zero => simpa using h
 | succ n ih =>
  refine ih (ge10_down ?_)
  rw [show y + (n : Int) + 1 = y + ((n + 1 : Nat) : Int) by omega]; exact h
theorem ge10_not (K : Nat) (hK : K < INF) : ¬ ge10 K 400 := by
 unfold ge10
 have h1 := rungVal_lt hK
 have h3 : 2 ^ 1024 ≤ 10 ^ 400 := by decide +kernel
 rw [rung_inf] at h1
 have t0 : (400 : Int).toNat = 400 := rfl
 have t1 : (-400 : Int).toNat = 0 := rfl
 rw [t0, t1]
 generalize 2 ^ 1024 = V at *
 generalize 2 ^ 1074 = T at *
 generalize 10 ^ 400 = B at *
 rw [Nat.pow_zero, Nat.mul_one, Nat.one_mul]
 have := Nat.mul_le_mul_right T h3
 omega
theorem td_bound (t : Int) (h0 : -1100 ≤ t) (h1 : t < 1100) : -900 ≤ Int.tdiv (t * 30103) 100000 ∧ Int.tdiv (t * 30103) 100000 ≤ 900 := by
 by_cases c : 0 ≤ t * 30103
 ·
  rw [Int.tdiv_eq_ediv_of_nonneg c]; omega
 ·
  have e : Int.tdiv (t * 30103) 100000 = -Int.tdiv (-(t * 30103)) 100000 := by rw [Int.neg_tdiv, Int.neg_neg]
  rw [e, Int.tdiv_eq_ediv_of_nonneg (by omega)]; omega
theorem gy_bound (t : Int) (h0 : -1100 ≤ t) (h1 : t < 1100) : -1000 ≤ gy t ∧ gy t ≤ 1000 := by
 have := td_bound t h0 h1
 unfold gy; omega
theorem exists_X (K m E : Nat) (h0 : 0 < m) (hK : K < INF) (hrv : rungVal K = m * 2 ^ E) (hE : E ≤ 2045) : ∃ X : Int, ge10 K (X - 1) ∧ ¬ ge10 K X ∧ -5000 ≤ X ∧ X ≤ 5000 := by
 have hg := ge10_guess K m E 0 hrv hE (by decide) (by rw [Nat.pow_zero]; exact h0)
 obtain ⟨y, hy⟩ : ∃ y, y = gy ((E : Int) - 1074 + ((0 + 1 : Nat) : Int)) := ⟨_, rfl⟩
 rw [← hy] at hg
 have hyb : -1000 ≤ y ∧ y ≤ 1000 := by rw [hy]; exact gy_bound _ (by omega) (by omega)
 have hn := ge10_not K hK
 have hy4 : y < 400 := by
  rcases Int.lt_or_le y 400 with c | c
  ·
   exact c
  ·
   exact absurd (ge10_le c hg) hn
 obtain ⟨g, g1, g2, g3⟩ := least (fun g : Nat => ¬ ge10 K (y + g)) (400 - y).toNat (by
  show ¬ ge10 K (y + (((400 - y).toNat : Nat) : Int))
  rw [show y + (((400 - y).toNat : Nat) : Int) = 400 by omega]; exact hn)
 have hgp : 0 < g := by
  rcases Nat.eq_zero_or_pos g with c | c
  ·
   exfalso
   apply g2
   rw [c]; simpa using hg
  ·
   exact c
 refine ⟨y + g, ?_, g2, by omega, by omega⟩
 have := Classical.not_not.1 (g3 (g - 1) (by omega))
 rw [show y + (g : Int) - 1 = y + ((g - 1 : Nat) : Int) by omega]; exact this
theorem ex_lt (K m E : Nat) (X : Int) (hrv : rungVal K = m * 2 ^ E) (hn : ¬ ge10 K X) : exA m ((E : Int) - 1074) X < exB ((E : Int) - 1074) X := by
 unfold ge10 at hn
 unfold exA exB
 rw [hrv] at hn
 have e : 2 ^ ((E : Int) - 1074).toNat * 2 ^ 1074 = 2 ^ E * 2 ^ (-((E : Int) - 1074)).toNat := pow_two (a := ((E : Int) - 1074).toNat) (b := 1074) (c := E) (d := (-((E : Int) - 1074)).toNat) (by omega)
 have hW : 0 < 2 ^ (-((E : Int) - 1074)).toNat := Nat.two_pow_pos _
 generalize 2 ^ ((E : Int) - 1074).toNat = U at *
 generalize 2 ^ (-((E : Int) - 1074)).toNat = W at *
 generalize 2 ^ 1074 = T at *
 generalize 10 ^ X.toNat = Q at *
 generalize 10 ^ (-X).toNat = P at *
 generalize 2 ^ E = G at *
 have hn := Nat.lt_of_not_le hn
 refine Nat.lt_of_mul_lt_mul_right (a := T) ?_
 have h1 : m * U * P * T = m * G * P * W := by
  have : m * U * P * T = m * P * (U * T) := by grind
  rw [this, e]; grind
 have h2 : 1 * W * Q * T = 1 * Q * T * W := by grind
 rw [h1, h2]
 exact Nat.mul_lt_mul_of_pos_right hn hW
theorem expansion_f (K : Nat) (h0 : 0 < K) (hK : K < INF) : ∃ (m E : Nat) (X : Int), m < 9007199254740992 ∧ (E = 0 ∨ 4503599627370496 ≤ m) ∧ K = E * 4503599627370496 + m ∧ ge10 K (X - 1) ∧ ¬ ge10 K X ∧ -5000 ≤ X ∧ X ≤ 5000 ∧ exA m ((E : Int) - 1074) X < exB ((E : Int) - 1074) X ∧
  Runs (fun k => r_expansion.f k (K : Int)) (fd 18 (exA m ((E : Int) - 1074) X) (exB ((E : Int) - 1074) X), X) := by
 obtain ⟨m, E, hp, hm, hEm, hKE, hE⟩ := rparts_f K hK
 have hrv : rungVal K = m * 2 ^ E := by rw [hKE]; exact rung_of hEm hm
 have hm0 : 0 < m := by omega
 obtain ⟨X, x1, x2, x3, x4⟩ := exists_X K m E hm0 hK hrv hE
 have hlt := ex_lt K m E X hrv x2
 refine ⟨m, E, X, hm, hEm, hKE, x1, x2, x3, x4, hlt, ?_⟩
 have last : ∀ z : Nat, z ≤ 53 → 2 ^ z ≤ m → Runs (fun k => r_expansion.l1 k (m : Int) ((E : Int) - 1074) (gy ((E : Int) - 1074 + ((z + 1 : Nat) : Int)))) (fd 18 (exA m ((E : Int) - 1074) X) (exB ((E : Int) - 1074) X), X) := by
  intro z hz hzm
  have hg := ge10_guess K m E z hrv hE hz hzm
  obtain ⟨y, hy⟩ : ∃ y, y = gy ((E : Int) - 1074 + ((z + 1 : Nat) : Int)) := ⟨_, rfl⟩
  rw [← hy] at hg ⊢
  have hyb : -5000 ≤ y := by
   have := (gy_bound ((E : Int) - 1074 + ((z + 1 : Nat) : Int)) (by omega) (by omega)).1
   rw [← hy] at this; omega
  have hyX : y < X := by
   rcases Int.lt_or_le y X with c | c
   ·
    exact c
   ·
    exact absurd (ge10_le c hg) x2
  exact ex_l1 K m E hm hE hrv X x3 x4 hlt x2 (X - y).toNat y (by omega) hyb (fun w _ h2 => ge10_le (by omega) x1)
 have size : ∀ (d z : Nat), z + d = 54 → (z = 0 ∨ 2 ^ (z - 1) ≤ m) → Runs (fun k => r_expansion.l0 k (m : Int) ((E : Int) - 1074) (z : Int)) (fd 18 (exA m ((E : Int) - 1074) X) (exB ((E : Int) - 1074) X), X) := by
  have shl1 : ∀ j : Nat, j ≤ 60 → shl .i64 1 (j : Int) = ((2 ^ j : Nat) : Int) := by
   intro j hj
   unfold shl
   have e : min (j : Int).toNat IntKind.i64.bits = j := by rw [Int.toNat_natCast]; show min j 64 = j; omega
   rw [e, Int.one_mul]
   have e2 : (2 : Int) ^ j = ((2 ^ j : Nat) : Int) := by simp
   have := Nat.pow_le_pow_right (n := 2) (by decide) hj
   rw [e2, Go.IntKind.wrap_i64]
   generalize 2 ^ j = z at *
   omega
  have exit : ∀ z : Nat, z ≤ 54 → (z = 0 ∨ 2 ^ (z - 1) ≤ m) → ¬ 2 ^ z ≤ m → Runs (fun k => r_expansion.l0 k (m : Int) ((E : Int) - 1074) (z : Int)) (fd 18 (exA m ((E : Int) - 1074) X) (exB ((E : Int) - 1074) X), X) := by
   intro z hz hzm hn
   obtain ⟨w, rfl⟩ : ∃ w, z = w + 1 := by
    rcases Nat.eq_zero_or_pos z with c | c
    ·
     exfalso; apply hn; rw [c, Nat.pow_zero]; exact hm0
    ·
     exact ⟨z - 1, by omega⟩
   have hw : 2 ^ w ≤ m := by rcases hzm with c | c; omega; simpa using c
   have := last w (by omega) hw
   unfold gy at this
   have tb := td_bound ((E : Int) - 1074 + ((w + 1 : Nat) : Int)) (by omega) (by omega)
   refine Runs.suc ?_
   simp only [r_expansion.l0]
   rw [shl1 (w + 1) (by omega), w64 (n := (E : Int) - 1074 + ((w + 1 : Nat) : Int)) (by omega) (by omega), w64 (n := ((E : Int) - 1074 + ((w + 1 : Nat) : Int)) * 30103) (by omega) (by omega), w64 (n := Int.tdiv _ _) (by omega) (by omega), w64 (n := Int.tdiv _ _ - 2) (by omega) (by omega)]
   generalize 2 ^ (w + 1) = Z at *
   exact Runs.yes (by omega) (Runs.no (by omega) this)
  intro d
  induction d with
  | zero =>
   intro z hz hzm
   obtain rfl : z = 54 := by omega
   exact exit 54 (by omega) hzm (by have : (2 : Nat) ^ 54 = 18014398509481984 := (by decide); omega)
  | succ d ih =>
   intro z hz hzm
   by_cases c : 2 ^ z ≤ m
   ·
    refine Runs.suc ?_
    simp only [r_expansion.l0]
    rw [shl1 z (by omega), w64 (n := (z : Int) + 1) (by omega) (by omega)]
    have := ih (z + 1) (by omega) (.inr (by simpa using c))
    generalize 2 ^ z = Z at *
    exact Runs.yes (by omega) (Runs.yes (by omega) this)
   ·
    exact exit z (by omega) hzm c
 simp only [r_expansion.f]
 rw [hp]
 exact Runs.bind (Runs.pure _) (size 54 0 (by omega) (.inl rfl))
end Go.Proofs.YtjlnfnfdibfniaaDoor.Pl
namespace Go.Proofs.YtjlnfnfdibfniaaDoor.Pl
open F Hd Go.RowKit Go.Proofs.YW.PWords Go.Proofs.YW.PMore
theorem wr64 (n : Int) (h0 : 0 ≤ n) (h1 : n < 2 ^ 64) : IntKind.u64.wrap n = n := by rw [IntKind.wrap_u64]; omega
theorem srung_sign (K : Nat) (neg : Bool) (hK : K < 9223372036854775808) : srung (K + signBit neg) = if neg = true then -(K : Int) else (K : Int) := by
 unfold srung signBit
 have e63 : (2 : Nat) ^ 63 = 9223372036854775808 := by decide
 rw [e63]
 cases neg with
 | true =>
  rw [if_pos rfl, if_pos rfl]
  have h1 : (K + 9223372036854775808) / 9223372036854775808 % 2 = 1 := by omega
  have h2 : (K + 9223372036854775808) % 9223372036854775808 = K := by omega
  rw [h1, h2]; rfl
 | false =>
  rw [if_neg Bool.false_ne_true, if_neg Bool.false_ne_true, Nat.add_zero]
  have h1 : K / 9223372036854775808 % 2 = 0 := by omega
  have h2 : K % 9223372036854775808 = K := by omega
  rw [h1, h2]; rfl
theorem isNum_sign (K : Nat) (neg : Bool) (hK : K ≤ INF) : isNum (K + signBit neg) := by
 have hI : INF = 9218868437227405312 := rfl
 unfold isNum signBit
 have e63 : (2 : Nat) ^ 63 = 9223372036854775808 := by decide
 have e52 : 2047 * (2 : Nat) ^ 52 = 9218868437227405312 := by decide
 rw [e63, e52]
 cases neg with
 | true => rw [if_pos rfl]; omega
 | false => rw [if_neg Bool.false_ne_true]; omega
theorem signbit_f (K : Nat) (neg : Bool) (hK : K < 9223372036854775808) : math_Signbit.f (K + signBit neg) = some neg := by
 unfold math_Signbit.f signBit
 cases neg with
 | true =>
  rw [if_pos rfl]
  congr 1
  refine decide_eq_true ?_
  unfold wrap64; omega
 | false =>
  rw [if_neg Bool.false_ne_true]
  congr 1
  refine decide_eq_false ?_
  unfold wrap64; omega
theorem abs_f (K : Nat) (neg : Bool) (hK : K < 9223372036854775808) : math_Abs.f (K + signBit neg) = some K := by
 unfold math_Abs.f
 have hlt : K + signBit neg < 18446744073709551616 := by unfold signBit; split <;> omega
 have h := u64_andNot_nat (K + signBit neg) 9223372036854775808 hlt (by decide)
 have e : ((9223372036854775808 : Nat) : Int) = 9223372036854775808 := rfl
 rw [e] at h
 rw [h, Int.toNat_natCast]
 have e2 : (18446744073709551615 - 9223372036854775808 : Nat) = 2 ^ 63 - 1 := by decide
 rw [e2, Nat.and_two_pow_sub_one_eq_mod]
 congr 1
 unfold signBit
 have e63 : (2 : Nat) ^ 63 = 9223372036854775808 := by decide
 rw [e63]
 split <;> omega
theorem nan_no {x : Nat} (h : isNum x) : math_IsNaN.f x = some false := by
 unfold math_IsNaN.f
 have : (FloatKind.f64.format.order x x == some Ordering.eq) = true := eq_iff.2 ⟨h, h, rfl⟩
 rw [bne, this]; rfl
theorem inf_no (K : Nat) (neg : Bool) (hK : K < INF) : math_IsInf.f (K + signBit neg) 0 = some false := by
 have hI : INF = 9218868437227405312 := rfl
 unfold math_IsInf.f
 rw [if_pos rfl, abs_f K neg (by omega), Option.bind_some]
 congr 1
 rw [Bool.eq_false_iff]
 intro h
 obtain ⟨_, _, h3⟩ := gt_iff.1 h
 have h0 : srung 9218868437227405311 = 9218868437227405311 := rfl
 have h1 := srung_sign K false (by omega)
 rw [show K + signBit false = K from rfl, if_neg Bool.false_ne_true] at h1
 rw [h0, h1] at h3
 omega
theorem zero_no (K : Nat) (neg : Bool) (h0 : 0 < K) (hK : K ≤ INF) : (FloatKind.f64.format.order (K + signBit neg) 0 == some Ordering.eq) = false := by
 have hI : INF = 9218868437227405312 := rfl
 rw [Bool.eq_false_iff]
 intro h
 obtain ⟨_, _, h3⟩ := eq_iff.1 h
 have h1 := srung_sign K neg (by omega)
 have h2 : srung 0 = 0 := rfl
 rw [h1, h2] at h3
 split at h3 <;> omega
theorem parts_f (K : Nat) (neg : Bool) (h : K < INF) : ∃ m E : Nat, num_parts.f (K + signBit neg) = some ((m : Int), (E : Int) - 1074) ∧ m < 9007199254740992 ∧ (E = 0 ∨ 4503599627370496 ≤ m) ∧ K = E * 4503599627370496 + m ∧ E ≤ 2045 := by
 have hI : INF = 9218868437227405312 := rfl
 obtain ⟨X, hX⟩ : ∃ X, X = K + signBit neg := ⟨_, rfl⟩
 have hX2 : X = K ∨ X = K + 9223372036854775808 := by rw [hX]; unfold signBit; split <;> omega
 rw [← hX]
 have e1 : Go.bits .and .u64 ((X : Int) / 4503599627370496) 2047 = ((K / 4503599627370496 : Nat) : Int) := by
  have := bits_mask .u64 64 (by decide) wr64 11 (by decide) ((X : Int) / 4503599627370496) (by omega) (by omega)
  have e : (2 : Int) ^ 11 = 2048 := by decide
  rw [e] at this
  rw [show (2047 : Int) = 2048 - 1 by decide, this]; omega
 have e2 : Go.bits .and .u64 (X : Int) 4503599627370495 = ((K % 4503599627370496 : Nat) : Int) := by
  have := bits_mask .u64 64 (by decide) wr64 52 (by decide) (X : Int) (by omega) (by omega)
  have e : (2 : Int) ^ 52 = 4503599627370496 := by decide
  rw [e] at this
  rw [show (4503599627370495 : Int) = 4503599627370496 - 1 by decide, this]; omega
 have e3 : Go.bits .or .u64 ((K % 4503599627370496 : Nat) : Int) 4503599627370496 = ((4503599627370496 + K % 4503599627370496 : Nat) : Int) := by
  have h := (bits_nat .u64 64 (by decide) wr64 (K % 4503599627370496) 4503599627370496 (by omega) (by omega)).2
  have e : ((4503599627370496 : Nat) : Int) = 4503599627370496 := rfl
  rw [e] at h
  rw [h, Nat.or_comm]
  have h2 := Nat.two_pow_add_eq_or_of_lt (i := 52) (b := K % 4503599627370496) (by omega) 1
  rw [Nat.mul_one] at h2
  have e5 : (2 : Nat) ^ 52 = 4503599627370496 := by decide
  rw [e5] at h2
  rw [← h2]
 unfold num_parts.f
 rw [e1, e2, e3, w64 (n := ((K / 4503599627370496 : Nat) : Int)) (by omega) (by omega), w64 (n := ((K / 4503599627370496 : Nat) : Int) + -1074) (by omega) (by omega), w64 (n := ((K / 4503599627370496 : Nat) : Int) + -1074 - 1) (by omega) (by omega)]
 by_cases h0 : K / 4503599627370496 = 0
 ·
  rw [if_pos (by omega)]
  refine ⟨K % 4503599627370496, 0, rfl, by omega, .inl rfl, by omega, by omega⟩
 ·
  rw [if_neg (by omega)]
  refine ⟨4503599627370496 + K % 4503599627370496, K / 4503599627370496 - 1, ?_, by omega, .inr (by omega), by omega, by omega⟩
  congr 2
  omega
theorem Sc.more_n {T K p q r s b a : Nat} (h : Sc T K p q r s b a) (n : Nat) : Sc T K p (q + n) r (s * 10 ^ n) b a := by
 induction n with
 | zero => rw [Nat.pow_zero, Nat.mul_one]; exact h
 | succ n ih =>
  have := ih.more
  rwa [show s * 10 ^ n * 10 = s * 10 ^ (n + 1) by rw [Nat.pow_succ]; exact Nat.mul_assoc .., show q + n + 1 = q + (n + 1) by omega] at this
theorem Sc.less_n {T K p q r s b a : Nat} (h : Sc T K p q r s b a) (n : Nat) : Sc T K (p + n) q (r * 10 ^ n) s (b * 10 ^ n) (a * 10 ^ n) := by
 induction n with
 | zero => rw [Nat.pow_zero, Nat.mul_one, Nat.mul_one, Nat.mul_one]; exact h
 | succ n ih =>
  have := ih.less
  rwa [show r * 10 ^ n * 10 = r * 10 ^ (n + 1) by rw [Nat.pow_succ]; exact Nat.mul_assoc .., show b * 10 ^ n * 10 = b * 10 ^ (n + 1) by rw [Nat.pow_succ]; exact Nat.mul_assoc .., show a * 10 ^ n * 10 = a * 10 ^ (n + 1) by rw [Nat.pow_succ]; exact Nat.mul_assoc .., show p + n + 1 = p + (n + 1) by omega] at this
theorem ten_two (n k : Nat) (h : 4 * n ≤ k) : 10 ^ n ≤ 2 ^ k := by
 refine Nat.le_trans (Nat.pow_le_pow_left (show 10 ≤ 2 ^ 4 by decide) n) ?_
 rw [← Nat.pow_mul]
 exact Nat.pow_le_pow_right (by decide) h
theorem dig_j3 (K m r s b a : Nat) (neg : Bool) (hr : r < 2 ^ 1100) (ha : a ≤ r) (hs : s < 2 ^ 1100) (hKm : K % 2 = m % 2) (hm : m < 9007199254740992) (hsc : Sc (2 ^ 1074) K 0 0 r s b a) :
  ∃ J p q r' s' b' a', DigAt K (decide (K % 2 = 0)) J p q r' s' b' a' ∧ p ≤ 10000 ∧ q ≤ 10000 ∧
   Runs (fun k => num_Digits.j3 k neg (m : Int) (L b) (L r) (L s) (L a)) (strOfNums (ints (dg J r' s' (adj r' s' b' a' J (decide (K % 2 = 0))))), (q : Int) - p, neg) := by
 have hr0 : 0 < r := by have := hsc.hbr; omega
 have hs0 := hsc.hs
 obtain ⟨x, ex, x1, x2, x3⟩ := size_f r (few2 hr (by decide))
 obtain ⟨y, ey, y1, y2, y3⟩ := size_f s (few2 hs (by decide))
 obtain ⟨x2, x4⟩ := x2 hr0
 obtain ⟨y2, y4⟩ := y2 hs0
 have hx : x ≤ 1100 := by
  rcases Nat.lt_or_ge 1100 x with c | c
  ·
   have := Nat.pow_le_pow_right (n := 2) (by decide) (show 1100 ≤ x - 1 by omega)
   exact absurd (Nat.lt_of_lt_of_le hr (Nat.le_trans this x4)) (Nat.lt_irrefl _)
  ·
   exact c
 have hy : y ≤ 1100 := by
  rcases Nat.lt_or_ge 1100 y with c | c
  ·
   have := Nat.pow_le_pow_right (n := 2) (by decide) (show 1100 ≤ y - 1 by omega)
   exact absurd (Nat.lt_of_lt_of_le hs (Nat.le_trans this y4)) (Nat.lt_irrefl _)
  ·
   exact c
 obtain ⟨A, B, g, ga, gb, gg, g0, g1⟩ := guess_ok ((x : Int) - y - 1) (by omega) (by omega)
 have hev : ((Int.tmod (m : Int) 2) == 0) = decide (K % 2 = 0) := by
  have e : Int.tmod (m : Int) 2 = ((m % 2 : Nat) : Int) := by rw [Int.tmod_eq_emod_of_nonneg (by omega)]; omega
  rw [e]
  by_cases c : K % 2 = 0
  ·
   rw [decide_eq_true c, beq_iff_eq]; omega
  ·
   rw [decide_eq_false c, beq_eq_false_iff_ne]; omega
 have p10 : ∀ n : Nat, n ≤ 400 → 10 ^ n ≤ 2 ^ 1600 := fun n hn => ten_two n 1600 (by omega)
 have up10 : ∀ z n : Nat, z < 2 ^ 1100 → n ≤ 400 → z * 10 ^ n < 2 ^ 2700 := by
  intro z n hz hn
  have h1 := p10 n hn
  rw [pow_join (a := 1100) (b := 1600) (c := 2700) rfl]
  have h0 : 0 < 2 ^ 1600 := Nat.two_pow_pos 1600
  generalize 2 ^ 1600 = Z at *
  generalize 2 ^ 1100 = Y at *
  exact Nat.lt_of_le_of_lt (Nat.mul_le_mul_left z h1) (Nat.mul_lt_mul_of_pos_right hz h0)
 have grow : ∀ z k l : Nat, z < 2 ^ k → k ≤ l → z < 2 ^ l := fun z k l h1 h2 => Nat.lt_of_lt_of_le h1 (Nat.pow_le_pow_right (by decide) h2)
 obtain ⟨S, hS⟩ : ∃ S, S = 2701 := ⟨_, rfl⟩
 have hsz : ∀ (n c : Nat), (∀ r, num_nat_size.f (L n) = some r ↔ r = (c : Int)) → num_nat_size.f (L n) = some (c : Int) := fun n c h => (h _).2 rfl
 have two : ∀ z w : Nat, z < 2 ^ 2700 → w ≤ z → z + w < 2 ^ S := by
  intro z w h1 h2
  rw [hS, pow_join (a := 2700) (b := 1) (c := 2701) rfl, Nat.pow_one]
  generalize 2 ^ 2700 = Z at *
  omega
 by_cases hg : g ≥ 0
 ·
  obtain ⟨n, rfl⟩ := Int.eq_ofNat_of_zero_le hg
  have hn : n ≤ 400 := by omega
  have hsn := up10 s n hs hn
  obtain ⟨J, p', q', r', s', b', a', d1, d2, d3, d4⟩ := dig_core K (decide (K % 2 = 0)) neg 0 (0 + n) r (s * 10 ^ n) b a S (by omega) (two r a (grow r 1100 2700 hr (by decide)) ha) (grow _ 2700 (S + 4) hsn (by omega)) (by omega) (by omega) (hsc.more_n n)
  refine ⟨J, p', q', r', s', b', a', d1, d2, d3, Runs.suc ?_⟩
  simp only [num_Digits.j3, hsz r x ex, hsz s y ey, Option.bind_some]
  rw [w64 (n := (x : Int) - y) (by omega) (by omega), w64 (n := (x : Int) - y - 1) (by omega) (by omega), ga, hev]
  refine Runs.bind (Runs.pure _) (Runs.bind (gb ▸ Runs.pure _) (Runs.bind (gg ▸ Runs.pure _) (Runs.yes hg (Runs.bind (tens_f s n (few2 hsn (by decide)) (by omega)) (Runs.suc ?_)))))
  simp only [num_Digits.j4]
  rw [show ((0 + n : Nat) : Int) - ((0 : Nat) : Int) = (n : Int) by omega] at d4
  exact d4
 ·
  obtain ⟨n, hn⟩ : ∃ n : Nat, (n : Int) = -g := ⟨(-g).toNat, by omega⟩
  have hn4 : n ≤ 400 := by omega
  have hrn := up10 r n hr hn4
  have hb2 := hsc.hbr
  have hbn := up10 b n (Nat.lt_trans hb2 hr) hn4
  have han := up10 a n (Nat.lt_of_le_of_lt ha hr) hn4
  obtain ⟨J, p', q', r', s', b', a', d1, d2, d3, d4⟩ := dig_core K (decide (K % 2 = 0)) neg (0 + n) 0 (r * 10 ^ n) s (b * 10 ^ n) (a * 10 ^ n) S (by omega) (two _ _ hrn (Nat.mul_le_mul_right _ ha)) (grow s 1100 (S + 4) hs (by omega)) (by omega) (by omega) (hsc.less_n n)
  refine ⟨J, p', q', r', s', b', a', d1, d2, d3, Runs.suc ?_⟩
  simp only [num_Digits.j3, hsz r x ex, hsz s y ey, Option.bind_some]
  rw [w64 (n := (x : Int) - y) (by omega) (by omega), w64 (n := (x : Int) - y - 1) (by omega) (by omega), ga, hev]
  refine Runs.bind (Runs.pure _) (Runs.bind (gb ▸ Runs.pure _) (Runs.bind (gg ▸ Runs.pure _) (Runs.no hg ?_)))
  show Runs (fun k => (num_nat_tens.f k (L r) (wrap64 (-g))).bind fun t274 => (num_nat_tens.f k (L b) (wrap64 (-g))).bind fun t277 => (num_nat_tens.f k (L a) (wrap64 (-g))).bind fun t280 => num_Digits.j4 k neg t277 g t274 (L s) t280 (decide (K % 2 = 0))) _
  rw [w64 (n := -g) (by omega) (by omega), ← hn]
  refine (Runs.bind (tens_f r n (few2 hrn (by decide)) (by omega)) (Runs.bind (tens_f b n (few2 hbn (by decide)) (by omega)) (Runs.bind (tens_f a n (few2 han (by decide)) (by omega)) (Runs.suc ?_))))
  simp only [num_Digits.j4]
  rw [show ((0 : Nat) : Int) - ((0 + n : Nat) : Int) = g by omega] at d4
  exact d4
theorem lt_two (z M : Nat) (h : z ≤ 4) (hM : 3 ≤ M) : z < 2 ^ M :=
 Nat.lt_of_le_of_lt h (Nat.lt_of_lt_of_le (show 4 < 2 ^ 3 by decide) (Nat.pow_le_pow_right (by decide) hM))
theorem grow_two (z k M : Nat) (h : z < 2 ^ k) (hM : k ≤ M) : z < 2 ^ M := Nat.lt_of_lt_of_le h (Nat.pow_le_pow_right (by decide) hM)
theorem small_two (z n k M : Nat) (hz : z < 2 ^ k) (h : n + k ≤ M) : z * 2 ^ n < 2 ^ M := by
 have h1 : z * 2 ^ n < 2 ^ k * 2 ^ n := Nat.mul_lt_mul_of_pos_right hz (Nat.two_pow_pos n)
 rw [← Nat.pow_add] at h1
 exact Nat.lt_of_lt_of_le h1 (Nat.pow_le_pow_right (by decide) (by omega))
theorem digits_num (K : Nat) (neg : Bool) (h0 : 0 < K) (hK : K < INF) :
  ∃ J p q r s b a, DigAt K (decide (K % 2 = 0)) J p q r s b a ∧ p ≤ 10000 ∧ q ≤ 10000 ∧
   Runs (fun k => num_Digits.f k (K + signBit neg)) (strOfNums (ints (dg J r s (adj r s b a J (decide (K % 2 = 0))))), (q : Int) - p, neg) := by
 have hI : INF = 9218868437227405312 := rfl
 obtain ⟨m, E, hp, hm, hEm, hKE, hE⟩ := parts_f K neg hK
 have hpar : K % 2 = m % 2 := by omega
 have hj2 : ∀ r1 s1 a1 : Nat, r1 < 2 ^ 56 → s1 ≤ 4 → 1 ≤ s1 → 1 ≤ a1 → a1 ≤ 2 → a1 ≤ r1 → r1 = (if m = 4503599627370496 ∧ 0 < E then 4 * m else 2 * m) → s1 = (if m = 4503599627370496 ∧ 0 < E then 4 else 2) → a1 = (if m = 4503599627370496 ∧ 0 < E then 2 else 1) →
   ∃ J p q r s b a, DigAt K (decide (K % 2 = 0)) J p q r s b a ∧ p ≤ 10000 ∧ q ≤ 10000 ∧
    Runs (fun k => num_Digits.j2 k neg (m : Int) ((E : Int) - 1074) (L 1) (L r1) (L s1) (L a1)) (strOfNums (ints (dg J r s (adj r s b a J (decide (K % 2 = 0))))), (q : Int) - p, neg) := by
  intro r1 s1 a1 hr1 hs1 hs0 ha0 ha1 har er es ea
  have small2 := fun z n k (hz : z < 2 ^ k) (h : n + k ≤ 1100) => small_two z n k 1100 hz h
  have fewS : ∀ z : Nat, z < 2 ^ 60 → Few z := fun z hz => few2 hz (by decide)
  by_cases he : (E : Int) - 1074 ≥ 0
  ·
   obtain ⟨n, hn⟩ : ∃ n : Nat, (n : Int) = (E : Int) - 1074 := ⟨((E : Int) - 1074).toNat, by omega⟩
   have hsc := start_sc (2 ^ 1074) K m E (Nat.two_pow_pos 1074) h0 hm hEm hKE n 0 (pow_two (a := n) (b := 1074) (c := E) (d := 0) (by omega))
   rw [← er, ← es, ← ea] at hsc
   rw [Nat.pow_zero, Nat.mul_one] at hsc
   obtain ⟨J, p, q, r, s, b, a, d1, d2, d3, d4⟩ := dig_j3 K m (r1 * 2 ^ n) s1 (1 * 2 ^ n) (a1 * 2 ^ n) neg (small2 r1 n 56 hr1 (by omega)) (Nat.mul_le_mul_right _ har) (lt_two s1 1100 hs1 (by decide)) hpar hm hsc
   refine ⟨J, p, q, r, s, b, a, d1, d2, d3, Runs.suc ?_⟩
   simp only [num_Digits.j2]
   rw [← hn]
   exact Runs.yes (by omega) (Runs.bind (up_f r1 n (fewS _ (by omega)) (by omega)) (Runs.bind (up_f 1 n (fewS _ (by omega)) (by omega)) (Runs.bind (up_f a1 n (fewS _ (by omega)) (by omega)) d4)))
  ·
   obtain ⟨n, hn⟩ : ∃ n : Nat, (n : Int) = -((E : Int) - 1074) := ⟨(-((E : Int) - 1074)).toNat, by omega⟩
   have hsc := start_sc (2 ^ 1074) K m E (Nat.two_pow_pos 1074) h0 hm hEm hKE 0 n (pow_two (a := 0) (b := 1074) (c := E) (d := n) (by omega))
   rw [← er, ← es, ← ea] at hsc
   rw [Nat.pow_zero, Nat.mul_one, Nat.mul_one, Nat.mul_one] at hsc
   obtain ⟨J, p, q, r, s, b, a, d1, d2, d3, d4⟩ := dig_j3 K m r1 (s1 * 2 ^ n) 1 a1 neg (grow_two r1 56 1100 hr1 (by decide)) har (small2 s1 n 3 (by omega) (by omega)) hpar hm hsc
   refine ⟨J, p, q, r, s, b, a, d1, d2, d3, Runs.suc ?_⟩
   simp only [num_Digits.j2]
   rw [w64 (by omega) (by omega), ← hn]
   exact Runs.no he (Runs.bind (up_f s1 n (fewS _ (by omega)) (by omega)) d4)
 have hm0 : 0 < m := by omega
 have hall : ∃ J p q r s b a, DigAt K (decide (K % 2 = 0)) J p q r s b a ∧ p ≤ 10000 ∧ q ≤ 10000 ∧
   Runs (fun k => num_Digits.j0 k (K + signBit neg) neg false) (strOfNums (ints (dg J r s (adj r s b a J (decide (K % 2 = 0))))), (q : Int) - p, neg) := by
  have pre : ∀ R, Runs (fun k => if (m : Int) = 4503599627370496 then (num_Digits.j1 k neg (m : Int) ((E : Int) - 1074) (L 1) (decide ((E : Int) - 1074 > (-1074))) (L (2 * m)) (L 2) (L 1)) else (num_Digits.j1 k neg (m : Int) ((E : Int) - 1074) (L 1) false (L (2 * m)) (L 2) (L 1))) R → Runs (fun k => num_Digits.j0 k (K + signBit neg) neg false) R := by
   intro R h
   refine Runs.suc ?_
   simp only [num_Digits.j0]
   rw [hp]
   refine Runs.no (by decide) (Runs.bind (Runs.pure _) ?_)
   show Runs (fun k => (num_of.f k (IntKind.u64.wrap (2 * (m : Int)))).bind _) R
   rw [u64w (by omega) (by omega), show 2 * (m : Int) = ((2 * m : Nat) : Int) by omega]
   exact Runs.bind (of_f (2 * m) (by omega)) (Runs.bind (of_f 2 (by decide)) (Runs.bind (of_f 1 (by decide)) (Runs.bind (of_f 1 (by decide)) h)))
  by_cases c : m = 4503599627370496 ∧ 0 < E
  ·
   obtain ⟨J, p, q, r, s, b, a, d1, d2, d3, d4⟩ := hj2 (4 * m) 4 2 (by omega) (by omega) (by omega) (by omega) (by omega) (by omega) (by rw [if_pos c]) (by rw [if_pos c]) (by rw [if_pos c])
   refine ⟨J, p, q, r, s, b, a, d1, d2, d3, pre _ (Runs.yes (by omega) (Runs.suc ?_))⟩
   simp only [num_Digits.j1]
   rw [u64w (by omega) (by omega), show 4 * (m : Int) = ((4 * m : Nat) : Int) by omega]
   refine Runs.yes (decide_eq_true (by omega)) ?_
   exact Runs.bind (of_f (4 * m) (by omega)) (Runs.bind (of_f 4 (by decide)) (Runs.bind (of_f 2 (by decide)) d4))
  ·
   obtain ⟨J, p, q, r, s, b, a, d1, d2, d3, d4⟩ := hj2 (2 * m) 2 1 (by omega) (by omega) (by omega) (by omega) (by omega) (by omega) (by rw [if_neg c]) (by rw [if_neg c]) (by rw [if_neg c])
   have j1 : Runs (fun k => num_Digits.j1 k neg (m : Int) ((E : Int) - 1074) (L 1) false (L (2 * m)) (L 2) (L 1)) (strOfNums (ints (dg J r s (adj r s b a J (decide (K % 2 = 0))))), (q : Int) - p, neg) := by
    refine Runs.suc ?_
    simp only [num_Digits.j1]
    exact Runs.no (by decide) d4
   refine ⟨J, p, q, r, s, b, a, d1, d2, d3, pre _ ?_⟩
   by_cases c2 : m = 4503599627370496
   ·
    refine Runs.yes (by omega) ?_
    rw [decide_eq_false (show ¬ ((E : Int) - 1074 > -1074) by omega)]
    exact j1
   ·
    exact Runs.no (by omega) j1
 obtain ⟨J, p, q, r, s, b, a, d1, d2, d3, d4⟩ := hall
 refine ⟨J, p, q, r, s, b, a, d1, d2, d3, ?_⟩
 simp only [num_Digits.f]
 rw [signbit_f K neg (by omega), zero_no K neg h0 (by omega), nan_no (isNum_sign K neg (by omega)), inf_no K neg hK]
 exact Runs.bind (Runs.pure _) (Runs.no Bool.false_ne_true (Runs.bind (Runs.pure _) (Runs.no Bool.false_ne_true (Runs.bind (Runs.pure _) d4))))
end Go.Proofs.YtjlnfnfdibfniaaDoor.Pl
namespace Go.Proofs.YtjlnfnfdibfniaaDoor.Pl
open F Hd Go.RowKit Go.Proofs.YW.PWords Go.Proofs.YW.PMore
end Go.Proofs.YtjlnfnfdibfniaaDoor.Pl
namespace Go.Proofs.YtjlnfnfdibfniaaDoor.Pl
open F Hd Go.RowKit Go.Proofs.YW.PWords Go.Proofs.YW.PMore
theorem extract_upto (s : ByteArray) (i : Nat) : (s.extract 0 i).data.toList = s.data.toList.take i := by
 rw [ByteArray.data_extract, Array.toList_extract]; simp
theorem extract_from (s : ByteArray) (a : Nat) : (s.extract a s.size).data.toList = s.data.toList.drop a := by
 rw [ByteArray.data_extract, Array.toList_extract]
 have : s.size = s.data.toList.length := by rw [Array.length_toList]; rfl
 rw [List.extract_eq_take_drop, this, List.take_of_length_le (by rw [List.length_drop]; omega)]
theorem len_data (s : ByteArray) : s.data.toList.length = s.size := by rw [Array.length_toList]; rfl
theorem bytes_ext {a b : ByteArray} (h : a.data.toList = b.data.toList) : a = b := by
 cases a; cases b; simp at h; simp [h]
theorem bt_get (s : ByteArray) (i : Nat) (h : i < s.data.toList.length) : bt s (i : Int) = (s.data.toList[i].toNat : Int) := by
 have h' : i < s.size := by rw [← len_data]; exact h
 unfold bt
 simp only [Int.toNat_natCast]
 rw [dif_pos h']
 simp [ByteArray.getElem_eq_getElem_data]
end Go.Proofs.YtjlnfnfdibfniaaDoor.Pl
namespace Go.Proofs.YtjlnfnfdibfniaaDoor.Pl
open F Hd Go.RowKit Go.Proofs.YW.PWords Go.Proofs.YW.PMore
end Go.Proofs.YtjlnfnfdibfniaaDoor.Pl
namespace Go.Proofs.YtjlnfnfdibfniaaDoor.Pl
open F Hd Go.RowKit Go.Proofs.YW.PWords Go.Proofs.YW.PMore
def mk (l : List UInt8) : ByteArray := ⟨l.toArray⟩
theorem mk_data (l : List UInt8) : (mk l).data.toList = l := by simp [mk]
theorem mk_size (l : List UInt8) : (mk l).size = l.length := by rw [← len_data, mk_data]
theorem mk_list (l : List UInt8) : (mk l).toList = l := by rw [ByteArray.toList_eq, mk_data]
theorem mk_upto (l : List UInt8) (i : Nat) : (mk l).extract 0 i = mk (l.take i) := bytes_ext (by rw [extract_upto, mk_data, mk_data])
theorem mk_from (l : List UInt8) (i : Nat) : (mk l).extract i l.length = mk (l.drop i) := bytes_ext (by rw [← mk_size l, extract_from, mk_data, mk_data])
theorem mk_append (a b : List UInt8) : mk a ++ mk b = mk (a ++ b) := bytes_ext (by rw [mk_data]; simp [ByteArray.data_append, mk])
theorem mk_bt (l : List UInt8) (i : Nat) (h : i < l.length) : bt (mk l) (i : Int) = (l[i].toNat : Int) := by
 rw [bt_get (mk l) i (by rw [mk_data]; exact h)]; simp [mk_data]
theorem val_append (a b : List UInt8) : val (a ++ b) = val a * 10 ^ b.length + val b := by
 induction b using snoc_ind with
 | h0 => simp [val]
 | h1 l c ih =>
  rw [← List.append_assoc, val_snoc, val_snoc, ih, List.length_append, List.length_singleton, Nat.pow_succ]
  grind
end Go.Proofs.YtjlnfnfdibfniaaDoor.Pl
namespace Go.Proofs.YtjlnfnfdibfniaaDoor.Pl
open F Hd Go.RowKit Go.Proofs.YW.PWords Go.Proofs.YW.PMore
theorem quo_rem (r s i : Nat) : r * 10 ^ i / s * s + rem r s i = r * 10 ^ i := by
 unfold rem
 rw [Nat.mul_comm]; exact Nat.div_add_mod ..
theorem dn_iff {K : Nat} {ev : Bool} {r s b a i : Nat} (hK : 0 < K) (ha : 0 < a) : dn r s b i ev = true ↔ RdK K ev i (r * 10 ^ i / s) r s b a := by
 have h := quo_rem r s i
 have hp : 0 < 10 ^ i := Nat.pow_pos (by decide)
 have h1 : 0 < 10 ^ i * a := Nat.mul_pos hp ha
 unfold dn dnB RdK
 rw [Bool.or_eq_true, decide_eq_true_eq, Bool.and_eq_true, decide_eq_true_eq, Nat.mul_add, Nat.mul_comm b, Nat.mul_comm (10 ^ i) r]
 generalize r * 10 ^ i / s * s = u at *
 generalize rem r s i = v at *
 generalize 10 ^ i * b = w at *
 generalize 10 ^ i * a = z at *
 constructor
 ·
  rintro (g | ⟨g, g2⟩)
  ·
   exact ⟨.inl (by omega), .inl (by omega), hK⟩
  ·
   exact ⟨.inr ⟨by omega, g2⟩, .inl (by omega), hK⟩
 ·
  rintro ⟨g | ⟨g, g2⟩, _, _⟩
  ·
   exact .inl (by omega)
  ·
   exact .inr ⟨by omega, g2⟩
theorem up_iff {K : Nat} {ev : Bool} {r s b a i : Nat} (hK : 0 < K) (hs : 0 < s) : up r s a i ev = true ↔ RdK K ev i (r * 10 ^ i / s + 1) r s b a := by
 have h := quo_rem r s i
 have hv : rem r s i < s := Nat.mod_lt _ hs
 unfold up upB RdK
 rw [Bool.or_eq_true, decide_eq_true_eq, Bool.and_eq_true, decide_eq_true_eq, Nat.mul_add, Nat.mul_comm a, Nat.mul_comm (10 ^ i) r, Nat.add_mul, Nat.one_mul]
 generalize r * 10 ^ i / s * s = u at *
 generalize rem r s i = v at *
 generalize 10 ^ i * b = w at *
 generalize 10 ^ i * a = z at *
 constructor
 ·
  rintro (g | ⟨g, g2⟩)
  ·
   exact ⟨.inl (by omega), .inl (by omega), hK⟩
  ·
   exact ⟨.inl (by omega), .inr ⟨by omega, g2⟩, hK⟩
 ·
  rintro ⟨_, g | ⟨g, g2⟩, _⟩
  ·
   exact .inl (by omega)
  ·
   exact .inr ⟨by omega, g2⟩
theorem RdK.ten {K : Nat} {ev : Bool} {r s b a i N : Nat} : RdK K ev (i + 1) (N * 10) r s b a ↔ RdK K ev i N r s b a := by
 unfold RdK
 rw [Nat.pow_succ]
 have e1 : 10 ^ i * 10 * r = 10 * (10 ^ i * r) := by grind
 have e2 : N * 10 * s = 10 * (N * s) := by grind
 have e3 : 10 ^ i * 10 * b = 10 * (10 ^ i * b) := by grind
 have e4 : 10 ^ i * 10 * (r + a) = 10 * (10 ^ i * (r + a)) := by grind
 rw [e1, e2, e3, e4]
 constructor
 ·
  rintro ⟨g1 | ⟨g1, g2⟩, g3 | ⟨g3, g4⟩, g5⟩
  ·
   exact ⟨.inl (by omega), .inl (by omega), g5⟩
  ·
   exact ⟨.inl (by omega), .inr ⟨by omega, g4⟩, g5⟩
  ·
   exact ⟨.inr ⟨by omega, g2⟩, .inl (by omega), g5⟩
  ·
   exact ⟨.inr ⟨by omega, g2⟩, .inr ⟨by omega, g4⟩, g5⟩
 ·
  rintro ⟨g1 | ⟨g1, g2⟩, g3 | ⟨g3, g4⟩, g5⟩
  ·
   exact ⟨.inl (by omega), .inl (by omega), g5⟩
  ·
   exact ⟨.inl (by omega), .inr ⟨by omega, g4⟩, g5⟩
  ·
   exact ⟨.inr ⟨by omega, g2⟩, .inl (by omega), g5⟩
  ·
   exact ⟨.inr ⟨by omega, g2⟩, .inr ⟨by omega, g4⟩, g5⟩
theorem quo_tenth (r s i : Nat) : r * 10 ^ (i + 1) / s / 10 = r * 10 ^ i / s := by
 rw [Nat.div_div_eq_div_mul, Nat.pow_succ, ← Nat.mul_assoc, Nat.mul_div_mul_right _ _ (by decide)]
theorem DigAt.adj_le {K : Nat} {ev : Bool} {J p q r s b a : Nat} (_h : DigAt K ev J p q r s b a) : adj r s b a J ev ≤ 1 := by
 unfold adj
 cases adjB (rem r s J) s (r * 10 ^ J / s) (dn r s b J ev) (up r s a J ev) <;> simp
theorem adj_up {r s b a J : Nat} {ev : Bool} (h : adj r s b a J ev = 1) : up r s a J ev = true := by
 unfold adj adjB at h
 cases hu : up r s a J ev with
 | true => rfl
 | false => rw [hu] at h; simp at h
theorem adj_down {r s b a J : Nat} {ev : Bool} (h : adj r s b a J ev = 0) (hy : dn r s b J ev = true ∨ up r s a J ev = true) : dn r s b J ev = true := by
 unfold adj adjB at h
 cases hd : dn r s b J ev with
 | true => rfl
 | false =>
  rw [hd] at h hy
  have hu : up r s a J ev = true := by rcases hy with g | g; cases g; exact g
  rw [hu] at h
  simp at h
theorem DigAt.read {K : Nat} {ev : Bool} {J p q r s b a : Nat} (h : DigAt K ev J p q r s b a) (hK : 0 < K) : RdK K ev J (r * 10 ^ J / s + adj r s b a J ev) r s b a := by
 have h1 := h.adj_le
 rcases (by omega : adj r s b a J ev = 0 ∨ adj r s b a J ev = 1) with c | c
 ·
  rw [c, Nat.add_zero]
  exact (dn_iff hK h.sc.ha).1 (adj_down c h.yes)
 ·
  rw [c]
  exact (up_iff hK h.sc.hs).1 (adj_up c)
theorem DigAt.none {K : Nat} {ev : Bool} {J p q r s b a : Nat} (h : DigAt K ev J p q r s b a) (hK : 0 < K) (i : Nat) (h1 : 1 ≤ i) (h2 : i < J) : ¬ RdK K ev i (r * 10 ^ i / s) r s b a ∧ ¬ RdK K ev i (r * 10 ^ i / s + 1) r s b a := by
 obtain ⟨g1, g2⟩ := h.no i h1 h2
 constructor
 ·
  intro g; rw [(dn_iff hK h.sc.ha).2 g] at g1; cases g1
 ·
  intro g; rw [(up_iff hK h.sc.hs).2 g] at g2; cases g2
theorem DigAt.carry {K : Nat} {ev : Bool} {J p q r s b a : Nat} (h : DigAt K ev J p q r s b a) (hK : 0 < K) : r * 10 ^ J / s % 10 + adj r s b a J ev ≤ 9 := by
 have h1 := h.adj_le
 have hm : r * 10 ^ J / s % 10 < 10 := Nat.mod_lt _ (by decide)
 rcases (by omega : adj r s b a J ev = 0 ∨ adj r s b a J ev = 1) with c | c
 ·
  omega
 ·
  rcases (by omega : r * 10 ^ J / s % 10 ≤ 8 ∨ r * 10 ^ J / s % 10 = 9) with d | d
  ·
   omega
  ·
   exfalso
   have hr := h.read hK
   rw [c] at hr
   obtain ⟨i, rfl⟩ : ∃ i, J = i + 1 := ⟨J - 1, by have := h.pos; omega⟩
   have ht := quo_tenth r s i
   have he : r * 10 ^ (i + 1) / s + 1 = (r * 10 ^ i / s + 1) * 10 := by omega
   rw [he, RdK.ten] at hr
   rcases Nat.eq_zero_or_pos i with hi | hi
   ·
    subst hi
    have h0 : r * 10 ^ 0 / s = 0 := by rw [Nat.pow_zero, Nat.mul_one]; exact Nat.div_eq_of_lt h.lt
    rw [h0] at hr
    obtain ⟨_, g, _⟩ := hr
    rw [Nat.pow_zero] at g
    rcases h.top with t | ⟨t, t2⟩
    ·
     rcases g with g | ⟨g, _⟩ <;> omega
    ·
     rcases g with g | ⟨_, g⟩
     ·
      omega
     ·
      rw [t2] at g; cases g
   ·
    exact (h.none hK i hi (by omega)).2 hr
def byt (l : List Nat) : List UInt8 := l.map (fun q => UInt8.ofNat (48 + q))
theorem quo_split (r s J : Nat) (hs : 0 < s) : r * 10 ^ (J + 1) / s = r * 10 / s * 10 ^ J + (r * 10 % s) * 10 ^ J / s := by
 have h1 : r * 10 ^ (J + 1) = (r * 10 % s) * 10 ^ J + s * (r * 10 / s * 10 ^ J) := by
  have := Nat.mod_add_div (r * 10) s
  rw [Nat.pow_succ]
  generalize r * 10 % s = u at *
  generalize r * 10 / s = v at *
  have h2 : r * (10 ^ J * 10) = (r * 10) * 10 ^ J := by grind
  rw [h2, ← this]; grind
 rw [h1, Nat.add_mul_div_left _ _ hs, Nat.add_comm]
theorem byt_len (l : List Nat) : (byt l).length = l.length := by unfold byt; simp
theorem val_byt1 (d : Nat) (h : d ≤ 9) : val [UInt8.ofNat (48 + d)] = d ∧ isDig (UInt8.ofNat (48 + d)) = true := by
 have := dig_of d (by omega)
 constructor
 ·
  unfold val
  simp only [List.foldl_cons, List.foldl_nil]
  omega
 ·
  simp only [isDig, Bool.and_eq_true, decide_eq_true_eq]; omega
theorem dg_len (s e : Nat) : ∀ J r, (dg J r s e).length = J := by
 intro J
 induction J with
 | zero => intro r; rfl
 | succ J ih =>
  intro r
  rw [dg]
  split
  ·
   rename_i h; subst h; rfl
  ·
   rw [List.length_cons, ih]
theorem dg_spec (s e : Nat) (hs : 0 < s) : ∀ J r, 1 ≤ J → r < s → r * 10 ^ J / s % 10 + e ≤ 9 → val (byt (dg J r s e)) = r * 10 ^ J / s + e ∧ (∀ c ∈ byt (dg J r s e), isDig c = true) ∧ (∀ d ∈ dg J r s e, d ≤ 9) := by
 intro J
 induction J with
 | zero => intro r h; omega
 | succ J ih =>
  intro r _ hr hc
  have hq : r * 10 / s ≤ 9 := by
   have : r * 10 / s < 10 := Nat.div_lt_of_lt_mul (by omega)
   omega
  rcases Nat.eq_zero_or_pos J with hJ | hJ
  ·
   subst hJ
   rw [dg, if_pos rfl]
   rw [Nat.zero_add, Nat.pow_one] at hc ⊢
   have hq2 : r * 10 / s + e ≤ 9 := by omega
   obtain ⟨v1, v2⟩ := val_byt1 _ hq2
   refine ⟨v1, ?_, ?_⟩
   ·
    intro c hc
    have : c = UInt8.ofNat (48 + (r * 10 / s + e)) := by simpa [byt] using hc
    rw [this]; exact v2
   ·
    intro d hd; rw [List.mem_singleton.1 hd]; exact hq2
  ·
   rw [dg, if_neg (by omega)]
   have hml : r * 10 % s < s := Nat.mod_lt _ hs
   have hqs := quo_succ r s J hs hJ
   obtain ⟨g1, g2, g3⟩ := ih (r * 10 % s) hJ hml (by rw [← hqs]; exact hc)
   obtain ⟨v1, v2⟩ := val_byt1 _ hq
   refine ⟨?_, ?_, ?_⟩
   ·
    have e1 : byt (r * 10 / s :: dg J (r * 10 % s) s e) = [UInt8.ofNat (48 + r * 10 / s)] ++ byt (dg J (r * 10 % s) s e) := rfl
    rw [e1, val_append, v1, g1, byt_len, dg_len, quo_split r s J hs, Nat.add_assoc]
   ·
    intro c hc
    rcases List.mem_cons.1 hc with rfl | hc
    ·
     exact v2
    ·
     exact g2 c hc
   ·
    intro d hd
    rcases List.mem_cons.1 hd with rfl | hd
    ·
     exact hq
    ·
     exact g3 d hd
theorem dg_take (s e : Nat) : ∀ J r, 1 ≤ J → (dg (J + 1) r s e).take J = dg J r s 0 := by
 intro J
 induction J with
 | zero => intro r h; omega
 | succ J ih =>
  intro r _
  rw [dg, if_neg (by omega), List.take_succ_cons]
  rcases Nat.eq_zero_or_pos J with hJ | hJ
  ·
   subst hJ
   rw [dg, if_pos rfl, Nat.add_zero]; rfl
  ·
   rw [ih _ hJ]
   conv => rhs; rw [dg, if_neg (by omega)]
theorem str_ints (l : List Nat) : strOfNums (ints l) = mk (byt l) := by
 refine bytes_ext ?_
 rw [mk_data]
 unfold strOfNums ints byt
 rw [List.map_map]
 show (List.map _ l).toArray.toList = _
 rw [List.toList_toArray]
 refine List.map_congr_left (fun d _ => ?_)
 simp only [Function.comp, Int.toNat_natCast]
theorem Sc.ratio {T K p q r s b a m E : Nat} (h : Sc T K p q r s b a) (hm : m < 9007199254740992) (hEm : E = 0 ∨ 4503599627370496 ≤ m) (hKE : K = E * 4503599627370496 + m) : r = 2 * m * a := by
 have r0 : rungVal K = m * 2 ^ E := by rw [hKE]; exact rung_of hEm hm
 have r1 : rungVal (K + 1) = (m + 1) * 2 ^ E := by rw [hKE]; exact rung_next hEm hm
 have hmid : mid K = (2 * m + 1) * 2 ^ E := by unfold mid; rw [r0, r1]; grind
 have hv := h.hv
 have hu := h.hu
 rw [r0] at hv
 rw [hmid] at hu
 have hp : 0 < 10 ^ q * T := Nat.mul_pos (Nat.pow_pos (by decide)) h.hT
 have e1 : 2 * a * (10 ^ q * T) = 2 ^ E * 10 ^ p * s := by
  have : 2 * (r + a) * 10 ^ q * T = 2 * (r * 10 ^ q * T) + 2 * a * (10 ^ q * T) := by grind
  rw [this, hv] at hu
  have h2 : (2 * m + 1) * 2 ^ E * 10 ^ p * s = 2 * (m * 2 ^ E * 10 ^ p * s) + 2 ^ E * 10 ^ p * s := by grind
  rw [h2] at hu
  omega
 have e2 : r * (10 ^ q * T) = 2 * m * a * (10 ^ q * T) := by
  have : r * (10 ^ q * T) = m * (2 ^ E * 10 ^ p * s) := by
   rw [← Nat.mul_assoc, hv]; grind
  rw [this, ← e1]; grind
 exact Nat.eq_of_mul_eq_mul_right hp e2
theorem split_K (K : Nat) (h : K < INF) : ∃ m E : Nat, m < 9007199254740992 ∧ (E = 0 ∨ 4503599627370496 ≤ m) ∧ K = E * 4503599627370496 + m := by
 obtain ⟨m, E, _, h1, h2, h3, _⟩ := parts_f K false h
 exact ⟨m, E, h1, h2, h3⟩
theorem DigAt.short {K : Nat} {ev : Bool} {J p q r s b a : Nat} (h : DigAt K ev J p q r s b a) (hK : K < INF) : J ≤ 18 := by
 rcases h.first with h1 | ⟨h1, _⟩
 ·
  obtain ⟨m, E, g1, g2, g3⟩ := split_K K hK
  have hr := h.sc.ratio g1 g2 g3
  have hle : s ≤ r * 10 := by
   rcases Nat.lt_or_ge (r * 10) s with c | c
   ·
    exact absurd (Nat.div_eq_of_lt c) h1
   ·
    exact c
  rcases Nat.lt_or_ge 18 J with c | c
  ·
   exfalso
   have hno := (h.no 18 (by omega) c).2
   unfold up upB at hno
   rw [Bool.or_eq_false_iff] at hno
   have hno := of_decide_eq_false hno.1
   apply hno
   have ha := h.sc.ha
   have e : 2 * m * a ≤ 18014398509481984 * a := Nat.mul_le_mul_right a (by omega)
   have e2 : (10 : Nat) ^ 18 = 1000000000000000000 := by decide
   rw [e2, hr] at *
   omega
  ·
   exact c
 ·
  omega
structure Short (K : Nat) (ds : List UInt8) (x : Int) : Prop where
 dig : ∀ c ∈ ds, isDig c = true
 pos : 1 ≤ ds.length
 len : ds.length ≤ 18
 near : DecNear (val ds) (x - ds.length) K
 cut : 2 ≤ ds.length → ¬ DecNear (val (ds.take (ds.length - 1))) (x - (ds.length - 1 : Nat)) K ∧ ¬ DecNear (val (ds.take (ds.length - 1)) + 1) (x - (ds.length - 1 : Nat)) K
 lo : -10000 ≤ x
 hi : x ≤ 10000
theorem short_num (K : Nat) (neg : Bool) (h0 : 0 < K) (hK : K < INF) : ∃ ds x, Short K ds x ∧ Runs (fun k => num_Digits.f k (K + signBit neg)) (mk ds, x, neg) := by
 obtain ⟨J, p, q, r, s, b, a, h, hp, hq, hrun⟩ := digits_num K neg h0 hK
 have hJ := h.short hK
 have hc := h.carry h0
 have hr := h.read h0
 have hpos := h.pos
 obtain ⟨g1, g2, g3⟩ := dg_spec s (adj r s b a J (decide (K % 2 = 0))) h.sc.hs J r hpos h.lt hc
 have hl : (byt (dg J r s (adj r s b a J (decide (K % 2 = 0))))).length = J := by rw [byt_len, dg_len]
 rw [str_ints] at hrun
 refine ⟨_, _, ⟨g2, by omega, by omega, ?_, ?_, by omega, by omega⟩, hrun⟩
 ·
  rw [g1, hl]
  exact (dec_iff h.sc h0 hK J _ _ rfl).2 hr
 ·
  rw [hl]
  intro h2
  obtain ⟨i, rfl⟩ : ∃ i, J = i + 1 := ⟨J - 1, by omega⟩
  rw [Nat.add_sub_cancel]
  have hi : 1 ≤ i := by omega
  have htk : (byt (dg (i + 1) r s (adj r s b a (i + 1) (decide (K % 2 = 0))))).take i = byt (dg i r s 0) := by
   unfold byt
   rw [← List.map_take, dg_take s _ i r hi]
  have hm9 : r * 10 ^ i / s % 10 + 0 ≤ 9 := by omega
  obtain ⟨v1, _, _⟩ := dg_spec s 0 h.sc.hs i r hi h.lt hm9
  rw [htk, v1, Nat.add_zero]
  obtain ⟨n1, n2⟩ := h.none h0 i hi (by omega)
  exact ⟨fun g => n1 ((dec_iff h.sc h0 hK i _ _ rfl).1 g), fun g => n2 ((dec_iff h.sc h0 hK i _ _ rfl).1 g)⟩
end Go.Proofs.YtjlnfnfdibfniaaDoor.Pl
namespace Go.Proofs.YtjlnfnfdibfniaaDoor.Pl
open F Hd Go.RowKit Go.Proofs.YW.PWords Go.Proofs.YW.PMore
theorem eq_aux12 (c m U P : Nat) : c * (m * U * P) = c * m * U * P := by grind
theorem sc_at (K m E : Nat) (X : Int) (hK0 : 0 < K) (hm : m < 9007199254740992) (hEm : E = 0 ∨ 4503599627370496 ≤ m) (hKE : K = E * 4503599627370496 + m) :
  ∃ c b a : Nat, 0 < c ∧ Sc (2 ^ 1074) K (-X).toNat X.toNat (c * exA m ((E : Int) - 1074) X) (c * exB ((E : Int) - 1074) X) b a := by
 have h := start_sc (2 ^ 1074) K m E (Nat.two_pow_pos 1074) hK0 hm hEm hKE ((E : Int) - 1074).toNat (-((E : Int) - 1074)).toNat (pow_two (a := ((E : Int) - 1074).toNat) (b := 1074) (c := E) (d := (-((E : Int) - 1074)).toNat) (by omega))
 have h2 := (h.more_n X.toNat).less_n (-X).toNat
 rw [Nat.zero_add, Nat.zero_add] at h2
 generalize 1 * 2 ^ ((E : Int) - 1074).toNat * 10 ^ (-X).toNat = b at h2
 generalize (if m = 4503599627370496 ∧ 0 < E then 2 else 1) * 2 ^ ((E : Int) - 1074).toNat * 10 ^ (-X).toNat = a at h2
 refine ⟨if m = 4503599627370496 ∧ 0 < E then 4 else 2, b, a, by split <;> omega, ?_⟩
 have e1 : (if m = 4503599627370496 ∧ 0 < E then 4 else 2) * exA m ((E : Int) - 1074) X = (if m = 4503599627370496 ∧ 0 < E then 4 * m else 2 * m) * 2 ^ ((E : Int) - 1074).toNat * 10 ^ (-X).toNat := by
  unfold exA
  split
  ·
   exact eq_aux12 ..
  ·
   exact eq_aux12 ..
 have e2 : (if m = 4503599627370496 ∧ 0 < E then 4 else 2) * exB ((E : Int) - 1074) X = (if m = 4503599627370496 ∧ 0 < E then 4 else 2) * 2 ^ (-((E : Int) - 1074)).toNat * 10 ^ X.toNat := by
  unfold exB
  rw [Nat.one_mul]; exact (Nat.mul_assoc ..).symm
 rw [e1, e2]
 exact h2
theorem fd_get (b : Nat) (hb : 0 < b) : ∀ (n i a : Nat), i < n → a < b → (fd n a b)[i]? = some ((a * 10 ^ (i + 1) / b % 10 : Nat) : Int) := by
 intro n
 induction n with
 | zero => intro i a h; omega
 | succ n ih =>
  intro i a hi ha
  rw [fd]
  cases i with
  | zero =>
   rw [List.getElem?_cons_zero, Nat.zero_add, Nat.pow_one]
   have : a * 10 / b < 10 := Nat.div_lt_of_lt_mul (by omega)
   rw [Nat.mod_eq_of_lt this]
  | succ i =>
   rw [List.getElem?_cons_succ, ih i (a * 10 % b) (by omega) (Nat.mod_lt _ hb)]
   have := quo_succ a b (i + 1) hb (by omega)
   rw [← this]
theorem fd_len (b : Nat) : ∀ n a, (fd n a b).length = n := by
 intro n
 induction n with
 | zero => intro a; rfl
 | succ n ih => intro a; rw [fd, List.length_cons, ih]
theorem k_succ (a b n : Nat) : a * 10 ^ n / b * 10 + a * 10 ^ (n + 1) / b % 10 = a * 10 ^ (n + 1) / b := by
 have h := quo_tenth a b n
 have := Nat.mod_add_div (a * 10 ^ (n + 1) / b) 10
 rw [h] at this
 omega
end Go.Proofs.YtjlnfnfdibfniaaDoor.Pl
namespace Go.Proofs.YtjlnfnfdibfniaaDoor.Pl
open F Hd Go.RowKit Go.Proofs.YW.PWords Go.Proofs.YW.PMore
theorem strOfNums_one (n : Nat) : (strOfNums [(n : Int)]).data.toList = [UInt8.ofNat n] := by
 show [UInt8.ofNat ((n : Int)).toNat] = _
 rw [Int.toNat_natCast]
theorem plain_f : ∀ (k : Nat) (n : Int), n.natAbs < 10 ^ k → k ≤ 20 → -9223372036854775808 ≤ n → n ≤ 9223372036854775807 → r_plain.f (k + 1) n = some ⟨(dec n.natAbs).toArray⟩ := by
 intro k
 induction k with
 | zero =>
  intro n h _ _ _
  have : n = 0 := by omega
  subst this
  show r_plain.f 1 0 = some ⟨(dec 0).toArray⟩
  kernel_rfl
 | succ k ih =>
  intro n h hk h0 h1
  have hlt : n.natAbs < 10 ^ 20 := Nat.lt_of_lt_of_le h (Nat.pow_le_pow_right (by decide) hk)
  have hq : n.natAbs / 10 < 10 ^ k := by rw [Nat.pow_succ] at h; omega
  have hdq : (Int.tdiv n 10).natAbs = n.natAbs / 10 := by rw [Int.natAbs_tdiv]; rfl
  have hdr : -9223372036854775808 ≤ Int.tdiv n 10 ∧ Int.tdiv n 10 ≤ 9223372036854775807 := by omega
  have hm : (Int.tmod n 10).natAbs = n.natAbs % 10 := by rw [Int.natAbs_tmod]; rfl
  have hy : ∃ y : List Int, y = [((48 + n.natAbs % 10 : Nat) : Int)] := ⟨_, rfl⟩
  have hw : wrap64 (Int.tdiv n 10) = Int.tdiv n 10 := w64 hdr.1 hdr.2
  have hs := strOfNums_one (48 + n.natAbs % 10)
  have fin_ : (if wrap64 (Int.tdiv n 10) = 0 then some (strOfNums [((48 + n.natAbs % 10 : Nat) : Int)]) else (r_plain.f (k + 1) (wrap64 (Int.tdiv n 10))).bind fun t => if t.size + (strOfNums [((48 + n.natAbs % 10 : Nat) : Int)]).size ≤ 9223372036854775807 then some (t ++ strOfNums [((48 + n.natAbs % 10 : Nat) : Int)]) else none) = some ⟨(dec n.natAbs).toArray⟩ := by
   rw [hw]
   by_cases hz : Int.tdiv n 10 = 0
   ·
    rw [if_pos hz]
    have : n.natAbs / 10 = 0 := by rw [← hdq, hz]; rfl
    refine congrArg some (bytes_ext ?_)
    rw [hs, dec_step _ hlt, dec0, if_pos this]
    simp
   ·
    rw [if_neg hz, ih _ (by rw [hdq]; exact hq) (by omega) hdr.1 hdr.2, Option.bind_some, hdq]
    have h3 : ¬ n.natAbs / 10 = 0 := by rw [← hdq]; omega
    have hsz : (⟨(dec (n.natAbs / 10)).toArray⟩ : ByteArray).size + (strOfNums [((48 + n.natAbs % 10 : Nat) : Int)]).size ≤ 9223372036854775807 := by
     have e1 := dec_length (n.natAbs / 10)
     have e2 := congrArg List.length hs
     rw [len_data] at e2
     simp only [List.length_singleton] at e2
     have e3 : (⟨(dec (n.natAbs / 10)).toArray⟩ : ByteArray).size = (dec (n.natAbs / 10)).length := by rw [← len_data]
     omega
    rw [if_pos hsz]
    refine congrArg some (bytes_ext ?_)
    rw [ByteArray.data_append, Array.toList_append, hs, dec_step n.natAbs hlt, dec0, if_neg h3]
  rw [r_plain.f]
  by_cases hneg : Int.tmod n 10 < 0
  ·
   have e1 : (wrap64 (48 + wrap64 (-Int.tmod n 10))) % 256 = ((48 + n.natAbs % 10 : Nat) : Int) := by
    rw [w64 (n := -Int.tmod n 10) (by omega) (by omega), w64 (by omega) (by omega)]; omega
   rw [if_pos hneg, e1]
   exact fin_
  ·
   have e1 : (wrap64 (48 + Int.tmod n 10)) % 256 = ((48 + n.natAbs % 10 : Nat) : Int) := by
    rw [w64 (by omega) (by omega)]; omega
   rw [if_neg hneg, e1]
   exact fin_
theorem plain_runs (n : Nat) (h : n < 1000000) : Runs (fun k => r_plain.f k (n : Int)) (mk (dec n)) := by
 refine ⟨21, fun k hk => ?_⟩
 obtain ⟨j, rfl⟩ : ∃ j, k = j + 1 := ⟨k - 1, by omega⟩
 have := plain_f 20 (n : Int) (by rw [Int.natAbs_natCast]; omega) (by decide) (by omega) (by omega)
 rw [Int.natAbs_natCast] at this
 have mono : ∀ d, r_plain.f (20 + 1 + d) (n : Int) = some ⟨(dec n).toArray⟩ := by
  intro d
  induction d with
  | zero => exact this
  | succ d ih => exact r_plain.mono _ _ _ ih
 have := mono (j - 20)
 rw [show 20 + 1 + (j - 20) = j + 1 by omega] at this
 exact this
def decs (n : Nat) : List UInt8 := (lim 10 n).reverse.map (fun d => UInt8.ofNat (48 + d.toNat))
theorem decs_zero : decs 0 = [] := by unfold decs; rw [lim_zero]; rfl
theorem decs_snoc (v d : Nat) (hd : d ≤ 9) (h : 0 < v ∨ 0 < d) : decs (10 * v + d) = decs v ++ [UInt8.ofNat (48 + d)] := by
 unfold decs
 have := lim_step (B := 10) (v := v) (x := (d : Int)) (by decide) (by omega) (by omega) (by omega)
 rw [Int.toNat_natCast] at this
 rw [show 10 * v + d = d + 10 * v by omega, this]
 simp
def pad4 (d : Nat) : List UInt8 := [UInt8.ofNat (48 + d / 1000), UInt8.ofNat (48 + d / 100 % 10), UInt8.ofNat (48 + d / 10 % 10), UInt8.ofNat (48 + d % 10)]
theorem decs_pad (v d : Nat) (hd : d < 10000) (h : 0 < v) : decs (10000 * v + d) = decs v ++ pad4 d := by
 have e1 := decs_snoc v (d / 1000) (by omega) (.inl h)
 have e2 := decs_snoc (10 * v + d / 1000) (d / 100 % 10) (by omega) (.inl (by omega))
 have e3 := decs_snoc (10 * (10 * v + d / 1000) + d / 100 % 10) (d / 10 % 10) (by omega) (.inl (by omega))
 have e4 := decs_snoc (10 * (10 * (10 * v + d / 1000) + d / 100 % 10) + d / 10 % 10) (d % 10) (by omega) (.inl (by omega))
 rw [show 10000 * v + d = 10 * (10 * (10 * (10 * v + d / 1000) + d / 100 % 10) + d / 10 % 10) + d % 10 by omega, e4, e3, e2, e1]
 simp [pad4]
theorem dec_pad_two : ∀ a b : Fin 100, List.replicate (4 - (dec (100 * a.val + b.val)).length) 48 ++ dec (100 * a.val + b.val) = pad4 (100 * a.val + b.val) ∧ (dec (100 * a.val + b.val)).length ≤ 4 := by decide +kernel
theorem dec_pad_all (d : Nat) (h : d < 10000) : List.replicate (4 - (dec d).length) 48 ++ dec d = pad4 d ∧ (dec d).length ≤ 4 := by
 have := dec_pad_two ⟨d / 100, by omega⟩ ⟨d % 100, Nat.mod_lt _ (by decide)⟩
 have e : 100 * (d / 100) + d % 100 = d := by omega
 simp only [e] at this
 exact this
theorem dec_decs : ∀ (f d : Nat), d < 10 ^ f → f ≤ 19 → 0 < d → decs d = dec d := by
 intro f
 induction f with
 | zero => intro d h _ h0; simp at h; omega
 | succ f ih =>
  intro d h hf h0
  have hd20 : d < 10 ^ 20 := Nat.lt_of_lt_of_le h (Nat.pow_le_pow_right (by decide) (by omega))
  have e := decs_snoc (d / 10) (d % 10) (by omega) (by omega)
  rw [show 10 * (d / 10) + d % 10 = d by omega] at e
  rw [e, dec_step d hd20]
  unfold dec0
  by_cases c : d / 10 = 0
  ·
   rw [if_pos c, c, decs_zero]
  ·
   rw [if_neg c, ih (d / 10) (by rw [Nat.pow_succ] at h; omega) (by omega) (by omega)]
theorem text_l1 (n : Nat) (i : Nat) (hi : i + 1 < (M n).length) (hl : (M n).length ≤ 1000) (acc : List UInt8) (hacc : acc.length ≤ 5000) (R : ByteArray) : ∀ (g : Nat) (t : List UInt8), t.length + g = 4 →
  Runs (fun k => r_text.l0 k (M n) (mk (acc ++ (List.replicate g 48 ++ t))) ((i : Int) - 1)) R → Runs (fun k => r_text.l1 k (M n) (mk acc) (i : Int) (mk t)) R := by
 have g1 : ∀ a b : List UInt8, mk a ++ mk b = mk (a ++ b) := mk_append
 intro g
 induction g with
 | zero =>
  intro t ht h
  refine Runs.suc ?_
  simp only [r_text.l1]
  rw [mk_size, mk_size, g1, w64 (n := ((M n).length : Int) - 1) (by omega) (by omega), w64 (n := (i : Int) - 1) (by omega) (by omega)]
  exact Runs.yes (by omega) (Runs.no (by omega) (Runs.yes (by omega) h))
 | succ g ih =>
  intro t ht h
  refine Runs.suc ?_
  simp only [r_text.l1]
  have q : (⟨#[48]⟩ : ByteArray) ++ mk t = mk (48 :: t) := g1 [48] t
  rw [mk_size, q, w64 (n := ((M n).length : Int) - 1) (by omega) (by omega)]
  refine Runs.yes (by omega) (Runs.yes (by omega) (Runs.yes (by omega) (ih (48 :: t) (by rw [List.length_cons]; omega) ?_)))
  have e : List.replicate g 48 ++ 48 :: t = List.replicate (g + 1) (48 : UInt8) ++ t := by rw [List.replicate_succ', List.append_assoc]; rfl
  rw [e]; exact h
theorem text_l0 (n : Nat) (hl : (M n).length ≤ 1000) : ∀ j, j ≤ (M n).length → Runs (fun k => r_text.l0 k (M n) (mk (decs (n / 10000 ^ j))) ((j : Int) - 1)) (mk (decs n)) := by
 intro j
 induction j with
 | zero =>
  intro _
  refine Runs.suc ?_
  simp only [r_text.l0]
  rw [Nat.pow_zero, Nat.div_one]
  exact Runs.no (by omega) (Runs.pure _)
 | succ j ih =>
  intro hj
  have ih := ih (by omega)
  have hjl : j < (M n).length := by omega
  obtain ⟨hp, hg⟩ := M_get n j hjl
  have hdl : ∀ v, (decs v).length = (lim 10 v).length := fun v => by unfold decs; simp
  have hdv : n / 10000 ^ (j + 1) = n / 10000 ^ j / 10000 := by rw [Nat.div_div_eq_div_mul, Nat.pow_succ]
  have hend : j + 1 = (M n).length ∨ 0 < n / 10000 ^ (j + 1) := by
   rcases Nat.lt_or_ge (j + 1) (M n).length with c | c
   ·
    exact .inr (M_get n (j + 1) c).1
   ·
    exact .inl (by omega)
  have hz : j + 1 = (M n).length → n / 10000 ^ (j + 1) = 0 := fun h => M_end n (j + 1) (by omega)
  have hacc : (decs (n / 10000 ^ (j + 1))).length ≤ 5000 := by
   rw [hdl]
   have h1 : n < 10000 ^ (M n).length := lim_le (by decide) n
   obtain ⟨Q, hQ⟩ : ∃ Q, Q = 4000 := ⟨_, rfl⟩
   have h2 : n / 10000 ^ (j + 1) < 10 ^ Q := by
    refine Nat.lt_of_le_of_lt (Nat.div_le_self ..) (Nat.lt_of_lt_of_le h1 ?_)
    rw [show (10000 : Nat) = 10 ^ 4 by decide, ← Nat.pow_mul]
    exact Nat.pow_le_pow_right (by decide) (by omega)
   have := lim_len (B := 10) (by decide) Q _ h2
   omega
  rw [hdv] at hend hz hacc ⊢
  generalize n / 10000 ^ j = v at *
  have hm : v % 10000 < 10000 := Nat.mod_lt _ (by decide)
  have hpl := plain_runs (v % 10000) (by omega)
  refine Runs.suc ?_
  simp only [r_text.l0]
  rw [show ((j + 1 : Nat) : Int) - 1 = (j : Int) by omega, rd_get _ j hjl, hg]
  refine Runs.yes (by omega) (Runs.yes (by omega) (Runs.yes (by omega) (Runs.bind hpl ?_)))
  obtain ⟨hpad, hlen4⟩ := dec_pad_all (v % 10000) hm
  by_cases c : j + 1 = (M n).length
  ·
   have hv0 := hz c
   have hvd : v % 10000 = v := by omega
   rw [hv0, decs_zero, hvd]
   have e := dec_decs 4 v (by omega) (by decide) hp
   refine Runs.suc ?_
   simp only [r_text.l1]
   have g1 : ∀ a b : List UInt8, mk a ++ mk b = mk (a ++ b) := mk_append
   rw [hvd] at hlen4
   rw [mk_size, mk_size, g1, List.nil_append, ← e, w64 (n := ((M n).length : Int) - 1) (by omega) (by omega), w64 (n := (j : Int) - 1) (by omega) (by omega)]
   exact Runs.no (by omega) (Runs.yes (by rw [e]; simp; omega) ih)
  ·
   have hv0 : 0 < v / 10000 := by omega
   refine text_l1 n j (by omega) hl (decs (v / 10000)) hacc _ (4 - (dec (v % 10000)).length) (dec (v % 10000)) (by omega) ?_
   rw [hpad, ← decs_pad (v / 10000) (v % 10000) hm hv0, show 10000 * (v / 10000) + v % 10000 = v by omega]
   exact ih
theorem text_ref (n : Nat) (hl : (M n).length ≤ 1000) : Runs (fun k => r_text.f k (M n)) (mk (decs n)) := by
 simp only [r_text.f]
 rw [w64 (by omega) (by omega)]
 have := text_l0 n hl (M n).length (Nat.le_refl _)
 rw [M_end n _ (Nat.le_refl _), decs_zero] at this
 exact this
end Go.Proofs.YtjlnfnfdibfniaaDoor.Pl
namespace Go.Proofs.YtjlnfnfdibfniaaDoor.Pl
open F Hd Go.RowKit Go.Proofs.YW.PWords Go.Proofs.YW.PMore
theorem pow10_three {a b c d e : Nat} (h : a + b = c + (d + e)) : 10 ^ a * 10 ^ b = 10 ^ c * (10 ^ d * 10 ^ e) := by rw [← Nat.pow_add, ← Nat.pow_add, ← Nat.pow_add, h]
theorem pow10_two {a b c d : Nat} (h : a + b = c + d) : 10 ^ a * 10 ^ b = 10 ^ c * 10 ^ d := by rw [← Nat.pow_add, ← Nat.pow_add, h]
theorem Sc.same {T K p q r s b a p' q' r' s' b' a' : Nat} (h : Sc T K p q r s b a) (h' : Sc T K p' q' r' s' b' a') (e : q + p' = q' + p) : r * s' = r' * s := by
 have h1 := h.hv
 have h2 := h'.hv
 have e2 := pow10_two e
 have hT := h.hT
 have hp : 0 < 10 ^ q * 10 ^ p' * T := Nat.mul_pos (Nat.mul_pos (Nat.pow_pos (by decide)) (Nat.pow_pos (by decide))) hT
 generalize 10 ^ q = Q at *
 generalize 10 ^ p = P at *
 generalize 10 ^ q' = Q' at *
 generalize 10 ^ p' = P' at *
 generalize rungVal K = V at *
 clear h h' e
 refine Nat.eq_of_mul_eq_mul_right hp ?_
 have l1 : r * s' * (Q * P' * T) = (r * Q * T) * s' * P' := by grind
 have l2 : r' * s * (Q * P' * T) = (r' * Q' * T) * s * P := by rw [e2]; grind
 rw [l1, l2, h1, h2]
 grind
theorem frac_eq {r s r' s' : Nat} (e : r * s' = r' * s) (hs : 0 < s) (hs' : 0 < s') (i : Nat) : r * 10 ^ i / s = r' * 10 ^ i / s' := by
 rw [← Nat.mul_div_mul_right (r * 10 ^ i) s hs', ← Nat.mul_div_mul_right (r' * 10 ^ i) s' hs]
 have e1 : r * 10 ^ i * s' = r' * 10 ^ i * s := by
  rw [Nat.mul_right_comm, e, Nat.mul_right_comm]
 rw [e1, Nat.mul_comm s s']
theorem half_aux (V A P s r Q T B C N : Nat) (h : r * Q * T = V * P * s) (e : Q * A = P * (B * C)) : 2 * V * A * (P * s) = 2 * (r * B) * (T * P * C) ∧ N * C * T * (P * s) = N * s * (T * P * C) := by
 constructor
 ·
  have : 2 * V * A * (P * s) = 2 * A * (V * P * s) := by grind
  rw [this, ← h]
  have : 2 * A * (r * Q * T) = 2 * r * T * (Q * A) := by grind
  rw [this, e]; grind
 ·
  grind
theorem Sc.half {K p q r s b a : Nat} (h : Sc (2 ^ 1074) K p q r s b a) (n : Nat) (y : Int) (hy : y = (q : Int) - p - n) (N : Nat) : cmpN (2 * rungVal K * 10 ^ (-y).toNat) (N * 10 ^ y.toNat * 2 ^ 1074) = cmpN (2 * (r * 10 ^ n)) (N * s) := by
 have hv := h.hv
 have hs := h.hs
 have hT := h.hT
 have e : 10 ^ q * 10 ^ (-y).toNat = 10 ^ p * (10 ^ n * 10 ^ y.toNat) := pow10_three (by omega)
 have hP : 0 < 10 ^ p := Nat.pow_pos (by decide)
 have hC : 0 < 10 ^ y.toNat := Nat.pow_pos (by decide)
 generalize 2 ^ 1074 = T at *
 generalize 10 ^ q = Q at *
 generalize 10 ^ p = P at *
 generalize 10 ^ (-y).toNat = A at *
 generalize 10 ^ y.toNat = C at *
 generalize 10 ^ n = B at *
 have hh := half_aux (rungVal K) A P s r Q T B C N hv e
 obtain ⟨h1, h2⟩ := hh
 rw [← cmpN_mul (2 * rungVal K * A) (N * C * T) (P * s) (Nat.mul_pos hP hs), h1, h2, cmpN_mul _ _ _ (Nat.mul_pos (Nat.mul_pos hT hP) hC)]
theorem Sc.ge {K p q r s b a : Nat} (h : Sc (2 ^ 1074) K p q r s b a) (n : Nat) (y : Int) (hy : y = (q : Int) - p - n) : ge10 K y ↔ s ≤ r * 10 ^ n := by
 have hh := h.half n y hy 2
 have l : ∀ a b : Nat, cmpN (2 * a) (2 * b) < 0 ↔ a < b := by intro a b; rw [cmpN_lt]; omega
 have e1 : 2 * rungVal K * 10 ^ (-y).toNat = 2 * (rungVal K * 10 ^ (-y).toNat) := Nat.mul_assoc ..
 have e2 : 2 * 10 ^ y.toNat * 2 ^ 1074 = 2 * (1 * 10 ^ y.toNat * 2 ^ 1074) := by rw [Nat.one_mul, Nat.mul_assoc]
 rw [e1, e2] at hh
 unfold ge10
 have a1 := l (rungVal K * 10 ^ (-y).toNat) (1 * 10 ^ y.toNat * 2 ^ 1074)
 have a2 := l (r * 10 ^ n) s
 rw [hh, a2] at a1
 omega
theorem X_unique {K : Nat} {X x : Int} (h1 : ge10 K (X - 1)) (h2 : ¬ ge10 K X) (g1 : ge10 K (x - 1)) (g2 : ¬ ge10 K x) : X = x := by
 rcases Int.lt_trichotomy X x with c | c | c
 ·
  exact absurd (ge10_le (by omega) g1) h2
 ·
  exact c
 ·
  exact absurd (ge10_le (by omega) h1) g2
theorem DigAt.X {K : Nat} {ev : Bool} {J p q r s b a : Nat} (h : DigAt K ev J p q r s b a) (hf : r * 10 / s ≠ 0) (X : Int) (h1 : ge10 K (X - 1)) (h2 : ¬ ge10 K X) : X = (q : Int) - p := by
 have hs := h.sc.hs
 refine X_unique h1 h2 ?_ ?_
 ·
  refine (h.sc.ge 1 _ (by omega)).2 ?_
  rw [Nat.pow_one]
  rcases Nat.lt_or_ge (r * 10) s with c | c
  ·
   exact absurd (Nat.div_eq_of_lt c) hf
  ·
   exact c
 ·
  rw [h.sc.ge 0 _ (by omega), Nat.pow_zero, Nat.mul_one]
  have := h.lt; omega
theorem few_small {m V P Q T r s : Nat} (hv : r * Q * T = V * P * s) (hs : 0 < s) (hQ : 0 < Q) (hT : 0 < T) (hm : V = m) (h1 : 10 * r < s) (h2 : m * s ≤ (10 * m + 5) * r) (hm0 : 0 < m) (hgoal : 10 * m * P < Q * T → Q * T ≤ (10 * m + 5) * P → 19 * (Q * T) < 200 * m * P) : 19 * s < 200 * r := by
 subst hm
 have hQT : 0 < Q * T := Nat.mul_pos hQ hT
 have e1 : r * (Q * T) = V * P * s := by rw [← Nat.mul_assoc]; exact hv
 have c1 : 10 * V * P < Q * T := by
  refine Nat.lt_of_mul_lt_mul_right (a := s) ?_
  have := Nat.mul_lt_mul_of_pos_right h1 hQT
  rw [Nat.mul_assoc 10 r, e1] at this
  have e2 : 10 * V * P * s = 10 * (V * P * s) := by grind
  rw [e2, Nat.mul_comm (Q * T) s]; exact this
 have c2 : Q * T ≤ (10 * V + 5) * P := by
  refine Nat.le_of_mul_le_mul_right (c := V * s) ?_ (Nat.mul_pos hm0 hs)
  have := Nat.mul_le_mul_right (Q * T) h2
  rw [Nat.mul_assoc (10 * V + 5) r, e1] at this
  have e2 : Q * T * (V * s) = V * s * (Q * T) := Nat.mul_comm ..
  have e3 : (10 * V + 5) * P * (V * s) = (10 * V + 5) * (V * P * s) := by grind
  rw [e2, e3]; exact this
 have g := hgoal c1 c2
 refine Nat.lt_of_mul_lt_mul_right (a := Q * T) ?_
 have e3 : 200 * r * (Q * T) = 200 * V * P * s := by
  rw [Nat.mul_assoc, e1]; grind
 have e4 : 19 * s * (Q * T) = 19 * (Q * T) * s := Nat.mul_right_comm ..
 rw [e3, e4]
 exact Nat.mul_lt_mul_of_pos_right g hs
theorem pow_up {d e : Nat} (h : d ≤ e) : 10 ^ d ≤ 10 ^ e := Nat.pow_le_pow_right (by decide) h
theorem mul_aux13 (a m b c : Nat) : a * (c * m * b) = c * m * (a * b) := by grind
theorem mul_aux14 (a z b : Nat) : a * (z * b) = z * (a * b) := by grind
theorem few_num (m p q : Nat) (hm : m < 10) (hm0 : 0 < m) : 10 * m * 10 ^ p < 10 ^ q * 2 ^ 1074 → 10 ^ q * 2 ^ 1074 ≤ (10 * m + 5) * 10 ^ p → 19 * (10 ^ q * 2 ^ 1074) < 200 * m * 10 ^ p := by
 intro c1 c2
 have n1 : 95 * 10 ^ 321 < 2 ^ 1074 := by decide +kernel
 have n2 : 2 ^ 1074 ≤ 10 * 10 ^ 323 := by decide +kernel
 have n3 : 15 * 10 ^ 322 < 2 ^ 1074 := by decide +kernel
 have n4 : 2 ^ 1074 ≤ 30 * 10 ^ 322 := by decide +kernel
 have n5 : 19 * 2 ^ 1074 < 400 * 10 ^ 322 := by decide +kernel
 generalize 2 ^ 1074 = T at *
 have hq : 0 < 10 ^ q := Nat.pow_pos (by decide)
 rcases Nat.lt_or_ge p q with c | c
 ·
  exfalso
  have h1 : 10 ^ p ≤ 10 ^ q := Nat.pow_le_pow_right (by decide) (by omega)
  have h2 : 0 < 10 ^ 321 := by decide +kernel
  generalize 10 ^ 321 = Z at *
  have h3 : (10 * m + 5) * 10 ^ p ≤ 95 * 10 ^ q := Nat.mul_le_mul (by omega) h1
  have h4 : 10 ^ q * 96 ≤ 10 ^ q * T := Nat.mul_le_mul_left _ (by omega)
  omega
 ·
  obtain ⟨d, rfl⟩ : ∃ d, p = q + d := ⟨p - q, by omega⟩
  rw [Nat.pow_add] at *
  have c1 : 10 * m * 10 ^ d < T := by
   refine Nat.lt_of_mul_lt_mul_left (a := 10 ^ q) ?_
   have : 10 ^ q * (10 * m * 10 ^ d) = 10 * m * (10 ^ q * 10 ^ d) := mul_aux13 ..
   rw [this]; exact c1
  have c2 : T ≤ (10 * m + 5) * 10 ^ d := by
   refine Nat.le_of_mul_le_mul_left (c := 10 ^ q) ?_ hq
   have : 10 ^ q * ((10 * m + 5) * 10 ^ d) = (10 * m + 5) * (10 ^ q * 10 ^ d) := mul_aux14 ..
   rw [this]; exact c2
  have goal : 19 * T < 200 * m * 10 ^ d := by
   rcases Nat.lt_trichotomy d 322 with g | g | g
   ·
    exfalso
    have h1 : 10 ^ d ≤ 10 ^ 321 := @pow_up d 321 (Nat.le_of_lt_succ g)
    generalize 10 ^ 321 = Z at *
    have h3 : (10 * m + 5) * 10 ^ d ≤ 95 * Z := Nat.mul_le_mul (by omega) h1
    omega
   ·
    subst g
    clear n1 n2
    generalize 10 ^ 322 = Z at *
    have : m = 0 ∨ m = 1 ∨ m = 2 ∨ 3 ≤ m := by omega
    rcases this with rfl | rfl | rfl | h
    ·
     omega
    ·
     omega
    ·
     omega
    ·
     have h3 : 10 * 3 * Z ≤ 10 * m * Z := Nat.mul_le_mul_right _ (by omega)
     omega
   ·
    exfalso
    have h1 : 10 ^ 323 ≤ 10 ^ d := @pow_up 323 d g
    generalize 10 ^ 323 = Z at *
    have h3 : 10 * 1 * Z ≤ 10 * m * 10 ^ d := Nat.mul_le_mul (by omega) h1
    omega
  have := Nat.mul_lt_mul_of_pos_left goal hq
  have e1 : 10 ^ q * (19 * T) = 19 * (10 ^ q * T) := mul_aux14 ..
  have e2 : 10 ^ q * (200 * m * 10 ^ d) = 200 * m * (10 ^ q * 10 ^ d) := mul_aux13 ..
  rw [e1, e2] at this; exact this
theorem DigAt.step {K : Nat} {ev : Bool} {J p q r s b a : Nat} (h : DigAt K ev J p q r s b a) (h0 : 0 < K) (hK : K < INF) (hf : r * 10 / s = 0) : J = 1 ∧ up r s a 1 ev = true ∧ 19 * s < 200 * r ∧ 10 * r < s := by
 obtain ⟨hJ, hu⟩ : J = 1 ∧ up r s a 1 ev = true := by
  rcases h.first with g | g
  ·
   exact absurd hf g
  ·
   exact g
 have hs := h.sc.hs
 have hlt : r * 10 < s := by
  rcases Nat.lt_or_ge (r * 10) s with c | c
  ·
   exact c
  ·
   have := Nat.div_pos c hs; omega
 refine ⟨hJ, hu, ?_, by omega⟩
 have hle : s ≤ r * 10 + a * 10 := by
  unfold up upB rem at hu
  rw [Nat.pow_one, Nat.mod_eq_of_lt hlt, Bool.or_eq_true, decide_eq_true_eq, Bool.and_eq_true, decide_eq_true_eq] at hu
  omega
 obtain ⟨m, E, g1, g2, g3⟩ := split_K K hK
 have hr := h.sc.ratio g1 g2 g3
 have hm0 : 0 < m := by omega
 have hbr := h.sc.hbr
 rcases Nat.lt_or_ge m 10 with c | c
 ·
  have hE : E = 0 := by omega
  subst hE
  have hV : rungVal K = m := by
   have := rung_of (m := m) (E := 0) (.inl rfl) g1
   rw [g3, this, Nat.pow_zero, Nat.mul_one]
  refine few_small (V := rungVal K) (P := 10 ^ p) (Q := 10 ^ q) (T := 2 ^ 1074) (m := m) h.sc.hv hs (Nat.pow_pos (by decide)) (Nat.two_pow_pos 1074) hV (by omega) ?_ hm0 (few_num m p q c hm0)
  have h2 : m * s ≤ m * (r * 10 + a * 10) := Nat.mul_le_mul_left _ hle
  have e : m * (r * 10 + a * 10) = 10 * m * r + 5 * (2 * m * a) := by grind
  rw [e, ← hr] at h2
  have e2 : (10 * m + 5) * r = 10 * m * r + 5 * r := Nat.add_mul ..
  omega
 ·
  have h2 : 2 * 10 * a ≤ 2 * m * a := Nat.mul_le_mul_right _ (by omega)
  omega
theorem decs_fold : ∀ (l : List Nat) (v : Nat), 0 < v → (∀ d ∈ l, d ≤ 9) → decs ((byt l).foldl (fun v c => 10 * v + (c.toNat - 48)) v) = decs v ++ byt l := by
 intro l
 induction l with
 | nil => intro v _ _; unfold byt; simp
 | cons d l ih =>
  intro v hv hd
  have hd9 := hd d (List.mem_cons_self ..)
  have e : byt (d :: l) = UInt8.ofNat (48 + d) :: byt l := rfl
  have e2 : (UInt8.ofNat (48 + d)).toNat - 48 = d := by
   have := dig_of d (by omega)
   omega
  rw [e, List.foldl_cons, e2, ih _ (by omega) (fun x hx => hd x (List.mem_cons_of_mem _ hx)), decs_snoc v d (by omega) (.inl hv), List.append_assoc]; rfl
theorem decs_byt (d : Nat) (l : List Nat) (h0 : 0 < d) (h : ∀ x ∈ d :: l, x ≤ 9) : decs (val (byt (d :: l))) = byt (d :: l) := by
 have hd9 := h d (List.mem_cons_self ..)
 have e : byt (d :: l) = UInt8.ofNat (48 + d) :: byt l := rfl
 have e2 : (UInt8.ofNat (48 + d)).toNat - 48 = d := by
  have := dig_of d (by omega)
  omega
 unfold val
 rw [e, List.foldl_cons, e2, decs_fold l _ (by omega) (fun x hx => h x (List.mem_cons_of_mem _ hx)), decs_snoc 0 d (by omega) (.inr h0), decs_zero]; rfl
theorem dg_head (s e : Nat) (J r : Nat) (hJ : 1 ≤ J) : ∃ l, dg J r s e = (if J = 1 then r * 10 / s + e else r * 10 / s) :: l := by
 obtain ⟨i, rfl⟩ : ∃ i, J = i + 1 := ⟨J - 1, by omega⟩
 rw [dg]
 by_cases c : i = 0
 ·
  subst c; exact ⟨[], rfl⟩
 ·
  rw [if_neg c, if_neg (by omega)]; exact ⟨_, rfl⟩
theorem dg_decs (s e J r : Nat) (hs : 0 < s) (hJ : 1 ≤ J) (hr : r < s) (hc : r * 10 ^ J / s % 10 + e ≤ 9) (h0 : r * 10 / s ≠ 0 ∨ J = 1 ∧ 0 < e) : decs (r * 10 ^ J / s + e) = byt (dg J r s e) := by
 obtain ⟨g1, _, g3⟩ := dg_spec s e hs J r hJ hr hc
 obtain ⟨l, hl⟩ := dg_head s e J r hJ
 rw [← g1]
 rw [hl] at g3 ⊢
 refine decs_byt _ l ?_ g3
 clear g1 hl g3 hc
 generalize r * 10 / s = z at *
 split
 ·
  omega
 ·
  rcases h0 with h | h <;> omega
theorem decs_ten : decs 10 = [49, 48] := by
 have h1 := decs_snoc 0 1 (by decide) (.inr (by decide))
 have h2 := decs_snoc 1 0 (by decide) (.inl (by decide))
 rw [decs_zero] at h1
 rw [show (1 : Nat) = 10 * 0 + 1 by rfl, h1] at h2
 exact h2
theorem DigAt.last {K : Nat} {ev : Bool} {J p q r s b a : Nat} (h : DigAt K ev J p q r s b a) (h0 : 0 < K) (hJ : 2 ≤ J) : (r * 10 ^ J / s + adj r s b a J ev) % 10 ≠ 0 := by
 have hc := h.carry h0
 have h1 := h.adj_le
 rcases (by omega : adj r s b a J ev = 0 ∨ adj r s b a J ev = 1) with c | c
 ·
  rw [c, Nat.add_zero]
  intro hz
  have hr := h.read h0
  rw [c, Nat.add_zero] at hr
  obtain ⟨i, rfl⟩ : ∃ i, J = i + 1 := ⟨J - 1, by omega⟩
  have ht := quo_tenth r s i
  have he : r * 10 ^ (i + 1) / s = r * 10 ^ i / s * 10 := by omega
  rw [he, RdK.ten] at hr
  exact (h.none h0 i (by omega) (by omega)).1 hr
 ·
  omega
end Go.Proofs.YtjlnfnfdibfniaaDoor.Pl
namespace Go.Proofs.YtjlnfnfdibfniaaDoor.Pl
open F Hd Go.RowKit Go.Proofs.YW.PWords Go.Proofs.YW.PMore
theorem cut_stop (l : List UInt8) (c : UInt8) (x : Int) (neg : Bool) (hl : l.length ≤ 1000) (h : l = [] ∨ c ≠ 48) : Runs (fun k => r_Digits.l1 k neg (mk (l ++ [c])) x) (mk (l ++ [c]), x, neg) := by
 have hs : (l ++ [c]).length = l.length + 1 := by rw [List.length_append]; rfl
 refine Runs.suc ?_
 simp only [r_Digits.l1]
 rw [mk_size, hs, w64 (by omega) (by omega), show ((l.length + 1 : Nat) : Int) - 1 = (l.length : Int) by omega, mk_bt _ _ (by omega)]
 by_cases h1 : l.length = 0
 ·
  exact Runs.no (by omega) (Runs.pure _)
 ·
  refine Runs.yes (by omega) (Runs.yes (by omega) (Runs.yes (by omega) (Runs.no ?_ (Runs.pure _))))
  rw [List.getElem_append_right (Nat.le_refl _)]
  simp only [Nat.sub_self, List.getElem_cons_zero]
  intro e
  rcases h with h | h
  ·
   exact h1 (by rw [h]; rfl)
  ·
   apply h
   exact UInt8.toNat_inj.1 (by have : (48 : UInt8).toNat = 48 := (rfl); omega)
theorem cut_step (l : List UInt8) (x : Int) (neg : Bool) (R : ByteArray × Int × Bool) (hl : l.length ≤ 1000) (h0 : 1 ≤ l.length) (h : Runs (fun k => r_Digits.l1 k neg (mk l) x) R) : Runs (fun k => r_Digits.l1 k neg (mk (l ++ [48])) x) R := by
 have hs : (l ++ [48]).length = l.length + 1 := by rw [List.length_append]; rfl
 refine Runs.suc ?_
 simp only [r_Digits.l1]
 rw [mk_size, hs, w64 (by omega) (by omega), show ((l.length + 1 : Nat) : Int) - 1 = (l.length : Int) by omega, mk_bt _ _ (by omega), Int.toNat_natCast, mk_upto, List.take_left]
 refine Runs.yes (by omega) (Runs.yes (by omega) (Runs.yes (by omega) (Runs.yes ?_ (Runs.yes (by omega) h))))
 rw [List.getElem_append_right (Nat.le_refl _)]
 simp
def pick (okA okB : Bool) (W : Int) (k : Nat) : Nat := if okA = false ∨ okB = true ∧ (0 < W ∨ W = 0 ∧ k % 2 = 1) then 1 else 0
theorem dig_end (K v n : Nat) (fs : List Int) (X y : Int) (okA okB neg : Bool) (W : Int) (R : ByteArray × Int × Bool) (hok : okA = true ∨ okB = true) (hv : 1 ≤ v) (hv2 : v < 2 ^ 62) (hy : y = X - n) (hy0 : -10000 ≤ y) (hy1 : y ≤ 10000) 
  (hW : Runs (fun k => r_nearer.f k (K : Int) (M v) y (M (v + 1)) y) W)
  (h : Runs (fun k => r_Digits.l1 k neg (mk (decs (v + pick okA okB W v))) (y + ((decs (v + pick okA okB W v)).length : Int))) R) :
  Runs (fun k => r_Digits.j2 k neg (K : Int) fs X (M v) (n : Int) okA okB false (M v) y (M (v + 1)) y) R := by
 have hml : ∀ w : Nat, w ≤ v + 1 → (M w).length ≤ 100 := by
  intro w hw
  refine lim_len (by decide) 100 w ?_
  have : (2 : Nat) ^ 62 ≤ 10000 ^ 100 := by decide +kernel
  omega
 have hdl : ∀ w : Nat, w ≤ v + 1 → (decs w).length ≤ 100 := by
  intro w hw
  have : (decs w).length = (lim 10 w).length := by unfold decs; simp
  rw [this]
  refine lim_len (by decide) 100 w ?_
  have : (2 : Nat) ^ 62 ≤ 10 ^ 100 := by decide +kernel
  omega
 have hwy : wrap64 (X - (n : Int)) = y := by rw [w64 (by omega) (by omega), hy]
 have j3 : ∀ b : Bool, b = decide (pick okA okB W v = 1) → Runs (fun k => r_Digits.j3 k neg X (n : Int) b (M (v + 1)) y (M v) y) R := by
  intro b hb
  refine Runs.suc ?_
  simp only [r_Digits.j3]
  rw [hwy]
  by_cases c : pick okA okB W v = 1
  ·
   rw [c] at h
   have hd := hdl (v + 1) (Nat.le_refl _)
   rw [hb, decide_eq_true c]
   refine Runs.yes rfl (Runs.bind (text_ref (v + 1) (by have := hml (v + 1) (Nat.le_refl _); omega)) ?_)
   rw [mk_size, w64 (by omega) (by omega)]
   exact h
  ·
   have c0 : pick okA okB W v = 0 := by
    unfold pick at c ⊢
    split at c
    ·
     exact absurd rfl c
    ·
     rename_i g; rw [if_neg g]
   rw [c0, Nat.add_zero] at h
   have hd := hdl v (by omega)
   rw [hb, decide_eq_false c]
   refine Runs.no Bool.false_ne_true (Runs.bind (text_ref v (by have := hml v (by omega); omega)) ?_)
   rw [mk_size, w64 (by omega) (by omega)]
   exact h
 have pk : pick okA okB W v = 1 ↔ (okA = false ∨ okB = true ∧ (0 < W ∨ W = 0 ∧ v % 2 = 1)) := by
  unfold pick
  split
  ·
   rename_i g; exact ⟨fun _ => g, fun _ => rfl⟩
  ·
   rename_i g; exact ⟨fun h => (by cases h), fun h => absurd h g⟩
 refine Runs.suc ?_
 simp only [r_Digits.j2]
 refine Runs.no Bool.false_ne_true (Runs.bind hW ?_)
 cases okA with
 | false =>
  refine Runs.no Bool.false_ne_true (j3 true ?_)
  symm; exact decide_eq_true (pk.2 (.inl rfl))
 | true =>
  refine Runs.yes rfl ?_
  cases okB with
  | false =>
   refine Runs.no Bool.false_ne_true (j3 false ?_)
   symm; refine decide_eq_false (fun g => ?_)
   rcases pk.1 g with g | g
   ·
    cases g
   ·
    cases g.1
  | true =>
   refine Runs.yes rfl ?_
   by_cases c : W > 0
   ·
    refine Runs.yes c (j3 true ?_)
    symm; exact decide_eq_true (pk.2 (.inr ⟨rfl, .inl c⟩))
   ·
    refine Runs.no c ?_
    by_cases c2 : W = 0
    ·
     have hlen : 0 < (M v).length := by
      rcases Nat.eq_zero_or_pos (M v).length with g | g
      ·
       have := (M_nil_iff v).1 g; omega
      ·
       exact g
     obtain ⟨_, hg⟩ := M_get v 0 hlen
     rw [Nat.pow_zero, Nat.div_one] at hg
     have hr := rd_get (M v) 0 hlen
     rw [hg] at hr
     have hr : rd (M v) 0 = ((v % 10000 : Nat) : Int) := hr
     refine Runs.yes c2 (Runs.yes (by omega) (j3 _ ?_))
     rw [hr]
     have e : Int.tmod ((v % 10000 : Nat) : Int) 2 = ((v % 2 : Nat) : Int) := by rw [Int.tmod_eq_emod_of_nonneg (by omega)]; omega
     rw [e]
     by_cases c3 : v % 2 = 1
     ·
      rw [decide_eq_true (pk.2 (.inr ⟨rfl, .inr ⟨c2, c3⟩⟩)), c3]; rfl
     ·
      rw [decide_eq_false (fun g => by
       rcases pk.1 g with g | g
       ·
        cases g
       ·
        rcases g.2 with g | g
        ·
         exact c g
        ·
         exact c3 g.2)]
      rw [beq_eq_false_iff_ne]; omega
    ·
     refine Runs.no c2 (j3 false ?_)
     symm; refine decide_eq_false (fun g => ?_)
     rcases pk.1 g with g | g
     ·
      cases g
     ·
      rcases g.2 with g | g
      ·
       exact c g
      ·
       exact c2 g.1
theorem dig_l0 (K A B J : Nat) (X : Int) (neg : Bool) (R : ByteArray × Int × Bool) (h0 : 0 < K) (hK : K < INF) (hB : 0 < B) (hAB : A < B) (hX0 : -5000 ≤ X) (hX1 : X ≤ 5000) (hJ : J ≤ 18) (hJ1 : 1 ≤ J) (hA1 : B ≤ A * 10)
  (hno : ∀ i : Nat, 1 ≤ i → i < J → ¬ DecNear (A * 10 ^ i / B) (X - i) K ∧ ¬ DecNear (A * 10 ^ i / B + 1) (X - i) K)
  (hyes : DecNear (A * 10 ^ J / B) (X - J) K ∨ DecNear (A * 10 ^ J / B + 1) (X - J) K)
  (hend : ∀ okA okB : Bool, (okA = true ↔ DecNear (A * 10 ^ J / B) (X - J) K) → (okB = true ↔ DecNear (A * 10 ^ J / B + 1) (X - J) K) →
   Runs (fun k => r_Digits.l1 k neg (mk (decs (A * 10 ^ J / B + pick okA okB (cmpN (2 * rungVal K * 10 ^ (-(X - J)).toNat) ((A * 10 ^ J / B + (A * 10 ^ J / B + 1)) * 10 ^ (X - J).toNat * 2 ^ 1074)) (A * 10 ^ J / B)))) ((X - J) + ((decs (A * 10 ^ J / B + pick okA okB (cmpN (2 * rungVal K * 10 ^ (-(X - J)).toNat) ((A * 10 ^ J / B + (A * 10 ^ J / B + 1)) * 10 ^ (X - J).toNat * 2 ^ 1074)) (A * 10 ^ J / B))).length : Int))) R) :
  ∀ (d n : Nat), n + d = J → 1 ≤ n → Runs (fun k => r_Digits.l0 k neg (K : Int) (fd 18 A B) X (M (A * 10 ^ (n - 1) / B)) (n : Int)) R := by
 have small : ∀ n, n ≤ 18 → A * 10 ^ n / B < 2 ^ 60 := by
  intro n hn
  refine Nat.div_lt_of_lt_mul ?_
  have h1 : (10 : Nat) ^ n ≤ 10 ^ 18 := Nat.pow_le_pow_right (by decide) hn
  have h2 : (10 : Nat) ^ 18 < 2 ^ 60 := by decide
  have h3 : A * 10 ^ n ≤ A * 10 ^ 18 := Nat.mul_le_mul_left _ h1
  have h4 : A * 10 ^ 18 < B * 10 ^ 18 := Nat.mul_lt_mul_of_pos_right hAB (by decide)
  have h5 : B * 10 ^ 18 ≤ B * 2 ^ 60 := Nat.mul_le_mul_left _ (by omega)
  omega
 have big : ∀ n, 1 ≤ n → 1 ≤ A * 10 ^ n / B := by
  intro n hn
  refine (Nat.le_div_iff_mul_le hB).2 ?_
  obtain ⟨i, rfl⟩ : ∃ i, n = i + 1 := ⟨n - 1, by omega⟩
  rw [Nat.one_mul, Nat.pow_succ, ← Nat.mul_assoc, Nat.mul_right_comm]
  exact Nat.le_trans hA1 (Nat.le_mul_of_pos_right _ (Nat.pow_pos (by decide)))
 have hfew : ∀ v, v < 2 ^ 62 → FewM v := fun v h => fewM_two h (by decide)
 intro d
 induction d with
 | zero =>
  intro n hn hn1
  have hnJ : n = J := by omega
  subst hnJ
  obtain ⟨i, rfl⟩ : ∃ i, n = i + 1 := ⟨n - 1, by omega⟩
  have hs := small (i + 1) hJ
  have hs0 := small i (by omega)
  have hb := big (i + 1) (by omega)
  have hk := k_succ A B i
  have hg : rd (fd 18 A B) (i : Int) = ((A * 10 ^ (i + 1) / B % 10 : Nat) : Int) := by
   have hl : i < (fd 18 A B).length := by rw [fd_len]; omega
   rw [rd_get _ i hl]
   have := fd_get B hB 18 i A (by omega) hAB
   rw [List.getElem?_eq_getElem hl] at this
   exact Option.some.inj this
  rw [Nat.add_sub_cancel]
  generalize A * 10 ^ (i + 1) / B = v at *
  have e62 : (2 : Nat) ^ 60 = 1152921504606846976 := by decide
  have e63 : (2 : Nat) ^ 62 = 4611686018427387904 := by decide
  have ht := rtimes_f (A * 10 ^ i / B) 10 (v % 10) (hfew _ (by omega)) (by decide) (by decide) (by omega)
  rw [hk] at ht
  have hpl := rplus_f v (hfew v (by omega))
  have hX : X - ((i + 1 : Nat) : Int) = X - (i : Int) - 1 := by omega
  obtain ⟨okA, a1, a2⟩ := reads_f K v (X - ((i + 1 : Nat) : Int)) 62 h0 hK (by omega) (by omega) (by omega) (by decide)
  obtain ⟨okB, b1, b2⟩ := reads_f K (v + 1) (X - ((i + 1 : Nat) : Int)) 62 h0 hK (by omega) (by omega) (by omega) (by decide)
  have hok : okA = true ∨ okB = true := by rw [a1, b1]; exact hyes
  have hnear := nearer_f K v (v + 1) (X - ((i + 1 : Nat) : Int)) 62 hK (by omega) (by omega) (hfew _ (by omega)) (hfew _ (by omega)) (by omega) (by decide)
  have he := dig_end K v (i + 1) (fd 18 A B) X (X - ((i + 1 : Nat) : Int)) okA okB neg _ R hok hb (by omega) rfl (by omega) (by omega) hnear (hend okA okB a1 b1)
  refine Runs.suc ?_
  simp only [r_Digits.l0]
  rw [fd_len, w64 (n := ((i + 1 : Nat) : Int) - 1) (by omega) (by omega), show ((i + 1 : Nat) : Int) - 1 = (i : Int) by omega, hg, w64 (n := X - ((i + 1 : Nat) : Int)) (by omega) (by omega)]
  refine Runs.yes (by omega) (Runs.yes (by omega) (Runs.yes (by omega) (Runs.bind ht (Runs.bind hpl (Runs.bind a2 (Runs.bind b2 ?_))))))
  cases okA with
  | true => exact Runs.yes rfl he
  | false =>
   have : okB = true := by rcases hok with g | g; cases g; exact g
   subst this
   exact Runs.no Bool.false_ne_true he
 | succ d ih =>
  intro n hn hn1
  obtain ⟨i, rfl⟩ : ∃ i, n = i + 1 := ⟨n - 1, by omega⟩
  have ih := ih (i + 2) (by omega) (by omega)
  obtain ⟨n1, n2⟩ := hno (i + 1) (by omega) (by omega)
  have hs := small (i + 1) (by omega)
  have hs0 := small i (by omega)
  have hk := k_succ A B i
  have hg : rd (fd 18 A B) (i : Int) = ((A * 10 ^ (i + 1) / B % 10 : Nat) : Int) := by
   have hl : i < (fd 18 A B).length := by rw [fd_len]; omega
   rw [rd_get _ i hl]
   have := fd_get B hB 18 i A (by omega) hAB
   rw [List.getElem?_eq_getElem hl] at this
   exact Option.some.inj this
  rw [show i + 2 - 1 = i + 1 by omega] at ih
  rw [Nat.add_sub_cancel]
  generalize A * 10 ^ (i + 1) / B = v at *
  have e62 : (2 : Nat) ^ 60 = 1152921504606846976 := by decide
  have e63 : (2 : Nat) ^ 62 = 4611686018427387904 := by decide
  have ht := rtimes_f (A * 10 ^ i / B) 10 (v % 10) (hfew _ (by omega)) (by decide) (by decide) (by omega)
  rw [hk] at ht
  have hpl := rplus_f v (hfew v (by omega))
  obtain ⟨okA, a1, a2⟩ := reads_f K v (X - ((i + 1 : Nat) : Int)) 62 h0 hK (by omega) (by omega) (by omega) (by decide)
  obtain ⟨okB, b1, b2⟩ := reads_f K (v + 1) (X - ((i + 1 : Nat) : Int)) 62 h0 hK (by omega) (by omega) (by omega) (by decide)
  have hA : okA = false := by
   cases okA with
   | false => rfl
   | true => exact absurd (a1.1 rfl) n1
  have hB2 : okB = false := by
   cases okB with
   | false => rfl
   | true => exact absurd (b1.1 rfl) n2
  subst hA hB2
  refine Runs.suc ?_
  simp only [r_Digits.l0]
  rw [fd_len, w64 (n := ((i + 1 : Nat) : Int) - 1) (by omega) (by omega), show ((i + 1 : Nat) : Int) - 1 = (i : Int) by omega, hg, w64 (n := X - ((i + 1 : Nat) : Int)) (by omega) (by omega)]
  refine Runs.yes (by omega) (Runs.yes (by omega) (Runs.yes (by omega) (Runs.bind ht (Runs.bind hpl (Runs.bind a2 (Runs.bind b2 (Runs.no Bool.false_ne_true (Runs.suc ?_))))))))
  simp only [r_Digits.j2]
  rw [w64 (n := ((i + 1 : Nat) : Int) + 1) (by omega) (by omega), show ((i + 1 : Nat) : Int) + 1 = ((i + 2 : Nat) : Int) by omega]
  exact Runs.yes rfl ih
end Go.Proofs.YtjlnfnfdibfniaaDoor.Pl
namespace Go.Proofs.YtjlnfnfdibfniaaDoor.Pl
open F Hd Go.RowKit Go.Proofs.YW.PWords Go.Proofs.YW.PMore
def expText (e : Int) : List UInt8 := 101 :: (if e < 0 then 45 else 43) :: ((if e.natAbs < 10 then [48] else []) ++ dec e.natAbs)
def sci (ds : List UInt8) (e : Int) : List UInt8 := ds.take 1 ++ (if 1 < ds.length then 46 :: ds.drop 1 else []) ++ expText e
def body (ds : List UInt8) (x : Int) : List UInt8 :=
 if x < -5 ∨ 21 < x then sci ds (x - 1)
 else if x ≤ 0 then [48, 46] ++ List.replicate (-x).toNat 48 ++ ds
 else if (ds.length : Int) ≤ x then ds ++ List.replicate (x - ds.length).toNat 48
 else ds.take x.toNat ++ [46] ++ ds.drop x.toNat
def sgnText (neg : Bool) : List UInt8 := if neg = true then [45] else []
theorem rep_f (n : Nat) (h : n ≤ 1000) : strings_Repeat.f (⟨#[48]⟩ : ByteArray) (n : Int) = some (mk (List.replicate n 48)) := by
 unfold strings_Repeat.f
 have hs : (⟨#[48]⟩ : ByteArray).size = 1 := rfl
 rw [hs, Int.toNat_natCast, if_pos (by omega)]
 congr 1
 refine bytes_ext ?_
 rw [mk_data]
 show (Lib.repeatL [48] n).toArray.toList = _
 rw [List.toList_toArray]
 induction n with
 | zero => rfl
 | succ n ih =>
  have ih := ih (by omega)
  rw [List.replicate_succ, ← ih]; rfl
theorem dec_text (n : Nat) (h : n ≤ 1000000) : num_IntText.f (n : Int) = some (mk (dec n)) := by
 unfold num_IntText.f
 rw [if_pos (by omega)]
 show some (intText (n : Int)) = _
 unfold intText
 rw [if_neg (by omega), Int.toNat_natCast]; rfl
theorem sci_f (ds : List UInt8) (e : Int) (h1 : 1 ≤ ds.length) (h2 : ds.length ≤ 1000) (e0 : -100000 ≤ e) (e1 : e ≤ 100000) : Runs (fun k => num_scientific.f k (mk ds) e) (mk (sci ds e)) := by
 have g1 : ∀ a b : List UInt8, mk a ++ mk b = mk (a ++ b) := mk_append
 have hdl : (dec e.natAbs).length ≤ 20 := dec_length _
 have j0 : ∀ l : List UInt8, l.length ≤ 2000 → Runs (fun k => num_scientific.j0 k e (mk l)) (mk (l ++ expText e)) := by
  intro l hl
  have q4 : ∀ l : List UInt8, mk l ++ (⟨#[101]⟩ : ByteArray) = mk (l ++ [101]) := fun l => g1 l [101]
  have q5 : ∀ l : List UInt8, mk l ++ (⟨#[45]⟩ : ByteArray) = mk (l ++ [45]) := fun l => g1 l [45]
  have q6 : ∀ l : List UInt8, mk l ++ (⟨#[43]⟩ : ByteArray) = mk (l ++ [43]) := fun l => g1 l [43]
  have q7 : ∀ l : List UInt8, mk l ++ (⟨#[48]⟩ : ByteArray) = mk (l ++ [48]) := fun l => g1 l [48]
  refine Runs.suc ?_
  simp only [num_scientific.j0]
  rw [mk_size, q4]
  refine Runs.yes (by omega) (Runs.bind (Runs.pure _) ?_)
  by_cases hn : e < 0
  ·
   refine Runs.yes hn (Runs.yes (by rw [mk_size]; simp; omega) ?_)
   rw [q5]
   refine Runs.bind (Runs.pure _) ?_
   rw [w64 (n := -e) (by omega) (by omega), show -e = (e.natAbs : Int) by omega, dec_text _ (by omega)]
   by_cases h10 : e.natAbs < 10
   ·
    refine Runs.yes (by omega) (Runs.yes (by rw [mk_size]; simp; omega) ?_)
    rw [q7]
    refine Runs.bind (Runs.pure _) (Runs.bind (Runs.pure _) (Runs.yes (by rw [mk_size, mk_size]; simp; omega) ((Runs.pure _).of ?_)))
    rw [g1]
    unfold expText
    rw [if_pos hn, if_pos h10]
    simp
   ·
    refine Runs.no (by omega) (Runs.bind (Runs.pure _) (Runs.yes (by rw [mk_size, mk_size]; simp; omega) ((Runs.pure _).of ?_)))
    rw [g1]
    unfold expText
    rw [if_pos hn, if_neg h10]
    simp
  ·
   refine Runs.no hn (Runs.yes (by rw [mk_size]; simp; omega) ?_)
   rw [q6]
   refine Runs.bind (Runs.pure _) ?_
   have he : e = (e.natAbs : Int) := by omega
   have hdt : num_IntText.f e = some (mk (dec e.natAbs)) := by
    have := dec_text e.natAbs (by omega)
    rwa [← he] at this
   rw [hdt]
   by_cases h10 : e.natAbs < 10
   ·
    refine Runs.yes (by omega) (Runs.yes (by rw [mk_size]; simp; omega) ?_)
    rw [q7]
    refine Runs.bind (Runs.pure _) (Runs.bind (Runs.pure _) (Runs.yes (by rw [mk_size, mk_size]; simp; omega) ((Runs.pure _).of ?_)))
    rw [g1]
    unfold expText
    rw [if_neg hn, if_pos h10]
    simp
   ·
    refine Runs.no (by omega) (Runs.bind (Runs.pure _) (Runs.yes (by rw [mk_size, mk_size]; simp; omega) ((Runs.pure _).of ?_)))
    rw [g1]
    unfold expText
    rw [if_neg hn, if_neg h10]
    simp
 simp only [num_scientific.f]
 rw [mk_size, mk_upto]
 refine Runs.yes (by decide) (Runs.yes (by omega) (Runs.bind (Runs.pure _) ?_))
 unfold sci
 by_cases hl : 1 < ds.length
 ·
  rw [if_pos hl, mk_from]
  refine Runs.yes (by omega) (Runs.bind (Runs.pure _) (Runs.yes (by rw [mk_size, List.length_drop]; omega) ?_))
  have q8 : (⟨#[46]⟩ : ByteArray) ++ mk (ds.drop 1) = mk (46 :: ds.drop 1) := g1 [46] _
  rw [q8]
  refine Runs.bind (Runs.pure _) (Runs.yes (by rw [mk_size, mk_size]; simp; omega) ?_)
  rw [g1]
  exact j0 _ (by simp; omega)
 ·
  rw [if_neg hl, List.append_nil]
  exact Runs.no (by omega) (j0 _ (by rw [List.length_take]; omega))
theorem text_j1 (ds : List UInt8) (x : Int) (neg : Bool) (h1 : 1 ≤ ds.length) (h2 : ds.length ≤ 100) (e0 : -20000 ≤ x) (e1 : x ≤ 20000) (b : Bool) (hb : b = decide (x < -5 ∨ 21 < x)) : Runs (fun k => num_Text.j1 k (mk ds) x (mk (sgnText neg)) b) (mk (sgnText neg ++ body ds x)) := by
 have g1 : ∀ a b : List UInt8, mk a ++ mk b = mk (a ++ b) := mk_append
 have hsl : (sgnText neg).length ≤ 1 := by unfold sgnText; split <;> simp
 have hscl : ∀ e, (sci ds e).length ≤ 300 := by
  intro e
  unfold sci expText
  have := dec_length e.natAbs
  have h3 : (dec e.natAbs).length ≤ 20 := this
  have h4 : (if e.natAbs < 10 then ([48] : List UInt8) else []).length ≤ 1 := by split <;> simp
  split <;> split <;> simp <;> omega
 refine Runs.suc ?_
 simp only [num_Text.j1]
 rw [hb]
 by_cases c1 : x < -5 ∨ 21 < x
 ·
  have hbd : body ds x = sci ds (x - 1) := by unfold body; rw [if_pos c1]
  rw [hbd, decide_eq_true c1, w64 (by omega) (by omega)]
  have := hscl (x - 1)
  refine Runs.yes rfl (Runs.bind (sci_f ds (x - 1) h1 (by omega) (by omega) (by omega)) (Runs.yes (by rw [mk_size, mk_size]; omega) ((Runs.pure _).of (g1 _ _))))
 ·
  rw [decide_eq_false c1]
  refine Runs.no Bool.false_ne_true ?_
  by_cases c2 : x ≤ 0
  ·
   have hbd : body ds x = [48, 46] ++ List.replicate (-x).toNat 48 ++ ds := by unfold body; rw [if_neg c1, if_pos c2]
   obtain ⟨n, hn⟩ : ∃ n : Nat, (n : Int) = -x := ⟨(-x).toNat, by omega⟩
   rw [hbd, w64 (n := -x) (by omega) (by omega), ← hn, rep_f n (by omega), Int.toNat_natCast]
   have q1 : mk (sgnText neg) ++ (⟨#[48, 46]⟩ : ByteArray) = mk (sgnText neg ++ [48, 46]) := g1 _ [48, 46]
   rw [q1]
   refine Runs.yes c2 (Runs.yes (by rw [mk_size]; omega) (Runs.bind (Runs.pure _) (Runs.bind (Runs.pure _) ?_)))
   rw [g1]
   refine Runs.yes (by rw [mk_size, mk_size]; simp; omega) (Runs.bind (Runs.pure _) (Runs.yes (by rw [mk_size, mk_size]; simp; omega) ((Runs.pure _).of ?_)))
   rw [g1]
   simp
  ·
   rw [mk_size ds]
   refine Runs.no c2 ?_
   by_cases c3 : (ds.length : Int) ≤ x
   ·
    have hbd : body ds x = ds ++ List.replicate (x - ds.length).toNat 48 := by unfold body; rw [if_neg c1, if_neg c2, if_pos c3]
    obtain ⟨n, hn⟩ : ∃ n : Nat, (n : Int) = x - ds.length := ⟨(x - ds.length).toNat, by omega⟩
    rw [hbd, w64 (n := x - ds.length) (by omega) (by omega), ← hn, rep_f n (by omega), Int.toNat_natCast, g1]
    refine Runs.yes c3 (Runs.yes (by rw [mk_size]; omega) (Runs.bind (Runs.pure _) (Runs.bind (Runs.pure _) (Runs.yes (by rw [mk_size, mk_size]; simp; omega) ((Runs.pure _).of ?_)))))
    rw [g1]
    simp
   ·
    have hbd : body ds x = ds.take x.toNat ++ [46] ++ ds.drop x.toNat := by unfold body; rw [if_neg c1, if_neg c2, if_neg c3]
    rw [hbd, mk_upto, mk_from]
    refine Runs.no c3 (Runs.yes (by omega) (Runs.yes (by omega) (Runs.bind (Runs.pure _) ?_)))
    have q2 : ∀ l : List UInt8, mk l ++ (⟨#[46]⟩ : ByteArray) = mk (l ++ [46]) := fun l => g1 l [46]
    refine Runs.yes (by rw [mk_size, mk_size, List.length_take]; omega) (Runs.bind (Runs.pure _) ?_)
    rw [g1]
    refine Runs.yes (by rw [mk_size, List.length_append, List.length_take]; omega) (Runs.bind (Runs.pure _) ?_)
    rw [q2]
    refine Runs.bind (Runs.pure _) (Runs.yes (by rw [mk_size, mk_size, List.length_append, List.length_append, List.length_take, List.length_drop]; simp; omega) ((Runs.pure _).of ?_))
    rw [g1]
    simp
end Go.Proofs.YtjlnfnfdibfniaaDoor.Pl
namespace Go.Proofs.YtjlnfnfdibfniaaDoor.Pl
open F Hd Go.RowKit Go.Proofs.YW.PWords Go.Proofs.YW.PMore
theorem not_num (K : Nat) (neg : Bool) (h : INF < K) (hK : K < 9223372036854775808) : ¬ isNum (K + signBit neg) := by
 have hI : INF = 9218868437227405312 := rfl
 unfold isNum signBit
 have e63 : (2 : Nat) ^ 63 = 9223372036854775808 := by decide
 have e52 : 2047 * (2 : Nat) ^ 52 = 9218868437227405312 := by decide
 rw [e63, e52]
 cases neg with
 | true => rw [if_pos rfl]; omega
 | false => rw [if_neg Bool.false_ne_true]; omega
theorem nan_is {x : Nat} (h : ¬ isNum x) : math_IsNaN.f x = some true := by
 unfold math_IsNaN.f
 have : (FloatKind.f64.format.order x x == some Ordering.eq) = false := by
  rw [Bool.eq_false_iff]
  intro g
  exact h (eq_iff.1 g).1
 rw [bne, this]; rfl
theorem self_eq {x : Nat} (h : isNum x) : (FloatKind.f64.format.order x x == some Ordering.eq) = true := eq_iff.2 ⟨h, h, rfl⟩
theorem self_ne {x : Nat} (h : ¬ isNum x) : (FloatKind.f64.format.order x x == some Ordering.eq) = false := by
 rw [Bool.eq_false_iff]
 intro g
 exact h (eq_iff.1 g).1
theorem digits_none (K : Nat) (neg : Bool) (h : K = 0 ∨ INF ≤ K) (hK : K < 9223372036854775808) : Runs (fun k => num_Digits.f k (K + signBit neg)) (mk [], 0, neg) := by
 have hI : INF = 9218868437227405312 := rfl
 have j0 : ∀ b : Bool, b = true → Runs (fun k => num_Digits.j0 k (K + signBit neg) neg b) (mk [], 0, neg) := by
  intro b hb
  refine Runs.suc ?_
  simp only [num_Digits.j0]
  exact Runs.yes hb (Runs.pure _)
 simp only [num_Digits.f]
 rw [signbit_f K neg hK]
 refine Runs.bind (Runs.pure _) ?_
 by_cases c : (FloatKind.f64.format.order (K + signBit neg) 0 == some Ordering.eq) = true
 ·
  exact Runs.yes c (j0 true rfl)
 ·
  refine Runs.no c ?_
  have hK0 : INF ≤ K := by
   rcases h with h | h
   ·
    exfalso
    apply c
    have h2 : srung (K + signBit neg) = 0 := by
     rw [srung_sign K neg hK, h]
     split <;> rfl
    have hz : isNum 0 := by unfold isNum; omega
    exact eq_iff.2 ⟨isNum_sign K neg (by omega), hz, h2⟩
   ·
    exact h
  by_cases hi : K = INF
  ·
   subst hi
   rw [nan_no (isNum_sign INF neg (Nat.le_refl _))]
   refine Runs.bind (Runs.pure _) (Runs.no Bool.false_ne_true ?_)
   have hinf : math_IsInf.f (INF + signBit neg) 0 = some true := by
    unfold math_IsInf.f
    rw [if_pos rfl, abs_f INF neg (by omega), Option.bind_some]
    congr 1
   rw [hinf]
   exact Runs.bind (Runs.pure _) (j0 true rfl)
  ·
   rw [nan_is (not_num K neg (by omega) hK)]
   exact Runs.bind (Runs.pure _) (Runs.yes rfl (j0 true rfl))
theorem gt_no (K : Nat) (neg : Bool) (hK : K < INF) : (FloatKind.f64.format.order (K + signBit neg) 9218868437227405311 == some Ordering.gt) = false := by
 have hI : INF = 9218868437227405312 := rfl
 rw [Bool.eq_false_iff]
 intro g
 obtain ⟨_, _, h3⟩ := gt_iff.1 g
 have h0 : srung 9218868437227405311 = 9218868437227405311 := rfl
 rw [h0, srung_sign K neg (by omega)] at h3
 split at h3 <;> omega
theorem lt_no (K : Nat) (neg : Bool) (hK : K < INF) : (FloatKind.f64.format.order (K + signBit neg) 18442240474082181119 == some Ordering.lt) = false := by
 have hI : INF = 9218868437227405312 := rfl
 rw [Bool.eq_false_iff]
 intro g
 obtain ⟨_, _, h3⟩ := lt_iff.1 g
 have h0 : srung 18442240474082181119 = -9218868437227405311 := rfl
 rw [h0, srung_sign K neg (by omega)] at h3
 split at h3 <;> omega
theorem text_open (X : Nat) (ds : List UInt8) (x : Int) (neg : Bool) (R : ByteArray) (hd : Runs (fun k => num_Digits.f k X) (mk ds, x, neg)) (h : Runs (fun k => num_Text.j0 k X (mk ds) x (mk (sgnText neg))) R) : Runs (fun k => num_Text.f k X) R := by
 simp only [num_Text.f]
 refine Runs.bind hd ?_
 cases neg with
 | true => exact Runs.yes rfl h
 | false => exact Runs.no Bool.false_ne_true h
theorem text_num (K : Nat) (neg : Bool) (h0 : 0 < K) (hK : K < INF) : ∃ ds x, Short K ds x ∧ Runs (fun k => num_Digits.f k (K + signBit neg)) (mk ds, x, neg) ∧ Runs (fun k => num_Text.f k (K + signBit neg)) (mk (sgnText neg ++ body ds x)) := by
 obtain ⟨ds, x, hs, hd⟩ := short_num K neg h0 hK
 refine ⟨ds, x, hs, hd, text_open _ ds x neg _ hd (Runs.suc ?_)⟩
 simp only [num_Text.j0]
 rw [nan_no (isNum_sign K neg (by omega)), gt_no K neg hK, lt_no K neg hK, zero_no K neg h0 (by omega)]
 have hl := hs.lo
 have hh := hs.hi
 have hn := hs.len
 refine Runs.bind (Runs.pure _) (Runs.no Bool.false_ne_true (Runs.no Bool.false_ne_true (Runs.no Bool.false_ne_true (Runs.no Bool.false_ne_true ?_))))
 by_cases c : x < -5
 ·
  refine Runs.yes c (text_j1 ds x neg hs.pos (by omega) (by omega) (by omega) true ?_)
  symm; exact decide_eq_true (.inl c)
 ·
  refine Runs.no c (text_j1 ds x neg hs.pos (by omega) (by omega) (by omega) _ ?_)
  exact decide_eq_decide.2 ⟨fun h => .inr h, fun h => h.resolve_left c⟩
theorem text_zero (neg : Bool) : Runs (fun k => num_Text.f k (0 + signBit neg)) (mk (sgnText neg ++ [48])) := by
 have hI : INF = 9218868437227405312 := rfl
 refine text_open _ [] 0 neg _ (digits_none 0 neg (.inl rfl) (by decide)) (Runs.suc ?_)
 simp only [num_Text.j0]
 have hz : (FloatKind.f64.format.order (0 + signBit neg) 0 == some Ordering.eq) = true := by
  have h2 : srung (0 + signBit neg) = 0 := by
   rw [srung_sign 0 neg (by decide)]
   split <;> rfl
  have hz : isNum 0 := by unfold isNum; omega
  exact eq_iff.2 ⟨isNum_sign 0 neg (by omega), hz, h2⟩
 rw [nan_no (isNum_sign 0 neg (by omega)), gt_no 0 neg (by omega), lt_no 0 neg (by omega), hz]
 have hsl : (sgnText neg).length ≤ 1 := by unfold sgnText; split <;> simp
 refine Runs.bind (Runs.pure _) (Runs.no Bool.false_ne_true (Runs.no Bool.false_ne_true (Runs.no Bool.false_ne_true (Runs.yes rfl ?_))))
 exact Runs.yes (by rw [mk_size]; omega) ((Runs.pure _).of (mk_append _ [48]))
theorem text_inf (neg : Bool) : Runs (fun k => num_Text.f k (INF + signBit neg)) (mk ((if neg = true then 45 else 43) :: [73, 110, 102])) := by
 have hI : INF = 9218868437227405312 := rfl
 refine text_open _ [] 0 neg _ (digits_none INF neg (.inr (Nat.le_refl _)) (by decide)) (Runs.suc ?_)
 simp only [num_Text.j0]
 rw [nan_no (isNum_sign INF neg (Nat.le_refl _))]
 refine Runs.bind (Runs.pure _) (Runs.no Bool.false_ne_true ?_)
 cases neg with
 | true =>
  have h1 : (FloatKind.f64.format.order (INF + signBit true) 9218868437227405311 == some Ordering.gt) = false := by decide +kernel
  have h2 : (FloatKind.f64.format.order (INF + signBit true) 18442240474082181119 == some Ordering.lt) = true := by decide +kernel
  rw [h1, h2]
  exact Runs.no Bool.false_ne_true (Runs.yes rfl (Runs.pure _))
 | false =>
  have h1 : (FloatKind.f64.format.order (INF + signBit false) 9218868437227405311 == some Ordering.gt) = true := by decide +kernel
  rw [h1]
  exact Runs.yes rfl (Runs.pure _)
theorem text_nan (K : Nat) (neg : Bool) (h : INF < K) (hK : K < 9223372036854775808) : Runs (fun k => num_Text.f k (K + signBit neg)) (mk [78, 97, 78]) := by
 refine text_open _ [] 0 neg _ (digits_none K neg (.inr (by omega)) hK) (Runs.suc ?_)
 simp only [num_Text.j0]
 rw [nan_is (not_num K neg h hK)]
 exact Runs.bind (Runs.pure _) (Runs.yes rfl (Runs.pure _))
end Go.Proofs.YtjlnfnfdibfniaaDoor.Pl
namespace Go.Proofs.YtjlnfnfdibfniaaDoor.Pl
open F Hd Go.RowKit Go.Proofs.YW.PWords Go.Proofs.YW.PMore
theorem frac_mul {c A B : Nat} (hc : 0 < c) (i : Nat) : c * A * 10 ^ i / (c * B) = A * 10 ^ i / B := by
 rw [Nat.mul_assoc, Nat.mul_div_mul_left _ _ hc]
theorem pick_adj {K : Nat} {ev : Bool} {J p q r s b a : Nat} (h : DigAt K ev J p q r s b a) (h0 : 0 < K) (okA okB : Bool) (hA : okA = true ↔ RdK K ev J (r * 10 ^ J / s) r s b a) (hB : okB = true ↔ RdK K ev J (r * 10 ^ J / s + 1) r s b a) :
  pick okA okB (cmpN (2 * (r * 10 ^ J)) ((r * 10 ^ J / s + (r * 10 ^ J / s + 1)) * s)) (r * 10 ^ J / s) = adj r s b a J ev := by
 rw [← dn_iff h0 h.sc.ha] at hA
 rw [← up_iff h0 h.sc.hs] at hB
 have eA : okA = dn r s b J ev := Bool.eq_iff_iff.2 hA
 have eB : okB = up r s a J ev := Bool.eq_iff_iff.2 hB
 have hy := h.yes
 unfold adj pick adjB
 rw [← eA, ← eB] at *
 have hq := quo_rem r s J
 have e1 : (r * 10 ^ J / s + (r * 10 ^ J / s + 1)) * s = 2 * (r * 10 ^ J / s * s) + s := by
  generalize r * 10 ^ J / s = k; grind
 rw [e1]
 generalize r * 10 ^ J / s * s = u at *
 generalize r * 10 ^ J / s = k at *
 generalize rem r s J = v at *
 rw [← hq]
 have c3 := cmpN_cases2 (2 * (u + v)) (2 * u + s)
 generalize cmpN (2 * (u + v)) (2 * u + s) = W at *
 by_cases d1 : s < 2 * v
 ·
  have : 0 < W := by omega
  cases okA <;> cases okB <;> simp [d1, this] at hy ⊢
 ·
  by_cases d2 : s = 2 * v
  ·
   have hW : W = 0 := by omega
   subst hW
   by_cases d3 : k % 2 = 1
   ·
    cases okA <;> cases okB <;> simp [d2, d3] at hy ⊢
   ·
    cases okA <;> cases okB <;> simp [d2, d3] at hy ⊢
  ·
   have h1 : ¬ 0 < W := by omega
   have h2 : ¬ W = 0 := by omega
   cases okA <;> cases okB <;> simp [d1, d2, h1, h2] at hy ⊢
theorem digits_ref (K : Nat) (neg : Bool) (h0 : 0 < K) (hK : K < INF) (R : ByteArray × Int × Bool) (hR : Runs (fun k => num_Digits.f k (K + signBit neg)) R) : Runs (fun k => r_Digits.j0 k neg (K : Int) false) R := by
 obtain ⟨J, p, q, r, s, b, a, h, hp, hq, hrun⟩ := digits_num K neg h0 hK
 have hRe : R = (strOfNums (ints (dg J r s (adj r s b a J (decide (K % 2 = 0))))), (q : Int) - p, neg) := by
  obtain ⟨k1, g1⟩ := hR
  obtain ⟨k2, g2⟩ := hrun
  have e1 := g1 (k1 + k2) (by omega)
  have e2 := g2 (k1 + k2) (by omega)
  exact Option.some.inj (e1.symm.trans e2)
 obtain ⟨m, E, X, x1, x2, x3, g1, g2, g3, g4, hlt, hex⟩ := expansion_f K h0 hK
 obtain ⟨c, b', a', hc, hsc⟩ := sc_at K m E X h0 x1 x2 x3
 have hB0 : 0 < exB ((E : Int) - 1074) X := by omega
 have hX : X = (X.toNat : Int) - (-X).toNat := by omega
 refine Runs.suc ?_
 simp only [r_Digits.j0]
 refine Runs.no Bool.false_ne_true (Runs.bind hex ?_)
 generalize exA m ((E : Int) - 1074) X = A at *
 generalize exB ((E : Int) - 1074) X = B at *
 have hcB : 0 < c * B := Nat.mul_pos hc hB0
 have hs := h.sc.hs
 have hA1 : B ≤ A * 10 := by
  have := (hsc.ge 1 (X - 1) (by omega)).1 g1
  rw [Nat.pow_one, Nat.mul_assoc] at this
  exact Nat.le_of_mul_le_mul_left this hc
 rw [hRe, str_ints]
 by_cases hf : r * 10 / s = 0
 ·
  obtain ⟨rfl, hu, s1, s2⟩ := h.step h0 hK hf
  have hXq : X = (q : Int) - p - 1 := by
   refine X_unique g1 g2 ((h.sc.ge 2 _ (by omega)).2 ?_) (fun g => ?_)
   ·
    have : (10 : Nat) ^ 2 = 100 := by decide
    rw [this]; omega
   ·
    have := (h.sc.ge 1 _ (by omega)).1 g
    rw [Nat.pow_one] at this; omega
  have sc2 := h.sc.less
  have hsame := hsc.same sc2 (by omega)
  have hk : A * 10 ^ 1 / B = 9 := by
   rw [← frac_mul (A := A) hc 1, frac_eq hsame hcB hs 1, Nat.pow_one]
   refine Nat.div_eq_of_lt_le ?_ ?_ <;> omega
  have hr : DecNear 10 (X - (1 : Nat)) K := by
   have h1 := (up_iff (b := b) h0 hs).1 hu
   have e0 : r * 10 ^ 1 / s = 0 := by rw [Nat.pow_one]; exact hf
   rw [e0] at h1
   have h2 := (dec_iff sc2 h0 hK 1 10 _ rfl).2 (by
    unfold RdK at h1 ⊢
    simp only [Nat.pow_one, Nat.zero_add, Nat.one_mul] at h1 ⊢
    obtain ⟨t1, t2, t3⟩ := h1
    refine ⟨?_, ?_, t3⟩
    ·
     rcases t1 with t | ⟨t, t'⟩
     ·
      exact .inl (by omega)
     ·
      exact .inr ⟨by omega, t'⟩
    ·
     rcases t2 with t | ⟨t, t'⟩
     ·
      exact .inl (by omega)
     ·
      exact .inr ⟨by omega, t'⟩)
   have e : (q : Int) - ((p + 1 : Nat) : Int) - (1 : Nat) = X - (1 : Nat) := by omega
   rw [e] at h2
   exact h2
  have hW := sc2.half 1 (X - (1 : Nat)) (by omega) 19
  have hW1 : cmpN (2 * (r * 10 * 10 ^ 1)) (19 * s) = 1 := by
   rcases cmpN_cases2 (2 * (r * 10 * 10 ^ 1)) (19 * s) with ⟨t1, t2⟩ | ⟨t1, t2⟩ | ⟨t1, t2⟩
   ·
    omega
   ·
    omega
   ·
    exact t2
  have hadj : adj r s b a 1 (decide (K % 2 = 0)) = 1 := by
   unfold adj adjB
   have e : rem r s 1 = r * 10 := by unfold rem; rw [Nat.pow_one, Nat.mod_eq_of_lt (by omega)]
   rw [hu, e, decide_eq_true (show s < 2 * (r * 10) by omega)]
   simp
  have hres : byt (dg 1 r s (adj r s b a 1 (decide (K % 2 = 0)))) = [49] := by
   rw [hadj]
   show byt [r * 10 / s + 1] = [49]
   rw [hf]; rfl
  rw [hres]
  have l := dig_l0 K A B 1 X neg (mk [49], (q : Int) - p, neg) h0 hK hB0 hlt g3 g4 (by decide) (by decide) hA1 (fun i i1 i2 => by omega) (.inr (by rw [hk]; exact hr)) (by
   intro okA okB _ hB
   rw [hk] at hB ⊢
   have hBt : okB = true := hB.2 hr
   have hp : pick okA okB (cmpN (2 * rungVal K * 10 ^ (-(X - (1 : Nat))).toNat) ((9 + (9 + 1)) * 10 ^ (X - (1 : Nat)).toNat * 2 ^ 1074)) 9 = 1 := by
    unfold pick
    refine if_pos (.inr ⟨hBt, .inl ?_⟩)
    rw [show 9 + (9 + 1) = 19 from rfl, hW, hW1]; decide
   rw [hp, show 9 + 1 = 10 from rfl, decs_ten]
   have e : X - (1 : Nat) + ((([49, 48] : List UInt8).length : Nat) : Int) = (q : Int) - p := by
    show X - ((1 : Nat) : Int) + ((2 : Nat) : Int) = _
    omega
   rw [e]
   exact cut_step [49] _ neg _ (by decide) (by decide) (cut_stop [] 49 _ neg (by decide) (.inl rfl))) 0 1 rfl (by decide)
  have e0 : A * 10 ^ (1 - 1) / B = 0 := by
   rw [Nat.sub_self, Nat.pow_zero, Nat.mul_one]; exact Nat.div_eq_of_lt hlt
  rw [e0, M_zero] at l
  exact l
 ·
  have hXq := h.X hf X g1 g2
  have hJ := h.short hK
  have hJ1 := h.pos
  have hsame := hsc.same h.sc (by omega)
  have hk : ∀ i, A * 10 ^ i / B = r * 10 ^ i / s := fun i => by rw [← frac_mul (A := A) hc i, frac_eq hsame hcB hs i]
  have hd : ∀ i N : Nat, DecNear N (X - (i : Int)) K ↔ RdK K (decide (K % 2 = 0)) i N r s b a := by
   intro i N
   have := dec_iff h.sc h0 hK i N _ rfl
   rw [← hXq] at this
   exact this
  have hdec := dg_decs s (adj r s b a J (decide (K % 2 = 0))) J r hs hJ1 h.lt (h.carry h0) (.inl hf)
  have l := dig_l0 K A B J X neg (mk (byt (dg J r s (adj r s b a J (decide (K % 2 = 0))))), (q : Int) - p, neg) h0 hK hB0 hlt g3 g4 hJ hJ1 hA1 (fun i i1 i2 => by
    rw [hk i, hd, hd]
    exact h.none h0 i i1 i2) (by
    rw [hk J, hd, hd, ← dn_iff h0 h.sc.ha, ← up_iff h0 hs]
    exact h.yes) (by
    intro okA okB hA hB
    rw [hk J] at hA hB ⊢
    rw [hd] at hA hB
    rw [h.sc.half J (X - (J : Int)) (by omega), pick_adj h h0 okA okB hA hB, hdec]
    have hl : (byt (dg J r s (adj r s b a J (decide (K % 2 = 0))))).length = J := by rw [byt_len, dg_len]
    rw [hl, show X - (J : Int) + (J : Int) = (q : Int) - p by omega]
    rcases Nat.eq_zero_or_pos (J - 1) with c1 | c1
    ·
     have c2 : J = 1 := by omega
     subst c2
     obtain ⟨z, hz⟩ : ∃ z, byt (dg 1 r s (adj r s b a 1 (decide (K % 2 = 0)))) = [z] := ⟨_, rfl⟩
     rw [hz]
     exact cut_stop [] z _ neg (by decide) (.inl rfl)
    ·
     have hlast := h.last h0 (by omega)
     rw [← hdec] at hl ⊢
     generalize r * 10 ^ J / s + adj r s b a J (decide (K % 2 = 0)) = N at *
     have e := decs_snoc (N / 10) (N % 10) (by omega) (.inr (by omega))
     rw [show 10 * (N / 10) + N % 10 = N by omega] at e
     have hl2 := congrArg List.length e
     rw [List.length_append, List.length_singleton, hl] at hl2
     rw [e]
     refine cut_stop _ _ _ neg (by omega) (.inr (fun g => ?_))
     have := dig_of (N % 10) (by omega)
     rw [g] at this
     have e48 : (48 : UInt8).toNat = 48 := rfl
     omega) (J - 1) 1 (by omega) (by decide)
  have e0 : A * 10 ^ (1 - 1) / B = 0 := by
   rw [Nat.sub_self, Nat.pow_zero, Nat.mul_one]; exact Nat.div_eq_of_lt hlt
  rw [e0, M_zero] at l
  exact l
end Go.Proofs.YtjlnfnfdibfniaaDoor.Pl
namespace Go.Proofs.YtjlnfnfdibfniaaDoor.Pl
open F Hd Go.RowKit Go.Proofs.YW.PWords Go.Proofs.YW.PMore
end Go.Proofs.YtjlnfnfdibfniaaDoor.Pl
namespace Go.Proofs.YtjlnfnfdibfniaaDoor.Pl
theorem wakes : F.w_wakes.f 400 = some true := by kernel_rfl
end Go.Proofs.YtjlnfnfdibfniaaDoor.Pl
namespace Go.Proofs.YtjlnfnfdibfniaaDoor.Pl
open F Hd Go.RowKit Go.Proofs.YW.PWords Go.Proofs.YW.PMore
theorem wakes_runs : Runs (fun k => F.w_wakes.f k) true := by
 refine ⟨400, fun k hk => ?_⟩
 obtain ⟨d, rfl⟩ : ∃ d, k = 400 + d := ⟨k - 400, by omega⟩
 induction d with
 | zero => exact wakes
 | succ d ih => exact F.w_wakes.mono _ _ (ih (by omega))
end Go.Proofs.YtjlnfnfdibfniaaDoor.Pl
namespace Go.Proofs.YtjlnfnfdibfniaaDoor.Pl
open F Hd Go.RowKit Go.Proofs.YW.PWords Go.Proofs.YW.PMore
theorem andNot_sign (K : Nat) (neg : Bool) (hK : K < 9223372036854775808) : Go.bits .andNot .u64 ((K + signBit neg : Nat) : Int) 9223372036854775808 = (K : Int) := by
 have hlt : K + signBit neg < 18446744073709551616 := by unfold signBit; split <;> omega
 have h := u64_andNot_nat (K + signBit neg) 9223372036854775808 hlt (by decide)
 have e : ((9223372036854775808 : Nat) : Int) = 9223372036854775808 := rfl
 rw [e] at h
 rw [h]
 have e2 : (18446744073709551615 - 9223372036854775808 : Nat) = 2 ^ 63 - 1 := by decide
 rw [e2, Nat.and_two_pow_sub_one_eq_mod]
 congr 1
 unfold signBit
 have e63 : (2 : Nat) ^ 63 = 9223372036854775808 := by decide
 rw [e63]
 split <;> omega
theorem top_sign (K : Nat) (neg : Bool) (hK : K < 9223372036854775808) : ((((K + signBit neg : Nat) : Int) / 9223372036854775808) == 1) = neg := by
 unfold signBit
 cases neg with
 | true => rw [if_pos rfl, beq_iff_eq]; omega
 | false => rw [if_neg Bool.false_ne_true, beq_eq_false_iff_ne]; omega
theorem rdigits_num (K : Nat) (neg : Bool) (h0 : 0 < K) (hK : K < INF) (R : ByteArray × Int × Bool) (hR : Runs (fun k => num_Digits.f k (K + signBit neg)) R) : Runs (fun k => r_Digits.f k (K + signBit neg)) R := by
 have hI : INF = 9218868437227405312 := rfl
 have h := digits_ref K neg h0 hK R hR
 simp only [r_Digits.f]
 rw [andNot_sign K neg (by omega), top_sign K neg (by omega), decide_eq_false (show ¬ (K : Int) ≥ 9218868437227405312 by omega)]
 exact Runs.no (by omega) h
theorem rdigits_none (K : Nat) (neg : Bool) (h : K = 0 ∨ INF ≤ K) (hK : K < 9223372036854775808) : Runs (fun k => r_Digits.f k (K + signBit neg)) (mk [], 0, neg) := by
 have hI : INF = 9218868437227405312 := rfl
 have j0 : Runs (fun k => r_Digits.j0 k neg (K : Int) true) (mk [], 0, neg) := by
  refine Runs.suc ?_
  simp only [r_Digits.j0]
  exact Runs.yes trivial (Runs.pure _)
 simp only [r_Digits.f]
 rw [andNot_sign K neg hK, top_sign K neg hK]
 by_cases c : K = 0
 ·
  exact Runs.yes (by omega) j0
 ·
  rw [decide_eq_true (show (K : Int) ≥ 9218868437227405312 by omega)]
  exact Runs.no (by omega) j0
theorem zeros_f (n : Nat) (hn : n ≤ 30000) : Runs (fun k => r_zeros.f k (n : Int)) (mk (List.replicate n 48)) := by
 have loop : ∀ (d i : Nat), i + d = n → Runs (fun k => r_zeros.l0 k (n : Int) (mk (List.replicate i 48)) (i : Int)) (mk (List.replicate n 48)) := by
  intro d
  induction d with
  | zero =>
   intro i hi
   obtain rfl : i = n := by omega
   refine Runs.suc ?_
   simp only [r_zeros.l0]
   exact Runs.no (by omega) (Runs.pure _)
  | succ d ih =>
   intro i hi
   have ih := ih (i + 1) (by omega)
   refine Runs.suc ?_
   simp only [r_zeros.l0]
   have q : mk (List.replicate i 48) ++ (⟨#[48]⟩ : ByteArray) = mk (List.replicate (i + 1) 48) := by
    rw [List.replicate_succ']; exact mk_append _ [48]
   rw [q, w64 (by omega) (by omega), mk_size, List.length_replicate]
   exact Runs.yes (by omega) (Runs.yes (by omega) ih)
 exact loop n 0 (by omega)
theorem dec_two (n : Nat) (h : n < 1000000) : (dec n).length < 2 ↔ n < 10 := by
 constructor
 ·
  intro g
  rcases Nat.lt_or_ge n 10 with c | c
  ·
   exact c
  ·
   exfalso
   rw [dec_step n (by omega), List.length_append, List.length_singleton] at g
   unfold dec0 at g
   rw [if_neg (by omega)] at g
   have := (dec_spec (n / 10) (by omega)).2.2.1
   cases hz : dec (n / 10) with
   | nil => exact this hz
   | cons a l => rw [hz, List.length_cons] at g; omega
 ·
  intro g
  have := decF_short 20 n 0 (by omega)
  exact Nat.lt_succ_of_le this
theorem rtext_j2 (x : Int) (l : List UInt8) (hl : l.length ≤ 1000) (e0 : -10000 ≤ x) (e1 : x ≤ 10000) : Runs (fun k => r_Text.j2 k x (mk l)) (mk (l ++ expText (x - 1))) := by
 have g1 : ∀ a b : List UInt8, mk a ++ mk b = mk (a ++ b) := mk_append
 have hdl : (dec (x - 1).natAbs).length ≤ 20 := dec_length _
 have hd2 := dec_two (x - 1).natAbs (by omega)
 have hp := plain_runs (x - 1).natAbs (by omega)
 refine Runs.suc ?_
 simp only [r_Text.j2]
 have q0 : ∀ l : List UInt8, (⟨#[48]⟩ : ByteArray) ++ mk l = mk (48 :: l) := fun l => g1 [48] l
 have q1 : ∀ l : List UInt8, mk l ++ (⟨#[101]⟩ : ByteArray) = mk (l ++ [101]) := fun l => g1 l [101]
 have q2 : ∀ l : List UInt8, mk l ++ (⟨#[45]⟩ : ByteArray) = mk (l ++ [45]) := fun l => g1 l [45]
 have q3 : ∀ l : List UInt8, mk l ++ (⟨#[43]⟩ : ByteArray) = mk (l ++ [43]) := fun l => g1 l [43]
 rw [w64 (n := x - 1) (by omega) (by omega), w64 (n := -(x - 1)) (by omega) (by omega)]
 by_cases c : x - 1 < 0
 ·
  rw [show -(x - 1) = ((x - 1).natAbs : Int) by omega]
  refine Runs.yes c (Runs.bind hp ?_)
  rw [mk_size, mk_size, q0, q1]
  by_cases c2 : (x - 1).natAbs < 10
  ·
   refine Runs.yes (by omega) (Runs.yes (by omega) (Runs.bind (Runs.pure _) (Runs.yes (by omega) (Runs.bind (Runs.pure _) ?_))))
   rw [q2, mk_size]
   refine Runs.yes (by rw [List.length_append, List.length_singleton]; omega) (Runs.bind (Runs.pure _) ?_)
   rw [mk_size, mk_size]
   refine Runs.yes (by simp; omega) ((Runs.pure _).of ?_)
   rw [g1]
   unfold expText
   rw [if_pos c, if_pos c2]
   simp
  ·
   refine Runs.no (by omega) (Runs.yes (by omega) (Runs.bind (Runs.pure _) ?_))
   rw [q2, mk_size]
   refine Runs.yes (by rw [List.length_append, List.length_singleton]; omega) (Runs.bind (Runs.pure _) ?_)
   rw [mk_size]
   refine Runs.yes (by simp; omega) ((Runs.pure _).of ?_)
   rw [g1]
   unfold expText
   rw [if_pos c, if_neg c2]
   simp
 ·
  have hx : x - 1 = ((x - 1).natAbs : Int) := by omega
  rw [← hx] at hp
  refine Runs.no c (Runs.bind hp ?_)
  rw [mk_size, mk_size, q0, q1]
  by_cases c2 : (x - 1).natAbs < 10
  ·
   refine Runs.yes (by omega) (Runs.yes (by omega) (Runs.bind (Runs.pure _) (Runs.yes (by omega) (Runs.bind (Runs.pure _) ?_))))
   rw [q3, mk_size]
   refine Runs.yes (by rw [List.length_append, List.length_singleton]; omega) (Runs.bind (Runs.pure _) ?_)
   rw [mk_size, mk_size]
   refine Runs.yes (by simp; omega) ((Runs.pure _).of ?_)
   rw [g1]
   unfold expText
   rw [if_neg c, if_pos c2]
   simp
  ·
   refine Runs.no (by omega) (Runs.yes (by omega) (Runs.bind (Runs.pure _) ?_))
   rw [q3, mk_size]
   refine Runs.yes (by rw [List.length_append, List.length_singleton]; omega) (Runs.bind (Runs.pure _) ?_)
   rw [mk_size]
   refine Runs.yes (by simp; omega) ((Runs.pure _).of ?_)
   rw [g1]
   unfold expText
   rw [if_neg c, if_neg c2]
   simp
theorem rtext_j1 (ds : List UInt8) (x : Int) (neg : Bool) (h1 : 1 ≤ ds.length) (h2 : ds.length ≤ 100) (e0 : -10000 ≤ x) (e1 : x ≤ 10000) (b : Bool) (hb : b = decide (x < -5 ∨ 21 < x)) : Runs (fun k => r_Text.j1 k (mk ds) x (mk (sgnText neg)) b) (mk (sgnText neg ++ body ds x)) := by
 have g1 : ∀ a b : List UInt8, mk a ++ mk b = mk (a ++ b) := mk_append
 have hsl : (sgnText neg).length ≤ 1 := by unfold sgnText; split <;> simp
 refine Runs.suc ?_
 simp only [r_Text.j1]
 rw [hb, mk_size]
 by_cases c1 : x < -5 ∨ 21 < x
 ·
  have hbd : body ds x = sci ds (x - 1) := by unfold body; rw [if_pos c1]
  rw [hbd, decide_eq_true c1, mk_upto]
  refine Runs.yes rfl (Runs.yes (by decide) (Runs.yes (by omega) (Runs.bind (Runs.pure _) ?_)))
  rw [mk_size, mk_size, g1]
  refine Runs.yes (by rw [List.length_take]; omega) (Runs.bind (Runs.pure _) ?_)
  unfold sci
  by_cases hl : 1 < ds.length
  ·
   rw [if_pos hl, mk_from]
   have q8 : ∀ l : List UInt8, mk l ++ (⟨#[46]⟩ : ByteArray) = mk (l ++ [46]) := fun l => g1 l [46]
   rw [q8]
   refine Runs.yes (by omega) (Runs.yes (by rw [mk_size]; simp; omega) (Runs.bind (Runs.pure _) (Runs.bind (Runs.pure _) ?_)))
   rw [g1]
   refine Runs.yes (by rw [mk_size, mk_size]; simp; omega) ?_
   have := rtext_j2 x (sgnText neg ++ ds.take 1 ++ [46] ++ ds.drop 1) (by simp; omega) e0 e1
   refine this.of (congrArg mk ?_)
   simp
  ·
   rw [if_neg hl, List.append_nil]
   have := rtext_j2 x (sgnText neg ++ ds.take 1) (by simp; omega) e0 e1
   refine Runs.no (by omega) (this.of (congrArg mk ?_))
   simp
 ·
  rw [decide_eq_false c1]
  refine Runs.no Bool.false_ne_true ?_
  by_cases c2 : x ≤ 0
  ·
   have hbd : body ds x = [48, 46] ++ List.replicate (-x).toNat 48 ++ ds := by unfold body; rw [if_neg c1, if_pos c2]
   obtain ⟨n, hn⟩ : ∃ n : Nat, (n : Int) = -x := ⟨(-x).toNat, by omega⟩
   rw [hbd, w64 (n := -x) (by omega) (by omega), ← hn, Int.toNat_natCast]
   have q1 : mk (sgnText neg) ++ (⟨#[48, 46]⟩ : ByteArray) = mk (sgnText neg ++ [48, 46]) := g1 _ [48, 46]
   rw [q1]
   refine Runs.yes c2 (Runs.yes (by rw [mk_size]; omega) (Runs.bind (Runs.pure _) (Runs.bind (zeros_f n (by omega)) ?_)))
   rw [g1]
   refine Runs.yes (by rw [mk_size, mk_size]; simp; omega) (Runs.bind (Runs.pure _) (Runs.yes (by rw [mk_size]; simp; omega) ((Runs.pure _).of ?_)))
   rw [g1]
   simp
  ·
   refine Runs.no c2 ?_
   by_cases c3 : (ds.length : Int) ≤ x
   ·
    have hbd : body ds x = ds ++ List.replicate (x - ds.length).toNat 48 := by unfold body; rw [if_neg c1, if_neg c2, if_pos c3]
    obtain ⟨n, hn⟩ : ∃ n : Nat, (n : Int) = x - ds.length := ⟨(x - ds.length).toNat, by omega⟩
    rw [hbd, w64 (n := x - ds.length) (by omega) (by omega), ← hn, Int.toNat_natCast, g1]
    refine Runs.yes c3 (Runs.yes (by rw [mk_size]; omega) (Runs.bind (Runs.pure _) (Runs.bind (zeros_f n (by omega)) (Runs.yes (by rw [mk_size, mk_size]; simp; omega) ((Runs.pure _).of ?_)))))
    rw [g1]
    simp
   ·
    have hbd : body ds x = ds.take x.toNat ++ [46] ++ ds.drop x.toNat := by unfold body; rw [if_neg c1, if_neg c2, if_neg c3]
    rw [hbd, mk_upto, mk_from]
    refine Runs.no c3 (Runs.yes (by omega) (Runs.yes (by omega) (Runs.bind (Runs.pure _) ?_)))
    have q2 : ∀ l : List UInt8, mk l ++ (⟨#[46]⟩ : ByteArray) = mk (l ++ [46]) := fun l => g1 l [46]
    refine Runs.yes (by rw [mk_size, mk_size, List.length_take]; omega) (Runs.bind (Runs.pure _) ?_)
    rw [g1]
    refine Runs.yes (by rw [mk_size, List.length_append, List.length_take]; omega) (Runs.bind (Runs.pure _) ?_)
    rw [q2]
    refine Runs.bind (Runs.pure _) (Runs.yes (by rw [mk_size, mk_size, List.length_append, List.length_append, List.length_take, List.length_drop]; simp; omega) ((Runs.pure _).of ?_))
    rw [g1]
    simp
theorem rtext_open (X : Nat) (ds : List UInt8) (x : Int) (neg : Bool) (R : ByteArray) (hn : isNum X) (hd : Runs (fun k => r_Digits.f k X) (mk ds, x, neg)) (h : Runs (fun k => r_Text.j0 k X (mk ds) x neg (mk (sgnText neg))) R) : Runs (fun k => r_Text.f k X) R := by
 have hne : (FloatKind.f64.format.order X X != some Ordering.eq) = false := by rw [bne, self_eq hn]; rfl
 simp only [r_Text.f]
 rw [hne]
 refine Runs.no Bool.false_ne_true (Runs.bind hd ?_)
 cases neg with
 | true => exact Runs.yes rfl h
 | false => exact Runs.no Bool.false_ne_true h
theorem both (K : Nat) (neg : Bool) (hK : K < 9223372036854775808) : ∃ D T, Runs (fun k => num_Digits.f k (K + signBit neg)) D ∧ Runs (fun k => r_Digits.f k (K + signBit neg)) D ∧ Runs (fun k => num_Text.f k (K + signBit neg)) T ∧ Runs (fun k => r_Text.f k (K + signBit neg)) T := by
 have hI : INF = 9218868437227405312 := rfl
 by_cases hnan : INF < K
 ·
  have hn := not_num K neg hnan hK
  refine ⟨_, _, digits_none K neg (.inr (by omega)) hK, rdigits_none K neg (.inr (by omega)) hK, text_nan K neg hnan hK, ?_⟩
  have hne : (FloatKind.f64.format.order (K + signBit neg) (K + signBit neg) != some Ordering.eq) = true := by rw [bne, self_ne hn]; rfl
  simp only [r_Text.f]
  rw [hne]
  exact Runs.yes rfl (Runs.pure _)
 ·
  have hn := isNum_sign K neg (by omega)
  by_cases hz : K = 0
  ·
   subst hz
   have hd := rdigits_none 0 neg (.inl rfl) hK
   refine ⟨_, _, digits_none 0 neg (.inl rfl) hK, hd, text_zero neg, rtext_open _ [] 0 neg _ hn hd (Runs.suc ?_)⟩
   simp only [r_Text.j0]
   rw [andNot_sign 0 neg hK]
   have hsl : (sgnText neg).length ≤ 1 := by unfold sgnText; split <;> simp
   exact Runs.no (by decide) (Runs.yes (mk_list _) (Runs.yes (by rw [mk_size]; omega) ((Runs.pure _).of (mk_append _ [48]))))
  ·
   by_cases hinf : K = INF
   ·
    subst hinf
    have hd := rdigits_none INF neg (.inr (Nat.le_refl _)) hK
    refine ⟨_, _, digits_none INF neg (.inr (Nat.le_refl _)) hK, hd, text_inf neg, rtext_open _ [] 0 neg _ hn hd (Runs.suc ?_)⟩
    simp only [r_Text.j0]
    rw [andNot_sign INF neg hK]
    refine Runs.yes (by omega) ?_
    cases neg with
    | true => exact Runs.yes rfl (Runs.pure _)
    | false => exact Runs.no Bool.false_ne_true (Runs.pure _)
   ·
    obtain ⟨ds, x, hs, hd, ht⟩ := text_num K neg (by omega) (by omega)
    have hrd := rdigits_num K neg (by omega) (by omega) _ hd
    refine ⟨_, _, hd, hrd, ht, rtext_open _ ds x neg _ hn hrd (Runs.suc ?_)⟩
    simp only [r_Text.j0]
    rw [andNot_sign K neg hK, mk_list]
    have hp := hs.pos
    have hx : -10000 ≤ x ∧ x ≤ 10000 := ⟨hs.lo, hs.hi⟩
    refine Runs.no (by omega) (Runs.no (fun h => by rw [h] at hp; simp at hp) ?_)
    by_cases c : x < -5
    ·
     refine Runs.yes c (rtext_j1 ds x neg hs.pos (by have := hs.len; omega) hx.1 hx.2 true ?_)
     symm; exact decide_eq_true (.inl c)
    ·
     refine Runs.no c (rtext_j1 ds x neg hs.pos (by have := hs.len; omega) hx.1 hx.2 _ ?_)
     exact decide_eq_decide.2 ⟨fun h => .inr h, fun h => h.resolve_left c⟩
theorem law_text : w_NumText.Pure := by
 intro l0 _ hl hw
 have hwf : ∀ x ∈ l0, 0 ≤ x ∧ x < 18446744073709551616 := by
  intro x hx
  have := hw x hx
  simp [Lit.wf, IntKind.min, IntKind.max, IntKind.signed, IntKind.bits] at this
  omega
 have last : ∀ x : Int, Runs (fun k => w_NumText.j1 k l0 x false) true := by
  intro x
  refine Runs.suc ?_
  simp only [w_NumText.j1]
  exact Runs.no (by decide) (Runs.bind wakes_runs (Runs.pure _))
 have loop : ∀ (d i : Nat), i + d = 3 → Runs (fun k => w_NumText.l0 k l0 (i : Int)) true := by
  intro d
  induction d with
  | zero =>
   intro i hi
   refine Runs.suc ?_
   simp only [w_NumText.l0]
   rw [decide_eq_false (show ¬ ((i : Int) < 3) by omega)]
   by_cases h : i < l0.length
   ·
    exact Runs.yes (by omega) (last _)
   ·
    exact Runs.no (by omega) (last _)
  | succ d ih =>
   intro i hi
   refine Runs.suc ?_
   simp only [w_NumText.l0]
   by_cases h : i < l0.length
   ·
    rw [decide_eq_true (show ((i : Int) < 3) by omega)]
    have hx := hwf l0[i] (List.getElem_mem h)
    obtain ⟨X, hX⟩ := Int.eq_ofNat_of_zero_le hx.1
    refine Runs.yes (by omega) (Runs.suc ?_)
    obtain ⟨K, neg, hKX, hKl⟩ : ∃ K neg, X = K + signBit neg ∧ K < 9223372036854775808 := by
     by_cases c : X < 9223372036854775808
     ·
      exact ⟨X, false, rfl, c⟩
     ·
      exact ⟨X - 9223372036854775808, true, by unfold signBit; rw [if_pos rfl]; omega, by omega⟩
    obtain ⟨D, T, d1, d2, t1, t2⟩ := both K neg hKl
    rw [← hKX] at d1 d2 t1 t2
    simp only [w_NumText.j1]
    rw [rd_get l0 i h, hX, w64 (n := (i : Int) + 1) (by omega) (by omega), Int.toNat_natCast]
    refine Runs.yes trivial (Runs.yes (by omega) (Runs.yes (by omega) (Runs.bind d1 (Runs.bind d2 ?_))))
    refine Runs.yes rfl (Runs.yes rfl (Runs.no (by simp) (Runs.bind t1 (Runs.bind t2 (Runs.yes rfl ?_)))))
    have := ih (i + 1) (by omega)
    rw [show ((i + 1 : Nat) : Int) = (i : Int) + 1 by omega] at this
    exact this
   ·
    exact Runs.no (by omega) (last _)
 have main : Runs (fun k => w_NumText.f k l0) true := by
  simp only [w_NumText.f]
  exact loop 3 0 (by omega)
 obtain ⟨K, hK⟩ := main
 exact ⟨K, hK K (Nat.le_refl _)⟩
end Go.Proofs.YtjlnfnfdibfniaaDoor.Pl

