/- The plain law of FnFactors: the list of least divisors rises, holds primes alone, and its product is the number. No condition. -/
import Derived.Test.YtaingnnflldlhaaPFnFactorsx2
namespace Go.Proofs.Ytaingnnflldlhaa.Pure
open Go.RowKit Go.Proofs.Ytaingnnflldlhaa.PFnFactors Go.Proofs.YtaingnnflldlhaaW.PrintWords Go.Proofs.YtaingnnflldlhaaW.PrintLast
namespace FnFactorsAid

theorem wrap_small {x : Int} (h0 : -4000000 ≤ x) (h : x ≤ 4000000) : wrap64 x = x := by unfold wrap64; omega

/-- The least divisor from 2 on. -/
def IsLeast (n r : Int) : Prop := 2 ≤ r ∧ r ≤ n ∧ n % r = 0 ∧ ∀ d, 2 ≤ d → d < r → n % d ≠ 0

theorem least_unique {n r s : Int} (h : IsLeast n r) (g : IsLeast n s) : r = s := by
  rcases Int.lt_trichotomy r s with c | c | c
  · exact absurd h.2.2.1 (g.2.2.2 r h.1 c)
  · exact c
  · exact absurd g.2.2.1 (h.2.2.2 s g.1 c)

theorem tmod_pos {n d : Int} (h : 0 ≤ n) : Int.tmod n d = n % d := Int.tmod_eq_emod_of_nonneg h

/-- A number without a divisor below p, p * p above it, has none but itself. -/
theorem no_divisor {n p : Int} (hp : 2 ≤ p) (hno : ∀ d, 2 ≤ d → d < p → n % d ≠ 0) (hpp : n < p * p) : ∀ d, 2 ≤ d → d < n → n % d ≠ 0 := by
  intro d hd hdn hz
  by_cases hdp : d < p
  · exact hno d hd hdp hz
  · have he : n = d * (n / d) := by have := Int.mul_ediv_add_emod n d; omega
    generalize n / d = e at he
    have e2 : 2 ≤ e := by
      by_cases h1 : e ≤ 1
      · have : d * e ≤ d * 1 := Int.mul_le_mul_of_nonneg_left h1 (by omega)
        omega
      · omega
    have ep : e < p := by
      by_cases h1 : p ≤ e
      · have h3 : p * p ≤ d * e := Int.mul_le_mul (by omega) h1 (by omega) (by omega)
        omega
      · omega
    refine hno e e2 ep ?_
    rw [he]; exact Int.mul_emod_left d e

theorem impl_least_tells (n : Int) (hn : 2 ≤ n) (hn' : n ≤ 1024) (t : Nat) : ∀ (k : Nat) (p : Int), 2 ≤ p → p ≤ n + 1 → n + 1 - p = t → t < k → (∀ d, 2 ≤ d → d < p → d < n → n % d ≠ 0) → ∃ r, impl_least.l0 k n p = some r ∧ IsLeast n r := by
  induction t with
  | zero =>
    intro k p h2 hp ht hk hno
    obtain ⟨k, rfl⟩ : ∃ m, k = m + 1 := ⟨k - 1, by omega⟩
    have hpp : n < p * p := by
      have : p * 2 ≤ p * p := Int.mul_le_mul_of_nonneg_left h2 (by omega)
      omega
    have hb : p * p ≤ 1025 * 1025 := Int.mul_le_mul (by omega) (by omega) (by omega) (by omega)
    refine ⟨n, ?_, by omega, by omega, Int.emod_self, fun d hd hdn => hno d hd (by omega) hdn⟩
    simp only [impl_least.l0]
    rw [wrap_small (by omega) (by omega), if_neg (by omega)]
  | succ t ih =>
    intro k p h2 hp ht hk hno
    obtain ⟨k, rfl⟩ : ∃ m, k = m + 1 := ⟨k - 1, by omega⟩
    have hb : p * p ≤ 1025 * 1025 := Int.mul_le_mul (by omega) (by omega) (by omega) (by omega)
    have hb0 : 0 ≤ p * p := Int.mul_nonneg (by omega) (by omega)
    by_cases hpp : p * p ≤ n
    · by_cases hz : n % p = 0
      · have hpn : p ≤ n := by
          have : p * 1 ≤ p * p := Int.mul_le_mul_of_nonneg_left (by omega) (by omega)
          omega
        refine ⟨p, ?_, h2, hpn, hz, fun d hd hdp => hno d hd hdp (by omega)⟩
        simp only [impl_least.l0]
        rw [wrap_small (by omega) (by omega), if_pos hpp, if_neg (by omega), tmod_pos (by omega), if_pos hz]
      · obtain ⟨r, hr, hl⟩ := ih k (p + 1) (by omega) (by omega) (by omega) (by omega) (fun d hd hdp hdn => by
          by_cases e : d = p
          · rw [e]; exact hz
          · exact hno d hd (by omega) hdn)
        refine ⟨r, ?_, hl⟩
        simp only [impl_least.l0]
        rw [wrap_small (by omega) (by omega), if_pos hpp, if_neg (by omega), tmod_pos (by omega), if_neg hz, wrap_small (by omega) (by omega)]
        exact hr
    · have hpn : p ≤ n := by omega
      refine ⟨n, ?_, by omega, by omega, Int.emod_self, fun d hd hdn => no_divisor h2 (fun d hd hdp => hno d hd hdp (by omega)) (by omega) d hd hdn⟩
      simp only [impl_least.l0]
      rw [wrap_small (by omega) (by omega), if_neg hpp]

theorem impl_least_ok (n : Int) (hn : 2 ≤ n) (hn' : n ≤ 1024) (k : Nat) (hk : n < k) : ∃ r, impl_least.f k n = some r ∧ IsLeast n r :=
  impl_least_tells n hn hn' (n - 1).toNat k 2 (by omega) (by omega) (by omega) (by omega) (fun d hd hd2 => by omega)

theorem div_less {n r : Int} (hr : IsLeast n r) : 1 ≤ n / r ∧ n / r ≤ n - 1 ∧ n = r * (n / r) := by
  obtain ⟨h2, hle, hz, _⟩ := hr
  have he : n = r * (n / r) := by have := Int.mul_ediv_add_emod n r; omega
  have h1 : 1 ≤ n / r := by
    have := (Int.le_ediv_iff_mul_le (show 0 < r by omega) (a := 1) (b := n)).2 (by omega)
    exact this
  refine ⟨h1, ?_, he⟩
  have : 2 * (n / r) ≤ r * (n / r) := Int.mul_le_mul_of_nonneg_right h2 (by omega)
  omega

/-- What the factors of a number are: a list that the program comes to with enough rounds. -/
inductive Fac : Int → List Int → Prop
  | one : Fac 1 []
  | more {n r : Int} {l : List Int} : 2 ≤ n → IsLeast n r → Fac (n / r) l → Fac n (r :: l)

theorem fac_len {n : Int} {l : List Int} (h : Fac n l) : (l.length : Int) ≤ n - 1 := by
  induction h with
  | one => simp
  | more _ hr _ ih =>
    have := div_less hr
    simp only [List.length_cons]; omega

theorem impl_fac (t : Nat) : ∀ n : Int, 1 ≤ n → n ≤ t → t ≤ 1024 → ∃ l, Fac n l ∧ ∀ (k : Nat) (acc : List Int), n + 1030 ≤ k → acc.length + n ≤ 4000 → impl_FactorsOf.l0 k n acc = some (acc ++ l, 0) := by
  induction t with
  | zero => intro n h1 h2; omega
  | succ t ih =>
    intro n h1 h2 ht
    by_cases e : n = 1
    · subst e
      refine ⟨[], .one, fun k acc hk ha => ?_⟩
      obtain ⟨k, rfl⟩ : ∃ m, k = m + 1 := ⟨k - 1, by omega⟩
      simp only [impl_FactorsOf.l0]
      rw [if_neg (by omega), List.append_nil]
    · obtain ⟨r0, _, hl0⟩ := impl_least_ok n (by omega) (by omega) 2000 (by omega)
      have hd := div_less hl0
      obtain ⟨l, hl, ho⟩ := ih (n / r0) hd.1 (by omega) (by omega)
      refine ⟨r0 :: l, .more (by omega) hl0 hl, fun k acc hk ha => ?_⟩
      obtain ⟨k, rfl⟩ : ∃ m, k = m + 1 := ⟨k - 1, by omega⟩
      obtain ⟨r, hr, hlr⟩ := impl_least_ok n (by omega) (by omega) k (by omega)
      obtain rfl := least_unique hlr hl0
      simp only [impl_FactorsOf.l0]
      rw [if_pos (by omega), hr]
      simp only [Option.bind_some]
      have h2r := hlr.1
      rw [if_pos (by omega), if_neg (by omega), Int.tdiv_eq_ediv_of_nonneg (by omega), wrap_small (by omega) (by omega), ho k (acc ++ [r]) (by omega) (by simp only [List.length_append, List.length_cons, List.length_nil]; omega)]
      simp


theorem dvd_mod {m r d : Int} (h1 : m % r = 0) (h2 : r % d = 0) : m % d = 0 := by
  have e1 : m = r * (m / r) := by have := Int.mul_ediv_add_emod m r; omega
  have e2 : r = d * (r / d) := by have := Int.mul_ediv_add_emod r d; omega
  rw [e1, e2, Int.mul_assoc]; exact Int.mul_emod_right d _

/-- The inner loop: no divisor below the factor; then the product, and the next place. -/
theorem l1_tells (n x8 r : Int) (i : Nat) (l : List Int) (hi : i < l.length) (hl : l.length ≤ 2000) (hr : rd l i = r) (hr2 : 2 ≤ r) (hr' : r ≤ 1000) (hno : ∀ d, 2 ≤ d → d < r → r % d ≠ 0) (hx0 : 1 ≤ x8) (hp : x8 * r ≤ n) (hn : n ≤ 1000) (K : Nat)
    (hnext : ∀ k, K ≤ k → laws_FnFactors.l0 k n l (x8 * r) ((i : Int) + 1) = some true) (t : Nat) : ∀ (k : Nat) (d : Int), 2 ≤ d → r - d = t → K + t + 1 ≤ k → laws_FnFactors.l1 k n l x8 i d = some true := by
  have hx : 0 ≤ x8 * r := Int.mul_nonneg (by omega) (by omega)
  induction t with
  | zero =>
    intro k d hd ht hk
    obtain ⟨k, rfl⟩ : ∃ m, k = m + 1 := ⟨k - 1, by omega⟩
    simp only [laws_FnFactors.l1]
    rw [hr, if_pos (by omega), if_pos (by omega), if_neg (by omega), wrap_small (by omega) (by omega), if_neg (by omega), wrap_small (by omega) (by omega)]
    exact hnext k (by omega)
  | succ t ih =>
    intro k d hd ht hk
    obtain ⟨k, rfl⟩ : ∃ m, k = m + 1 := ⟨k - 1, by omega⟩
    simp only [laws_FnFactors.l1]
    rw [hr, if_pos (by omega), if_pos (by omega), if_pos (by omega), if_neg (by omega), tmod_pos (by omega), if_neg (hno d hd (by omega)), wrap_small (by omega) (by omega)]
    exact ih k (d + 1) (by omega) (by omega) (by omega)

theorem l0_tells (n : Int) (hn : n ≤ 1000) (l : List Int) (hl : l.length ≤ 2000) {m : Int} {rest : List Int} (h : Fac m rest) :
    ∀ (i : Nat) (x8 prev : Int), l.drop i = rest → 1 ≤ x8 → x8 * m = n → (0 < i → rd l ((i : Int) - 1) = prev) → (∀ d, 2 ≤ d → d < prev → m % d ≠ 0) →
      ∀ k : Nat, 5 * m + 5 ≤ k → laws_FnFactors.l0 k n l x8 i = some true := by
  induction h with
  | one =>
    intro i x8 prev hd hx0 hx _ _ k hk
    obtain ⟨k, rfl⟩ : ∃ m, k = m + 1 := ⟨k - 1, by omega⟩
    have hle : l.length ≤ i := by simpa using hd
    simp only [laws_FnFactors.l0]
    rw [if_neg (by omega)]
    have : x8 = n := by omega
    rw [this]; simp
  | @more m r rest hm hr hf ih =>
    intro i x8 prev hd hx0 hx hprev hno k hk
    obtain ⟨k, rfl⟩ : ∃ m, k = m + 1 := ⟨k - 1, by omega⟩
    have hdl := div_less hr
    have hi : i < l.length := by
      have : (l.drop i).length = (r :: rest).length := by rw [hd]
      simp only [List.length_drop, List.length_cons] at this; omega
    have hri : rd l i = r := by
      unfold rd
      have e : ((i : Int)).toNat = i := by omega
      have e2 : l[i]? = some r := by
        have : (l.drop i)[0]? = some r := by rw [hd]; rfl
        rw [List.getElem?_drop] at this; simpa using this
      rw [e, List.getD_eq_getElem?_getD, e2]; rfl
    have h2r := hr.1
    have hrm := hr.2.1
    have hmn : m ≤ n := by
      have : 1 * m ≤ x8 * m := Int.mul_le_mul_of_nonneg_right (by omega) (by omega)
      omega
    have hxr : x8 * r * (m / r) = n := by rw [Int.mul_assoc, ← hdl.2.2]; exact hx
    have hxr0 : 1 ≤ x8 * r := by
      have : 1 * 1 ≤ x8 * r := Int.mul_le_mul (by omega) (by omega) (by omega) (by omega)
      omega
    have hxrn : x8 * r ≤ n := by
      have : x8 * r ≤ x8 * m := Int.mul_le_mul_of_nonneg_left hrm (by omega)
      omega
    have hnor : ∀ d, 2 ≤ d → d < r → r % d ≠ 0 := fun d hd1 hd2 hz => hr.2.2.2 d hd1 hd2 (dvd_mod hr.2.2.1 hz)
    have hq : r - 1 ≤ m - m / r := by
      have h0 : 0 ≤ (m / r - 1) * (r - 1) := Int.mul_nonneg (by omega) (by omega)
      have h1 : (m / r - 1) * (r - 1) = r * (m / r) - m / r - r + 1 := by
        rw [Int.sub_mul, Int.mul_sub, Int.mul_comm (m / r) r]; omega
      omega
    have hnext : ∀ k' : Nat, (5 * (m / r) + 5).toNat ≤ k' → laws_FnFactors.l0 k' n l (x8 * r) ((i : Int) + 1) = some true := by
      intro k' hk'
      have := ih (i + 1) (x8 * r) r (by rw [← List.drop_drop, hd]; rfl) hxr0 hxr (fun _ => by
        have e : (((i + 1 : Nat) : Int) - 1) = (i : Int) := by omega
        rw [e]; exact hri) (fun d hd1 hd2 hz => by
          refine hr.2.2.2 d hd1 hd2 ?_
          have e3 : m = (m / r) * r := by rw [Int.mul_comm]; exact hdl.2.2
          have e4 : m / r = d * ((m / r) / d) := by have := Int.mul_ediv_add_emod (m / r) d; omega
          rw [e3, e4, Int.mul_assoc]; exact Int.mul_emod_right d _) k' (by omega)
      exact this
    have h1 : ∀ k' : Nat, (5 * (m / r) + 5).toNat + (r - 2).toNat + 1 ≤ k' → laws_FnFactors.l1 k' n l x8 i 2 = some true := fun k' hk' =>
      l1_tells n x8 r i l hi hl hri h2r (by omega) hnor hx0 hxrn hn _ hnext (r - 2).toNat k' 2 (by omega) (by omega) hk'
    have hj : laws_FnFactors.j1 k n l x8 i false = some true := by
      obtain ⟨k, rfl⟩ : ∃ m, k = m + 1 := ⟨k - 1, by omega⟩
      simp only [laws_FnFactors.j1]
      rw [if_neg (by simp)]
      exact h1 k (by omega)
    simp only [laws_FnFactors.l0]
    rw [if_pos (by omega), if_pos (by omega), hri, if_neg (by omega), if_neg (by omega)]
    by_cases hi0 : 0 < i
    · rw [if_pos (by omega), wrap_small (by omega) (by omega), if_pos (by omega), if_pos (by omega), hprev hi0]
      have hge : ¬ r < prev := fun hlt => hno r h2r hlt hr.2.2.1
      have e : decide (prev > r) = false := by simp; omega
      rw [e]; exact hj
    · rw [if_neg (by omega)]; exact hj

theorem at_bound (l : List Int) (h : ∀ x ∈ l, (Lit.int .u8 x).wf = true) (m : Int) (hm : 1 ≤ m) : ∃ v, laws_a2At.f l 0 m = some v ∧ 0 ≤ v ∧ v < m := by
  unfold laws_a2At.f
  by_cases h0 : (0 : Int) ≥ (l.length : Int)
  · rw [if_pos h0]; exact ⟨0, rfl, by omega, by omega⟩
  · rw [if_neg h0, if_neg (by omega), if_pos (by omega), if_pos (by omega), if_neg (by omega)]
    have hb : 0 ≤ rd l 0 ∧ rd l 0 ≤ 255 := by
      have hlen : 0 < l.length := by omega
      have e : rd l 0 = l[0] := by unfold rd; simp [List.getD_eq_getElem?_getD, List.getElem?_eq_getElem hlen]
      have := h l[0] (List.getElem_mem hlen)
      rw [e]
      simpa [Lit.wf, IntKind.min, IntKind.max, IntKind.signed, IntKind.bits] using this
    rw [wrap_small (by omega) (by omega), tmod_pos (by omega)]
    exact ⟨_, rfl, Int.emod_nonneg _ (by omega), Int.emod_lt_of_pos _ (by omega)⟩

end FnFactorsAid
open FnFactorsAid

theorem FnFactors : laws_FnFactors.Pure := by
  intro l0 l1 _ _ hw0 _ _ hw1
  refine ⟨6000, ?_⟩
  unfold laws_FnFactors.f
  cases hlong : laws_a2Long.f l0 l1 with
  | none => unfold laws_a2Long.f at hlong; split at hlong <;> simp at hlong
  | some b =>
    simp only [Option.bind_some]
    cases b with
    | true => simp
    | false =>
      obtain ⟨u, hu, hu0, hu1⟩ := at_bound l0 hw0 250 (by omega)
      obtain ⟨v, hv, hv0, hv1⟩ := at_bound l1 hw1 4 (by omega)
      rw [if_neg (by simp), hu]
      simp only [Option.bind_some]
      rw [hv]
      simp only [Option.bind_some]
      rw [FnFactorsAid.wrap_small (x := 1 + u) (by omega) (by omega), FnFactorsAid.wrap_small (x := v * 250) (by omega) (by omega), FnFactorsAid.wrap_small (by omega) (by omega)]
      obtain ⟨n, hn⟩ : ∃ n, n = 1 + u + v * 250 := ⟨_, rfl⟩
      rw [← hn]
      obtain ⟨l, hl, ho⟩ := impl_fac 1024 n (by omega) (by omega) (by omega)
      have hlen := fac_len hl
      have hf : impl_FactorsOf.f 6000 n = some (l, 0) := by
        unfold impl_FactorsOf.f impl_in.f
        rw [if_pos (by omega)]
        simp only [Option.bind_some]
        rw [if_pos (by simp; omega), ho 6000 [] (by omega) (by simp; omega)]; simp
      rw [hf]
      simp only [Option.bind_some]
      rw [if_pos trivial]
      exact l0_tells n (by omega) l (by omega) hl 0 1 2 rfl (by omega) (by omega) (fun h => by omega) (fun d h1 h2 => by omega) 6000 (by omega)

end Go.Proofs.Ytaingnnflldlhaa.Pure
