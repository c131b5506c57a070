/- The plain law of FnExactFactorsOf: both programs come to the list of least divisors, so the law answers true for every number. No condition. -/
import Derived.Test.YtaingnnflldlhaaPFnExactFactorsOfx2
namespace Go.Proofs.Ytaingnnflldlhaa.Pure
open Go.RowKit Go.Proofs.Ytaingnnflldlhaa.PFnExactFactorsOf Go.Proofs.YtaingnnflldlhaaW.PrintWords Go.Proofs.YtaingnnflldlhaaW.PrintLast
namespace FnExactFactorsOfAid

theorem wrap_small {x : Int} (h0 : -4000000 ≤ x) (h : x ≤ 4000000) : wrap64 x = x := by unfold wrap64; omega

/-- The least divisor from 2 on. -/
def IsLeast (n r : Int) : Prop := 2 ≤ r ∧ r ≤ n ∧ n % r = 0 ∧ ∀ d, 2 ≤ d → d < r → n % d ≠ 0

theorem least_unique {n r s : Int} (h : IsLeast n r) (g : IsLeast n s) : r = s := by
  rcases Int.lt_trichotomy r s with c | c | c
  · exact absurd h.2.2.1 (g.2.2.2 r h.1 c)
  · exact c
  · exact absurd g.2.2.1 (h.2.2.2 s g.1 c)

theorem tmod_pos {n d : Int} (h : 0 ≤ n) : Int.tmod n d = n % d := Int.tmod_eq_emod_of_nonneg h

/-- A number without a divisor below p, p * p above it, has none but itself. -/
theorem no_divisor {n p : Int} (hp : 2 ≤ p) (hno : ∀ d, 2 ≤ d → d < p → n % d ≠ 0) (hpp : n < p * p) : ∀ d, 2 ≤ d → d < n → n % d ≠ 0 := by
  intro d hd hdn hz
  by_cases hdp : d < p
  · exact hno d hd hdp hz
  · have he : n = d * (n / d) := by have := Int.mul_ediv_add_emod n d; omega
    generalize n / d = e at he
    have e2 : 2 ≤ e := by
      by_cases h1 : e ≤ 1
      · have : d * e ≤ d * 1 := Int.mul_le_mul_of_nonneg_left h1 (by omega)
        omega
      · omega
    have ep : e < p := by
      by_cases h1 : p ≤ e
      · have h3 : p * p ≤ d * e := Int.mul_le_mul (by omega) h1 (by omega) (by omega)
        omega
      · omega
    refine hno e e2 ep ?_
    rw [he]; exact Int.mul_emod_left d e

theorem impl_least_tells (n : Int) (hn : 2 ≤ n) (hn' : n ≤ 1024) (t : Nat) : ∀ (k : Nat) (p : Int), 2 ≤ p → p ≤ n + 1 → n + 1 - p = t → t < k → (∀ d, 2 ≤ d → d < p → d < n → n % d ≠ 0) → ∃ r, impl_least.l0 k n p = some r ∧ IsLeast n r := by
  induction t with
  | zero =>
    intro k p h2 hp ht hk hno
    obtain ⟨k, rfl⟩ : ∃ m, k = m + 1 := ⟨k - 1, by omega⟩
    have hpp : n < p * p := by
      have : p * 2 ≤ p * p := Int.mul_le_mul_of_nonneg_left h2 (by omega)
      omega
    have hb : p * p ≤ 1025 * 1025 := Int.mul_le_mul (by omega) (by omega) (by omega) (by omega)
    refine ⟨n, ?_, by omega, by omega, Int.emod_self, fun d hd hdn => hno d hd (by omega) hdn⟩
    simp only [impl_least.l0]
    rw [wrap_small (by omega) (by omega), if_neg (by omega)]
  | succ t ih =>
    intro k p h2 hp ht hk hno
    obtain ⟨k, rfl⟩ : ∃ m, k = m + 1 := ⟨k - 1, by omega⟩
    have hb : p * p ≤ 1025 * 1025 := Int.mul_le_mul (by omega) (by omega) (by omega) (by omega)
    have hb0 : 0 ≤ p * p := Int.mul_nonneg (by omega) (by omega)
    by_cases hpp : p * p ≤ n
    · by_cases hz : n % p = 0
      · have hpn : p ≤ n := by
          have : p * 1 ≤ p * p := Int.mul_le_mul_of_nonneg_left (by omega) (by omega)
          omega
        refine ⟨p, ?_, h2, hpn, hz, fun d hd hdp => hno d hd hdp (by omega)⟩
        simp only [impl_least.l0]
        rw [wrap_small (by omega) (by omega), if_pos hpp, if_neg (by omega), tmod_pos (by omega), if_pos hz]
      · obtain ⟨r, hr, hl⟩ := ih k (p + 1) (by omega) (by omega) (by omega) (by omega) (fun d hd hdp hdn => by
          by_cases e : d = p
          · rw [e]; exact hz
          · exact hno d hd (by omega) hdn)
        refine ⟨r, ?_, hl⟩
        simp only [impl_least.l0]
        rw [wrap_small (by omega) (by omega), if_pos hpp, if_neg (by omega), tmod_pos (by omega), if_neg hz, wrap_small (by omega) (by omega)]
        exact hr
    · have hpn : p ≤ n := by omega
      refine ⟨n, ?_, by omega, by omega, Int.emod_self, fun d hd hdn => no_divisor h2 (fun d hd hdp => hno d hd hdp (by omega)) (by omega) d hd hdn⟩
      simp only [impl_least.l0]
      rw [wrap_small (by omega) (by omega), if_neg hpp]

theorem impl_least_ok (n : Int) (hn : 2 ≤ n) (hn' : n ≤ 1024) (k : Nat) (hk : n < k) : ∃ r, impl_least.f k n = some r ∧ IsLeast n r :=
  impl_least_tells n hn hn' (n - 1).toNat k 2 (by omega) (by omega) (by omega) (by omega) (fun d hd hd2 => by omega)

theorem div_less {n r : Int} (hr : IsLeast n r) : 1 ≤ n / r ∧ n / r ≤ n - 1 ∧ n = r * (n / r) := by
  obtain ⟨h2, hle, hz, _⟩ := hr
  have he : n = r * (n / r) := by have := Int.mul_ediv_add_emod n r; omega
  have h1 : 1 ≤ n / r := by
    have := (Int.le_ediv_iff_mul_le (show 0 < r by omega) (a := 1) (b := n)).2 (by omega)
    exact this
  refine ⟨h1, ?_, he⟩
  have : 2 * (n / r) ≤ r * (n / r) := Int.mul_le_mul_of_nonneg_right h2 (by omega)
  omega

/-- What the factors of a number are: a list that the program comes to with enough rounds. -/
inductive Fac : Int → List Int → Prop
  | one : Fac 1 []
  | more {n r : Int} {l : List Int} : 2 ≤ n → IsLeast n r → Fac (n / r) l → Fac n (r :: l)

theorem fac_len {n : Int} {l : List Int} (h : Fac n l) : (l.length : Int) ≤ n - 1 := by
  induction h with
  | one => simp
  | more _ hr _ ih =>
    have := div_less hr
    simp only [List.length_cons]; omega

theorem impl_fac (t : Nat) : ∀ n : Int, 1 ≤ n → n ≤ t → t ≤ 1024 → ∃ l, Fac n l ∧ ∀ (k : Nat) (acc : List Int), n + 1030 ≤ k → acc.length + n ≤ 4000 → impl_FactorsOf.l0 k n acc = some (acc ++ l, 0) := by
  induction t with
  | zero => intro n h1 h2; omega
  | succ t ih =>
    intro n h1 h2 ht
    by_cases e : n = 1
    · subst e
      refine ⟨[], .one, fun k acc hk ha => ?_⟩
      obtain ⟨k, rfl⟩ : ∃ m, k = m + 1 := ⟨k - 1, by omega⟩
      simp only [impl_FactorsOf.l0]
      rw [if_neg (by omega), List.append_nil]
    · obtain ⟨r0, _, hl0⟩ := impl_least_ok n (by omega) (by omega) 2000 (by omega)
      have hd := div_less hl0
      obtain ⟨l, hl, ho⟩ := ih (n / r0) hd.1 (by omega) (by omega)
      refine ⟨r0 :: l, .more (by omega) hl0 hl, fun k acc hk ha => ?_⟩
      obtain ⟨k, rfl⟩ : ∃ m, k = m + 1 := ⟨k - 1, by omega⟩
      obtain ⟨r, hr, hlr⟩ := impl_least_ok n (by omega) (by omega) k (by omega)
      obtain rfl := least_unique hlr hl0
      simp only [impl_FactorsOf.l0]
      rw [if_pos (by omega), hr]
      simp only [Option.bind_some]
      have h2r := hlr.1
      rw [if_pos (by omega), if_neg (by omega), Int.tdiv_eq_ediv_of_nonneg (by omega), wrap_small (by omega) (by omega), ho k (acc ++ [r]) (by omega) (by simp only [List.length_append, List.length_cons, List.length_nil]; omega)]
      simp

theorem spec_least_tells (n : Int) (hn : 2 ≤ n) (hn' : n ≤ 1024) (t : Nat) : ∀ (k : Nat) (p : Int), 2 ≤ p → p ≤ n → n - p = t → t < k → (∀ d, 2 ≤ d → d < p → n % d ≠ 0) → ∃ r, spec_l02Least.l0 k n p = some r ∧ IsLeast n r := by
  induction t with
  | zero =>
    intro k p h2 hp ht hk hno
    obtain ⟨k, rfl⟩ : ∃ m, k = m + 1 := ⟨k - 1, by omega⟩
    obtain rfl : p = n := by omega
    refine ⟨p, ?_, by omega, by omega, Int.emod_self, hno⟩
    simp only [spec_l02Least.l0]
    rw [if_neg (by omega), tmod_pos (by omega), if_pos Int.emod_self]
  | succ t ih =>
    intro k p h2 hp ht hk hno
    obtain ⟨k, rfl⟩ : ∃ m, k = m + 1 := ⟨k - 1, by omega⟩
    by_cases hz : n % p = 0
    · refine ⟨p, ?_, h2, hp, hz, hno⟩
      simp only [spec_l02Least.l0]
      rw [if_neg (by omega), tmod_pos (by omega), if_pos hz]
    · obtain ⟨r, hr, hl⟩ := ih k (p + 1) (by omega) (by omega) (by omega) (by omega) (fun d hd hdp => by
        by_cases e : d = p
        · rw [e]; exact hz
        · exact hno d hd (by omega))
      refine ⟨r, ?_, hl⟩
      simp only [spec_l02Least.l0]
      rw [if_neg (by omega), tmod_pos (by omega), if_neg hz, wrap_small (by omega) (by omega)]
      exact hr

theorem spec_least_ok (n : Int) (hn : 2 ≤ n) (hn' : n ≤ 1024) (k : Nat) (hk : n < k) : ∃ r, spec_l02Least.f k n = some r ∧ IsLeast n r :=
  spec_least_tells n hn hn' (n - 2).toNat k 2 (by omega) (by omega) (by omega) (by omega) (fun d hd hd2 => by omega)

theorem spec_fac {n : Int} {l : List Int} (h : Fac n l) : n ≤ 1024 → ∀ (k : Nat) (acc : List Int), n + 1030 ≤ k → acc.length + n ≤ 4000 → spec_FactorsOf.l0 k n acc = some (acc ++ l, 0) := by
  induction h with
  | one =>
    intro _ k acc hk ha
    obtain ⟨k, rfl⟩ : ∃ m, k = m + 1 := ⟨k - 1, by omega⟩
    simp only [spec_FactorsOf.l0]
    rw [if_neg (by omega), List.append_nil]
  | @more n r l hn hr _ ih =>
    intro hle k acc hk ha
    have hd := div_less hr
    obtain ⟨k, rfl⟩ : ∃ m, k = m + 1 := ⟨k - 1, by omega⟩
    obtain ⟨r', hr', hlr⟩ := spec_least_ok n hn hle k (by omega)
    obtain rfl := least_unique hlr hr
    simp only [spec_FactorsOf.l0]
    rw [if_pos (by omega), hr']
    simp only [Option.bind_some]
    have h2r := hlr.1
    rw [if_pos (by omega), if_neg (by omega), Int.tdiv_eq_ediv_of_nonneg (by omega), wrap_small (by omega) (by omega), ih (by omega) k (acc ++ [r']) (by omega) (by simp only [List.length_append, List.length_cons, List.length_nil]; omega)]
    simp

theorem eq_self (l : List Int) (hl : l.length ≤ 2000) (t : Nat) : ∀ (k i : Nat), i ≤ l.length → l.length - i = t → t < k → laws_eqInt64S.l0 k l l i = some true := by
  induction t with
  | zero =>
    intro k i hi ht hk
    obtain ⟨k, rfl⟩ : ∃ m, k = m + 1 := ⟨k - 1, by omega⟩
    simp only [laws_eqInt64S.l0]
    rw [if_neg (by omega)]
  | succ t ih =>
    intro k i hi ht hk
    obtain ⟨k, rfl⟩ : ∃ m, k = m + 1 := ⟨k - 1, by omega⟩
    simp only [laws_eqInt64S.l0]
    rw [if_pos (by omega), if_pos (by omega), if_pos (by omega), wrap_small (by omega) (by omega)]
    simp only [if_true]
    exact ih k (i + 1) (by omega) (by omega) (by omega)

theorem eq_ok (l : List Int) (hl : l.length ≤ 2000) (k : Nat) (hk : l.length < k) : laws_eqInt64S.f k l l = some true := by
  unfold laws_eqInt64S.f
  simp only [if_true]
  exact eq_self l hl l.length k 0 (by omega) (by omega) hk

/-- Marked from a place on: the number of the place, counted from x there. -/
theorem mark_tells (t : Nat) : ∀ (k i : Nat) (xs : List Int) (x : Int), xs.length ≤ 2000 → 0 ≤ x → x ≤ 1000000 + i → i ≤ xs.length → xs.length - i = t → t < k →
    ∃ ys, laws_markInt64S.l0 k xs x i = some (x + t, ys) ∧ ys.length = xs.length ∧ (∀ j, j < i → ys[j]? = xs[j]?) ∧ ∀ j, i ≤ j → j < xs.length → ys[j]? = some (x + (j - i : Nat)) := by
  induction t with
  | zero =>
    intro k i xs x hl hx0 hx hi ht hk
    obtain ⟨k, rfl⟩ : ∃ m, k = m + 1 := ⟨k - 1, by omega⟩
    refine ⟨xs, ?_, rfl, fun _ _ => rfl, fun j h1 h2 => by omega⟩
    simp only [laws_markInt64S.l0]
    rw [if_neg (by omega)]; simp
  | succ t ih =>
    intro k i xs x hl hx0 hx hi ht hk
    obtain ⟨k, rfl⟩ : ∃ m, k = m + 1 := ⟨k - 1, by omega⟩
    obtain ⟨ys, h1, h2, h3, h4⟩ := ih k (i + 1) (xs.set i x) (x + 1) (by simpa using hl) (by omega) (by omega) (by simp; omega) (by simp; omega) (by omega)
    refine ⟨ys, ?_, by simpa using h2, fun j hj => ?_, fun j hj hj' => ?_⟩
    · simp only [laws_markInt64S.l0]
      rw [if_pos (by omega), if_pos (by omega), wrap_small (by omega) (by omega), wrap_small (by omega) (by omega)]
      have e : ((i : Int)).toNat = i := by omega
      rw [e]
      have h1' : laws_markInt64S.l0 k (xs.set i x) (x + 1) ((i : Int) + 1) = some (x + 1 + (t : Int), ys) := h1
      rw [h1']
      congr 2; omega
    · rw [h3 j (by omega), List.getElem?_set_ne (by omega)]
    · by_cases e : j = i
      · subst e
        rw [h3 j (by omega), List.getElem?_set_self (by omega)]; simp
      · rw [h4 j (by omega) (by simpa using hj')]
        congr 1; omega

theorem held_tells (ys : List Int) (hl : ys.length ≤ 2000) (hy : ∀ j, j < ys.length → ys[j]? = some (1 + (j : Int))) (t : Nat) : ∀ (k i : Nat), i ≤ ys.length → ys.length - i = t → t < k →
    laws_heldInt64S.l0 k ys (1 + (i : Int)) i = some (1 + (ys.length : Int)) := by
  induction t with
  | zero =>
    intro k i hi ht hk
    obtain ⟨k, rfl⟩ : ∃ m, k = m + 1 := ⟨k - 1, by omega⟩
    simp only [laws_heldInt64S.l0]
    rw [if_neg (by omega)]
    congr 1; omega
  | succ t ih =>
    intro k i hi ht hk
    obtain ⟨k, rfl⟩ : ∃ m, k = m + 1 := ⟨k - 1, by omega⟩
    have hr : rd ys i = 1 + (i : Int) := by
      unfold rd
      have e : ((i : Int)).toNat = i := by omega
      rw [e, List.getD_eq_getElem?_getD, hy i (by omega)]; rfl
    simp only [laws_heldInt64S.l0]
    rw [if_pos (by omega), if_pos (by omega), if_pos hr, wrap_small (by omega) (by omega), wrap_small (by omega) (by omega)]
    have := ih k (i + 1) (by omega) (by omega) (by omega)
    rw [← this]
    congr 1

theorem marks_ok (l : List Int) (hl : l.length ≤ 2000) (k : Nat) (hk : l.length < k) : ∃ ys, laws_markInt64S.f k l 1 = some (1 + (l.length : Int), ys) ∧ ∀ m, l.length < m → laws_heldInt64S.f m ys 1 = some (1 + (l.length : Int)) := by
  obtain ⟨ys, h1, h2, _, h4⟩ := mark_tells l.length k 0 l 1 hl (by omega) (by omega) (by omega) (by omega) hk
  refine ⟨ys, h1, fun m hm => ?_⟩
  have := held_tells ys (by omega) (fun j hj => by rw [h4 j (by omega) (by omega)]; congr 1) ys.length m 0 (by omega) (by omega) (by omega)
  rw [h2] at this
  exact this

theorem impl_any (a : Int) : ∃ (l : List Int) (c : Int), l.length ≤ 2000 ∧ ∀ k, 2100 ≤ k → impl_FactorsOf.f k a = some (l, c) ∧ spec_FactorsOf.f k a = some (l, c) := by
  by_cases h : 1 ≤ a ∧ a ≤ 1024
  · obtain ⟨l, hl, ho⟩ := impl_fac 1024 a h.1 (by omega) (by omega)
    have hlen := fac_len hl
    refine ⟨l, 0, by omega, fun k hk => ⟨?_, ?_⟩⟩
    · unfold impl_FactorsOf.f impl_in.f
      rw [if_pos h.1]
      simp only [Option.bind_some]
      rw [if_pos (by simp; omega), ho k [] (by omega) (by simp; omega)]; simp
    · unfold spec_FactorsOf.f spec_l00In.f
      rw [if_pos (by omega)]
      simp only [Option.bind_some]
      rw [if_pos (by simp; omega), spec_fac hl (by omega) k [] (by omega) (by simp; omega)]; simp
  · refine ⟨[], 2, by simp, fun k hk => ⟨?_, ?_⟩⟩
    · unfold impl_FactorsOf.f impl_in.f
      by_cases h1 : 1 ≤ a
      · rw [if_pos h1]
        simp only [Option.bind_some]
        rw [if_neg (by simp; omega)]
      · rw [if_neg h1]
        simp
    · unfold spec_FactorsOf.f spec_l00In.f
      by_cases h1 : a ≥ 1
      · rw [if_pos h1]
        simp only [Option.bind_some]
        rw [if_neg (by simp; omega)]
      · rw [if_neg h1]
        simp

/-- The law, whatever list and code both programs give alike. -/
theorem same_tells (a c : Int) (l : List Int) (hl : l.length ≤ 2000) (k : Nat) (hk : 3000 < k) (h1 : ∀ m, 2100 ≤ m → impl_FactorsOf.f m a = some (l, c) ∧ spec_FactorsOf.f m a = some (l, c)) :
    laws_FnExactFactorsOf.f (k + 2) a = some true := by
  unfold laws_FnExactFactorsOf.f
  rw [(h1 (k + 2) (by omega)).1, (h1 (k + 2) (by omega)).2]
  simp only [Option.bind_some]
  rw [eq_ok l hl _ (by omega)]
  simp only [Option.bind_some, if_true]
  obtain ⟨ys, g1, g2⟩ := marks_ok l hl (k + 1) (by omega)
  simp only [laws_FnExactFactorsOf.j0]
  have e0 : (c != c) = false := by simp
  rw [e0, if_neg (by simp), g1]
  simp only [Option.bind_some]
  rw [g2 _ (by omega)]
  simp only [Option.bind_some]
  rw [if_neg (by omega), if_pos trivial, (h1 (k + 1) (by omega)).1]
  simp only [Option.bind_some]
  rw [eq_ok l hl _ (by omega)]
  simp only [Option.bind_some, if_true]
  rw [e0]
  simp only [laws_FnExactFactorsOf.j1]
  rw [if_neg (by simp), g2 _ (by omega)]
  simp only [Option.bind_some]
  rw [if_neg (by omega), if_pos trivial]

end FnExactFactorsOfAid

theorem FnExactFactorsOf : laws_FnExactFactorsOf.Pure := by
  intro a _
  obtain ⟨l, c, hl, h⟩ := FnExactFactorsOfAid.impl_any a
  exact ⟨4002, FnExactFactorsOfAid.same_tells a c l hl 4000 (by omega) h⟩

end Go.Proofs.Ytaingnnflldlhaa.Pure
