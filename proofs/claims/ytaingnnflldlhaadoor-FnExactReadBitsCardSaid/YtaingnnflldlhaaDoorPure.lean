/- What ParseUint reads and FormatUint writes, and what the reference reads: the plain law. No program in sight. -/
import Derived.Test.YtaingnnflldlhaaDoorImpl
namespace Go.Proofs.YtaingnnflldlhaaDoor
open Go.RowKit Fl

/-- So many digits, zeros ahead. -/
def hexP : Nat → Nat → List Nat
  | 0, _ => []
  | k + 1, n => hexP k (n / 16) ++ [hexc (n % 16)]

theorem hexP_zero : ∀ k, hexP k 0 = List.replicate k 48 := by
  intro k
  induction k with
  | zero => rfl
  | succ k ih =>
    show hexP k (0 / 16) ++ [hexc (0 % 16)] = _
    rw [Nat.zero_div, ih, show hexc (0 % 16) = 48 from rfl, List.replicate_succ']
theorem hexT_eq : ∀ (D u : Nat), 1 ≤ D → u < 16 ^ D → hexT D u = hexP D u := by
  intro D
  induction D with
  | zero => intro u h; omega
  | succ D ih =>
    intro u _ hu
    show _ = hexP D (u / 16) ++ [hexc (u % 16)]
    unfold hexT
    by_cases h : u < 16
    · rw [hexL_small h, Nat.div_eq_of_lt h, hexP_zero, Nat.mod_eq_of_lt h]; rfl
    · rw [hexL_big (by omega), List.length_append]
      have hD : 1 ≤ D := by
        rcases Nat.eq_zero_or_pos D with e | e
        · subst e; simp at hu; omega
        · exact e
      have h2 : u / 16 < 16 ^ D := Nat.div_lt_of_lt_mul (by rw [Nat.mul_comm, ← Nat.pow_succ]; exact hu)
      have := ih (u / 16) hD h2
      unfold hexT at this
      rw [← this, ← List.append_assoc]
      congr 3
      simp

theorem rdHex_snoc (c : UInt8) : ∀ (l : List UInt8) (acc : Nat), rdHex acc (l ++ [c]) = match rdHex acc l with | some m => (match hexd c.toNat with | some d => some (m * 16 + d) | none => none) | none => none := by
  intro l
  induction l with
  | nil =>
    intro acc
    show (match hexd c.toNat with | some d => rdHex (acc * 16 + d) [] | none => none) = _
    show _ = (match hexd c.toNat with | some d => some (acc * 16 + d) | none => none)
    cases hexd c.toNat <;> rfl
  | cons x l ih =>
    intro acc
    show (match hexd x.toNat with | some d => rdHex (acc * 16 + d) (l ++ [c]) | none => none) = (match (match hexd x.toNat with | some d => rdHex (acc * 16 + d) l | none => none) with | some m => _ | none => none)
    cases hexd x.toNat with
    | none => rfl
    | some d => exact ih _

theorem hexc_hexd {c d : Nat} (h : hexd c = some d) : hexc d = c := by
  unfold hexd at h
  split at h
  · injection h with h; subst h; unfold hexc; rw [if_pos (by omega)]; omega
  · split at h
    · injection h with h; subst h; unfold hexc; rw [if_neg (by omega)]; omega
    · exact absurd h (by simp)
theorem hexd_hexc {d : Nat} (h : d < 16) : hexd (hexc d) = some d := by
  have : ∀ d, d < 16 → hexd (hexc d) = some d := by decide
  exact this d h

theorem snoc_cases (l : List UInt8) : l = [] ∨ ∃ l' c, l = l' ++ [c] := by
  rcases List.eq_nil_or_concat l with h | ⟨a, b, h⟩
  · exact .inl h
  · exact .inr ⟨a, b, by simpa using h⟩

theorem rd_write : ∀ (k : Nat) (l : List UInt8) (n : Nat), l.length = k → rdHex 0 l = some n → l.map (fun b => b.toNat) = hexP k n ∧ n < 16 ^ k := by
  intro k
  induction k with
  | zero =>
    intro l n hl h
    have : l = [] := List.eq_nil_of_length_eq_zero hl
    subst this
    have e : rdHex 0 [] = some 0 := rfl
    rw [e] at h
    injection h with h
    subst h
    exact ⟨rfl, by decide⟩
  | succ k ih =>
    intro l n hl h
    rcases snoc_cases l with e | ⟨l', c, e⟩
    · subst e; simp at hl
    · subst e
      rw [rdHex_snoc] at h
      have hl' : l'.length = k := by simpa using hl
      cases hm : rdHex 0 l' with
      | none => rw [hm] at h; exact absurd h (by simp)
      | some m =>
        rw [hm] at h
        cases hd : hexd c.toNat with
        | none => rw [hd] at h; exact absurd h (by simp)
        | some d =>
          rw [hd] at h
          injection h with h
          obtain ⟨i1, i2⟩ := ih l' m hl' hm
          have hd16 := hexd_lt hd
          subst h
          refine ⟨?_, ?_⟩
          · rw [List.map_append, i1]
            show _ = hexP k ((m * 16 + d) / 16) ++ [hexc ((m * 16 + d) % 16)]
            rw [show (m * 16 + d) / 16 = m by omega, show (m * 16 + d) % 16 = d by omega, hexc_hexd hd]; rfl
          · rw [Nat.pow_succ]; omega

theorem write_rd : ∀ (k : Nat) (l : List UInt8) (n : Nat), l.map (fun b => b.toNat) = hexP k n → n < 16 ^ k → l.length = k ∧ rdHex 0 l = some n := by
  intro k
  induction k with
  | zero =>
    intro l n h hn
    have : l = [] := by
      have e : hexP 0 n = [] := rfl
      rw [e] at h; simpa using h
    subst this
    have : n = 0 := by simp at hn; omega
    subst this
    exact ⟨rfl, rfl⟩
  | succ k ih =>
    intro l n h hn
    have e : hexP (k + 1) n = hexP k (n / 16) ++ [hexc (n % 16)] := rfl
    rw [e] at h
    rcases snoc_cases l with e | ⟨l', c, e⟩
    · subst e; simp at h
    · subst e
      rw [List.map_append] at h
      obtain ⟨h1, h2⟩ := List.append_inj' h (by simp)
      have h2 : c.toNat = hexc (n % 16) := by simpa using h2
      obtain ⟨i1, i2⟩ := ih l' (n / 16) h1 (Nat.div_lt_of_lt_mul (by rw [Nat.mul_comm, ← Nat.pow_succ]; exact hn))
      refine ⟨by simp [i1], ?_⟩
      rw [rdHex_snoc, i2, h2, hexd_hexc (Nat.mod_lt _ (by omega))]
      show some (n / 16 * 16 + n % 16) = some n
      congr 1; omega

theorem digU_of {c d : Nat} (hc : c < 256) (h : hexd c = some d) : digU c = some d := by
  have h2 : ∀ c, c < 256 → ∀ d, d < 16 → hexd c = some d → digU c = some d := by decide +kernel
  exact h2 c hc d (hexd_lt h) h

/-- What the reference reads ParseUint reads. -/
theorem parse_of_rd : ∀ (l : List UInt8) (acc n : Nat), acc < 16 ^ (16 - l.length) → l.length ≤ 16 → rdHex acc l = some n → parseH acc l = .inl n := by
  intro l
  induction l with
  | nil =>
    intro acc n _ _ h
    have e : rdHex acc [] = some acc := rfl
    rw [e] at h
    injection h with h
    subst h; rfl
  | cons c l ih =>
    intro acc n ha hl h
    have e : rdHex acc (c :: l) = match hexd c.toNat with | some d => rdHex (acc * 16 + d) l | none => none := rfl
    rw [e] at h
    cases hd : hexd c.toNat with
    | none => rw [hd] at h; exact absurd h (by simp)
    | some d =>
      rw [hd] at h
      have e2 : parseH acc (c :: l) = match digU c.toNat with | none => .inr false | some d => if 1152921504606846976 ≤ acc then .inr true else parseH (acc * 16 + d) l := rfl
      rw [e2, digU_of c.toNat_lt hd]
      dsimp only
      rw [List.length_cons] at ha hl
      have h15 : 16 ^ (16 - (l.length + 1)) ≤ 16 ^ 15 := Nat.pow_le_pow_right (by omega) (by omega)
      have e15 : (16 : Nat) ^ 15 = 1152921504606846976 := by decide
      rw [if_neg (by omega)]
      refine ih _ _ ?_ (by omega) h
      have hd16 := hexd_lt hd
      have : (16 : Nat) ^ (16 - l.length) = 16 ^ (16 - (l.length + 1)) * 16 := by rw [← Nat.pow_succ]; congr 1; omega
      omega

theorem parse_lt : ∀ (l : List UInt8) (acc n : Nat), acc < 18446744073709551616 → parseH acc l = .inl n → n < 18446744073709551616 := by
  intro l
  induction l with
  | nil =>
    intro acc n ha h
    have e : parseH acc [] = .inl acc := rfl
    rw [e] at h
    injection h with h
    omega
  | cons c l ih =>
    intro acc n ha h
    have e2 : parseH acc (c :: l) = match digU c.toNat with | none => .inr false | some d => if 1152921504606846976 ≤ acc then .inr true else parseH (acc * 16 + d) l := rfl
    rw [e2] at h
    cases hd : digU c.toNat with
    | none => rw [hd] at h; exact absurd h (by simp)
    | some d =>
      rw [hd] at h
      dsimp only at h
      by_cases hc : 1152921504606846976 ≤ acc
      · rw [if_pos hc] at h; exact absurd h (by simp)
      · rw [if_neg hc] at h
        have h16 : d < 16 := by
          unfold digU at hd
          split at hd
          · injection hd; omega
          · split at hd
            · injection hd; omega
            · exact absurd hd (by simp)
        exact ih _ _ (by omega) h

theorem all_lt {l : List UInt8} {n : Nat} (h : parseAll l = .inl n) : n < 18446744073709551616 := by
  unfold parseAll at h
  split at h
  · exact absurd h (by simp)
  · exact parse_lt l 0 n (by omega) h

/-- The reference's bits are ParseUint's number, and its text is the word. -/
theorem bits_parse {l : List UInt8} {n : Nat} (h : bitsOf 16 l = (n, true)) : parseAll l = .inl n ∧ hexT 16 n = l.map (fun b => b.toNat) := by
  unfold bitsOf at h
  split at h
  · rename_i hl
    cases hr : rdHex 0 l with
    | none => rw [hr] at h; simp at h
    | some m =>
      rw [hr] at h
      injection h with h _
      subst h
      obtain ⟨i1, i2⟩ := rd_write 16 l m hl hr
      refine ⟨?_, by rw [hexT_eq 16 m (by omega) i2, i1]⟩
      unfold parseAll
      rw [if_neg (by intro e; subst e; simp at hl)]
      exact parse_of_rd l 0 m (by rw [hl]; decide) (by omega) hr
  · simp at h
theorem parse_bits {l : List UInt8} {n : Nat} (h : n < 18446744073709551616) (ht : hexT 16 n = l.map (fun b => b.toNat)) : bitsOf 16 l = (n, true) := by
  have h16 : n < 16 ^ 16 := Nat.lt_of_lt_of_le h (by decide)
  rw [hexT_eq 16 n (by omega) h16] at ht
  obtain ⟨i1, i2⟩ := write_rd 16 l n ht.symm h16
  unfold bitsOf
  rw [if_pos i1, i2]

end Go.Proofs.YtaingnnflldlhaaDoor
