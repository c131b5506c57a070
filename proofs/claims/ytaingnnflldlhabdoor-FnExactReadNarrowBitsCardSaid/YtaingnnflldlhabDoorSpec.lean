/- The reference's reading of hexadecimal texts, walked; what it reads as a plain function. No condition. -/
import Derived.Test.YtaingnnflldlhabDoorChecked
import Derived.WalkKit
import Derived.WalkLawsBesides
import Derived.Lib.Hide
import Derived.Lib.Walk
namespace Go.Proofs.YtaingnnflldlhabDoor
open Go.RowKit

/-- The value of a lower-case hexadecimal digit. -/
def hexd (c : Nat) : Option Nat := if 48 ≤ c ∧ c ≤ 57 then some (c - 48) else if 97 ≤ c ∧ c ≤ 102 then some (c - 97 + 10) else none
/-- The number of such digits, from a number on. -/
def rdHex (acc : Nat) : List UInt8 → Option Nat
  | [] => some acc
  | c :: r => match hexd c.toNat with | some d => rdHex (acc * 16 + d) r | none => none

theorem hexd_lt {c d : Nat} (h : hexd c = some d) : d < 16 := by
  unfold hexd at h
  split at h
  · injection h; omega
  · split at h
    · injection h; omega
    · exact absurd h (by simp)

theorem index_at (s : ByteArray) (k c : Nat) (hk : k < s.size) (hc : (s.data.toList.getD k 0).toNat = c) (w : World) : (Instr.index 9 (.string s) (.int .i64 k)).run Tryd.prog w = .ok (.int .u8 c) w := by
  rw [run_index_string (P := Tryd.prog) w 9 s .i64 k Tryd.underlying9, dif_pos ⟨by omega, by omega⟩]
  obtain ⟨⟨l⟩⟩ := s
  have hl : k < l.length := hk
  have e : (ByteArray.mk ⟨l⟩)[((k : Nat) : Int).toNat]'(by show _ < l.length; omega) = l.getD k 0 := by
    simp only [List.getD, List.getElem?_eq_getElem hl, Option.getD_some, Int.toNat_natCast]
    rfl
  rw [e]
  have hc' : (l.getD k 0).toNat = c := hc
  rw [hc']

/-- What the reference's l01Bits gives. -/
def bitsOf (D : Nat) (l : List UInt8) : Nat × Bool := if l.length = D then (match rdHex 0 l with | some n => (n, true) | none => (0, false)) else (0, false)

theorem size_len (s : ByteArray) : s.data.toList.length = s.size := by rw [Array.length_toList]; rfl

set_option maxHeartbeats 1000000 in
theorem bits_walk (s : ByteArray) (D : Nat) (hD : D ≤ 16) (w : World) : Calls Tryd.prog 13 #[.string s, .int .i64 D] w fun e w' => e = .returned (.tuple #[.int .u64 (bitsOf D s.data.toList).1, .bool (bitsOf D s.data.toList).2]) ∧ w = w' := by
  have hlen := size_len s
  by_cases hs : s.size = D
  · obtain ⟨l, hl⟩ : ∃ l, l = s.data.toList := ⟨_, rfl⟩
    have hidx : Hid (∀ k c, k < s.size → (l.getD k 0).toNat = c → ∀ w, (Instr.index 9 (.string s) (.int .i64 k)).run Tryd.prog w = .ok (.int .u8 c) w) := Lib.hid fun k c hk hc w => index_at s k c hk (by rw [← hl]; exact hc) w
    rw [← hl] at hlen ⊢
    clear hl
    have hb : bitsOf D l = (match rdHex 0 l with | some n => (n, true) | none => (0, false)) := by unfold bitsOf; rw [if_pos (by omega)]
    rw [hb]
    clear hb
    obtain ⟨o1, o2, ho⟩ : ∃ o1 o2, (match rdHex 0 l with | some n => (n, true) | none => (0, false)) = (o1, o2) := ⟨_, _, rfl⟩
    rw [ho]
    have HO := Lib.hid ho
    clear ho
    have hsz : (s.size : Int) = (D : Int) := by omega
    go_enter Tryd.func13, Tryd.ntmps13
    go_wp2
    go_loop [6, 7] (fun vn vi => ∃ (k acc : Nat) (a : Int), vn = .int .u64 a ∧ vi = .int .i64 k ∧ k ≤ D ∧ Hid (a = (acc : Int) ∧ acc < 16 ^ k ∧ rdHex 0 l = rdHex acc (l.drop k)))
      (fun _ vi => D - (intOf vi).toNat)
    case atStart => exact ⟨0, 0, 0, rfl, rfl, by omega, Lib.hid ⟨rfl, by decide, by rw [List.drop_zero]⟩⟩
    case round =>
      obtain ⟨k, acc, a, rfl, rfl, hk, hh⟩ := hrel
      obtain ⟨ha, hacc, hrd⟩ := hh.out
      clear hh
      by_cases hkn : k < D
      · have hp : 16 ^ (k + 1) ≤ 16 ^ 16 := Nat.pow_le_pow_right (by omega) (by omega)
        have hp2 : 16 ^ (k + 1) = 16 ^ k * 16 := Nat.pow_succ 16 k
        have hb : acc * 16 + 15 < 18446744073709551616 := by
          have e16 : (16 : Nat) ^ 16 = 18446744073709551616 := by decide
          omega
        have hdrop : l.drop k = l[k]'(by omega) :: l.drop (k + 1) := List.drop_eq_getElem_cons (by omega)
        have hget : l.getD k 0 = l[k]'(by omega) := by simp [List.getD, List.getElem?_eq_getElem (show k < l.length by omega)]
        have hc := hidx.out k _ (by omega) rfl
        rw [hget] at hc
        rw [hdrop] at hrd
        generalize l[k]'(by omega) = c at hc hrd
        have hc256 : c.toNat < 256 := c.toNat_lt
        clear hdrop hget
        have i0 : 0 ≤ a := by omega
        have i1 : a * 16 + 15 < 18446744073709551616 := by omega
        by_cases h1 : 48 ≤ c.toNat ∧ c.toNat ≤ 57
        · have hd : hexd c.toNat = some (c.toNat - 48) := if_pos h1
          have hr : rdHex acc (c :: l.drop (k + 1)) = rdHex (acc * 16 + (c.toNat - 48)) (l.drop (k + 1)) := by rw [rdHex, hd]
          have HN : Hid (a * 16 + ((c.toNat : Int) - 48) = ((acc * 16 + (c.toNat - 48) : Nat) : Int) ∧ acc * 16 + (c.toNat - 48) < 16 ^ (k + 1) ∧ rdHex 0 l = rdHex (acc * 16 + (c.toNat - 48)) (l.drop (k + 1))) := Lib.hid ⟨by omega, by omega, hrd.trans hr⟩
          obtain ⟨h1a, h1b⟩ := h1
          clear hd hr hrd hp hp2 hb ha hacc
          go_wp2
          refine ⟨⟨k + 1, acc * 16 + (c.toNat - 48), a * 16 + ((c.toNat : Int) - 48), rfl, (by first | rfl | (congr 1; omega)), by omega, HN⟩, by simp [intOf]; omega⟩
        · by_cases h2 : 97 ≤ c.toNat ∧ c.toNat ≤ 102
          · have hd : hexd c.toNat = some (c.toNat - 97 + 10) := by unfold hexd; rw [if_neg h1, if_pos h2]
            have hr : rdHex acc (c :: l.drop (k + 1)) = rdHex (acc * 16 + (c.toNat - 97 + 10)) (l.drop (k + 1)) := by rw [rdHex, hd]
            have HN : Hid (a * 16 + ((c.toNat : Int) - 97) + 10 = ((acc * 16 + (c.toNat - 97 + 10) : Nat) : Int) ∧ acc * 16 + (c.toNat - 97 + 10) < 16 ^ (k + 1) ∧ rdHex 0 l = rdHex (acc * 16 + (c.toNat - 97 + 10)) (l.drop (k + 1))) := Lib.hid ⟨by omega, by omega, hrd.trans hr⟩
            obtain ⟨h2a, h2b⟩ := h2
            clear hd hr hrd hp hp2 hb ha hacc h1
            go_wp2
            refine ⟨⟨k + 1, acc * 16 + (c.toNat - 97 + 10), a * 16 + ((c.toNat : Int) - 97) + 10, rfl, (by first | rfl | (congr 1; omega)), by omega, HN⟩, by simp [intOf]; omega⟩
          · have hd : hexd c.toNat = none := by unfold hexd; rw [if_neg h1, if_neg h2]
            have hr : rdHex acc (c :: l.drop (k + 1)) = none := by rw [rdHex, hd]
            rw [hr] at hrd
            have ho := HO.out
            rw [hrd] at ho
            simp only [Prod.mk.injEq] at ho
            obtain ⟨rfl, rfl⟩ := ho
            clear hd hr hrd hp hp2 hb ha hacc
            go_wp2
            all_goals go_ret2
            all_goals exact ⟨rfl, rfl⟩
      · have hkk : k = D := by omega
        subst hkk
        have hr : rdHex acc (l.drop s.size) = some acc := by rw [List.drop_eq_nil_of_le (by omega)]; rfl
        rw [hs] at hr
        rw [hr] at hrd
        have ho := HO.out
        rw [hrd] at ho
        simp only [Prod.mk.injEq] at ho
        obtain ⟨rfl, rfl⟩ := ho
        subst ha
        clear hr hrd hacc
        go_wp2
        go_ret2
        exact ⟨rfl, rfl⟩
  · have hb : bitsOf D s.data.toList = (0, false) := by unfold bitsOf; rw [if_neg (by omega)]
    rw [hb]
    have hne : ((s.size : Int) == (D : Int)) = false := by simp; omega
    clear hb hs hlen
    go_enter Tryd.func13, Tryd.ntmps13
    go_wp2
    go_ret2
    exact ⟨rfl, rfl⟩
end Go.Proofs.YtaingnnflldlhabDoor
