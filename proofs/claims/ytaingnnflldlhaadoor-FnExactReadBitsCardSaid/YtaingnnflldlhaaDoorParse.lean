/- What Go's ParseUint reads at base 16 in 64 bits, walked: the number of a text's hexadecimal digits, or an error. No condition but the text's length. -/
import Derived.Test.YtaingnnflldlhaaDoorRead
import Derived.Shelf.LaysM
import Derived.Lib.Strings
import Derived.Lib.ConvBytes
import Derived.Lib.AtoiAllMem
import Derived.Lib.Hide
import Derived.Laws.Strings3
import Derived.Laws.Closers25
import Derived.Laws.Closers25b
import Derived.BigCall
import Derived.BigGuard
namespace Go.Proofs.YtaingnnflldlhaaDoor
open Go.RowKit Fl

/-- A byte with the bit of small letters set. -/
def low (c : Nat) : Nat := (bits .or .u8 (c : Int) 32).toNat
theorem low_eq (c : Nat) (h : c < 256) : bits .or .u8 (c : Int) 32 = (low c : Int) ∧ low c < 256 := by
  have h2 : ∀ c : Nat, c < 256 → bits .or .u8 (c : Int) 32 = (low c : Int) ∧ low c < 256 := by decide +kernel
  exact h2 c h

theorem lower_walk (c m : Nat) (h : bits .or .u8 (c : Int) 32 = (m : Int)) (w : World) : Calls Tryd.prog 31 #[.int .u8 c] w fun e w' => e = .returned (.int .u8 m) ∧ w = w' := by
  go_enter Tryd.func31, Tryd.ntmps31
  go_wp2
  go_ret
  exact ⟨rfl, rfl⟩

theorem lower95 (w : World) : Calls Tryd.prog 31 #[.int .u8 95] w fun e w' => e = .returned (.int .u8 127) ∧ w = w' := by
  have h : bits .or .u8 95 32 = 127 := by decide +kernel
  go_enter Tryd.func31, Tryd.ntmps31
  go_wp2
  go_ret
  exact ⟨rfl, rfl⟩

/-- ParseUint's value of a digit. -/
def digU (c : Nat) : Option Nat := if 48 ≤ c ∧ c ≤ 57 then some (c - 48) else if 97 ≤ low c ∧ low c ≤ 102 then some (low c - 97 + 10) else none
/-- .. and of a text behind a number. -/
def parseH (acc : Nat) : List UInt8 → Sum Nat Bool
  | [] => .inl acc
  | c :: r => match digU c.toNat with
    | none => .inr false
    | some d => if 1152921504606846976 ≤ acc then .inr true else parseH (acc * 16 + d) r
/-- What ParseUint's inner function hands back: a number; or no number, or one too great, each with its error. -/
def tupU : Sum Nat Bool → Value
  | .inl n => .tuple #[.int .u64 n, .nilIface]
  | .inr false => .tuple #[.int .u64 0, .iface 59 (.int .i64 2)]
  | .inr true => .tuple #[.int .u64 18446744073709551615, .iface 59 (.int .i64 1)]

theorem underlying_61 : Tryd.prog.underlying 61 = some (.slice 5) := by kernel_rfl

set_option maxHeartbeats 8000000 in
set_option maxRecDepth 100000 in
theorem parse_inner (t : ByteArray) (hne : t.size ≠ 0) (hmax : t.size ≤ 1048576) (w : World) :
    Calls Tryd.prog 22 #[.string t, .int .i64 16, .int .i64 64] w fun e w' => e = .returned (tupU (parseH 0 t.data.toList)) ∧ w' = Lib.bytesWorld w 5 t := by
  have hemp : t.toList.isEmpty = false := by
    rw [← decide_eq_emptyBytes]
    exact decide_eq_false (fun h => hne (by rw [h]; rfl))
  have hcv := Lib.run_convert_string_bytes (P := Tryd.prog) w 9 61 5 t (u := .string) Tryd.underlying9 underlying_61 Tryd.underlying5
  have hB0 : ∀ j, j < t.size → (Lib.bytesWorld w 5 t).cell? ⟨w.heap.size, j, none⟩ = some (.int .u8 (t.data.toList.getD j 0).toNat) := fun j hj => Lib.bytesWorld_cell w 5 t j hj
  obtain ⟨V, hV⟩ : ∃ V, V = Lib.bytesWorld w 5 t := ⟨_, rfl⟩
  rw [← hV] at hcv hB0 ⊢
  have hB := Lib.hid hB0
  clear hV hB0
  obtain ⟨l, hl⟩ : ∃ l, l = t.data.toList := ⟨_, rfl⟩
  have hlen : l.length = t.size := by rw [hl]; exact size_len t
  rw [← hl] at hB ⊢
  clear hl
  obtain ⟨R, hR⟩ : ∃ R, R = parseH 0 l := ⟨_, rfl⟩
  rw [← hR]
  have HR := Lib.hid hR
  clear hR
  have hmv : IntKind.u64.wrap (IntKind.u64.wrap 18446744073709551616 - 1) = 18446744073709551615 := by
    rw [IntKind.wrap_u64, IntKind.wrap_u64]
    decide
  go_enter Tryd.func22, Tryd.ntmps22
  go_wp2
  go_loop [12, 13, 101] (fun vu vn vi => ∃ (k acc : Nat) (a : Int), vu = .bool false ∧ vn = .int .u64 a ∧ vi = .int .i64 k ∧ k ≤ t.size ∧ Hid (a = (acc : Int) ∧ acc < 18446744073709551616 ∧ R = parseH acc (l.drop k)))
    (fun _ _ vi => t.size - (intOf vi).toNat)
  case atStart => exact ⟨0, 0, 0, rfl, rfl, rfl, by omega, Lib.hid ⟨rfl, by omega, HR.out⟩⟩
  case round =>
    obtain ⟨k, acc, a, rfl, rfl, rfl, hk, hh⟩ := hrel
    obtain ⟨ha, hacc, hdec⟩ := hh.out
    clear hh HR
    have a0 : 0 ≤ a := by omega
    have a1 : a < 18446744073709551616 := by omega
    by_cases hkn : k < t.size
    · have hc := hB.out k hkn
      have hdrop : l.drop k = l[k]'(by omega) :: l.drop (k + 1) := List.drop_eq_getElem_cons (by omega)
      have hget : l.getD k 0 = l[k]'(by omega) := by simp [List.getD, List.getElem?_eq_getElem (show k < l.length by omega)]
      rw [hdrop] at hdec
      rw [hget] at hc
      generalize l[k]'(by omega) = c at hc hdec
      have hc256 : c.toNat < 256 := c.toNat_lt
      clear hB hdrop hget
      by_cases h95 : c.toNat = 95
      · have hdg : digU c.toNat = none := by rw [h95]; decide +kernel
        have hstep : parseH acc (c :: l.drop (k + 1)) = match digU c.toNat with | none => .inr false | some d => if 1152921504606846976 ≤ acc then .inr true else parseH (acc * 16 + d) (l.drop (k + 1)) := rfl
        rw [hstep, hdg] at hdec
        dsimp only at hdec
        subst hdec
        rw [h95] at hc
        have hc' : V.cell? ⟨w.heap.size, k, none⟩ = some (.int .u8 95) := hc
        clear hc hstep hdg hacc ha
        go_wp2_with (go_at_call 31; refine (lower95 _).mono ?_; rintro e w' ⟨rfl, rfl⟩)
        go_ret2
        exact ⟨rfl, rfl⟩
      have hb95 : ((c.toNat : Int) == 95) = false := by simp; omega
      obtain ⟨hlow, hl256⟩ := low_eq c.toNat hc256
      have HL := Lib.hid (lower_walk c.toNat (low c.toNat) hlow)
      have hdg : digU c.toNat = if 48 ≤ c.toNat ∧ c.toNat ≤ 57 then some (c.toNat - 48) else if 97 ≤ low c.toNat ∧ low c.toNat ≤ 102 then some (low c.toNat - 97 + 10) else none := rfl
      have hstep : parseH acc (c :: l.drop (k + 1)) = match digU c.toNat with | none => .inr false | some d => if 1152921504606846976 ≤ acc then .inr true else parseH (acc * 16 + d) (l.drop (k + 1)) := rfl
      rw [hstep, hdg] at hdec
      clear hstep hdg hlow
      generalize low c.toNat = m at *
      generalize c.toNat = cn at *
      clear h95
      by_cases h1 : 48 ≤ cn ∧ cn ≤ 57
      · rw [if_pos h1] at hdec
        obtain ⟨h1a, h1b⟩ := h1
        dsimp only at hdec
        by_cases hcut : 1152921504606846976 ≤ acc
        · rw [if_pos hcut] at hdec
          subst hdec
          have icut : 1152921504606846976 ≤ a := by omega
          clear hcut hacc ha
          go_wp2
          go_ret2
          exact ⟨rfl, rfl⟩
        · rw [if_neg hcut] at hdec
          have HN : Hid (a * 16 + ((cn : Int) - 48) = ((acc * 16 + (cn - 48) : Nat) : Int) ∧ acc * 16 + (cn - 48) < 18446744073709551616 ∧ R = parseH (acc * 16 + (cn - 48)) (l.drop (k + 1))) := Lib.hid ⟨by omega, by omega, hdec⟩
          have icut : a < 1152921504606846976 := by omega
          have iov : a * 16 + ((cn : Int) - 48) < 18446744073709551616 := by omega
          clear hcut hacc hdec ha
          go_wp2
          refine ⟨⟨k + 1, acc * 16 + (cn - 48), a * 16 + ((cn : Int) - 48), rfl, (by first | rfl | (congr 1; omega)), (by first | rfl | (congr 1; omega)), by omega, HN⟩, by simp [intOf]; omega⟩
      · rw [if_neg h1] at hdec
        by_cases h2 : 97 ≤ m ∧ m ≤ 102
        · rw [if_pos h2] at hdec
          obtain ⟨h2a, h2b⟩ := h2
          dsimp only at hdec
          by_cases hcut : 1152921504606846976 ≤ acc
          · rw [if_pos hcut] at hdec
            subst hdec
            have icut : 1152921504606846976 ≤ a := by omega
            clear hcut hacc ha
            go_wp2_with (go_at_call 31; refine (HL.out _).mono ?_; rintro e w' ⟨rfl, rfl⟩)
            all_goals go_ret2
            all_goals exact ⟨rfl, rfl⟩
          · rw [if_neg hcut] at hdec
            have HN : Hid (a * 16 + ((m : Int) - 97 + 10) = ((acc * 16 + (m - 97 + 10) : Nat) : Int) ∧ acc * 16 + (m - 97 + 10) < 18446744073709551616 ∧ R = parseH (acc * 16 + (m - 97 + 10)) (l.drop (k + 1))) := Lib.hid ⟨by omega, by omega, hdec⟩
            have icut : a < 1152921504606846976 := by omega
            have iov : a * 16 + ((m : Int) - 97 + 10) < 18446744073709551616 := by omega
            clear hcut hacc hdec ha
            go_wp2_with (go_at_call 31; refine (HL.out _).mono ?_; rintro e w' ⟨rfl, rfl⟩)
            all_goals refine ⟨⟨k + 1, acc * 16 + (m - 97 + 10), a * 16 + ((m : Int) - 97 + 10), rfl, (by first | rfl | (congr 1; omega)), (by first | rfl | (congr 1; omega)), by omega, HN⟩, by simp [intOf]; omega⟩
        · rw [if_neg h2] at hdec
          dsimp only at hdec
          subst hdec
          clear hacc ha
          go_wp2_with (go_at_call 31; refine (HL.out _).mono ?_; rintro e w' ⟨rfl, rfl⟩)
          all_goals go_ret2
          all_goals exact ⟨rfl, rfl⟩
    · have hkk : k = t.size := by omega
      subst hkk
      have hr : parseH acc (l.drop t.size) = .inl acc := by rw [List.drop_eq_nil_of_le (by omega)]; rfl
      rw [hr] at hdec
      subst hdec
      subst ha
      clear hr hacc a0 a1
      go_wp2
      go_ret2
      exact ⟨rfl, rfl⟩

end Go.Proofs.YtaingnnflldlhaaDoor
