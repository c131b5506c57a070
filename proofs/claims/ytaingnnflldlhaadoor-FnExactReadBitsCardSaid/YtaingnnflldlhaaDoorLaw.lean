/- The law of ReadBits walked: the reference and the program read the same. Conditions: the library's variables read as their text lays them. -/
import Derived.Test.YtaingnnflldlhaaDoorSplit
import Derived.Test.YtaingnnflldlhaaDoorSame
namespace Go.Proofs.YtaingnnflldlhaaDoor
open Go.RowKit Fl

theorem same_complex (a b : Nat) (ha : nan .f64 a = false ∨ a = 9221120237041090561) (hb : nan .f64 b = false ∨ b = 9221120237041090561) (w : World) : Calls Tryd.prog 6 #[.complex .f64 a b, .complex .f64 a b] w fun e w' => e = .returned (.bool true) ∧ w = w' := by
  have hs : ∀ a, (nan .f64 a = false ∨ a = 9221120237041090561) → ∀ w, Calls Tryd.prog 10 #[.float .f64 a, .float .f64 a] w fun e w' => e = .returned (.bool true) ∧ w = w' := by
    intro a h w
    cases hn : nan .f64 a with
    | false => exact Same.same_eq a hn w
    | true => exact Same.same_nan a a hn hn w
  have H1 := Lib.hid (hs a ha)
  have H2 := Lib.hid (hs b hb)
  clear ha hb hs
  go_enter Tryd.func6, Tryd.ntmps6
  go_wp2_with fail
  refine (H1.out _).mono ?_; rintro e w' ⟨rfl, rfl⟩
  go_wp2_with fail
  refine (H2.out _).mono ?_; rintro e w' ⟨rfl, rfl⟩
  go_wp2
  go_ret
  exact ⟨rfl, rfl⟩

/-- What the reference reads. -/
def specOf (s : ByteArray) : (Nat × Nat) × Int := match wordsOf s with | [A, B] => pairOf (wordOf A) (wordOf B) | _ => ((0, 0), 5)

theorem spec_two (s A B : ByteArray) (hs : s.size ≤ 1048576) (h : wordsOf s = [A, B]) (w : World) : Calls Tryd.prog 4 #[.string s] w fun e w' => e = .returned (.tuple #[.complex .f64 (pairOf (wordOf A) (wordOf B)).1.1 (pairOf (wordOf A) (wordOf B)).1.2, .int .i64 (pairOf (wordOf A) (wordOf B)).2]) ∧ Below w.heap.size w w' := by
  have H := Lib.hid (split_walk s hs w)
  rw [h] at H
  have HA := Lib.hid (read_walk A)
  have HB := Lib.hid (read_walk B)
  have eA : rdOf (A.toList == [110, 97, 110]) (bitsOf 16 A.data.toList) = wordOf A := rfl
  have eB : rdOf (B.toList == [110, 97, 110]) (bitsOf 16 B.data.toList) = wordOf B := rfl
  rw [eA] at HA
  rw [eB] at HB
  generalize wordOf A = a at *
  generalize wordOf B = b at *
  obtain ⟨a1, a2⟩ := a
  obtain ⟨b1, b2⟩ := b
  unfold pairOf
  dsimp only at *
  clear h eA eB hs
  go_enter Tryd.func4, Tryd.ntmps4
  go_wp2_with fail
  refine (H.out).mono ?_; rintro e w1 ⟨v, rfl, hown, hb⟩
  have hown' := hown
  rcases hown.2 with ⟨_, h0⟩ | ⟨g, cap, cur, rfl, hg, hh, _, _, _, _⟩
  · simp at h0
  · have c0 := hown'.cells (g := g) rfl 0 (.string A) rfl
    have c1 := hown'.cells (g := g) rfl 1 (.string B) rfl
    simp only [Addr.add_lit, Nat.zero_add] at c0 c1
    have HBL := Lib.hid hb
    clear hown hown' hb
    simp only [List.length_cons, List.length_nil]
    go_wp2_with fail
    refine (HA.out _).mono ?_; rintro e w' ⟨rfl, rfl⟩
    go_wp2_with fail
    refine (HB.out _).mono ?_; rintro e w' ⟨rfl, rfl⟩
    cases a2 with
    | false =>
      go_wp2
      go_ret2
      exact ⟨rfl, HBL.out⟩
    | true =>
      cases b2 with
      | false =>
        go_wp2
        go_ret2
        exact ⟨rfl, HBL.out⟩
      | true =>
        go_wp2
        go_ret2
        exact ⟨rfl, HBL.out⟩

theorem spec_other (s : ByteArray) (hs : s.size ≤ 1048576) (h : (wordsOf s).length ≠ 2) (w : World) : Calls Tryd.prog 4 #[.string s] w fun e w' => e = .returned (.tuple #[.complex .f64 0 0, .int .i64 5]) ∧ Below w.heap.size w w' := by
  have H := Lib.hid (split_walk s hs w)
  generalize wordsOf s = ws at *
  obtain ⟨L, hL⟩ : ∃ L, ws.length = L := ⟨_, rfl⟩
  unfold Strs at H
  rw [hL] at H h
  have hne : ((L : Int) == 2) = false := by simp; omega
  go_enter Tryd.func4, Tryd.ntmps4
  go_wp2_with fail
  refine (H.out).mono ?_; rintro e w1 ⟨v, rfl, hown, hb⟩
  have HBL := Lib.hid hb
  rcases hown.2 with ⟨hv, h0⟩ | ⟨g, cap, cur, rfl, hg, hh, _, _, _, _⟩
  · subst hv
    subst h0
    clear hown hb
    go_wp2
    go_ret2
    exact ⟨rfl, HBL.out⟩
  · clear hown hb
    go_wp2
    go_ret2
    exact ⟨rfl, HBL.out⟩

end Go.Proofs.YtaingnnflldlhaaDoor
