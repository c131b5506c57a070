/- The law of ReadNarrowBits walked: the reference and the program read the same. Conditions: the library's variables read as their text lays them. -/
import Derived.Test.YtaingnnflldlhabDoorSplit
import Derived.Test.YtaingnnflldlhabDoorSame
namespace Go.Proofs.YtaingnnflldlhabDoor
open Go.RowKit Fl

theorem same_float (a b : Nat) (h : Like .f64 a b) (w : World) : Calls Tryd.prog 11 #[.float .f64 a, .float .f64 b] w fun e w' => e = .returned (.bool true) ∧ w = w' := by
  rcases h with ⟨h1, h2⟩ | ⟨h1, h2⟩
  · exact Same.same_nan a b h1 h2 w
  · subst h1
    exact Same.same_eq a h2 w

theorem same_complex (a1 a2 b1 b2 : Nat) (h1 : Like .f64 a1 b1) (h2 : Like .f64 a2 b2) (w : World) : Calls Tryd.prog 6 #[.complex .f64 a1 a2, .complex .f64 b1 b2] w fun e w' => e = .returned (.bool true) ∧ w = w' := by
  have H1 := Lib.hid (same_float a1 b1 h1)
  have H2 := Lib.hid (same_float a2 b2 h2)
  clear h1 h2
  go_enter Tryd.func6, Tryd.ntmps6
  go_wp2_with fail
  refine (H1.out _).mono ?_; rintro e w' ⟨rfl, rfl⟩
  go_wp2_with fail
  refine (H2.out _).mono ?_; rintro e w' ⟨rfl, rfl⟩
  go_wp2
  go_ret
  exact ⟨rfl, rfl⟩

theorem like_zero : Like .f32 0 0 := .inr ⟨rfl, nan_zero32⟩

theorem spec_two (s A B : ByteArray) (hs : s.size ≤ 1048576) (h : wordsOf s = [A, B]) (w : World) : Calls Tryd.prog 4 #[.string s] w (LikeOut (pairOf (wordOf A) (wordOf B)) w) := by
  have H := Lib.hid (split_walk s hs w)
  rw [h] at H
  have HA := Lib.hid (read_walk A)
  have HB := Lib.hid (read_walk B)
  have eA : rdOf (A.toList == [110, 97, 110]) (bitsOf 8 A.data.toList) = wordOf A := rfl
  have eB : rdOf (B.toList == [110, 97, 110]) (bitsOf 8 B.data.toList) = wordOf B := rfl
  rw [eA] at HA
  rw [eB] at HB
  generalize wordOf A = a at *
  generalize wordOf B = b at *
  obtain ⟨a1, a2⟩ := a
  obtain ⟨b1, b2⟩ := b
  unfold LikeOut pairOf
  dsimp only at *
  clear h eA eB hs
  go_enter Tryd.func4, Tryd.ntmps4
  go_wp2_with fail
  refine (H.out).mono ?_; rintro e w1 ⟨v, rfl, hown, hb⟩
  have hown' := hown
  rcases hown.2 with ⟨_, h0⟩ | ⟨g, cap, cur, rfl, hg, hh, _, _, _, _⟩
  · simp at h0
  · have c0 := hown'.cells (g := g) rfl 0 (.string A) rfl
    have c1 := hown'.cells (g := g) rfl 1 (.string B) rfl
    simp only [Addr.add_lit, Nat.zero_add] at c0 c1
    have HBL := Lib.hid hb
    clear hown hown' hb
    simp only [List.length_cons, List.length_nil]
    go_wp2_with fail
    refine (HA.out _).mono ?_; rintro e w2 ⟨⟨x, rfl, hx⟩, hb2⟩
    have c1' := (hb2.cell (World.block_lt_of_cell? _ _ c1)).trans c1
    have HX := Lib.hid hx
    have HB2 := Lib.hid (HBL.out.trans (hb2.mono HBL.out.size))
    clear hx hb2 c0 c1
    go_wp2_with fail
    refine (HB.out _).mono ?_; rintro e w3 ⟨⟨y, rfl, hy⟩, hb3⟩
    have HY := Lib.hid hy
    have HB3 := Lib.hid (HB2.out.trans (hb3.mono HB2.out.size))
    clear hy hb3 c1'
    cases a2 with
    | false =>
      go_wp2
      go_ret2
      exact ⟨⟨0, 0, rfl, like_zero, like_zero⟩, HB3.out⟩
    | true =>
      cases b2 with
      | false =>
        go_wp2
        go_ret2
        exact ⟨⟨0, 0, rfl, like_zero, like_zero⟩, HB3.out⟩
      | true =>
        go_wp2
        go_ret2
        exact ⟨⟨x, y, rfl, HX.out, HY.out⟩, HB3.out⟩

theorem spec_other (s : ByteArray) (hs : s.size ≤ 1048576) (h : (wordsOf s).length ≠ 2) (w : World) : Calls Tryd.prog 4 #[.string s] w (LikeOut ((0, 0), 5) w) := by
  have H := Lib.hid (split_walk s hs w)
  generalize wordsOf s = ws at *
  obtain ⟨L, hL⟩ : ∃ L, ws.length = L := ⟨_, rfl⟩
  unfold Strs at H
  unfold LikeOut
  rw [hL] at H h
  have hne : ((L : Int) == 2) = false := by simp; omega
  go_enter Tryd.func4, Tryd.ntmps4
  go_wp2_with fail
  refine (H.out).mono ?_; rintro e w1 ⟨v, rfl, hown, hb⟩
  have HBL := Lib.hid hb
  rcases hown.2 with ⟨hv, h0⟩ | ⟨g, cap, cur, rfl, hg, hh, _, _, _, _⟩
  · subst hv
    subst h0
    clear hown hb
    go_wp2
    go_ret2
    exact ⟨⟨0, 0, rfl, like_zero, like_zero⟩, HBL.out⟩
  · clear hown hb
    go_wp2
    go_ret2
    exact ⟨⟨0, 0, rfl, like_zero, like_zero⟩, HBL.out⟩

end Go.Proofs.YtaingnnflldlhabDoor
