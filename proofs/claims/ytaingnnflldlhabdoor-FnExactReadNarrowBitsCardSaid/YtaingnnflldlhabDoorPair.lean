/- The program's ReadBits walked. Conditions: the library's variables read as their text lays them; the text is not longer than the law lets it be. -/
import Derived.Test.YtaingnnflldlhabDoorReadImpl
import Derived.Shelf.Strings.Cut
namespace Go.Proofs.YtaingnnflldlhabDoor
open Go.RowKit Fl

theorem cut_inner_none (s : ByteArray) (h : Lib.indexByte s.data.toList 32 = -1) (w : World) : Calls Tryd.prog 18 #[.string s, .string ⟨#[32]⟩] w fun e w' => e = .returned (.tuple #[.string s, .string ⟨#[]⟩, .bool false]) ∧ w = w' := by
  have H := Lib.hid (Tryd.stringslite_Index_one s 32)
  rw [h] at H
  clear h
  go_enter Tryd.func18, Tryd.ntmps18
  go_wp2_with fail
  refine (H.out _).mono ?_; rintro e w' ⟨rfl, rfl⟩
  go_wp2
  go_ret3
  exact ⟨rfl, rfl⟩
theorem cut_inner_some (s : ByteArray) (o : Nat) (h : Lib.indexByte s.data.toList 32 = (o : Int)) (ho : o < s.size) (hs : s.size ≤ 1048576) (w : World) : Calls Tryd.prog 18 #[.string s, .string ⟨#[32]⟩] w fun e w' => e = .returned (.tuple #[.string (s.extract 0 o), .string (s.extract (o + 1) s.size), .bool true]) ∧ ∃ m, w' = w.drewN m := by
  have H := Lib.hid (Tryd.stringslite_Index_one s 32)
  rw [h] at H
  clear h
  have h0 : (0 : Int) ≤ (o : Int) := by omega
  go_enter Tryd.func18, Tryd.ntmps18
  go_wp2_with fail
  refine (H.out _).mono ?_; rintro e w' ⟨rfl, rfl⟩
  have mixed : Tryd.prog.follows Departure.mixedOrders = true := by kernel_rfl
  have h1 : (0 : Int) ≤ (o : Int) + 1 := by omega
  have h2 : (o : Int) ≤ (s.size : Int) := by omega
  have h3 : (o : Int) + 1 ≤ (s.size : Int) := by omega
  go_wp2
  go_region_o
  go_wp2
  go_ret3
  exact ⟨rfl, _, rfl⟩
/-- What cutting a text gives. -/
def CutTo (s A B : ByteArray) : Prop := ∃ fd : Bool, ∀ w, Calls Tryd.prog 18 #[.string s, .string ⟨#[32]⟩] w fun e w' => e = .returned (.tuple #[.string A, .string B, .bool fd]) ∧ ∃ m, w' = w.drewN m

theorem cut_walk {s A B : ByteArray} (h : CutTo s A B) : ∃ fd : Bool, ∀ w, Calls Tryd.prog 15 #[.string s, .string ⟨#[32]⟩] w fun e w' => e = .returned (.tuple #[.string A, .string B, .bool fd]) ∧ ∃ m, w' = w.drewN m := by
  obtain ⟨fd, h⟩ := h
  refine ⟨fd, fun w => ?_⟩
  have H := Lib.hid h
  clear h
  go_enter Tryd.func15, Tryd.ntmps15
  go_wp2_with fail
  refine (H.out _).mono ?_; rintro e w' ⟨rfl, m, rfl⟩
  go_wp2
  go_ret3
  exact ⟨rfl, _, rfl⟩

/-- One word as the reference reads it. -/
def wordOf (A : ByteArray) : Nat × Bool := rdOf (A.toList == [110, 97, 110]) (bitsOf 8 A.data.toList)
/-- Two words as a pair with its code. -/
def pairOf (a b : Nat × Bool) : (Nat × Nat) × Int := if a.2 && b.2 then ((a.1, b.1), 0) else ((0, 0), 5)

theorem below_drawn {w : World} (m : Nat) : Below w.heap.size w (w.drewN m) := ⟨rfl, rfl, rfl, Nat.le_refl _, fun _ _ => rfl⟩

theorem wide_zero : Wide 0 0 := .inr ⟨by decide, nan_zero32, by decide +kernel⟩

/-- A wide pair that stands for a narrow one, with its code. -/
def WideOut (p : (Nat × Nat) × Int) (w : World) (e : Ending) (w' : World) : Prop :=
  (∃ x y, e = .returned (.tuple #[.complex .f64 x y, .int .i64 p.2]) ∧ Wide x p.1.1 ∧ Wide y p.1.2) ∧ Below w.heap.size w w'
/-- A narrow pair that says the same as another, with its code. -/
def LikeOut (p : (Nat × Nat) × Int) (w : World) (e : Ending) (w' : World) : Prop :=
  (∃ x y, e = .returned (.tuple #[.complex .f32 x y, .int .i64 p.2]) ∧ Like .f32 x p.1.1 ∧ Like .f32 y p.1.2) ∧ Below w.heap.size w w'

theorem pair_walk (s A B : ByteArray) (hc : CutTo s A B) (hA : A.size ≤ 1048576) (hB : B.size ≤ 1048576) (w : World) (hR : Ready w) :
    Calls Tryd.prog 9 #[.string s, .bool true] w (WideOut (pairOf (wordOf A) (wordOf B)) w) := by
  obtain ⟨fd, hc⟩ := cut_walk hc
  have HC := Lib.hid hc
  have HA := Lib.hid (readBits_walk A hA)
  have HB := Lib.hid (readBits_walk B hB)
  have HR := Lib.hid hR
  have eA : rdOf (A.toList == [110, 97, 110]) (bitsOf 8 A.data.toList) = wordOf A := rfl
  have eB : rdOf (B.toList == [110, 97, 110]) (bitsOf 8 B.data.toList) = wordOf B := rfl
  unfold ImplOut at HA HB
  rw [eA] at HA
  rw [eB] at HB
  generalize wordOf A = a at *
  generalize wordOf B = b at *
  obtain ⟨a1, a2⟩ := a
  obtain ⟨b1, b2⟩ := b
  unfold WideOut pairOf
  dsimp only at *
  clear hc hR eA eB hA hB
  go_enter Tryd.func9, Tryd.ntmps9
  go_wp2_with fail
  refine (HC.out _).mono ?_; rintro e w' ⟨rfl, m, rfl⟩
  have HR1 : Hid (Ready (w.drewN m)) := Lib.hid (HR.out.below (below_drawn m))
  go_wp2_with fail
  refine (HA.out _ HR1.out).mono ?_; rintro e w1 ⟨⟨x, k1, rfl, hok, hx⟩, hb1⟩
  subst hok
  have HR2 : Hid (Ready w1) := Lib.hid (HR1.out.below hb1)
  have HB1 : Hid (Below w.heap.size w w1) := Lib.hid ((below_drawn m).trans hb1)
  clear hb1 HR1
  have HX := Lib.hid hx
  clear hx
  go_wp2_with fail
  refine (HB.out _ HR2.out).mono ?_; rintro e w2 ⟨⟨y, k2, rfl, hok, hy⟩, hb2⟩
  subst hok
  have HB2 : Hid (Below w.heap.size w w2) := Lib.hid (HB1.out.trans (hb2.mono HB1.out.size))
  clear hb2 HR2 HB1
  have HY := Lib.hid hy
  clear hy
  cases k1 with
  | false =>
    go_wp2
    go_ret2
    exact ⟨⟨0, 0, rfl, wide_zero, wide_zero⟩, HB2.out⟩
  | true =>
    cases k2 with
    | false =>
      go_wp2
      go_ret2
      exact ⟨⟨0, 0, rfl, wide_zero, wide_zero⟩, HB2.out⟩
    | true =>
      go_wp2
      go_ret2
      exact ⟨⟨x, y, rfl, HX.out trivial, HY.out trivial⟩, HB2.out⟩

theorem narrow_walk (x y a b : Nat) (hx : Wide x a) (hy : Wide y b) (w : World) :
    Calls Tryd.prog 10 #[.complex .f64 x y] w fun e w' => (∃ p q, e = .returned (.complex .f32 p q) ∧ Like .f32 p a ∧ Like .f32 q b) ∧ Below w.heap.size w w' := by
  obtain ⟨p, W1, h1, b1, r1⟩ := narrow_at x a hx w
  obtain ⟨q, W2, h2, b2, r2⟩ := narrow_at y b hy W1
  have HO := Lib.hid (And.intro (b1.trans (b2.mono b1.size)) (And.intro r1 r2))
  clear hx hy b1 b2 r1 r2
  go_enter Tryd.func10, Tryd.ntmps10
  go_wp2
  go_ret
  exact ⟨⟨p, q, rfl, HO.out.2.1, HO.out.2.2⟩, HO.out.1⟩

theorem impl_walk (s A B : ByteArray) (hc : CutTo s A B) (hA : A.size ≤ 1048576) (hB : B.size ≤ 1048576) (w : World) (hR : Ready w) :
    Calls Tryd.prog 5 #[.string s] w (LikeOut (pairOf (wordOf A) (wordOf B)) w) := by
  have H := Lib.hid (pair_walk s A B hc hA hB w hR)
  have HN := Lib.hid narrow_walk
  generalize pairOf (wordOf A) (wordOf B) = p at *
  obtain ⟨⟨p1, p2⟩, c⟩ := p
  unfold LikeOut
  unfold WideOut at H
  dsimp only at *
  clear hc hA hB hR
  go_enter Tryd.func5, Tryd.ntmps5
  go_wp2_with fail
  refine (H.out).mono ?_; rintro e w1 ⟨⟨x, y, rfl, hx, hy⟩, hb⟩
  have HX := Lib.hid hx
  have HY := Lib.hid hy
  have HB1 := Lib.hid hb
  clear hx hy hb
  go_wp2_with fail
  refine (HN.out _ _ _ _ HX.out HY.out _).mono ?_; rintro e w2 ⟨⟨u, v, rfl, hu, hv⟩, hb⟩
  have HU := Lib.hid hu
  have HV := Lib.hid hv
  have HB2 := Lib.hid (HB1.out.trans (hb.mono HB1.out.size))
  clear hu hv hb
  go_wp2
  go_ret2
  exact ⟨⟨u, v, rfl, HU.out, HV.out⟩, HB2.out⟩
end Go.Proofs.YtaingnnflldlhabDoor
