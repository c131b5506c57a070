/- The program's ReadBits walked. Conditions: the library's variables read as their text lays them; the text is not longer than the law lets it be. -/
import Derived.Test.YtaingnnflldlhaaDoorReadImpl
import Derived.Shelf.Strings.Cut
namespace Go.Proofs.YtaingnnflldlhaaDoor
open Go.RowKit Fl

theorem cut_inner_none (s : ByteArray) (h : Lib.indexByte s.data.toList 32 = -1) (w : World) : Calls Tryd.prog 17 #[.string s, .string ⟨#[32]⟩] w fun e w' => e = .returned (.tuple #[.string s, .string ⟨#[]⟩, .bool false]) ∧ w = w' := by
  have H := Lib.hid (Tryd.stringslite_Index_one s 32)
  rw [h] at H
  clear h
  go_enter Tryd.func17, Tryd.ntmps17
  go_wp2_with fail
  refine (H.out _).mono ?_; rintro e w' ⟨rfl, rfl⟩
  go_wp2
  go_ret3
  exact ⟨rfl, rfl⟩
theorem cut_inner_some (s : ByteArray) (o : Nat) (h : Lib.indexByte s.data.toList 32 = (o : Int)) (ho : o < s.size) (hs : s.size ≤ 1048576) (w : World) : Calls Tryd.prog 17 #[.string s, .string ⟨#[32]⟩] w fun e w' => e = .returned (.tuple #[.string (s.extract 0 o), .string (s.extract (o + 1) s.size), .bool true]) ∧ ∃ m, w' = w.drewN m := by
  have H := Lib.hid (Tryd.stringslite_Index_one s 32)
  rw [h] at H
  clear h
  have h0 : (0 : Int) ≤ (o : Int) := by omega
  go_enter Tryd.func17, Tryd.ntmps17
  go_wp2_with fail
  refine (H.out _).mono ?_; rintro e w' ⟨rfl, rfl⟩
  have mixed : Tryd.prog.follows Departure.mixedOrders = true := by kernel_rfl
  have h1 : (0 : Int) ≤ (o : Int) + 1 := by omega
  have h2 : (o : Int) ≤ (s.size : Int) := by omega
  have h3 : (o : Int) + 1 ≤ (s.size : Int) := by omega
  go_wp2
  go_region_o
  go_wp2
  go_ret3
  exact ⟨rfl, _, rfl⟩
/-- What cutting a text gives. -/
def CutTo (s A B : ByteArray) : Prop := ∃ fd : Bool, ∀ w, Calls Tryd.prog 17 #[.string s, .string ⟨#[32]⟩] w fun e w' => e = .returned (.tuple #[.string A, .string B, .bool fd]) ∧ ∃ m, w' = w.drewN m

theorem cut_walk {s A B : ByteArray} (h : CutTo s A B) : ∃ fd : Bool, ∀ w, Calls Tryd.prog 15 #[.string s, .string ⟨#[32]⟩] w fun e w' => e = .returned (.tuple #[.string A, .string B, .bool fd]) ∧ ∃ m, w' = w.drewN m := by
  obtain ⟨fd, h⟩ := h
  refine ⟨fd, fun w => ?_⟩
  have H := Lib.hid h
  clear h
  go_enter Tryd.func15, Tryd.ntmps15
  go_wp2_with fail
  refine (H.out _).mono ?_; rintro e w' ⟨rfl, m, rfl⟩
  go_wp2
  go_ret3
  exact ⟨rfl, _, rfl⟩

/-- One word as the reference reads it. -/
def wordOf (A : ByteArray) : Nat × Bool := rdOf (A.toList == [110, 97, 110]) (bitsOf 16 A.data.toList)
/-- Two words as a pair with its code. -/
def pairOf (a b : Nat × Bool) : (Nat × Nat) × Int := if a.2 && b.2 then ((a.1, b.1), 0) else ((0, 0), 5)

theorem below_drawn {w : World} (m : Nat) : Below w.heap.size w (w.drewN m) := ⟨rfl, rfl, rfl, Nat.le_refl _, fun _ _ => rfl⟩

theorem pair_walk (s A B : ByteArray) (hc : CutTo s A B) (hA : A.size ≤ 1048576) (hB : B.size ≤ 1048576) (w : World) (hR : Ready w) :
    Calls Tryd.prog 9 #[.string s, .bool false] w fun e w' => e = .returned (.tuple #[.complex .f64 (pairOf (wordOf A) (wordOf B)).1.1 (pairOf (wordOf A) (wordOf B)).1.2, .int .i64 (pairOf (wordOf A) (wordOf B)).2]) ∧ Below w.heap.size w w' := by
  obtain ⟨fd, hc⟩ := cut_walk hc
  have HC := Lib.hid hc
  have HA := Lib.hid (readBits_walk A hA)
  have HB := Lib.hid (readBits_walk B hB)
  have HR := Lib.hid hR
  have eA : rdOf (A.toList == [110, 97, 110]) (bitsOf 16 A.data.toList) = wordOf A := rfl
  have eB : rdOf (B.toList == [110, 97, 110]) (bitsOf 16 B.data.toList) = wordOf B := rfl
  unfold ImplOut at HA HB
  rw [eA] at HA
  rw [eB] at HB
  generalize wordOf A = a at *
  generalize wordOf B = b at *
  obtain ⟨a1, a2⟩ := a
  obtain ⟨b1, b2⟩ := b
  unfold pairOf
  dsimp only at *
  clear hc hR eA eB hA hB
  go_enter Tryd.func9, Tryd.ntmps9
  go_wp2_with fail
  refine (HC.out _).mono ?_; rintro e w' ⟨rfl, m, rfl⟩
  have HR1 : Hid (Ready (w.drewN m)) := Lib.hid (HR.out.below (below_drawn m))
  go_wp2_with fail
  refine (HA.out _ HR1.out).mono ?_; rintro e w1 ⟨⟨x, k1, rfl, hok, hx⟩, hb1⟩
  subst hok
  have HR2 : Hid (Ready w1) := Lib.hid (HR1.out.below hb1)
  have HB1 : Hid (Below w.heap.size w w1) := Lib.hid ((below_drawn m).trans hb1)
  clear hb1 HR1
  have HX := Lib.hid hx
  clear hx
  go_wp2_with fail
  refine (HB.out _ HR2.out).mono ?_; rintro e w2 ⟨⟨y, k2, rfl, hok, hy⟩, hb2⟩
  subst hok
  have HB2 : Hid (Below w.heap.size w w2) := Lib.hid (HB1.out.trans (hb2.mono HB1.out.size))
  clear hb2 HR2 HB1
  have HY := Lib.hid hy
  clear hy
  cases k1 with
  | false =>
    go_wp2
    go_ret2
    exact ⟨rfl, HB2.out⟩
  | true =>
    cases k2 with
    | false =>
      go_wp2
      go_ret2
      exact ⟨rfl, HB2.out⟩
    | true =>
      obtain rfl := HX.out rfl
      obtain rfl := HY.out rfl
      go_wp2
      go_ret2
      exact ⟨rfl, HB2.out⟩

theorem impl_walk (s A B : ByteArray) (hc : CutTo s A B) (hA : A.size ≤ 1048576) (hB : B.size ≤ 1048576) (w : World) (hR : Ready w) :
    Calls Tryd.prog 5 #[.string s] w fun e w' => e = .returned (.tuple #[.complex .f64 (pairOf (wordOf A) (wordOf B)).1.1 (pairOf (wordOf A) (wordOf B)).1.2, .int .i64 (pairOf (wordOf A) (wordOf B)).2]) ∧ Below w.heap.size w w' := by
  have H := Lib.hid (pair_walk s A B hc hA hB w hR)
  generalize pairOf (wordOf A) (wordOf B) = p at *
  clear hc hA hB hR
  go_enter Tryd.func5, Tryd.ntmps5
  go_wp2_with fail
  refine (H.out).mono ?_; rintro e w' ⟨rfl, hb⟩
  go_wp2
  go_ret2
  exact ⟨rfl, hb⟩
end Go.Proofs.YtaingnnflldlhaaDoor
