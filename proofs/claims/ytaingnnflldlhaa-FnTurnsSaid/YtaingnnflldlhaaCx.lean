/- The walks of the law's own helpers on slices of complex numbers: two rows of the same numbers are equal; a row is marked; a marked row holds its marks. -/
import Derived.Test.YtaingnnflldlhaaTurnLaw
namespace Go.Proofs.Ytaingnnflldlhaa.Cx
open Go.RowKit Fl TurnW

def cxv (z : Nat × Nat) : Value := .complex .f64 z.1 z.2
/-- The first n cells of a block hold these numbers; and may be written. -/
def Has (w : World) (g n : Nat) (f : Nat → Nat × Nat) : Prop := ∀ j, j < n → w.cell? ⟨g, j, none⟩ = some (cxv (f j))
def Free (w : World) (g n : Nat) : Prop := ∀ j, j < n → w.frozen? ⟨g, j, none⟩ = false

theorem Has.drewN {w : World} {g n : Nat} {f : Nat → Nat × Nat} (h : Has w g n f) (m : Nat) : Has (w.drewN m) g n f := h

theorem eq_row (g h n c1 c2 : Nat) (f : Nat → Nat × Nat) (hn : n ≤ 1000000) (hf : ∀ j, j < n → nan .f64 (f j).1 = false ∧ nan .f64 (f j).2 = false) (w : World) (h1 : Has w g n f) (h2 : Has w h n f) :
    Calls Try.prog 43 #[.slice (some ⟨g, 0, none⟩) n c1, .slice (some ⟨h, 0, none⟩) n c2] w fun e w' => e = .returned (.bool true) ∧ ∃ m, w' = w.drewN m := by
  have H1 := Lib.hid h1
  have H2 := Lib.hid h2
  have HF := Lib.hid hf
  clear h1 h2 hf
  go_enter Try.func43, Try.ntmps43
  go_wp2
  go_loopw [5] (fun i wr => ∃ k : Nat, k ≤ n ∧ i = .int .i64 k ∧ Hid (∃ m, wr = w.drewN m)) (fun i _ => n - (intOf i).toNat)
  case atStart => exact ⟨0, by omega, rfl, ⟨0, rfl⟩⟩
  case round =>
    obtain ⟨k, hk, rfl, hw⟩ := hrel
    by_cases hlt : k < n
    · have e1 : wr.cell? ⟨g, k, none⟩ = some (cxv (f k)) := by obtain ⟨m, rfl⟩ := hw; exact H1.out k hlt
      have e2 : wr.cell? ⟨h, k, none⟩ = some (cxv (f k)) := by obtain ⟨m, rfl⟩ := hw; exact H2.out k hlt
      unfold cxv at e1 e2
      obtain ⟨na, nb⟩ := HF.out k hlt
      have HS := Lib.hid (same_complex _ _ na nb)
      clear na nb
      generalize (f k).1 = a at *
      generalize (f k).2 = b at *
      have h0 : (0 : Int) ≤ (k : Int) := by omega
      have h3 : (k : Int) < (n : Int) := by omega
      go_wp2
      go_quiet ((go_at_call 40; exact Calls.quiet_of_same ((HS.out _).mono fun _ _ hh => ⟨hh.1, hh.2.symm⟩)))
      go_wp2
      go_roundw
      case rel => exact ⟨k + 1, by omega, by go_num, by obtain ⟨m, rfl⟩ := hw; exact ⟨_, World.drewN_drewN ..⟩⟩
      case measure => simp [intOf]; omega
    · have hkn : k = n := by omega
      have hge : ¬ (k : Int) < (n : Int) := by omega
      clear hkn
      go_wp2
      go_ret
      obtain ⟨m, rfl⟩ := hw
      exact ⟨rfl, _, rfl⟩

theorem eq_none (a b : Option Addr) (c1 c2 : Nat) (w : World) :
    Calls Try.prog 43 #[.slice a 0 c1, .slice b 0 c2] w fun e w' => e = .returned (.bool true) ∧ w = w' := by
  go_enter Try.func43, Try.ntmps43
  go_wp2
  refine wp_loop_rounds 1 ?_
  rw [rounds_succ]
  go_wp2
  go_ret
  exact ⟨rfl, rfl⟩


/-- The mark with the number x + j at place j. -/
def mk (x j : Nat) : Nat × Nat := (fi (x + j), one)

theorem run_store_complex (P : Program) (w : World) (a : Addr) (m : Mode) (k : FloatKind) (x y : Nat) : (store a (.complex k x y) m).run P w = stored P w a (.complex k x y) m := run_store P w a _ m rfl
attribute [local go_sem] run_store_complex

/-- What marking leaves: the marks, and all else as it was. -/
structure Marked (w w' : World) (g n x : Nat) : Prop where
  has : Has w' g n (mk x)
  free : ∀ a, w'.frozen? a = w.frozen? a
  grown : w.grownBy w' (some g)

theorem mark_row (g n x c : Nat) (f : Nat → Nat × Nat) (hn : n ≤ 1000000) (hx : x ≤ 1000000) (w : World) (h1 : Has w g n f) (h2 : Free w g n) :
    Calls Try.prog 44 #[.slice (some ⟨g, 0, none⟩) n c, .int .i64 x] w fun e w' => e = .returned (.int .i64 (x + n : Nat)) ∧ Marked w w' g n x := by
  have H1 := Lib.hid h1
  have H2 := Lib.hid h2
  clear h1 h2
  go_enter Try.func44, Try.ntmps44
  go_wp2
  go_loopw [1, 5] (fun y i wr => ∃ k : Nat, k ≤ n ∧ i = .int .i64 k ∧ y = .int .i64 ((x + k : Nat) : Int) ∧ Hid ((∀ j, j < k → wr.cell? ⟨g, j, none⟩ = some (cxv (mk x j))) ∧ (∀ j, k ≤ j → j < n → wr.cell? ⟨g, j, none⟩ = some (cxv (f j))) ∧ (∀ a, wr.frozen? a = w.frozen? a) ∧ w.grownBy wr (some g))) (fun _ i _ => n - (intOf i).toNat)
  case atStart => exact ⟨0, by omega, rfl, rfl, ⟨fun j hj => by omega, fun j _ hj => H1.out j hj, fun _ => rfl, ⟨rfl, rfl, rfl, Nat.le_refl _, fun _ _ _ => rfl⟩⟩⟩
  case round =>
    obtain ⟨k, hk, rfl, rfl, hw⟩ := hrel
    by_cases hlt : k < n
    · have e1 : wr.cell? ⟨g, k, none⟩ = some (cxv (f k)) := hw.out.2.1 k (by omega) hlt
      have e2 : wr.frozen? ⟨g, k, none⟩ = false := by rw [hw.out.2.2.1]; exact H2.out k hlt
      have h0 : (0 : Int) ≤ (k : Int) := by omega
      have h3 : (k : Int) < (n : Int) := by omega
      go_wp2
      go_roundw
      case rel =>
        refine ⟨k + 1, by omega, by go_num, by go_num, ?_⟩
        obtain ⟨r1, r2, r3, r4⟩ := hw.out
        refine ⟨fun j hj => ?_, fun j hj hj' => ?_, fun a => ?_, ?_⟩
        · by_cases e : j = k
          · subst e
            exact World.cell?_setCell_same (u := cxv (f j)) _ _ _ e1
          · rw [World.cell?_setCell_other _ _ _ _ (by intro e'; injection e' with _ e''; omega)]
            exact r1 j (by omega)
        · rw [World.cell?_setCell_other _ _ _ _ (by intro e'; injection e' with _ e''; omega)]
          exact r2 j (by omega) hj'
        · rw [World.frozen?_setCell]; exact r3 a
        · exact ⟨r4.os, r4.tape, r4.output, by simpa [World.setCell] using r4.size, fun i hi hne => (Below.heap_setCell _ _ _ _ (by rintro rfl; exact hne rfl)).trans (r4.block i hi hne)⟩
      case measure => simp [intOf]; omega
    · have hkn : k = n := by omega
      have hge : ¬ (k : Int) < (n : Int) := by omega
      have HK := Lib.hid hkn
      clear hkn
      go_wp2
      go_ret
      obtain ⟨r1, r2, r3, r4⟩ := hw.out
      have e := HK.out
      subst e
      exact ⟨rfl, ⟨r1, r3, r4⟩⟩

theorem mark_none (a : Option Addr) (c x : Nat) (w : World) :
    Calls Try.prog 44 #[.slice a 0 c, .int .i64 x] w fun e w' => e = .returned (.int .i64 x) ∧ w = w' := by
  go_enter Try.func44, Try.ntmps44
  go_wp2
  refine wp_loop_rounds 1 ?_
  rw [rounds_succ]
  go_wp2
  go_ret
  exact ⟨rfl, rfl⟩

theorem fi_self (n : Nat) (h : n ≤ 2 ^ 1000) : (FloatKind.f64.format.order (fi n) (fi n) == some .eq) = true := by
  have hn := int_le .f64 n 1000 h
  have h1 := Nat.lt_of_le_of_lt hn (topRung_lt64 _ (by omega))
  have : nan .f64 (fi n) = false := by
    unfold nan fi
    simp; omega
  rw [order_self, this]; rfl

theorem held_row (g n x c : Nat) (hn : n ≤ 50000) (hx : x ≤ 50000) (w : World) (h1 : Has w g n (mk x)) :
    Calls Try.prog 45 #[.slice (some ⟨g, 0, none⟩) n c, .int .i64 x] w fun e w' => e = .returned (.int .i64 (x + n : Nat)) ∧ w = w' := by
  have H1 := Lib.hid h1
  have ho : (FloatKind.f64.format.order 4607182418800017408 4607182418800017408 == some .eq) = true := by decide +kernel
  clear h1
  go_enter Try.func45, Try.ntmps45
  go_wp2
  go_loop [1, 5] (fun y i => ∃ k : Nat, k ≤ n ∧ i = .int .i64 k ∧ y = .int .i64 ((x + k : Nat) : Int)) (fun _ i => n - (intOf i).toNat)
  case atStart => exact ⟨0, by omega, rfl, rfl⟩
  case round =>
    obtain ⟨k, hk, rfl, rfl⟩ := hrel
    by_cases hlt : k < n
    · have e1 : w.cell? ⟨g, k, none⟩ = some (.complex .f64 (floatOfInt .f64 ((x + k : Nat) : Int)) 4607182418800017408) := H1.out k hlt
      have e2 : (FloatKind.f64.format.order (floatOfInt .f64 ((x + k : Nat) : Int)) (floatOfInt .f64 ((x + k : Nat) : Int)) == some .eq) = true := fi_self (x + k) (big (by omega))
      rw [show ((x + k : Nat) : Int) = (x : Int) + (k : Int) by omega] at e1 e2
      have h0 : (0 : Int) ≤ (k : Int) := by omega
      have h3 : (k : Int) < (n : Int) := by omega
      go_wp2
      go_round
      case rel => exact ⟨k + 1, by omega, by go_num, by go_num⟩
      case measure => simp [intOf]; omega
    · have hkn : k = n := by omega
      have hge : ¬ (k : Int) < (n : Int) := by omega
      have HK := Lib.hid hkn
      clear hkn
      go_wp2
      go_ret
      have e := HK.out
      subst e
      exact ⟨rfl, rfl⟩

theorem held_none (a : Option Addr) (c x : Nat) (w : World) :
    Calls Try.prog 45 #[.slice a 0 c, .int .i64 x] w fun e w' => e = .returned (.int .i64 x) ∧ w = w' := by
  go_enter Try.func45, Try.ntmps45
  go_wp2
  refine wp_loop_rounds 1 ?_
  rw [rounds_succ]
  go_wp2
  go_ret
  exact ⟨rfl, rfl⟩

end Go.Proofs.Ytaingnnflldlhaa.Cx
