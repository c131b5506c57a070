/- The law FnExactTurnsOf walked: both lists, their marks, and the second call. No condition. -/
import Derived.Test.YtaingnnflldlhaaTurnsOf
namespace Go.Proofs.Ytaingnnflldlhaa.Cx
open Go.RowKit Fl TurnW

/-- A fresh block holds the turns. -/
def ListOut (n : Nat) (w : World) (e : Ending) (w' : World) : Prop :=
  ∃ g cap, e = .returned (.tuple #[.slice (some ⟨g, 0, none⟩) n cap, .int .i64 0]) ∧ w.heap.size ≤ g ∧ g < w'.heap.size ∧ Has w' g n (tD n) ∧ Below w.heap.size w w'
/-- .. and may be written. -/
def OwnOut (n : Nat) (w : World) (e : Ending) (w' : World) : Prop :=
  ∃ g, e = .returned (.tuple #[.slice (some ⟨g, 0, none⟩) n n, .int .i64 0]) ∧ w.heap.size ≤ g ∧ g < w'.heap.size ∧ Has w' g n (tD n) ∧ Free w' g n ∧ Below w.heap.size w w'

theorem spec_list (n : Nat) (h1 : 1 ≤ n) (h2 : n ≤ 1024) (w : World) : Calls Try.prog 42 #[.int .i64 n] w (ListOut n w) := by
  refine (spec_row n h1 h2 w).mono ?_
  rintro e w' ⟨v, rfl, hown, hb⟩
  have hown' := hown
  rcases hown.2 with ⟨_, h0⟩ | ⟨g, cap, cur, rfl, hg, hh, _, _, _, _⟩
  · omega
  · refine ⟨g, cap, rfl, hg, (Array.getElem?_eq_some_iff.1 hh).1, fun j hj => ?_, hb⟩
    have hc := hown'.cells (g := g) rfl j (cxv (tD n j)) (by unfold rowT; rw [List.getElem?_map, List.getElem?_range hj]; rfl)
    simpa only [Addr.add_lit, Nat.zero_add] using hc

set_option maxHeartbeats 1000000 in
theorem impl_list (n : Nat) (h1 : 1 ≤ n) (h2 : n ≤ 1024) (w : World) : Calls Try.prog 17 #[.int .i64 n] w (OwnOut n w) := by
  have hmf : ∀ (fn : Fn) (first cap : Array Value) (w : World), (Instr.makeFunc fn first cap).run Try.prog w = .ok (.func fn first cap) w := fun _ _ _ _ => rfl
  have Hc := Lib.hid (code_impl n 0)
  rw [show tcode (n : Int) 0 = 0 from if_pos ⟨by omega, by omega, by omega, by omega⟩] at Hc
  have HE := Lib.hid (each_row n w.heap.size h1 h2 (w.alloc (.cells #[.int .i64 n] 2)) (by rw [World.cell?_alloc_at _ _ _ _ rfl]; rfl) (by simp))
  clear h1 h2
  go_enter Try.func17, Try.ntmps17
  go_wp2_with fail
  refine (Hc.out _).mono ?_; rintro e w' ⟨rfl, rfl⟩
  go_wp2_with fail
  refine (HE.out).mono ?_; rintro e w1 ⟨rfl, hi⟩
  go_wp2
  go_ret2
  obtain ⟨r1, _, r3, r4, r5⟩ := hi
  have hz : (w.alloc (.cells #[.int .i64 n] 2)).heap.size = w.heap.size + 1 := by simp
  rw [hz] at r1 r3 r5
  exact ⟨_, rfl, by omega, by omega, r1, r3, ((Below.refl _ _).alloc (Nat.le_refl _) _).trans (r4.mono (by simp))⟩

theorem spec_bad (n : Int) (h : ¬ Valid n 0) (w : World) : Calls Try.prog 42 #[.int .i64 n] w fun e w' => ∃ g, e = .returned (.tuple #[.slice (some ⟨g, 0, none⟩) 0 0, .int .i64 2]) ∧ Below w.heap.size w w' := by
  have Hc := Lib.hid (code_spec n 0)
  rw [show tcode n 0 = 2 from if_neg h] at Hc
  clear h
  go_enter Try.func42, Try.ntmps42
  go_wp2_with fail
  refine (Hc.out _).mono ?_; rintro e w' ⟨rfl, rfl⟩
  go_wp2
  go_ret2
  exact ⟨_, rfl, (Below.refl _ _).alloc (Nat.le_refl _) _⟩

theorem impl_bad (n : Int) (h : ¬ Valid n 0) (w : World) : Calls Try.prog 17 #[.int .i64 n] w fun e w' => e = .returned (.tuple #[.slice none 0 0, .int .i64 2]) ∧ Below w.heap.size w w' := by
  have Hc := Lib.hid (code_impl n 0)
  rw [show tcode n 0 = 2 from if_neg h] at Hc
  clear h
  go_enter Try.func17, Try.ntmps17
  go_wp2_with fail
  refine (Hc.out _).mono ?_; rintro e w' ⟨rfl, rfl⟩
  go_wp2
  go_ret2
  exact ⟨rfl, (Below.refl _ _).alloc (Nat.le_refl _) _⟩

theorem law_bad (n : Int) (h : ¬ Valid n 0) (w : World) : Calls Try.prog 12 #[.int .i64 n] w fun e w' => e = .returned (.bool true) ∧ Below w.heap.size w w' := by
  have H1 := Lib.hid (spec_bad n h)
  have H2 := Lib.hid (impl_bad n h)
  clear h
  go_enter Try.func12, Try.ntmps12
  go_wp2_with fail
  refine (H1.out _).mono ?_; rintro e w1 ⟨g, rfl, b1⟩
  go_wp2_with fail
  refine (H2.out _).mono ?_; rintro e w2 ⟨rfl, b2⟩
  go_wp2_with fail
  refine (eq_none _ _ _ _ _).mono ?_; rintro e w' ⟨rfl, rfl⟩
  go_wp2_with fail
  refine (mark_none _ _ 1 _).mono ?_; rintro e w' ⟨rfl, rfl⟩
  go_wp2_with fail
  refine (held_none _ _ 1 _).mono ?_; rintro e w' ⟨rfl, rfl⟩
  go_wp2_with fail
  refine (H2.out _).mono ?_; rintro e w3 ⟨rfl, b3⟩
  go_wp2_with fail
  refine (eq_none _ _ _ _ _).mono ?_; rintro e w' ⟨rfl, rfl⟩
  go_wp2_with fail
  refine (held_none _ _ 1 _).mono ?_; rintro e w' ⟨rfl, rfl⟩
  go_wp2
  go_ret
  exact ⟨rfl, b1.trans ((b2.mono b1.size).trans (b3.mono (Nat.le_trans b1.size b2.size)))⟩

set_option maxHeartbeats 1000000 in
theorem law_good (n : Nat) (h1 : 1 ≤ n) (h2 : n ≤ 1024) (w : World) : Calls Try.prog 12 #[.int .i64 n] w fun e w' => e = .returned (.bool true) ∧ Below w.heap.size w w' := by
  have H1 := Lib.hid (spec_list n h1 h2)
  have H2 := Lib.hid (impl_list n h1 h2)
  have HN := Lib.hid (fun j (hj : j < n) => (show nan .f64 (tD n j).1 = false ∧ nan .f64 (tD n j).2 = false from ⟨(ok_tD h1 (by omega) (show j ≤ n by omega)).1.notNan, (ok_tD h1 (by omega) (show j ≤ n by omega)).2.notNan⟩))
  have g2 : n ≤ 1024 := h2
  clear h1 h2
  go_enter Try.func12, Try.ntmps12
  go_wp2_with fail
  refine (H1.out _).mono ?_; rintro e w1 ⟨gs, cap, rfl, s1, s2, s3, b1⟩
  have S3 := Lib.hid s3
  clear s3
  go_wp2_with fail
  refine (H2.out _).mono ?_; rintro e w2 ⟨gi, rfl, i1, i2, i3, i4, b2⟩
  have I3 := Lib.hid i3
  have I4 := Lib.hid i4
  clear i3 i4
  have T3 : Hid (Has w2 gs n (tD n)) := fun j hj => (b2.cell (p := ⟨gs, j, none⟩) s2).trans (S3.out j hj)
  go_wp2_with fail
  refine (eq_row gi gs n n cap (tD n) (by omega) HN.out w2 I3.out T3.out).mono ?_; rintro e w' ⟨rfl, m, rfl⟩
  go_wp2_with fail
  refine (mark_row gi n 1 n (tD n) (by omega) (by omega) (w2.drewN m) I3.out I4.out).mono ?_; rintro e w3 ⟨rfl, mk3⟩
  have M3 := Lib.hid mk3
  clear mk3
  go_wp2_with fail
  refine (held_row gi n 1 n (by omega) (by omega) w3 M3.out.has).mono ?_; rintro e w' ⟨rfl, rfl⟩
  go_wp2_with fail
  refine (H2.out _).mono ?_; rintro e w4 ⟨gj, rfl, j1, j2, j3, _, b4⟩
  have J3 := Lib.hid j3
  clear j3
  have z3 := M3.out.grown.size
  have z3' : w2.heap.size ≤ w3.heap.size := z3
  have T4 : Hid (Has w4 gs n (tD n)) := fun j hj =>
    (b4.cell (p := ⟨gs, j, none⟩) (show gs < _ by omega)).trans ((World.cell?_of_block (w := w2.drewN m) (M3.out.grown.block gs (show gs < w2.heap.size by omega) (by intro e; injection e with e; omega))).trans (T3.out j hj))
  have M4 : Hid (Has w4 gi n (mk 1)) := fun j hj => (b4.cell (p := ⟨gi, j, none⟩) (show gi < _ by omega)).trans (M3.out.has j hj)
  go_wp2_with fail
  refine (eq_row gj gs n n cap (tD n) (by omega) HN.out w4 J3.out T4.out).mono ?_; rintro e w' ⟨rfl, m', rfl⟩
  go_wp2_with fail
  refine (held_row gi n 1 n (by omega) (by omega) (w4.drewN m') M4.out).mono ?_; rintro e w' ⟨rfl, rfl⟩
  go_wp2
  go_ret
  have e1 : Below w.heap.size w (w2.drewN m) := below_drewN (b1.trans (b2.mono b1.size)) m
  have e2 : Below w.heap.size w w3 := e1.grown M3.out.grown (Nat.le_trans b1.size b2.size) (fun j hj => by injection hj with hj; have := b1.size; omega)
  exact ⟨rfl, below_drewN (e2.trans (b4.mono e2.size)) _⟩

theorem law_turnsOf (n : Int) (w : World) : Calls Try.prog 12 #[.int .i64 n] w fun e w' => e = .returned (.bool true) ∧ Below w.heap.size w w' := by
  by_cases h : Valid n 0
  · have := law_good n.toNat (by have := h.1; omega) (by have := h.2.1; omega) w
    rw [show ((n.toNat : Nat) : Int) = n by have := h.1; omega] at this
    exact this
  · exact law_bad n h w

end Go.Proofs.Ytaingnnflldlhaa.Cx
