/- The walks for TurnsOf: both programs' lists of turns are rows of the same numbers. -/
import Derived.Test.YtaingnnflldlhaaCx
namespace Go.Proofs.Ytaingnnflldlhaa.Cx
open Go.RowKit Fl TurnW
attribute [local go_sem] run_store_complex

theorem info25 : (Try.prog.info? 25).map (fun i => (i.zero, i.size, i.bytes)) = some (some (.complex .f64 0 0), 1, 16) := by kernel_rfl

/-- The row of the turns of n, as far as k. -/
def rowT (n k : Nat) : List Value := (List.range k).map fun j => cxv (tD n j)
theorem rowT_succ (n k : Nat) : rowT n (k + 1) = rowT n k ++ [cxv (tD n k)] := by unfold rowT; rw [List.range_succ, List.map_append]; rfl
theorem rowT_len (n k : Nat) : (rowT n k).length = k := by simp [rowT]

/-- A fresh row holds the turns. -/
def RowOut (n : Nat) (c : Int) (w : World) (e : Ending) (w' : World) : Prop := ∃ v, e = .returned (.tuple #[v, .int .i64 c]) ∧ w'.ownsRow w.heap.size 25 1 v n (rowT n n) ∧ Below w.heap.size w w'

set_option maxHeartbeats 1000000 in
theorem spec_row (n : Nat) (h1 : 1 ≤ n) (h2 : n ≤ 1024) (w : World) : Calls Try.prog 42 #[.int .i64 n] w (RowOut n 0 w) := by
  obtain ⟨i0, hi, hz0, hz1, hz2⟩ := info_parts info25
  have Hc := Lib.hid (code_spec n 0)
  rw [show tcode (n : Int) 0 = 0 from if_pos ⟨by omega, by omega, by omega, by omega⟩] at Hc
  have HT := Lib.hid (fun k (hk : k < n) w => spec_D n k h1 (by omega) (by omega) w)
  have g2 : n ≤ 1024 := h2
  clear h1 h2
  go_enter Try.func42, Try.ntmps42
  go_wp2_with fail
  refine (Hc.out _).mono ?_; rintro e w' ⟨rfl, rfl⟩
  go_wp2
  go_loopw [5, 6] (fun v i wr => ∃ k : Nat, k ≤ n ∧ i = .int .i64 k ∧ wr.ownsRow w.heap.size 25 1 v k (rowT n k) ∧ Below w.heap.size w wr) (fun _ i _ => n - (intOf i).toNat)
  case atStart => exact ⟨0, by omega, rfl, World.ownsRow_made _ _ 0 (Nat.le_refl _) (by decide) rfl, (Below.refl _ _).alloc (Nat.le_refl _) _⟩
  case round =>
    obtain ⟨k, hk, rfl, hown, hb⟩ := hrel
    by_cases hlt : k < n
    · have HK := Lib.hid (HT.out k hlt)
      have h3 : (k : Int) < (n : Int) := by omega
      obtain ⟨z1, z2, hz⟩ : ∃ z1 z2, tD n k = (z1, z2) := ⟨_, _, rfl⟩
      rw [hz] at HK
      have HZ := Lib.hid hz
      clear hz
      go_wp2_with fail
      refine (HK.out _).mono ?_; rintro e w' ⟨rfl, rfl⟩
      go_wp2_with (at_builtin; refine wpList_append_own _ rfl _ _ 31 rfl w.heap.size 25 i0 (.complex .f64 0 0) 1 16 Try.underlying31 hi hz0 hz1 hz2 rfl (by decide) _ _ _ rfl (hown.alloc _) ⟨wr.heap.size, 0, none⟩ 1 1 [.complex .f64 z1 z2] rfl rfl ?c1 ?c2 ?c3 ?c4 ?c5 ?_)
      case c1 =>
        intro j u hj
        match j, hj with
        | 0, hj => simp at hj; subst hj; simp [Addr.add]
      case c2 => intro u hu; simp at hu; subst hu; rfl
      case c3 => unfold maxLen; omega
      case c4 => omega
      case c5 => have := hb.size; simp; omega
      intro v' w1 hown' hgrow _
      have hb' : Below w.heap.size w w1 := (hb.alloc hb.size _).grown hgrow (by have := hb.size; simp; omega) (fun j hj => (hown.lt j hj).1)
      have HO := Lib.hid hown'
      clear hown' hgrow hown hb
      go_wp2
      go_roundw
      case rel => exact ⟨k + 1, by omega, by go_num, by rw [rowT_succ, HZ.out]; exact HO.out, hb'⟩
      case measure => simp [intOf]; omega
    · have hge : ¬ (k : Int) < (n : Int) := by omega
      have HK := Lib.hid (show k = n by omega)
      have HO := Lib.hid hown
      clear hown
      go_wp2
      go_ret2
      have e := HK.out
      subst e
      exact ⟨_, rfl, HO.out, hb⟩


/-! ### The program's each, at the closure of TurnsOf -/
theorem clos (n k p : Nat) (h1 : 1 ≤ n) (h2 : n ≤ 1024) (hk : k ≤ n) (w : World) (hp : w.cell? ⟨p, 0, none⟩ = some (.int .i64 n)) :
    Calls Try.prog 50 #[.int .i64 k, .pointer (some ⟨p, 0, none⟩)] w (TurnOut (tD n k) w) := by
  have HT := Lib.hid (impl_D n k h1 (by omega) hk)
  generalize tD n k = z at *
  obtain ⟨z1, z2⟩ := z
  clear h1 h2 hk
  go_enter Try.func50, Try.ntmps50
  go_wp2_with fail
  refine (HT.out _).mono ?_; rintro e w' ⟨rfl, m, rfl⟩
  go_wp2
  go_ret
  exact ⟨rfl, m, rfl⟩

/-- What each leaves in its loop. -/
def EachInv (n g : Nat) (w wr : World) (k : Nat) : Prop :=
  (∀ j, j < k → wr.cell? ⟨g, j, none⟩ = some (cxv (tD n j))) ∧ (∀ j, k ≤ j → j < n → (wr.cell? ⟨g, j, none⟩).isSome = true) ∧ (∀ j, j < n → wr.frozen? ⟨g, j, none⟩ = false) ∧ Below w.heap.size w wr ∧ wr.heap.size = g + 1

set_option maxHeartbeats 1000000 in
theorem each_row (n p : Nat) (h1 : 1 ≤ n) (h2 : n ≤ 1024) (w : World) (hp : w.cell? ⟨p, 0, none⟩ = some (.int .i64 n)) (hpl : p < w.heap.size) :
    Calls Try.prog 49 #[.int .i64 n, .func (.func 50) #[] #[.pointer (some ⟨p, 0, none⟩)]] w fun e w' =>
      e = .returned (.slice (some ⟨w.heap.size, 0, none⟩) n n) ∧ EachInv n w.heap.size w w' n := by
  obtain ⟨i0, hi, hz0, hz1, hz2⟩ := info_parts info25
  have hmk := run_make (P := Try.prog) w 31 25 i0 (.complex .f64 0 0) Try.underlying31 hi hz0 .i64 .i64 (n : Int) (n : Int) (by omega) (by omega) (by rw [hz2]; omega) (by omega)
  rw [hz1, Int.toNat_natCast, Nat.mul_one] at hmk
  have hsz : (madeCells (Value.complex .f64 0 0).cells n).size = n := size_madeCells _ _
  generalize madeCells (Value.complex .f64 0 0).cells n = cur at *
  have HP := Lib.hid hp
  have HS := Lib.hid hsz
  have HC := Lib.hid (fun k hk W hW => clos n k p h1 h2 hk W hW)
  have g1 : 1 ≤ n := h1
  have g2 : n ≤ 1024 := h2
  clear hp hsz h1 h2 hi hz0 hz1 hz2
  go_enter Try.func49, Try.ntmps49
  go_wp2
  go_loopw [11] (fun c wr => ∃ k : Nat, k ≤ n ∧ c = .int .i64 k ∧ Hid (EachInv n w.heap.size w wr k)) (fun c _ => n - (intOf c).toNat)
  case atStart =>
    refine ⟨0, by omega, rfl, fun j hj => by omega, fun j _ hj => ?_, fun j _ => ?_, (Below.refl _ _).alloc (Nat.le_refl _) _, by simp⟩
    · rw [World.cell?_alloc_at _ _ _ _ rfl]
      have hsz := HS.out
      rw [Array.getElem?_eq_getElem (by omega)]; rfl
    · exact World.frozen?_alloc_at _ _ _ _ rfl
  case round =>
    obtain ⟨k, hk, rfl, hw⟩ := hrel
    by_cases hlt : k < n
    · have e0 : wr.cell? ⟨p, 0, none⟩ = some (.int .i64 n) := (hw.out.2.2.2.1.cell (p := ⟨p, 0, none⟩) hpl).trans HP.out
      have HK := Lib.hid (HC.out k (by omega) wr e0)
      obtain ⟨u, e1⟩ := Option.isSome_iff_exists.1 (hw.out.2.1 k (by omega) hlt)
      have e2 : wr.frozen? ⟨w.heap.size, k, none⟩ = false := hw.out.2.2.1 k hlt
      have h0 : (0 : Int) ≤ (k : Int) := by omega
      have h3 : (k : Int) < (n : Int) := by omega
      obtain ⟨z1, z2, hz⟩ : ∃ z1 z2, tD n k = (z1, z2) := ⟨_, _, rfl⟩
      rw [hz] at HK
      have HZ := Lib.hid hz
      clear hz
      go_wp2_with fail
      refine (HK.out).mono ?_; rintro e w' ⟨rfl, m, rfl⟩
      go_wp2
      go_roundw
      case rel =>
        obtain ⟨r1, r2, r3, r4, r5⟩ := hw.out
        refine ⟨k + 1, by omega, by go_num, fun j hj => ?_, fun j hj hj' => ?_, fun j hj => ?_, ?_, ?_⟩
        · by_cases e : j = k
          · subst e
            rw [HZ.out]
            exact World.cell?_setCell_same (u := u) _ _ _ e1
          · rw [World.cell?_setCell_other _ _ _ _ (by intro e'; injection e' with _ e''; omega)]
            exact r1 j (by omega)
        · rw [World.cell?_setCell_other _ _ _ _ (by intro e'; injection e' with _ e''; omega)]
          exact r2 j (by omega) hj'
        · rw [World.frozen?_setCell]; exact r3 j hj
        · exact (below_drewN r4 m).setCell (Nat.le_refl _) _
        · simpa [World.setCell] using r5
      case measure => simp [intOf]; omega
    · have hge : ¬ (k : Int) < (n : Int) := by omega
      have HK := Lib.hid (show k = n by omega)
      go_wp2
      go_ret
      have e := HK.out
      subst e
      exact ⟨rfl, hw.out⟩

end Go.Proofs.Ytaingnnflldlhaa.Cx
