/- The program's reading of one number, walked. Conditions: the library's tables and error variables read as their text lays them; the text is not longer than the law lets it be. -/
import Derived.Test.YtaingnnflldlhabDoorHex
import Derived.Test.YtaingnnflldlhabDoorParseAll
namespace Go.Proofs.YtaingnnflldlhabDoor
open Go.RowKit Fl

/-- A string of these bytes. -/
def Says (s : ByteArray) (l : List Nat) : Prop := s.data.toList.map (fun b => b.toNat) = l

def FmtOut (l : List Nat) (w : World) (e : Ending) (w' : World) : Prop := (∃ s, e = .returned (.string s) ∧ Says s l) ∧ Below w.heap.size w w'

theorem fmt_inner (u : Nat) (h : u < 18446744073709551616) (w : World) (ht : Tab w) : Calls Tryd.prog 44 #[.int .u64 u, .int .i64 16] w (FmtOut (hexL u) w) := by
  have H := Lib.hid (bits_hex u h w ht)
  clear ht
  go_enter Tryd.func44, Tryd.ntmps44
  go_wp2_with fail
  refine (H.out).mono ?_; rintro e w' ⟨⟨s, rfl, hs⟩, hb⟩
  go_wp2
  go_ret
  exact ⟨⟨s, rfl, hs⟩, hb⟩
theorem fmt_walk (u : Nat) (h : u < 18446744073709551616) (w : World) (ht : Tab w) : Calls Tryd.prog 37 #[.int .u64 u, .int .i64 16] w (FmtOut (hexL u) w) := by
  have H := Lib.hid (fmt_inner u h w ht)
  clear ht
  go_enter Tryd.func37, Tryd.ntmps37
  go_wp2_with fail
  refine (H.out).mono ?_; rintro e w' ⟨⟨s, rfl, hs⟩, hb⟩
  go_wp2
  go_ret
  exact ⟨⟨s, rfl, hs⟩, hb⟩

theorem hexL_len : ∀ (D u : Nat), 1 ≤ D → u < 16 ^ D → (hexL u).length ≤ D := by
  intro D
  induction D with
  | zero => intro u h; omega
  | succ D ih =>
    intro u _ hu
    by_cases h : u < 16
    · rw [hexL_small h]; simp
    · rw [hexL_big (by omega), List.length_append]
      have hD : 1 ≤ D := by
        rcases Nat.eq_zero_or_pos D with e | e
        · subst e; simp at hu; omega
        · exact e
      have h2 : u / 16 < 16 ^ D := Nat.div_lt_of_lt_mul (by rw [Nat.mul_comm, ← Nat.pow_succ]; exact hu)
      have := ih (u / 16) hD h2
      simp; omega
theorem hexL_pos (u : Nat) : 1 ≤ (hexL u).length := by
  by_cases h : u < 16
  · rw [hexL_small h]; simp
  · rw [hexL_big (by omega), List.length_append]; simp

/-- So many digits of a number. -/
def hexT (D u : Nat) : List Nat := List.replicate (D - (hexL u).length) 48 ++ hexL u

theorem says_len {s : ByteArray} {l : List Nat} (h : Says s l) : s.size = l.length := by
  rw [← h, List.length_map]; exact (size_len s).symm

theorem says_append {a b : ByteArray} {l m : List Nat} (ha : Says a l) (hb : Says b m) : Says (a ++ b) (l ++ m) := by
  unfold Says at *
  rw [← ha, ← hb, ← List.map_append]
  congr 1
theorem says_zeros : ∀ k : Nat, Says ⟨(Lib.repeatL [48] k).toArray⟩ (List.replicate k 48) := by
  intro k
  unfold Says
  have h : ∀ k, (Lib.repeatL [48] k).map (fun b => b.toNat) = List.replicate k 48 := by
    intro k
    induction k with
    | zero => rfl
    | succ k ih => rw [show Lib.repeatL [48] (k + 1) = 48 :: Lib.repeatL [48] k from rfl, List.map_cons, ih]; rfl
  exact h k

theorem hex_walk (u D : Nat) (h : u < 18446744073709551616) (hD1 : 1 ≤ D) (hD2 : D ≤ 16) (hD : u < 16 ^ D) (w : World) (ht : Tab w) : Calls Tryd.prog 24 #[.int .u64 u, .int .i64 D] w (FmtOut (hexT D u) w) := by
  have H := Lib.hid (fmt_walk u h w ht)
  have hl := hexL_len D u hD1 hD
  unfold hexT
  generalize hexL u = dg at *
  obtain ⟨L, hL⟩ : ∃ L, dg.length = L := ⟨_, rfl⟩
  rw [hL] at hl ⊢
  clear ht
  have hsub : (D : Int) - (L : Int) = ((D - L : Nat) : Int) := by omega
  go_enter Tryd.func24, Tryd.ntmps24
  go_wp2_with fail
  refine (H.out).mono ?_; rintro e w1 ⟨⟨s, rfl, hs⟩, hb⟩
  have hn := says_len hs
  rw [hL] at hn
  have HR := Lib.hid (Tryd.strings_Repeat ⟨#[48]⟩ (D - L) w1 (by omega) (by show 1 * _ ≤ _; omega))
  have hS := Lib.hid hs
  have hB := Lib.hid hb
  clear hs hb
  go_wp2_with fail
  refine (HR.out).mono ?_; rintro e w2 ⟨rfl, hb2⟩
  have hB2 := Lib.hid hb2
  have hA : Hid (Says ⟨(Lib.repeatL [48] (D - L)).toArray⟩ (List.replicate (D - L) 48)) := Lib.hid (says_zeros (D - L))
  have hAn : (⟨(Lib.repeatL [48] (D - L)).toArray⟩ : ByteArray).size = D - L := by rw [says_len hA.out, List.length_replicate]
  clear hb2
  generalize (⟨(Lib.repeatL [48] (D - L)).toArray⟩ : ByteArray) = A at *
  have hadd := fun w => run_string_add (P := Tryd.prog) (w := w) A s (by omega) (by omega)
  clear hAn
  go_wp2
  go_ret
  exact ⟨⟨_, rfl, says_append hA.out hS.out⟩, hB.out.trans (hB2.out.mono hB.out.size)⟩
/-- The text of a number that is no NaN. -/
theorem text_walk (x y : Nat) (hy : y < 4294967296) (hn : nan .f64 x = false) (hx : floatToFloatBits .f64 x .f32 = some y) (w : World) (ht : Tab w) : Calls Tryd.prog 20 #[.float .f64 x, .bool true] w (FmtOut (hexT 8 y) w) := by
  have H := Lib.hid (hex_walk y 8 (by omega) (by omega) (by omega) hy w ht)
  have na := self_neq .f64 x
  rw [hn] at na
  have hc := fun w => run_convert_float_float (P := Tryd.prog) w 37 30 .f64 .f32 x y (by rw [Tryd.underlying37]; rfl) Tryd.underlying30 hx
  clear ht hn hx
  go_enter Tryd.func20, Tryd.ntmps20
  go_wp2_with fail
  refine (H.out).mono ?_; rintro e w1 ⟨⟨s, rfl, hs⟩, hb⟩
  go_wp2
  go_ret
  exact ⟨⟨s, rfl, hs⟩, hb⟩
theorem text_nan (a : Nat) (hn : nan .f64 a = true) (w : World) : Calls Tryd.prog 20 #[.float .f64 a, .bool true] w fun e w' => e = .returned (.string ⟨#[110, 97, 110]⟩) ∧ w = w' := by
  have na := self_neq .f64 a
  rw [hn] at na
  clear hn
  go_enter Tryd.func20, Tryd.ntmps20
  go_wp2
  go_ret
  exact ⟨rfl, rfl⟩

/-- The words that the library's variables hold. -/
structure Ready (w : World) : Prop where
  tab : Tab w
  errs : Errs w
theorem Ready.below {w w' : World} (h : Ready w) (hb : Below w.heap.size w w') : Ready w' :=
  ⟨(hb.cell (p := ⟨6, 15, none⟩) (World.block_lt_of_cell? _ _ h.tab)).trans h.tab, errs_below h.errs hb⟩

/-- A wide word that stands for a narrow one: both NaN, or the narrow one widened. -/
def Wide (x y : Nat) : Prop := (nan .f64 x = true ∧ nan .f32 y = true) ∨ (y < 4294967296 ∧ nan .f32 y = false ∧ floatToFloatBits .f32 y .f64 = some x)

/-- What the program reads of one word: the number where it reads one. -/
def ImplOut (q : Bool) (b : Nat × Bool) (w : World) (e : Ending) (w' : World) : Prop :=
  (∃ (x : Nat) (ok : Bool), e = .returned (.tuple #[.float .f64 x, .bool ok]) ∧ ok = (rdOf q b).2 ∧ (ok = true → Wide x (rdOf q b).1)) ∧ Below w.heap.size w w'

end Go.Proofs.YtaingnnflldlhabDoor
