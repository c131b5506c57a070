/- Go's FormatUint at base 16: the hexadecimal digits of a number without leading zeros. Condition: the table of trailing zeros reads as its text lays it. -/
import Derived.Test.YtaingnnflldlhabDoorRead
import Derived.Lib.Strings
import Derived.Lib.Hide
import Derived.Laws.IdiomStrings
import Derived.Laws.Slices
import Derived.Lib.ItoaWalk
namespace Go.Proofs.YtaingnnflldlhabDoor
open Go.RowKit Fl

/-- What the walk needs of the table: the place that 16 leads to. -/
def Tab (w : World) : Prop := w.cell? ⟨6, 15, none⟩ = some (.int .u8 4)

theorem zeros64_walk (w : World) (h : Tab w) : Calls Tryd.prog 70 #[.int .u64 16] w fun e w' => e = .returned (.int .i64 4) ∧ w = w' := by
  have h2 := h
  unfold Tab at h2
  have a1 : IntKind.u64.wrap (-16) = 18446744073709551600 := by decide +kernel
  have a2 : bits .and .u64 16 18446744073709551600 = 16 := by decide +kernel
  have a3 : IntKind.u64.wrap 4573923408821661840 = 4573923408821661840 := by decide +kernel
  go_enter Tryd.func70, Tryd.ntmps70
  go_wp2
  go_ret
  exact ⟨rfl, rfl⟩
theorem zeros_walk (w : World) (h : Tab w) : Calls Tryd.prog 66 #[.int .u64 16] w fun e w' => e = .returned (.int .i64 4) ∧ w = w' := by
  have H := Lib.hid (zeros64_walk w h)
  clear h
  go_enter Tryd.func66, Tryd.ntmps66
  go_wp2_with fail
  refine (H.out).mono ?_; rintro e w' ⟨rfl, rfl⟩
  go_wp2
  go_ret
  exact ⟨rfl, rfl⟩
theorem pow2_walk (w : World) : Calls Tryd.prog 65 #[.int .i64 16] w fun e w' => e = .returned (.bool true) ∧ w = w' := by
  have a2 : bits .and .i64 16 15 = 0 := by decide +kernel
  go_enter Tryd.func65, Tryd.ntmps65
  go_wp2
  go_ret
  exact ⟨rfl, rfl⟩

/-- A digit's byte. -/
def hexc (d : Nat) : Nat := if d < 10 then 48 + d else 87 + d
/-- The digits of a number. -/
def hexL (u : Nat) : List Nat := if u < 16 then [hexc u] else hexL (u / 16) ++ [hexc (u % 16)]
termination_by u
decreasing_by omega

theorem hexL_small {u : Nat} (h : u < 16) : hexL u = [hexc u] := by rw [hexL, if_pos h]
theorem hexL_big {u : Nat} (h : 16 ≤ u) : hexL u = hexL (u / 16) ++ [hexc (u % 16)] := by rw [hexL, if_neg (by omega)]

theorem and15 (u : Nat) (h : u < 18446744073709551616) : bits .and .u64 (u : Int) 15 = ((u % 16 : Nat) : Int) := by
  have h1 := u64_and_nat u 15 h (by omega)
  have h2 : u &&& 15 = u % 16 := by
    have := Nat.and_two_pow_sub_one_eq_mod u 4
    exact this
  rw [h2] at h1
  exact h1

/-- The digits' places from i on. -/
def sfx (i : Nat) (f : Nat → Nat) : List Nat := (List.range (65 - i)).map fun j => f (i + j)
theorem sfx_end (f : Nat → Nat) : sfx 65 f = [] := rfl
theorem sfx_step (i : Nat) (f : Nat → Nat) (d : Nat) (h1 : 1 ≤ i) (h2 : i ≤ 65) : sfx (i - 1) (fun j => if j = i - 1 then d else f j) = d :: sfx i f := by
  unfold sfx
  rw [show 65 - (i - 1) = (65 - i) + 1 by omega, List.range_succ_eq_map, List.map_cons, List.map_map]
  congr 1
  · simp
  · apply List.map_congr_left
    intro j _
    simp only [Function.comp]
    rw [if_neg (by omega)]
    congr 1; omega

/-- What the loop keeps. -/
structure Kept (u0 : Nat) (w wr : World) (u i : Nat) : Prop where
  lo : 50 ≤ i
  hi : i ≤ 65
  small : u < 16 ^ (i - 49)
  below : Below w.heap.size w wr
  free : ∀ j, wr.frozen? ⟨w.heap.size, j, none⟩ = false
  digits : ∃ f : Nat → Nat, (∀ j, j < 65 → wr.cell? ⟨w.heap.size, j, none⟩ = some (.int .u8 (f j))) ∧ hexL u0 = hexL u ++ sfx i f

theorem Kept.put {u0 u i d : Nat} {w wr : World} (k : Kept u0 w wr u i) (x : Value) (hx : wr.cell? ⟨w.heap.size, i - 1, none⟩ = some x) : ∃ f : Nat → Nat, (∀ j, j < 65 → (wr.setCell ⟨w.heap.size, i - 1, none⟩ (.int .u8 d)).cell? ⟨w.heap.size, j, none⟩ = some (.int .u8 (f j))) ∧ ∃ g : Nat → Nat, hexL u0 = hexL u ++ sfx i g ∧ sfx (i - 1) f = d :: sfx i g := by
  obtain ⟨g, hg, hdg⟩ := k.digits
  refine ⟨fun j => if j = i - 1 then d else g j, fun j hj => ?_, g, hdg, sfx_step i g d (by have := k.lo; omega) k.hi⟩
  by_cases e : j = i - 1
  · subst e
    rw [World.cell?_setCell_same _ _ _ hx]
    simp
  · rw [World.cell?_setCell_other _ _ _ _ (by intro e'; injection e' with _ e''; omega), hg j hj]
    simp [e]

theorem Kept.cells {u0 u m d : Nat} {w wr : World} (k : Kept u0 w wr u (m + 1)) : ∃ f : Nat → Nat, (∀ j, j < 65 → (wr.setCell ⟨w.heap.size, m, none⟩ (.int .u8 d)).cell? ⟨w.heap.size, j, none⟩ = some (.int .u8 (f j))) ∧ ∃ g : Nat → Nat, hexL u0 = hexL u ++ sfx (m + 1) g ∧ sfx m f = d :: sfx (m + 1) g := by
  obtain ⟨f0, hf0, _⟩ := k.digits
  exact k.put (i := m + 1) _ (hf0 m (by have := k.hi; omega))

theorem below_set {w wr : World} (h : Below w.heap.size w wr) (m : Nat) (v : Value) : Below w.heap.size w (wr.setCell ⟨w.heap.size, m, none⟩ v) :=
  ⟨h.os, h.tape, h.output, by simpa [World.setCell] using h.size, fun i hi => (Below.heap_setCell _ _ _ _ (by intro e; simp at e; omega)).trans (h.block i hi)⟩

theorem Kept.step {u0 u m : Nat} {w wr : World} (k : Kept u0 w wr u (m + 1)) (hu : 16 ≤ u) (hm : 50 ≤ m) : Kept u0 w (wr.setCell ⟨w.heap.size, m, none⟩ (.int .u8 (hexc (u % 16)))) (u / 16) m := by
  obtain ⟨f, hf, g, hg1, hg2⟩ := k.cells (d := hexc (u % 16))
  refine ⟨hm, by have := k.hi; omega, ?_, below_set k.below m _, fun j => by rw [World.frozen?_setCell]; exact k.free j, f, hf, ?_⟩
  · have h1 := k.small
    rw [show m + 1 - 49 = (m - 49) + 1 by omega, Nat.pow_succ] at h1
    exact Nat.div_lt_of_lt_mul (by rw [Nat.mul_comm]; exact h1)
  · rw [hg1, hexL_big hu, hg2, List.append_assoc]; rfl

theorem hexc_lt (d : Nat) (h : d < 16) : hexc d < 256 := by unfold hexc; split <;> omega
theorem hexL_lt (u : Nat) : ∀ x ∈ hexL u, x < 256 := by
  induction u using Nat.strongRecOn with
  | _ u ih =>
    by_cases h : u < 16
    · rw [hexL_small h]
      intro x hx
      simp at hx
      rw [hx]; exact hexc_lt u h
    · rw [hexL_big (by omega)]
      intro x hx
      rcases List.mem_append.1 hx with h1 | h1
      · exact ih (u / 16) (by omega) x h1
      · simp at h1
        rw [h1]; exact hexc_lt _ (Nat.mod_lt _ (by omega))

/-- What stands behind the last digit. -/
theorem Kept.last {u0 u m : Nat} {w wr : World} (k : Kept u0 w wr u (m + 1)) (hu : u < 16) : ∃ l : List UInt8, l.length = 65 - m ∧ l.map (fun b => b.toNat) = hexL u0 ∧
    (∀ j (hj : j < l.length), (wr.setCell ⟨w.heap.size, m, none⟩ (.int .u8 (hexc u))).cell? ((⟨w.heap.size, m, none⟩ : Addr).add j) = some (.int .u8 (l[j].toNat : Int))) := by
  obtain ⟨f, hf, g, hg1, hg2⟩ := k.cells (d := hexc u)
  have hi := k.hi
  rw [hexL_small hu] at hg1
  have hs : sfx m f = hexL u0 := by rw [hg2, hg1]; rfl
  have hlt : ∀ j, j < 65 - m → f (m + j) < 256 := by
    intro j hj
    refine hexL_lt u0 _ ?_
    rw [← hs]
    unfold sfx
    exact List.mem_map.2 ⟨j, List.mem_range.2 hj, rfl⟩
  refine ⟨(sfx m f).map UInt8.ofNat, by unfold sfx; simp, ?_, ?_⟩
  · rw [← hs, List.map_map]
    unfold sfx
    rw [List.map_map]
    apply List.map_congr_left
    intro j hj
    simp only [Function.comp]
    exact Nat.mod_eq_of_lt (hlt j (List.mem_range.1 hj))
  · intro j hj
    have hj' : j < 65 - m := by unfold sfx at hj; simpa using hj
    have hget : ((sfx m f).map UInt8.ofNat)[j] = UInt8.ofNat (f (m + j)) := by unfold sfx; simp
    rw [hget, Addr.add_lit]
    rw [hf (m + j) (by omega)]
    have e : (UInt8.ofNat (f (m + j))).toNat = f (m + j) := Nat.mod_eq_of_lt (hlt j hj')
    rw [e]

theorem slice65 (W : World) (N m : Nat) (h : m ≤ 64) : (Instr.sliceAt 102 (.pointer (some ⟨N, 0, none⟩)) (some (.int .i64 m)) none none).run Tryd.prog W = .ok (.slice (some ⟨N, m, none⟩) (65 - m) (65 - m)) W := by
  have hal : Tryd.prog.arrayLen 102 = 65 := by kernel_rfl
  rw [run_sliceAt_array_l W 102 ⟨N, 0, none⟩ (by kernel_rfl) .i64 (m : Int) (by omega) (by rw [hal]; omega), hal]
  go_simp
  omega

def digitsB : ByteArray := ⟨#[48, 49, 50, 51, 52, 53, 54, 55, 56, 57, 97, 98, 99, 100, 101, 102, 103, 104, 105, 106, 107, 108, 109, 110, 111, 112, 113, 114, 115, 116, 117, 118, 119, 120, 121, 122]⟩

theorem index_any (kk : IntKind) (s : ByteArray) (k c : Nat) (hk : k < s.size) (hc : (s.data.toList.getD k 0).toNat = c) (w : World) : (Instr.index 9 (.string s) (.int kk k)).run Tryd.prog w = .ok (.int .u8 c) w := by
  rw [run_index_string (P := Tryd.prog) w 9 s kk k Tryd.underlying9, dif_pos ⟨by omega, by omega⟩]
  obtain ⟨⟨l⟩⟩ := s
  have hl : k < l.length := hk
  have e : (ByteArray.mk ⟨l⟩)[((k : Nat) : Int).toNat]'(by show _ < l.length; omega) = l.getD k 0 := by
    simp only [List.getD, List.getElem?_eq_getElem hl, Option.getD_some, Int.toNat_natCast]
    rfl
  rw [e]
  have hc' : (l.getD k 0).toNat = c := hc
  rw [hc']

theorem digit_at (d : Nat) (hd : d < 16) (w : World) : (Instr.index 9 (.string digitsB) (.int .u64 d)).run Tryd.prog w = .ok (.int .u8 (hexc d)) w := by
  refine index_any .u64 digitsB d (hexc d) (Nat.lt_of_lt_of_le hd (by decide)) ?_ w
  have h : ∀ d : Nat, d < 16 → (digitsB.data.toList.getD d 0).toNat = hexc d := by decide +kernel
  exact h d hd

set_option maxHeartbeats 4000000 in
set_option maxRecDepth 100000 in
theorem bits_hex (u0 : Nat) (h0 : u0 < 18446744073709551616) (w : World) (ht : Tab w) : Calls Tryd.prog 55 #[.slice none 0 0, .int .u64 u0, .int .i64 16, .bool false, .bool false] w fun e w' => (∃ s : ByteArray, e = .returned (.tuple #[.slice none 0 0, .string s]) ∧ s.data.toList.map (fun b => b.toNat) = hexL u0) ∧ Below w.heap.size w w' := by
  have HX := Lib.hid digit_at
  have HP := Lib.hid pow2_walk
  have HZ := Lib.hid zeros_walk
  have HT := Lib.hid ht
  clear ht
  go_enter Tryd.func55, Tryd.ntmps55
  go_name_bytes P0 hP0
  clear hP0
  go_name_bytes DG hDG
  have eDG : DG = digitsB := by rw [← hDG]; rfl
  subst eDG
  clear hDG
  go_wp2_with fail
  refine (HP.out _).mono ?_; rintro e w' ⟨rfl, rfl⟩
  have hz : Tryd.zeroCells102 = Array.replicate 65 (.int .u8 0) := by kernel_rfl
  have hTV : Tab (w.alloc (.cells Tryd.zeroCells102 102)) := (World.cell?_alloc_old _ _ _ (Nat.ne_of_lt (World.block_lt_of_cell? _ _ HT.out))).trans HT.out
  have KS : Hid (Kept u0 w (w.alloc (.cells Tryd.zeroCells102 102)) u0 65) := Lib.hid ⟨by omega, by omega, Nat.lt_of_lt_of_le h0 (by decide), (Below.refl _ _).alloc (Nat.le_refl _) _, fun j => World.frozen?_alloc_new _ _ _ _, fun _ => 0, fun j hj => by
    rw [World.cell?_alloc_new, hz]
    simp [hj], by rw [sfx_end, List.append_nil]⟩
  go_wp2_with fail
  refine (HZ.out _ hTV).mono ?_; rintro e w' ⟨rfl, rfl⟩
  clear hTV HT HZ HP hz
  generalize hV : w.alloc (.cells Tryd.zeroCells102 102) = V at *
  clear hV
  go_wp2_with fail
  go_loopw [1, 13] (fun vu vi wr => ∃ u i : Nat, vu = .int .u64 u ∧ vi = .int .i64 i ∧ 50 ≤ i ∧ i ≤ 65 ∧ u < 18446744073709551616 ∧ Hid (Kept u0 w wr u i)) (fun _ vi _ => (intOf vi).toNat)
  case atStart => exact ⟨u0, 65, rfl, rfl, by omega, by omega, h0, KS⟩
  case round =>
    obtain ⟨u, i, rfl, rfl, hi0, hi1, hu, hK⟩ := hrel
    clear KS
    obtain ⟨f, hf, hdg⟩ := hK.out.digits
    have hc : wr.cell? ⟨w.heap.size, i - 1, none⟩ = some (.int .u8 (f (i - 1))) := hf (i - 1) (by omega)
    have hfr : wr.frozen? ⟨w.heap.size, i - 1, none⟩ = false := hK.out.free (i - 1)
    have HD := Lib.hid hdg
    have HF := Lib.hid hf
    clear hf hdg
    obtain ⟨m, rfl⟩ : ∃ m, i = m + 1 := ⟨i - 1, by omega⟩
    rw [Nat.add_sub_cancel] at hc hfr
    by_cases hu16 : 16 ≤ u
    · have ha := and15 u hu
      have hx := HX.out (u % 16) (Nat.mod_lt _ (by omega))
      have hs : (u : Int) / 16 = ((u / 16 : Nat) : Int) := by omega
      have hge : (16 : Int) ≤ (u : Int) := by omega
      have hmod : u % 16 < 16 := Nat.mod_lt _ (by omega)
      have hdiv : u / 16 < 18446744073709551616 := by omega
      have hm49 : 50 ≤ m := by
        have h1 := hK.out.small
        rcases Nat.lt_or_ge m 50 with h2 | h2
        · have e : m + 1 - 49 ≤ 1 := by omega
          have := Nat.pow_le_pow_right (n := 16) (by omega) e
          omega
        · exact h2
      have KN := Lib.hid (hK.out.step hu16 hm49)
      generalize hqe : u / 16 = q at *
      generalize hre : u % 16 = r at *
      clear hK HD HF
      go_wp2
      exact ⟨⟨q, m, rfl, rfl, hm49, by omega, hdiv, KN⟩, by simp [intOf]⟩
    · have hlt : ¬ (16 : Int) ≤ (u : Int) := by omega
      have hx := HX.out u (by omega)
      obtain ⟨bs, hbl, hbm, hbc⟩ := hK.out.last (by omega)
      have hcv := run_convert_bytes_back (P := Tryd.prog) (wr.setCell ⟨w.heap.size, m, none⟩ (.int .u8 (hexc u))) 64 9 5 ⟨w.heap.size, m, none⟩ (65 - m) bs (by kernel_rfl) Tryd.underlying5 Tryd.underlying9 hbc
      rw [hbl] at hcv
      have HE : Hid (bs.map (fun b => b.toNat) = hexL u0 ∧ Below w.heap.size w (wr.setCell ⟨w.heap.size, m, none⟩ (.int .u8 (hexc u)))) := Lib.hid ⟨hbm, below_set hK.out.below m _⟩
      have hm : m ≤ 64 := by omega
      have hsl : ∀ W, (Instr.sliceAt 102 (.pointer (some ⟨w.heap.size, 0, none⟩)) (some (.int .i64 m)) none none).run Tryd.prog W = .ok (.slice (some ⟨w.heap.size, m, none⟩) (65 - m) (65 - m)) W := fun W => slice65 W _ m (by omega)
      clear hbm hbc HD HF hK
      go_wp2
      go_ret2
      exact ⟨⟨_, rfl, HE.out.1⟩, HE.out.2⟩

end Go.Proofs.YtaingnnflldlhabDoor
