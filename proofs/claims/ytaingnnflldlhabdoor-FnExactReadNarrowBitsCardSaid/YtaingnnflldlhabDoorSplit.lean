/- The reference's cutting of a text at its spaces, walked. No condition but the text's length. -/
import Derived.Test.YtaingnnflldlhabDoorPair
import Derived.WalkLawsBesides
namespace Go.Proofs.YtaingnnflldlhabDoor
open Go.RowKit Fl

theorem info9 : (Tryd.prog.info? 9).map (fun i => (i.zero, i.size, i.bytes)) = some (some (.string ⟨#[]⟩), 1, 16) := by kernel_rfl

/-- The words before place i, and where the word at i begins. -/
def rowS (s : ByteArray) : Nat → List ByteArray × Nat
  | 0 => ([], 0)
  | i + 1 => if (s.data.toList.getD i 0).toNat = 32 then ((rowS s i).1 ++ [s.extract (rowS s i).2 i], i + 1) else rowS s i
theorem rowS_from (s : ByteArray) : ∀ i, (rowS s i).2 ≤ i := by
  intro i
  induction i with
  | zero => exact Nat.le_refl 0
  | succ i ih =>
    unfold rowS
    split
    · exact Nat.le_refl _
    · omega
theorem rowS_len (s : ByteArray) : ∀ i, (rowS s i).1.length ≤ i := by
  intro i
  induction i with
  | zero => exact Nat.le_refl 0
  | succ i ih =>
    unfold rowS
    split
    · simp; omega
    · omega
/-- All words. -/
def wordsOf (s : ByteArray) : List ByteArray := (rowS s s.size).1 ++ [s.extract (rowS s s.size).2 s.size]

/-- A row of strings. -/
def Strs (w w' : World) (v : Value) (ws : List ByteArray) : Prop := w'.ownsRow w.heap.size 9 1 v ws.length (ws.map Value.string) ∧ Below w.heap.size w w'

set_option maxRecDepth 100000 in
set_option maxHeartbeats 2000000 in
theorem split_walk (s : ByteArray) (hs : s.size ≤ 1048576) (w : World) : Calls Tryd.prog 7 #[.string s, .int .u8 32] w fun e w' => (∃ v, e = .returned v ∧ Strs w w' v (wordsOf s)) := by
  obtain ⟨i0, hi, hz0, hz1, hz2⟩ := info_parts info9
  have hidx : Hid (∀ k c, k < s.size → (s.data.toList.getD k 0).toNat = c → ∀ w, (Instr.index 9 (.string s) (.int .i64 k)).run Tryd.prog w = .ok (.int .u8 c) w) := Lib.hid fun k c hk hc w => index_at s k c hk hc w
  go_enter Tryd.func7, Tryd.ntmps7
  go_wp2
  go_loopw [5, 6, 7] (fun v f i wr => ∃ k : Nat, k ≤ s.size ∧ i = .int .i64 k ∧ f = .int .i64 ((rowS s k).2 : Nat) ∧ Strs w wr v (rowS s k).1) (fun _ _ i _ => s.size - (intOf i).toNat)
  case atStart => exact ⟨0, by omega, rfl, rfl, World.ownsRow_made _ _ 0 (Nat.le_refl _) (by decide) rfl, (Below.refl _ _).alloc (Nat.le_refl _) _⟩
  case round =>
    obtain ⟨k, hk, rfl, rfl, hown, hb⟩ := hrel
    have hf1 := rowS_from s k
    have hf2 := rowS_len s k
    have hsucc : rowS s (k + 1) = if (s.data.toList.getD k 0).toNat = 32 then ((rowS s k).1 ++ [s.extract (rowS s k).2 k], k + 1) else rowS s k := rfl
    have HW := Lib.hid (show wordsOf s = (rowS s s.size).1 ++ [s.extract (rowS s s.size).2 s.size] from rfl)
    by_cases hlt : k < s.size
    · have h3 : (k : Int) < (s.size : Int) := by omega
      have hc := hidx.out k _ hlt rfl
      generalize (s.data.toList.getD k 0).toNat = c at *
      clear HW
      obtain ⟨⟨ws, fr⟩, hrow⟩ : ∃ r, rowS s k = r := ⟨_, rfl⟩
      rw [hrow] at hsucc hown hf1 hf2 ⊢
      dsimp only at *
      have HS := Lib.hid hsucc
      have HRW := Lib.hid hrow
      clear hsucc hrow
      by_cases h32 : c = 32
      · subst h32
        have hc' : ∀ w, (Instr.index 9 (.string s) (.int .i64 k)).run Tryd.prog w = .ok (.int .u8 32) w := hc
        clear hc
        have HS2 := Lib.hid (show rowS s (k + 1) = (ws ++ [s.extract fr k], k + 1) by rw [HS.out, if_pos rfl])
        clear HS
        have hge : (fr : Int) ≤ (k : Int) := by omega
        have hle : (k : Int) ≤ (s.size : Int) := by omega
        go_wp2_with (at_builtin; refine wpList_append_own _ rfl _ _ 28 rfl w.heap.size 9 i0 (.string ⟨#[]⟩) 1 16 Tryd.underlying28 hi hz0 hz1 hz2 rfl (by decide) _ _ _ rfl (hown.alloc _) ⟨wr.heap.size, 0, none⟩ 1 1 [.string (s.extract fr k)] rfl rfl ?c1 ?c2 ?c3 ?c4 ?c5 ?_)
        case c2 => first | rfl | (intro u hu; simp at hu; subst hu; rfl) | (simp; done)
        case c3 => unfold maxLen; omega
        case c4 => omega
        case c5 => have := hb.size; simp; omega
        · intro j u hj
          match j, hj with
          | 0, hj => simp at hj; subst hj; simp [Addr.add]
        intro v' w1 hown' hgrow _
        have hb' : Below w.heap.size w w1 := (hb.alloc hb.size _).grown hgrow (by have := hb.size; simp; omega) (fun j hj => (hown.lt j hj).1)
        have HO := Lib.hid hown'
        clear hown' hgrow hown hb
        go_wp2
        go_roundw
        case rel => exact ⟨k + 1, by omega, by go_num, by rw [HS2.out]; go_num, by rw [HS2.out]; exact ⟨by simpa using HO.out, hb'⟩⟩
        case measure => simp [intOf]; omega
      · have hne : ((c : Int) == 32) = false := by simp; omega
        have HO := Lib.hid hown
        have HB := Lib.hid hb
        clear hown hb
        go_wp2
        go_roundw
        case rel => exact ⟨k + 1, by omega, by go_num, by rw [HS.out, if_neg h32], by rw [HS.out, if_neg h32]; exact ⟨HO.out, HB.out⟩⟩
        case measure => simp [intOf]; omega
    · have hkk : k = s.size := by omega
      have hge : ¬ (k : Int) < (s.size : Int) := by omega
      subst hkk
      clear hsucc
      have hW2 := HW.out
      obtain ⟨⟨ws, fr⟩, hrow⟩ : ∃ r, rowS s s.size = r := ⟨_, rfl⟩
      rw [hrow] at hown hf1 hf2 hW2 ⊢
      dsimp only at *
      clear hrow HW
      have HW2 := Lib.hid hW2
      clear hW2
      have hle : (fr : Int) ≤ (s.size : Int) := by omega
      go_wp2_with (at_builtin; refine wpList_append_own _ rfl _ _ 28 rfl w.heap.size 9 i0 (.string ⟨#[]⟩) 1 16 Tryd.underlying28 hi hz0 hz1 hz2 rfl (by decide) _ _ _ rfl (hown.alloc _) ⟨wr.heap.size, 0, none⟩ 1 1 [.string (s.extract fr s.size)] rfl rfl ?d1 ?d2 ?d3 ?d4 ?d5 ?_)
      case d2 => first | rfl | (intro u hu; simp at hu; subst hu; rfl) | (simp; done)
      case d3 => unfold maxLen; omega
      case d4 => omega
      case d5 => have := hb.size; simp; omega
      intro v' w1 hown' hgrow _
      have hb' : Below w.heap.size w w1 := (hb.alloc hb.size _).grown hgrow (by have := hb.size; simp; omega) (fun j hj => (hown.lt j hj).1)
      have HO := Lib.hid hown'
      clear hown' hgrow hown hb
      go_wp2
      go_ret
      exact ⟨_, rfl, by rw [HW2.out]; exact ⟨by simpa using HO.out, hb'⟩⟩

end Go.Proofs.YtaingnnflldlhabDoor
