/- The program's reading of one narrow number, walked: it reads what the reference reads. Conditions: the library's variables read as their text lays them; the text is not longer than the law lets it be. -/
import Derived.Test.YtaingnnflldlhabDoorPure
import Derived.Test.YtaingnnflldlhabDoorNarrow
namespace Go.Proofs.YtaingnnflldlhabDoor
open Go.RowKit Fl

theorem says_eq {t s : ByteArray} {l : List Nat} (h : Says t l) : (t.toList == s.toList) = decide (l = s.data.toList.map (fun b => b.toNat)) := by
  rw [Lib.toList_data, Lib.toList_data]
  have hinj : ∀ x y : List UInt8, x.map (fun b => b.toNat) = y.map (fun b => b.toNat) → x = y := by
    intro x y e
    exact List.map_inj_right (fun a b h => UInt8.toNat_inj.1 h) |>.1 e
  unfold Says at h
  by_cases e : t.data.toList = s.data.toList
  · rw [e] at h ⊢
    rw [decide_eq_true h.symm]; simp
  · have h2 : ¬ l = s.data.toList.map (fun b => b.toNat) := by
      intro h3; rw [← h] at h3; exact e (hinj _ _ h3)
    rw [decide_eq_false h2]
    exact beq_eq_false_iff_ne.2 e

theorem ok_inj {a b : Nat} (h : (Sum.inl a : Sum Nat Bool) = .inl b) : a = b := by injection h

theorem cut32 (v : Nat) : IntKind.u32.wrap (v : Int) = ((v % 4294967296 : Nat) : Int) := by
  rw [IntKind.wrap_u32]; omega

set_option maxHeartbeats 2000000 in
theorem readBits_walk (s : ByteArray) (hs : s.size ≤ 1048576) (w : World) (hR : Ready w) : Calls Tryd.prog 16 #[.string s, .bool true] w (ImplOut (s.toList == [110, 97, 110]) (bitsOf 8 s.data.toList) w) := by
  have HN := Lib.hid nan_walk
  have HP := Lib.hid (parse_all s hs w hR.errs)
  have HR := Lib.hid hR
  have hb1 : ∀ m, bitsOf 8 s.data.toList = (m, true) → parseAll s.data.toList = .inl m ∧ hexT 8 m = s.data.toList.map (fun b => b.toNat) ∧ m < 4294967296 := fun m h => bits_parse h
  have hb2 : ∀ m, m < 4294967296 → hexT 8 m = s.data.toList.map (fun b => b.toNat) → bitsOf 8 s.data.toList = (m, true) := fun m h e => parse_bits h e
  have hlt : ∀ m, parseAll s.data.toList = .inl m → m < 18446744073709551616 := fun m h => all_lt h
  have hsay : ∀ (t : ByteArray) (l : List Nat), Says t l → (t.toList == s.toList) = decide (l = s.data.toList.map (fun b => b.toNat)) := fun t l h => says_eq h
  have hnt : (([110, 97, 110] : List UInt8) == s.toList) = (s.toList == [110, 97, 110]) := by
    by_cases e : s.toList = [110, 97, 110]
    · rw [e]
    · have e2 : ¬ [110, 97, 110] = s.toList := fun h => e h.symm
      rw [beq_eq_false_iff_ne.2 e, beq_eq_false_iff_ne.2 e2]
  generalize parseAll s.data.toList = R at *
  generalize s.data.toList.map (fun b => b.toNat) = cl at *
  generalize bitsOf 8 s.data.toList = b at *
  have HB1 := Lib.hid hb1
  have HB2 := Lib.hid hb2
  have HLT := Lib.hid hlt
  have HSAY := Lib.hid hsay
  clear hb1 hb2 hlt hsay hR
  cases hq : (s.toList == [110, 97, 110]) with
  | true =>
    clear hnt
    go_enter Tryd.func16, Tryd.ntmps16
    go_wp2_with fail
    refine (HN.out _).mono ?_; rintro e w' ⟨rfl, rfl⟩
    go_wp2
    go_ret2
    exact ⟨⟨_, _, rfl, rfl, fun _ => .inl ⟨by decide +kernel, nan_const⟩⟩, Below.refl _ _⟩
  | false =>
    rw [hq] at hnt
    go_enter Tryd.func16, Tryd.ntmps16
    go_wp2_with fail
    refine (HP.out).mono ?_; rintro e w1 ⟨⟨n, er, rfl, hcase⟩, hb⟩
    have HBL := Lib.hid hb
    clear hb
    rcases hcase with ⟨v, hv, rfl, rfl⟩ | ⟨hno, hn0, p, rfl⟩
    · have hv64 := HLT.out v hv
      have HV := Lib.hid hv
      clear hv
      have hwr := cut32 v
      obtain ⟨y, hy⟩ : ∃ y, y = v % 4294967296 := ⟨_, rfl⟩
      have hylt : y < 4294967296 := by omega
      rw [← hy] at hwr
      have HY : Hid (v < 4294967296 → v = y) := Lib.hid fun h => by rw [hy, Nat.mod_eq_of_lt h]
      clear hy
      obtain ⟨x, W', hcv, hbw, hrel⟩ := wide_at y (fun _ => hylt) w1
      have HW := Lib.hid hbw
      clear hbw
      cases hn : nan .f32 y with
      | true =>
        have hnx : nan .f64 x = true := by
          rcases hrel with ⟨h, _⟩ | ⟨_, h, _⟩
          · exact h
          · rw [hn] at h; cases h
        have HT := Lib.hid (fun w => text_nan x hnx w)
        have HF : Hid ((rdOf false b).2 = false) := by
          refine Lib.hid ?_
          unfold rdOf
          obtain ⟨m, ok⟩ := b
          cases ok with
          | false => rfl
          | true =>
            obtain ⟨h1, _, h3⟩ := HB1.out m rfl
            rw [HV.out] at h1
            replace h1 := ok_inj h1
            have h3' : v < 4294967296 := by rw [h1]; exact h3
            have e := h1.symm.trans (HY.out h3')
            rw [e]
            simp [hn]
        clear hn hnx hrel
        go_wp2_with fail
        refine (HT.out _).mono ?_; rintro e w' ⟨rfl, rfl⟩
        go_wp2
        go_ret2
        exact ⟨⟨_, _, rfl, HF.out.symm, fun h => by simp at h⟩, HBL.out.trans (HW.out.mono HBL.out.size)⟩
      | false =>
        obtain ⟨hx1, hx2⟩ : nan .f64 x = false ∧ floatToFloatBits .f64 x .f32 = some y := by
          rcases hrel with ⟨_, h⟩ | ⟨_, _, h⟩
          · rw [hn] at h; cases h
          · obtain ⟨x', g1, g2, g3⟩ := back y hylt hn
            rw [h] at g1
            injection g1 with g1
            subst g1
            exact ⟨g2, g3⟩
        have HREL := Lib.hid hrel
        clear hrel
        have HT := Lib.hid (text_walk x y hylt hx1 hx2 W' ((HR.out.below HBL.out).below HW.out).tab)
        have HF : Hid (decide (hexT 8 y = cl) = (rdOf false b).2 ∧ (decide (hexT 8 y = cl) = true → y = (rdOf false b).1)) := by
          refine Lib.hid ?_
          by_cases e : hexT 8 y = cl
          · have h2 := HB2.out y hylt e
            rw [h2, decide_eq_true e]
            unfold rdOf
            simp [hn]
          · rw [decide_eq_false e]
            refine ⟨?_, fun h => by simp at h⟩
            unfold rdOf
            obtain ⟨m, ok⟩ := b
            cases ok with
            | false => rfl
            | true =>
              obtain ⟨h1, h2, h3⟩ := HB1.out m rfl
              rw [HV.out] at h1
              replace h1 := ok_inj h1
              have h3' : v < 4294967296 := by rw [h1]; exact h3
              have e' := h1.symm.trans (HY.out h3')
              rw [e'] at h2
              exact absurd h2 e
        clear hn hx1 hx2
        go_wp2_with fail
        refine (HT.out).mono ?_; rintro e w2 ⟨⟨t, rfl, ht⟩, hb2⟩
        have hcmp := HSAY.out t _ ht
        have HB3 := Lib.hid hb2
        clear hb2 ht
        go_wp2
        go_ret2
        exact ⟨⟨_, _, rfl, HF.out.1, fun h => by rw [← HF.out.2 h]; exact HREL.out⟩, (HBL.out.trans (HW.out.mono HBL.out.size)).trans (HB3.out.mono (Nat.le_trans HBL.out.size HW.out.size))⟩
    · have HF : Hid ((rdOf false b).2 = false) := by
        refine Lib.hid ?_
        unfold rdOf
        obtain ⟨m, ok⟩ := b
        cases ok with
        | false => rfl
        | true => exact absurd (HB1.out m rfl).1 (hno m)
      clear hno
      obtain ⟨v, rfl⟩ : ∃ v : Nat, n = (v : Int) := ⟨n.toNat, by omega⟩
      have hwr := cut32 v
      obtain ⟨y, hy⟩ : ∃ y, y = v % 4294967296 := ⟨_, rfl⟩
      have hylt : y < 4294967296 := by omega
      rw [← hy] at hwr
      clear hy
      obtain ⟨x, W', hcv, hbw, hrel⟩ := wide_at y (fun _ => hylt) w1
      have HW := Lib.hid hbw
      clear hbw hrel
      go_wp2
      go_ret2
      exact ⟨⟨_, _, rfl, HF.out.symm, fun h => by simp at h⟩, HBL.out.trans (HW.out.mono HBL.out.size)⟩

end Go.Proofs.YtaingnnflldlhabDoor
