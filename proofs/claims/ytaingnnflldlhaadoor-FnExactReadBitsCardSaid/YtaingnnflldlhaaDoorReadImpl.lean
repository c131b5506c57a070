/- The program's reading of one number, walked: it reads what the reference reads. Conditions: the library's variables read as their text lays them; the text is not longer than the law lets it be. -/
import Derived.Test.YtaingnnflldlhaaDoorPure
namespace Go.Proofs.YtaingnnflldlhaaDoor
open Go.RowKit Fl

theorem says_eq {t s : ByteArray} {l : List Nat} (h : Says t l) : (t.toList == s.toList) = decide (l = s.data.toList.map (fun b => b.toNat)) := by
  rw [Lib.toList_data, Lib.toList_data]
  have hinj : ∀ x y : List UInt8, x.map (fun b => b.toNat) = y.map (fun b => b.toNat) → x = y := by
    intro x y e
    exact List.map_inj_right (fun a b h => UInt8.toNat_inj.1 h) |>.1 e
  unfold Says at h
  by_cases e : t.data.toList = s.data.toList
  · rw [e] at h ⊢
    rw [decide_eq_true h.symm]; simp
  · have h2 : ¬ l = s.data.toList.map (fun b => b.toNat) := by
      intro h3; rw [← h] at h3; exact e (hinj _ _ h3)
    rw [decide_eq_false h2]
    exact beq_eq_false_iff_ne.2 e

theorem readBits_walk (s : ByteArray) (hs : s.size ≤ 1048576) (w : World) (hR : Ready w) : Calls Tryd.prog 16 #[.string s, .bool false] w (ImplOut (s.toList == [110, 97, 110]) (bitsOf 16 s.data.toList) w) := by
  have HN := Lib.hid nan_walk
  have HP := Lib.hid (parse_all s hs w hR.errs)
  have HR := Lib.hid hR
  have hb1 : ∀ m, bitsOf 16 s.data.toList = (m, true) → parseAll s.data.toList = .inl m ∧ hexT 16 m = s.data.toList.map (fun b => b.toNat) := fun m h => bits_parse h
  have hb2 : ∀ m, m < 18446744073709551616 → hexT 16 m = s.data.toList.map (fun b => b.toNat) → bitsOf 16 s.data.toList = (m, true) := fun m h e => parse_bits h e
  have hlt : ∀ m, parseAll s.data.toList = .inl m → m < 18446744073709551616 := fun m h => all_lt h
  have hsay : ∀ (t : ByteArray) (l : List Nat), Says t l → (t.toList == s.toList) = decide (l = s.data.toList.map (fun b => b.toNat)) := fun t l h => says_eq h
  have hnt : (([110, 97, 110] : List UInt8) == s.toList) = (s.toList == [110, 97, 110]) := by
    by_cases e : s.toList = [110, 97, 110]
    · rw [e]
    · have e2 : ¬ [110, 97, 110] = s.toList := fun h => e h.symm
      rw [beq_eq_false_iff_ne.2 e, beq_eq_false_iff_ne.2 e2]
  generalize parseAll s.data.toList = R at *
  generalize s.data.toList.map (fun b => b.toNat) = cl at *
  generalize bitsOf 16 s.data.toList = b at *
  have HB1 := Lib.hid hb1
  have HB2 := Lib.hid hb2
  have HLT := Lib.hid hlt
  have HSAY := Lib.hid hsay
  clear hb1 hb2 hlt hsay hR
  cases hq : (s.toList == [110, 97, 110]) with
  | true =>
    clear hnt
    go_enter Tryd.func16, Tryd.ntmps16
    go_wp2_with fail
    refine (HN.out _).mono ?_; rintro e w' ⟨rfl, rfl⟩
    go_wp2
    go_ret2
    exact ⟨⟨_, _, rfl, rfl, fun _ => rfl⟩, Below.refl _ _⟩
  | false =>
    rw [hq] at hnt
    go_enter Tryd.func16, Tryd.ntmps16
    go_wp2_with fail
    refine (HP.out).mono ?_; rintro e w1 ⟨⟨n, er, rfl, hcase⟩, hb⟩
    have HBL := Lib.hid hb
    clear hb
    rcases hcase with ⟨v, hv, rfl, rfl⟩ | ⟨hno, hn0, p, rfl⟩
    · have hv64 := HLT.out v hv
      have HV := Lib.hid hv
      clear hv
      cases hn : nan .f64 v with
      | true =>
        have HT := Lib.hid (fun w => text_nan v hn w)
        have HF : Hid ((rdOf false b).2 = false) := by
          refine Lib.hid ?_
          unfold rdOf
          obtain ⟨m, ok⟩ := b
          cases ok with
          | false => rfl
          | true =>
            have h1 := (HB1.out m rfl).1
            rw [HV.out] at h1
            injection h1 with h1
            subst h1
            simp [hn]
        clear hn
        go_wp2_with fail
        refine (HT.out _).mono ?_; rintro e w' ⟨rfl, rfl⟩
        go_wp2
        go_ret2
        exact ⟨⟨_, _, rfl, HF.out.symm, fun h => by simp at h⟩, HBL.out⟩
      | false =>
        have HT := Lib.hid (text_walk v hv64 hn w1 (HR.out.below HBL.out).tab)
        have HF : Hid (decide (hexT 16 v = cl) = (rdOf false b).2 ∧ (decide (hexT 16 v = cl) = true → v = (rdOf false b).1)) := by
          refine Lib.hid ?_
          by_cases e : hexT 16 v = cl
          · have h2 := HB2.out v hv64 e
            rw [h2, decide_eq_true e]
            unfold rdOf
            simp [hn]
          · rw [decide_eq_false e]
            refine ⟨?_, fun h => by simp at h⟩
            unfold rdOf
            obtain ⟨m, ok⟩ := b
            cases ok with
            | false => rfl
            | true =>
              obtain ⟨h1, h2⟩ := HB1.out m rfl
              rw [HV.out] at h1
              injection h1 with h1
              subst h1
              exact absurd h2 e
        clear hn
        go_wp2_with fail
        refine (HT.out).mono ?_; rintro e w2 ⟨⟨t, rfl, ht⟩, hb2⟩
        have hcmp := HSAY.out t _ ht
        have HB3 := Lib.hid hb2
        clear hb2 ht
        go_wp2
        go_ret2
        exact ⟨⟨_, _, rfl, HF.out.1, HF.out.2⟩, HBL.out.trans (HB3.out.mono HBL.out.size)⟩
    · have HF : Hid ((rdOf false b).2 = false) := by
        refine Lib.hid ?_
        unfold rdOf
        obtain ⟨m, ok⟩ := b
        cases ok with
        | false => rfl
        | true => exact absurd (HB1.out m rfl).1 (hno m)
      clear hno
      obtain ⟨x, rfl⟩ : ∃ x : Nat, n = (x : Int) := ⟨n.toNat, by omega⟩
      go_wp2
      go_ret2
      exact ⟨⟨_, _, rfl, HF.out.symm, fun h => by simp at h⟩, HBL.out⟩

end Go.Proofs.YtaingnnflldlhaaDoor
