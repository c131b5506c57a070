/- The law of ReadNarrowBits: whatever the text, both read the same. Conditions: the library's variables read as their text lays them. -/
import Derived.Test.YtaingnnflldlhabDoorLaw
namespace Go.Proofs.YtaingnnflldlhabDoor
open Go.RowKit Fl

theorem rowS_none (s : ByteArray) : ∀ i, (∀ k, k < i → (s.data.toList.getD k 0).toNat ≠ 32) → rowS s i = ([], 0) := by
  intro i
  induction i with
  | zero => intro _; rfl
  | succ i ih =>
    intro h
    unfold rowS
    rw [if_neg (h i (by omega))]
    exact ih fun k hk => h k (by omega)
theorem rowS_one (s : ByteArray) (o : Nat) (A : ByteArray) (h0 : rowS s (o + 1) = ([A], o + 1)) : ∀ i, o + 1 ≤ i → (∀ k, o < k → k < i → (s.data.toList.getD k 0).toNat ≠ 32) → rowS s i = ([A], o + 1) := by
  intro i
  induction i with
  | zero => intro h; omega
  | succ i ih =>
    intro hi h
    by_cases e : i = o
    · subst e; exact h0
    · have := ih (by omega) fun k h1 h2 => h k h1 (by omega)
      unfold rowS
      rw [if_neg (h i (by omega) (by omega))]
      exact this
theorem rowS_mono (s : ByteArray) (i : Nat) : ∀ j, i ≤ j → (rowS s i).1.length ≤ (rowS s j).1.length := by
  intro j
  induction j with
  | zero => intro h; rw [show i = 0 by omega]; exact Nat.le_refl _
  | succ j ih =>
    intro h
    by_cases e : i = j + 1
    · subst e; exact Nat.le_refl _
    · refine Nat.le_trans (ih (by omega)) ?_
      have hs : rowS s (j + 1) = if (s.data.toList.getD j 0).toNat = 32 then ((rowS s j).1 ++ [s.extract (rowS s j).2 j], j + 1) else rowS s j := rfl
      rw [hs]
      split
      · simp
      · exact Nat.le_refl _
theorem rowS_hit (s : ByteArray) (i : Nat) (h : (s.data.toList.getD i 0).toNat = 32) : rowS s (i + 1) = ((rowS s i).1 ++ [s.extract (rowS s i).2 i], i + 1) := by
  rw [rowS, if_pos h]

theorem rdHex_space : ∀ (l : List UInt8) (acc : Nat), (∃ c ∈ l, c.toNat = 32) → rdHex acc l = none := by
  intro l
  induction l with
  | nil => intro acc ⟨c, hc, _⟩; simp at hc
  | cons x l ih =>
    intro acc ⟨c, hc, h32⟩
    show (match hexd x.toNat with | some d => rdHex (acc * 16 + d) l | none => none) = none
    cases hd : hexd x.toNat with
    | none => rfl
    | some d =>
      dsimp only
      rcases List.mem_cons.1 hc with e | e
      · subst e
        rw [h32] at hd
        rw [show hexd 32 = none by decide] at hd
        exact absurd hd (by simp)
      · exact ih _ ⟨c, e, h32⟩

theorem word_space {B : ByteArray} (h : ∃ c ∈ B.data.toList, c.toNat = 32) : (wordOf B).2 = false := by
  have hq : (B.toList == [110, 97, 110]) = false := by
    rw [Lib.toList_data]
    refine beq_eq_false_iff_ne.2 fun e => ?_
    rw [e] at h
    obtain ⟨c, hc, h32⟩ := h
    simp at hc
    rcases hc with rfl | rfl | rfl <;> exact absurd h32 (by decide)
  have hb : (bitsOf 8 B.data.toList).2 = false := by
    unfold bitsOf
    split
    · rw [rdHex_space _ _ h]
    · rfl
  unfold wordOf rdOf
  rw [hq]
  simp [hb]
theorem word_empty : (wordOf ⟨#[]⟩).2 = false := by
  have hq : ((⟨#[]⟩ : ByteArray).toList == [110, 97, 110]) = false := by rw [Lib.toList_data]; rfl
  unfold wordOf rdOf
  rw [hq]
  rfl
theorem pair_bad {a b : Nat × Bool} (h : b.2 = false) : pairOf a b = ((0, 0), 5) := by
  unfold pairOf
  rw [h, Bool.and_false]; rfl
theorem word_num (A : ByteArray) : (wordOf A).1 < 4294967296 := by
  have h := bitsOf_lt A.data.toList
  unfold wordOf rdOf
  split
  · show 2143289344 < 4294967296; omega
  · split
    · exact h
    · show 0 < 4294967296; omega
theorem pair_num (A B : ByteArray) : (pairOf (wordOf A) (wordOf B)).1.1 < 4294967296 ∧ (pairOf (wordOf A) (wordOf B)).1.2 < 4294967296 := by
  unfold pairOf
  split
  · exact ⟨word_num A, word_num B⟩
  · exact ⟨by show 0 < 4294967296; omega, by show 0 < 4294967296; omega⟩

/-- What both read. -/
theorem both (s : ByteArray) (hs : s.size ≤ 1048576) : ∃ p : (Nat × Nat) × Int, (p.1.1 < 4294967296 ∧ p.1.2 < 4294967296) ∧
    (∀ w, Calls Tryd.prog 4 #[.string s] w (LikeOut p w)) ∧
    (∀ w, Ready w → Calls Tryd.prog 5 #[.string s] w (LikeOut p w)) := by
  have h0 : (0 : Nat) < 4294967296 := by omega
  have hlen := size_len s
  have hge := Lib.indexByte_ge s.data.toList 32
  by_cases hn : Lib.indexByte s.data.toList 32 = -1
  · have hno := Lib.indexByte_none hn
    have hr : rowS s s.size = ([], 0) := by
      refine rowS_none s _ fun k hk e => ?_
      refine hno k ?_
      rw [List.getElem?_eq_getElem (by omega)]
      have e2 : s.data.toList.getD k 0 = s.data.toList[k]'(by omega) := by simp [List.getD, List.getElem?_eq_getElem (show k < s.data.toList.length by omega)]
      rw [e2] at e
      exact congrArg some (UInt8.toNat_inj.1 e)
    refine ⟨((0, 0), 5), ⟨h0, h0⟩, fun w => spec_other s hs (by unfold wordsOf; rw [hr]; simp) w, fun w hR => ?_⟩
    have := impl_walk s s ⟨#[]⟩ ⟨false, fun w => (cut_inner_none s hn w).mono fun e w' ⟨he, hw⟩ => ⟨he, 0, by rw [← hw]; exact (World.drewN_zero _).symm⟩⟩ hs (by decide) w hR
    rw [pair_bad word_empty] at this
    exact this
  · obtain ⟨o, ho⟩ : ∃ o : Nat, Lib.indexByte s.data.toList 32 = (o : Int) := ⟨(Lib.indexByte s.data.toList 32).toNat, by omega⟩
    obtain ⟨h1, h2⟩ := Lib.indexByte_some ho
    have hos : o < s.size := by
      have := (List.getElem?_eq_some_iff.1 h1).1
      omega
    have hgd : ∀ k, k < s.size → (s.data.toList.getD k 0).toNat = 32 → s.data.toList[k]? = some 32 := by
      intro k hk e
      rw [List.getElem?_eq_getElem (by omega)]
      have e2 : s.data.toList.getD k 0 = s.data.toList[k]'(by omega) := by simp [List.getD, List.getElem?_eq_getElem (show k < s.data.toList.length by omega)]
      rw [e2] at e
      exact congrArg some (UInt8.toNat_inj.1 e)
    have hpre : rowS s o = ([], 0) := rowS_none s o fun k hk e => h2 k hk (hgd k (by omega) e)
    have ho32 : (s.data.toList.getD o 0).toNat = 32 := by simp [List.getD, h1]
    have hone : rowS s (o + 1) = ([s.extract 0 o], o + 1) := by rw [rowS_hit s o ho32, hpre]; rfl
    have hcut : CutTo s (s.extract 0 o) (s.extract (o + 1) s.size) := ⟨true, fun w => cut_inner_some s o ho hos hs w⟩
    have hA : (s.extract 0 o).size ≤ 1048576 := by rw [ByteArray.size_extract]; omega
    have hB : (s.extract (o + 1) s.size).size ≤ 1048576 := by rw [ByteArray.size_extract]; omega
    by_cases hmore : ∃ j, o < j ∧ j < s.size ∧ (s.data.toList.getD j 0).toNat = 32
    · obtain ⟨j, hj1, hj2, hj3⟩ := hmore
      have hsp : (wordOf (s.extract (o + 1) s.size)).2 = false := by
        refine word_space ⟨32, ?_, rfl⟩
        rw [Lib.extract_data, List.take_of_length_le (by rw [List.length_drop]; omega)]
        have := hgd j hj2 hj3
        refine List.mem_of_getElem? (i := j - (o + 1)) ?_
        rw [List.getElem?_drop, show o + 1 + (j - (o + 1)) = j by omega]; exact this
      refine ⟨((0, 0), 5), ⟨h0, h0⟩, fun w => spec_other s hs ?_ w, fun w hR => ?_⟩
      · have m1 := rowS_mono s (o + 1) j (by omega)
        have m2 := rowS_mono s (j + 1) s.size (by omega)
        rw [rowS_hit s j hj3] at m2
        rw [hone] at m1
        unfold wordsOf
        simp at m1 m2 ⊢
        omega
      · have := impl_walk s _ _ hcut hA hB w hR
        rw [pair_bad hsp] at this
        exact this
    · have hend : rowS s s.size = ([s.extract 0 o], o + 1) := rowS_one s o _ hone s.size (by omega) fun k k1 k2 e => hmore ⟨k, k1, k2, e⟩
      have hw : wordsOf s = [s.extract 0 o, s.extract (o + 1) s.size] := by unfold wordsOf; rw [hend]; rfl
      exact ⟨_, pair_num _ _, fun w => spec_two s _ _ hs hw w, fun w hR => impl_walk s _ _ hcut hA hB w hR⟩

theorem law_walk (s : ByteArray) (w : World) (hR : Ready w) : Calls Tryd.prog 3 #[.string s] w fun e w' => e = .returned (.bool true) ∧ Below w.heap.size w w' := by
  by_cases hs : (1048576 : Int) < (s.size : Int)
  · go_enter Tryd.func3, Tryd.ntmps3
    go_wp2
    go_ret
    exact ⟨rfl, Below.refl _ _⟩
  · obtain ⟨p, ⟨n1, n2⟩, H1, H2⟩ := both s (by omega)
    have H1 := Lib.hid H1
    have H2 := Lib.hid H2
    have HR := Lib.hid hR
    have HN := Lib.hid (And.intro n1 n2)
    clear n1 n2 hR
    obtain ⟨⟨p1, p2⟩, c⟩ := p
    unfold LikeOut at H1 H2
    dsimp only at *
    go_enter Tryd.func3, Tryd.ntmps3
    go_wp2_with fail
    refine (H1.out _).mono ?_; rintro e w1 ⟨⟨x, y, rfl, hx, hy⟩, hb1⟩
    have HB1 := Lib.hid hb1
    have HX := Lib.hid (And.intro hx hy)
    clear hb1 hx hy
    go_wp2_with fail
    refine (H2.out _ (HR.out.below HB1.out)).mono ?_; rintro e w2 ⟨⟨u, v, rfl, hu, hv⟩, hb2⟩
    have HB2 : Hid (Below w.heap.size w w2) := Lib.hid (HB1.out.trans (hb2.mono HB1.out.size))
    obtain ⟨U, V, w3, hc1, b3, r1, r2⟩ := pair_at u v (hu.bound HN.out.1) (hv.bound HN.out.2) w2
    obtain ⟨X, Y, w4, hc2, b4, r3, r4⟩ := pair_at x y (HX.out.1.bound HN.out.1) (HX.out.2.bound HN.out.2) w3
    have HB4 : Hid (Below w.heap.size w w4) := Lib.hid ((HB2.out.trans (b3.mono HB2.out.size)).trans (b4.mono (Nat.le_trans HB2.out.size b3.size)))
    have H3 := Lib.hid (same_complex U V X Y (wide_like r1 r3 hu HX.out.1) (wide_like r2 r4 hv HX.out.2))
    clear hb2 b3 b4 r1 r2 r3 r4 hu hv
    go_wp2_with fail
    refine (H3.out _).mono ?_; rintro e w' ⟨rfl, rfl⟩
    go_wp2
    go_ret
    exact ⟨rfl, HB4.out⟩

end Go.Proofs.YtaingnnflldlhabDoor
