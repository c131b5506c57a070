/- Go's strconv.ParseUint at base 16 in 64 bits at every text: the number, or an error that is not nil. Condition: the two errors' variables hold values of an interface. -/
import Derived.Test.YtaingnnflldlhaaDoorParse
import Derived.Test.YtaingnnflldlhaaDoorShelf
import Derived.Lib.AtoiErrMem
namespace Go.Proofs.YtaingnnflldlhaaDoor
open Go.RowKit Fl

def parseAll (l : List UInt8) : Sum Nat Bool := if l = [] then .inr false else parseH 0 l

set_option maxRecDepth 100000 in
theorem inner_empty (w : World) : Calls Tryd.prog 22 #[.string ⟨#[]⟩, .int .i64 16, .int .i64 64] w fun e w' => e = .returned (.tuple #[.int .u64 0, .iface 59 (.int .i64 2)]) ∧ w = w' := by
  go_enter Tryd.func22, Tryd.ntmps22
  go_wp2
  go_ret2
  exact ⟨rfl, rfl⟩

theorem inner_all (t : ByteArray) (hmax : t.size ≤ 1048576) (w : World) :
    Calls Tryd.prog 22 #[.string t, .int .i64 16, .int .i64 64] w fun e w' => e = .returned (tupU (parseAll t.data.toList)) ∧ (w' = w ∨ w' = Lib.bytesWorld w 5 t) := by
  by_cases h0 : t.size = 0
  · have ht : t = ⟨#[]⟩ := by
      obtain ⟨⟨l⟩⟩ := t
      cases l with
      | nil => rfl
      | cons _ _ => simp [ByteArray.size] at h0
    subst ht
    exact (inner_empty w).mono fun e w' ⟨he, hw⟩ => ⟨he, .inl hw.symm⟩
  · refine (parse_inner t h0 hmax w).mono fun e w' ⟨he, hw⟩ => ⟨?_, .inr hw⟩
    have hne : t.data.toList ≠ [] := fun h => h0 (by rw [← size_len t, h]; rfl)
    rw [he, parseAll, if_neg hne]

/-- The errors' variables hold values of an interface. -/
def Errs (w : World) : Prop := ∀ g, g = 2 ∨ g = 3 → ∃ ev, w.cell? ⟨g, 0, none⟩ = some ev ∧ (ev = .nilIface ∨ ∃ te pe, ev = .iface te pe)

theorem errs_below {w w' : World} (h : Errs w) (hb : Below w.heap.size w w') : Errs w' := by
  intro g hg
  obtain ⟨ev, h1, h2⟩ := h g hg
  exact ⟨ev, (hb.cell (p := ⟨g, 0, none⟩) (World.block_lt_of_cell? _ _ h1)).trans h1, h2⟩

/-- What ParseUint hands back. -/
def ParseOut (r : Sum Nat Bool) (w : World) (e : Ending) (w' : World) : Prop :=
  (∃ n er, e = .returned (.tuple #[.int .u64 n, er]) ∧ ((∃ v : Nat, r = .inl v ∧ n = (v : Int) ∧ er = .nilIface) ∨ ((∀ v, r ≠ .inl v) ∧ 0 ≤ n ∧ ∃ p, er = .iface 62 p))) ∧ Below w.heap.size w w'

theorem parse_all (t : ByteArray) (hmax : t.size ≤ 1048576) (w : World) (hE : Errs w) : Calls Tryd.prog 18 #[.string t, .int .i64 16, .int .i64 64] w (ParseOut (parseAll t.data.toList) w) := by
  have H := Lib.hid (inner_all t hmax w)
  have HS := Lib.hid fun (w : World) (hE : Errs w) => (hE 2 (.inl rfl))
  have HR := Lib.hid fun (w : World) (hE : Errs w) => (hE 3 (.inr rfl))
  have HE := Lib.hid hE
  have hs : t.size ≤ 281474976710656 := by omega
  clear hE hmax
  obtain ⟨R, hR⟩ : ∃ R, R = parseAll t.data.toList := ⟨_, rfl⟩
  rw [← hR] at H ⊢
  clear hR
  go_enter Tryd.func18, Tryd.ntmps18
  go_wp2_with fail
  refine (H.out).mono ?_; rintro e w1 ⟨rfl, hw1⟩
  have hb1 : Hid (Below w.heap.size w w1) := by
    rcases hw1 with rfl | rfl
    · exact Below.refl _ _
    · exact Lib.bytesWorld_below _ _ _
  have hE1 : Hid (Errs w1) := Lib.hid (errs_below HE.out hb1.out)
  clear hw1 HE H
  cases R with
  | inl v =>
    simp only [tupU]
    go_wp2
    go_ret2
    exact ⟨⟨_, _, rfl, .inl ⟨v, rfl, rfl, rfl⟩⟩, hb1.out⟩
  | inr far =>
    cases far with
    | false =>
      simp only [tupU]
      obtain ⟨ev, h1, h2⟩ := HS.out w1 hE1.out
      have T := Lib.hid fun fn base bits => Tryd.strconv_toError_syntax fn t base bits ev w1 hs h1 h2
      clear h1 h2 HS HR
      go_wp2_with fail
      refine (T.out _ _ _).mono ?_; rintro e w2 ⟨N, rfl, _, _, hb2⟩
      go_wp2
      go_ret2
      exact ⟨⟨_, _, rfl, .inr ⟨(fun v h => by cases h), by omega, _, rfl⟩⟩, hb1.out.trans (hb2.mono hb1.out.size)⟩
    | true =>
      simp only [tupU]
      obtain ⟨ev, h1, h2⟩ := HR.out w1 hE1.out
      have T := Lib.hid fun fn base bits => Tryd.strconv_toError_range fn t base bits ev w1 hs h1 h2
      clear h1 h2 HS HR
      go_wp2_with fail
      refine (T.out _ _ _).mono ?_; rintro e w2 ⟨N, rfl, _, _, hb2⟩
      go_wp2
      go_ret2
      exact ⟨⟨_, _, rfl, .inr ⟨(fun v h => by cases h), by omega, _, rfl⟩⟩, hb1.out.trans (hb2.mono hb1.out.size)⟩

end Go.Proofs.YtaingnnflldlhaaDoor
