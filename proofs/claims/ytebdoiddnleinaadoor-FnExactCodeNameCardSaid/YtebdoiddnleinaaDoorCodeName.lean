/- The law FnExactCodeName returns true for every code: the program's CodeName gives what the document's own gives. The package's table of names reads as the program's text lays it (the card ties it to that text). No other condition. (Frame after the kit's proof-skeleton.mjs and its worked card.) -/
import Derived.Test.YtebdoiddnleinaaDoorCodeWalk
import Derived.Test.YtebdoiddnleinaaDoorPost
import Derived.Test.YtebdoiddnleinaaDoorTie
import Derived.Test.YtebdoiddnleinaaDoorCards
import Derived.LaidMore
import Derived.OpenShut
import Derived.SliceStrings
import Derived.Stop.Joined
import Derived.SevenTiedAt
namespace Go.Proofs.YtebdoiddnleinaaDoor.fnExactCodeName
open Go.ChangeShapes Go.WideShapes Go.ChangeAt Go.RowKit
open Go.WideMaps Go.WideElems

theorem own : ownKnob Tryd.prog.godebug = none := by kernel_rfl
theorem gNames : Tryd.prog.globalNamed "loop.example/g01155/impl.codeNames" = some 0 := by kernel_rfl
theorem tNames : (Tryd.prog.globals[0]?).map (·.type) = some 24 := by kernel_rfl
theorem cells9 : Tryd.prog.cellsOf 9 = 1 := by kernel_rfl
theorem laidOut : laidOutB Tryd.prog = true := by kernel_rfl

abbrev laid1 : List (String × DataW Unit) := [("loop.example/g01155/impl.codeNames", Rows.laid_loop_example_g01155_impl_codeNames)]

/-- The heap that the door's own run leaves meets the condition. -/
theorem door_met (os : Os) (args : Array Value) : laidMetH Tryd.prog laid1 ((World.doorLaid Tryd.prog 400 os).forCall (fun _ _ => 0) ⟨#[], args, []⟩).memory :=
  laidMetH_of_parts3 (fuel := 8) (laidMet_of_run' 8 (by kernel_rfl) (by kernel_rfl)) (by kernel_rfl) (by kernel_rfl)

def codeTab : List (List UInt8) := [[111, 107], [105, 110, 118, 97, 108, 105, 100], [114, 97, 110, 103, 101], [108, 105, 109, 105, 116], [115, 116, 97, 116, 101], [115, 121, 110, 116, 97, 120], [110, 111, 116, 102, 111, 117, 110, 100], [98, 117, 100, 103, 101, 116], [112, 114, 111, 111, 102]]

theorem strs_eq : (ss : List ByteArray) → (l : List (List UInt8)) → (strs ss : List (DataW Unit)) = l.map (fun b => .lit (.string b)) → ss.map (fun s => s.data.toList) = l
  | [], [], _ => rfl
  | [], _ :: _, h => by simp [strs] at h
  | _ :: _, [], h => by simp [strs] at h
  | s :: ss, b :: l, h => by
    simp only [strs, List.map_cons, List.cons.injEq, DataW.lit.injEq, Lit.string.injEq] at h
    simp only [List.map_cons, h.1, List.cons.injEq, true_and]
    exact strs_eq ss l h.2

/-- What the condition gives the walk: the variable is a slice over nine cells, which hold the nine names. -/
theorem of_laid {W : World} (h : laidMetH Tryd.prog laid1 W) : ∃ b off, W.cell? ⟨0, 0, none⟩ = some (.slice (some ⟨b, off, none⟩) 9 9) ∧
    ∀ i, i < 9 → W.cell? ⟨b, off + i, none⟩ = some (.string ⟨(codeTab.getD i []).toArray⟩) := by
  rw [MakeChecks.laidMetH_plain _ _ _ (by kernel_rfl)] at h
  obtain ⟨ps, ⟨g0, t0, cs0, f0, p0, q0, hg0, ht0, hv0, hd0, _, _⟩, _, _⟩ := h
  obtain rfl := Option.some.inj (gNames.symm.trans hg0)
  obtain rfl := Option.some.inj (tNames.symm.trans ht0)
  rcases open_strings Tryd.underlying24 Tryd.underlying9 cells9 hd0 with ⟨_, hx⟩ | ⟨a, len, cap, ss, hcs, _, hl, hm, hlen, hx, hcell, _⟩
  · simp [Rows.laid_loop_example_g01155_impl_codeNames] at hx
  have hx1 := congrArg Prod.fst hx
  have hd : (DataW.slice (strs (ss.take len)) (strs (ss.drop len)) : DataW Unit) = .slice (codeTab.map fun b => .lit (.string b)) [] := hx1.symm
  simp only [DataW.slice.injEq] at hd
  have ht := strs_eq _ _ hd.1
  have hdr : ss.drop len = [] := by
    have := hd.2
    simpa [strs] using this
  have h9 : (ss.take len).length = 9 := by
    have := congrArg List.length ht
    simpa [codeTab] using this
  have hlen' : ss.length = cap := by simpa using hlen
  have hle : ss.length ≤ len := by simpa using hdr
  have e1 : ss.take len = ss := List.take_of_length_le hle
  rw [e1] at ht h9
  obtain rfl : len = 9 := by omega
  obtain rfl : cap = 9 := by omega
  obtain ⟨b, off, spot⟩ := a
  have hsp : spot = none := by
    have := hcell 0 (by omega)
    cases spot with
    | none => rfl
    | some s => simp [World.cell?, Addr.add] at this; split at this <;> simp at this
  subst hsp
  refine ⟨b, off, ?_, fun i hi => ?_⟩
  · have := World.var?_cell hg0 hv0 0
    rw [Array.eq_one_of_toList hcs] at this
    simpa using this
  · have hc := hcell i (by omega)
    have e2 : (ss.getD i ByteArray.empty) = ⟨(codeTab.getD i []).toArray⟩ := by
      have hi' : i < ss.length := by omega
      have hget : (ss.map fun s => s.data.toList)[i]? = codeTab[i]? := by rw [ht]
      rw [List.getElem?_map, List.getElem?_eq_getElem hi'] at hget
      simp only [List.getD, List.getElem?_eq_getElem hi', Option.getD_some, ← hget, Option.map_some]
    rw [e2] at hc
    simpa only [Addr.add_lit] using hc

/-- The walk, whatever the code. -/
theorem walk (a0 : Int) (w0 : (Lit.int .i64 a0).wf = true) (w : World) (h : laidMetH Tryd.prog laid1 w) :
    Calls Tryd.prog 3 #[.int .i64 a0] w fun e w' => e = .returned (.bool true) ∧ Below w.heap.size w w' := by
  obtain ⟨b, off, hv, hc⟩ := of_laid h
  have hz : 0 < w.heap.size := World.block_lt_of_cell? _ _ hv
  have c0 := hc 0 (by omega)
  have c1 := hc 1 (by omega)
  have c2 := hc 2 (by omega)
  have c3 := hc 3 (by omega)
  have c4 := hc 4 (by omega)
  have c5 := hc 5 (by omega)
  have c6 := hc 6 (by omega)
  have c7 := hc 7 (by omega)
  have c8 := hc 8 (by omega)
  have hb : b < w.heap.size := World.block_lt_of_cell? _ _ c0
  by_cases hout : a0 < 0 ∨ 8 < a0
  · exact walk_out a0 w0 hout w
  · have hin : a0 = 0 ∨ a0 = 1 ∨ a0 = 2 ∨ a0 = 3 ∨ a0 = 4 ∨ a0 = 5 ∨ a0 = 6 ∨ a0 = 7 ∨ a0 = 8 := by omega
    rcases hin with rfl | rfl | rfl | rfl | rfl | rfl | rfl | rfl | rfl
    · exact walk_0 b off w hv hz hb c0
    · exact walk_1 b off w hv hz hb c1
    · exact walk_2 b off w hv hz hb c2
    · exact walk_3 b off w hv hz hb c3
    · exact walk_4 b off w hv hz hb c4
    · exact walk_5 b off w hv hz hb c5
    · exact walk_6 b off w hv hz hb c6
    · exact walk_7 b off w hv hz hb c7
    · exact walk_8 b off w hv hz hb c8

set_option maxRecDepth 100000 in
theorem lifted (os : Os) (started : os.Started) (H : Type) (enc : TypeId × Value → H) :
    ReturnsInHanded {} Tryd.checked os 3 .any (fun w args => (Rows.fnExactCodeNameSpec.pre enc Tryd.prog Tryd.f3 [] false w args ∧ laidMetH Tryd.prog laid1 w) ∧ sizedMet enc Tryd.prog Tryd.f3 (OpenSpec.ofChange Rows.fnExactCodeNameSpec) false w args)
      (Rows.fnExactCodeNameSpec.post enc Tryd.prog Tryd.f3 false true false false) := by
  refine returnsInHanded_of_change_and (C := Tryd.checked) (X := fun w _ => laidMetH Tryd.prog laid1 w) (fun _ _ _ hh h => h.of_heap hh) own started (by kernel_rfl) Tryd.func3
    (ChangeSpec.witness_shaped (enc := enc) (C := Tryd.checked) (os := os) (X := fun w _ => laidMetH Tryd.prog laid1 w) false (World.doorLaid Tryd.prog 400 os) #[.int .i64 0] 8 rfl (World.shaped_of_RefB (by kernel_rfl) (by kernel_rfl)) (by kernel_rfl) (by kernel_rfl) (by kernel_rfl) (door_met os _)) ?_
  intro W base args ds gs before hval0 hW _ _ hL _
  have hval : ∀ (j : Nat) t v, Tryd.f3.params[j]? = some t → args[j]? = some v → Value.okWide Tryd.prog W .any base t v := hval0
  have hW' := hW
  obtain ⟨p, q, hA0, hV, rfl, hfz, hnd⟩ := hW
  have hA : DataW.TrodAll enc Tryd.prog W 0 (fun _ => true) true Tryd.f3.params.toList args.toList ds p := hA0
  rw [Tryd.params3] at hA hval
  obtain ⟨v0, d0, rfl, rfl, h0⟩ := trodAll_one hA
  obtain ⟨g, t, cs, fuel, d, p', rfl, hg, ht, hvar, hd, rfl⟩ := trodVars_one hV
  obtain ⟨a0, rfl, rfl, rfl, w0⟩ := open_int Tryd.underlying2 (hval 0 2 v0 rfl rfl) h0
  clear hA0 hval0
  refine (walk a0 w0 W hL).mono fun e W' ⟨he, hb⟩ => ?_
  subst he
  exact ⟨_, rfl, Post.law_post (tb := 4) laidOut (by kernel_rfl) (by kernel_rfl) (by kernel_rfl) Tryd.underlying4 hW' hb rfl rfl rfl⟩

theorem over : Rows.FnExactCodeNameSaid :=
  OpenClaim.holds_of_wide 3 Tryd.f3 rfl rfl rfl rfl rfl rfl rfl ⟨rfl, rfl, rfl, rfl, rfl⟩ rfl rfl rfl rfl rfl (by kernel_rfl) Tryd.func3 (by kernel_rfl)
    (of_decide_eq_true (by kernel_rfl)) (by unfold Func.isWrapper; first | (rw [if_pos (by decide +kernel)]; kernel_rfl) | (rw [if_neg (by decide +kernel)]; exact ⟨rfl, rfl⟩))
    (fun os started H enc _ => lifted os started H enc)

/-- The tied card. -/
theorem card_holds : Rows.FnExactCodeNameCardSaid :=
  Claim7.holds_tied_plain_at .later [] [.data] true (true, "6e684aa10973f52632a2f9024b9b51948ed50aa13bfb2363c4ee1dcfaffefd3f") false
    over (fun _ h => by cases h) (by kernel_rfl) (fun _ h => by cases h) fnExactCodeName_row_tie rfl ⟨rfl, rfl⟩ (by kernel_rfl) rfl
    (fun f fn hf hfn => by
      obtain rfl : f = 3 := Option.some.inj ((show Tryd.prog.funcNamed "loop.example/g01155/laws.FnExactCodeName" = some 3 by kernel_rfl).symm.trans hf) |>.symm
      obtain rfl : fn = Tryd.f3 := (Option.some.inj (Tryd.func3.symm.trans hfn)).symm
      exact ⟨by kernel_rfl, fun j t ht => by
        rw [Tryd.params3] at ht
        have hm : t ∈ [2] := by simpa using Array.mem_of_getElem? ht
        have hall : ([2].all fun u => !Tryd.prog.wantsStandIn u) = true := by kernel_rfl
        exact (show Tryd.prog.wantsStandIn t = false by simpa using List.all_eq_true.1 hall t hm)⟩)
    (by kernel_rfl)
#print axioms card_holds
end Go.Proofs.YtebdoiddnleinaaDoor.fnExactCodeName
