/- The statement 'PeepKinds': the row, out of the plain law (theorem PeepKinds of the text PurePeepKinds) and the walks. Conditions: those of the row alone. -/
import Derived.Test.YtnpeabmlcakegaaDoorKinds5
import Derived.Test.YtnpeabmlcakegaaDoorRows
import Derived.Test.YtnpeabmlcakegaaDoorCards
import Derived.Test.YtnpeabmlcakegaaDoorTie
namespace Go.Proofs.YtnpeabmlcakegaaDoor.peepKinds
open Go.ChangeShapes Go.WideShapes Go.ChangeAt Go.RowKit Go.Proofs.YtnpeabmlcakegaaDoor.PPeepKinds
open Go.Proofs.YtnpeabmlcakegaaDoorW.PrintWords
open Go.ChangeMaps (open_string shut_string)
set_option linter.unusedVariables false
theorem own : ownKnob Tryd.prog.godebug = none := by kernel_rfl
theorem laidOut : laidOutB Tryd.prog = true := by kernel_rfl
theorem glob_harrow_instr_uses : Tryd.prog.globalNamed "harrow/instr.uses" = some 0 := by kernel_rfl
theorem globt_harrow_instr_uses : (Tryd.prog.globals[0]?).map (·.type) = some 57 := by kernel_rfl
theorem door_met (os : Os) (args : Array Value) : laidMetH Tryd.prog [("harrow/instr.uses", Rows.laid_harrow_instr_uses)] ((World.doorLaid Tryd.prog 600 os).forCall (fun _ _ => 0) ⟨#[], args, []⟩).memory :=
  laidMetH_of_parts3 (fuel := 8) (laidMet_of_run' 8 (by kernel_rfl) (by kernel_rfl)) (by kernel_rfl) (by kernel_rfl)
theorem gw_of {W : World} (h : laidMetH Tryd.prog [("harrow/instr.uses", Rows.laid_harrow_instr_uses)] W) : GW W := by
  have h' : laidMet Tryd.prog [("harrow/instr.uses", Rows.laid_harrow_instr_uses)] W := h
  obtain ⟨ps, hl, _⟩ := h'
  obtain ⟨g, t, cs, fuel, p, q, hg, ht, hvar, hd, _, _⟩ := hl
  obtain rfl := Option.some.inj (glob_harrow_instr_uses.symm.trans hg)
  obtain rfl := Option.some.inj (globt_harrow_instr_uses.symm.trans ht)
  have hd' : DataW.trod _ Tryd.prog W 0 _ false fuel 57 cs.toList = some (.agg (usesTab.map fun x => .lit (.int .i64 x)), p) := hd
  have hcs := table_cells (n := 21) (e := 3) (k := .i64) (tab := usesTab) Tryd.underlying57 Tryd.underlying3 (by kernel_rfl) (by kernel_rfl) hd'
  have hc0 := World.var?_cell glob_harrow_instr_uses hvar
  exact GW.of_cells hcs hc0
set_option maxRecDepth 100000 in
theorem lifted (os : Os) (started : os.Started) (H : Type) (enc : TypeId × Value → H) :
    ReturnsInHanded {} Tryd.checked os 3 .any (fun w args => (Rows.peepKindsSpec.pre enc Tryd.prog Tryd.f3 [] false w args ∧ laidMetH Tryd.prog [("harrow/instr.uses", Rows.laid_harrow_instr_uses)] w) ∧ sizedMet enc Tryd.prog Tryd.f3 (OpenSpec.ofChange Rows.peepKindsSpec) false w args) (Rows.peepKindsSpec.post enc Tryd.prog Tryd.f3 false true false false) := by
  refine returnsInHanded_of_change_and (C := Tryd.checked) (X := fun w _ => laidMetH Tryd.prog [("harrow/instr.uses", Rows.laid_harrow_instr_uses)] w) (fun _ _ _ hh h => h.of_heap hh) own started (by kernel_rfl) Tryd.func3
    (ChangeSpec.witness_shaped (enc := enc) (C := Tryd.checked) (os := os) (X := fun w _ => laidMetH Tryd.prog [("harrow/instr.uses", Rows.laid_harrow_instr_uses)] w) false (World.doorLaid Tryd.prog 600 os) #[(.slice none 0 0)] 8 rfl (World.shaped_of_RefB (by kernel_rfl) (by kernel_rfl)) (by kernel_rfl) (by kernel_rfl) (by kernel_rfl) (door_met os _)) ?_
  intro W base args ds gs before hval0 hW hcnd hsz0 hL _
  have hsz : (DataW.weightsEach Tryd.prog (Tryd.f3.params.toList ++ Rows.peepKindsSpec.plain.varTypes Tryd.prog) (ds ++ gs)).all (· ≤ reachBytes) = true := hsz0
  have hval : ∀ (j : Nat) t v, Tryd.f3.params[j]? = some t → args[j]? = some v → Value.okWide Tryd.prog W .any base t v := hval0
  have hW' := hW
  obtain ⟨p, q, hA0, hV, rfl, hfz, hnd⟩ := hW
  have hA : DataW.TrodAll enc Tryd.prog W 0 (fun _ => true) true Tryd.f3.params.toList args.toList ds p := hA0
  rw [Tryd.params3] at hA hval hsz
  obtain ⟨v0, vs0, d0, ds0, p0, q0, hargs, rfl, rfl, h0, r0⟩ := trodAll_cons hA
  obtain ⟨rfl, rfl, rfl⟩ := trodAll_nil r0
  obtain rfl : args = #[v0] := by cases args; simp_all
  obtain ⟨rfl, rfl⟩ := trodVars_none hV
  obtain ⟨a0, len0, cap0, rfl⟩ := okWide_slice Tryd.underlying22 (hval 0 22 v0 rfl rfl)
  have lt0 : ∀ x ∈ p0, x.block < W.heap.size := by obtain ⟨m, hm⟩ := h0; exact DataW.trod_lt m _ _ _ hm
  obtain ⟨l0, ⟨A0, c0, hcs0, hc0, hr0⟩, hg0⟩ := Opens.arg (j := 0) (x := d0) (Opens.slice Tryd.underlying22 (by kernel_rfl) opens34) h0 hsz rfl rfl
  obtain ⟨rfl, rfl, rfl⟩ : a0 = A0 ∧ len0 = l0.length ∧ cap0 = c0 := by simpa [Value.cells] using hcs0
  clear hA0 hval0 hsz0 hsz hval
  have hP := YtnpeabmlcakegaaDoor.Pure.PeepKinds l0 hg0
  have hP2 : ∃ k, harrowlaw20_PeepKinds.f k l0 = some true := hP
  obtain ⟨k, hP3⟩ := hP2
  refine (harrowlaw20_PeepKinds.calls k _ _ l0 true W (gw_of hL) hr0 hc0 hP3).mono fun e W' ⟨he, bel0⟩ => ?_
  have bel : Below W.heap.size W W' := bel0
  subst he
  exact ⟨_, rfl, _, _, _, [], _, [], hW', trodAll_mk1 (shut_bool Tryd.underlying4 _), (trodAll_cons_mk (Below.trod laidOut (by kernel_rfl) (of_decide_eq_true (by kernel_rfl)) h0 bel lt0) trodAll_mk0), rfl, bel.frame _, fun h => by cases h⟩
theorem over : Rows.peepKindsRow.holds Tryd.pinned (OpenSpec.ofChange Rows.peepKindsSpec) :=
  OpenClaim.holds_of_wide 3 Tryd.f3 rfl rfl rfl rfl rfl rfl rfl ⟨rfl, rfl, rfl, rfl, rfl⟩ rfl rfl rfl rfl rfl (by kernel_rfl) Tryd.func3 (by kernel_rfl)
    (of_decide_eq_true (by kernel_rfl)) (by unfold Func.isWrapper; first | (rw [if_pos (by decide +kernel)]; kernel_rfl) | (rw [if_neg (by decide +kernel)]; exact ⟨rfl, rfl⟩))
    (fun os started H enc _ => lifted os started H enc)
theorem proved : Rows.PeepKindsSaid := over
theorem card : Rows.PeepKindsCardSaid :=
  Claim7.holds_tied_plain_at .later [] [.data] true (true, "611ae94eebb6ae570217e6de654773cbfa10b9b19f181010b422dec85e816cb8") false proved (fun _ h => by cases h) (by kernel_rfl) (fun _ h => by cases h) peepKinds_row_tie rfl ⟨rfl, rfl⟩ (by kernel_rfl) rfl
    (fun f fn hf hfn => by
      obtain rfl : f = 3 := Option.some.inj ((show Tryd.prog.funcNamed "harrow/harrowlaw20.PeepKinds" = some 3 by kernel_rfl).symm.trans hf) |>.symm
      obtain rfl : fn = Tryd.f3 := (Option.some.inj (Tryd.func3.symm.trans hfn)).symm
      exact ⟨by kernel_rfl, fun j t ht => by
        rw [Tryd.params3] at ht
        have h3 : t ∈ [22] := by
          have := List.mem_of_getElem? (by simpa using ht : ([22] : List Nat)[j]? = some t)
          exact this
        simp only [List.mem_cons, List.not_mem_nil, or_false] at h3
        rcases h3 with rfl
        all_goals first | exact (show Tryd.prog.wantsStandIn 22 = false by kernel_rfl)⟩)
    (by kernel_rfl)
#print axioms card
end Go.Proofs.YtnpeabmlcakegaaDoor.peepKinds
namespace Go.Proofs.YtnpeabmlcakegaaDoor
/-- The statement, under a short name, for the claim. -/
theorem peepKinds_holds : Rows.PeepKindsCardSaid := peepKinds.card
end Go.Proofs.YtnpeabmlcakegaaDoor
