/- FnExactOpOf: for all arguments the law returns true, and its arguments read as they did. The condition: the package-level variables that it reads start as the text of the program lays them (the tied card). -/
import Derived.Test.YtijkfhkjnhceoaaDoorSB
import Derived.Test.YtijkfhkjnhceoaaDoorRows
set_option linter.unusedVariables false
set_option linter.unusedSimpArgs false
set_option linter.unusedSimpArgs false
namespace Go.GH
open Go Go.Proofs
open Go.ChangeShapes Go.WideShapes Go.ChangeAt Go.RowKit
namespace YtijkfhkjnhceoaaDoor.fnExactOpOf
open Go.ChangeShapes Go.WideShapes Go.ChangeAt Go.RowKit
set_option maxRecDepth 100000
theorem own : ownKnob Tryd.prog.godebug = none := by kernel_rfl
theorem hargs : ∀ us, ArgsOk Tryd.prog 12 [9] us → ∃ x, c_laws_FnExactOpOf.pre x ∧ c_laws_FnExactOpOf.enc x = us ∧ c_laws_FnExactOpOf.res x = .bool true := by
  intro us has
  obtain ⟨a, r, rfl, ha, e⟩ := has
  have e : r = [] := e
  subst e
  obtain ⟨s, rfl, h1⟩ := arg_Str ha
  exact ⟨s, h1, rfl, rfl⟩
theorem door_met (os : Os) (args : Array Value) : laidMetH Tryd.prog Go.Proofs.YtijkfhkjnhceoaaDoor.Rows.fnExactOpOfRow.laid ((World.doorLaid Tryd.prog 400 os).forCall (fun _ _ => 0) ⟨#[], args, []⟩).memory :=
  laidMetH_of_parts3 (fuel := 8) (laidMet_of_run' 8 (by kernel_rfl) (by kernel_rfl)) (by kernel_rfl) (by kernel_rfl)
theorem lifted (os : Os) (started : os.Started) (H : Type) (enc : TypeId × Value → H) :
    ReturnsInHanded {} Tryd.checked os 5 .any (fun w args => (Go.Proofs.YtijkfhkjnhceoaaDoor.Rows.fnExactOpOfSpec.pre enc Tryd.prog Tryd.f5 [] false w args ∧ laidMetH Tryd.prog Go.Proofs.YtijkfhkjnhceoaaDoor.Rows.fnExactOpOfRow.laid w) ∧ sizedMet enc Tryd.prog Tryd.f5 (OpenSpec.ofChange Go.Proofs.YtijkfhkjnhceoaaDoor.Rows.fnExactOpOfSpec) false w args) (Go.Proofs.YtijkfhkjnhceoaaDoor.Rows.fnExactOpOfSpec.post enc Tryd.prog Tryd.f5 false true false false) := by
  refine returnsInHanded_of_change_and (C := Tryd.checked) (X := fun w _ => laidMetH Tryd.prog Go.Proofs.YtijkfhkjnhceoaaDoor.Rows.fnExactOpOfRow.laid w) (fun _ _ _ hh h => h.of_heap hh) own started (by kernel_rfl) Tryd.func5
    (ChangeSpec.witness_shaped (enc := enc) (C := Tryd.checked) (os := os) (X := fun w _ => laidMetH Tryd.prog Go.Proofs.YtijkfhkjnhceoaaDoor.Rows.fnExactOpOfRow.laid w) false (World.doorLaid Tryd.prog 400 os) #[.string ⟨#[]⟩] 8 rfl (World.shaped_of_RefB (by kernel_rfl) (by kernel_rfl)) (by kernel_rfl) (by kernel_rfl) (by kernel_rfl) (door_met os _)) ?_
  intro W base args ds gs before hval0 hW _ _ hL _
  have hL : laidMetH Tryd.prog Go.Proofs.YtijkfhkjnhceoaaDoor.Rows.fnExactOpOfRow.laid W := hL
  rw [MakeChecks.laidMetH_plain _ _ _ (by kernel_rfl)] at hL
  have hval : ∀ (j : Nat) t v, Tryd.f5.params[j]? = some t → args[j]? = some v → Value.okWide Tryd.prog W .any base t v := hval0
  have hW' := hW
  obtain ⟨p, q, hA0, hV, rfl, hfz, hnd⟩ := hW
  have hA : DataW.TrodAll enc Tryd.prog W 0 (fun _ => true) true Tryd.f5.params.toList args.toList ds p := hA0
  obtain ⟨rfl, rfl⟩ := trodVars_none hV
  have hA2 := hA
  rw [Tryd.params5] at hA2
  obtain ⟨v0, vs0, d0, ds0, p0, q0, e0, rfl, rfl, h0, r0⟩ := trodAll_cons hA2
  obtain ⟨ez, rfl, rfl⟩ := trodAll_nil r0
  have hsh : ∀ t, t ∈ Tryd.f5.params.toList → ∃ sh, shTy Tryd.prog 12 t = some sh := by
    intro t ht
    have ht : t = 9 := by simpa [Tryd.params5] using ht
    rcases ht with rfl
    · exact ⟨_, sh_Str⟩
  refine (law_calls ok_laws_FnExactOpOf rfl Tryd.call5 (ts := Tryd.f5.params.toList) rfl rfl hsh hargs (gokErr (gwErr_laid hL (gwTab_laid hL))) (fun j t v h1 h2 => hval j t v (by simpa using h1) h2) hA).mono fun e W' ⟨he, bel, hk⟩ => ?_
  subst he
  exact ⟨_, rfl, _, _, _, [], _, [], hW', trodAll_mk1 (shut_bool Tryd.underlying4 _), hk, rfl, bel.frame _, fun h => by cases h⟩
theorem over : Go.Proofs.YtijkfhkjnhceoaaDoor.Rows.fnExactOpOfRow.holds Go.Proofs.YtijkfhkjnhceoaaDoor.Tryd.pinned (OpenSpec.ofChange Go.Proofs.YtijkfhkjnhceoaaDoor.Rows.fnExactOpOfSpec) :=
  OpenClaim.holds_of_wide 5 Tryd.f5 rfl rfl rfl rfl rfl rfl rfl ⟨rfl, rfl, rfl, rfl, rfl⟩ rfl rfl rfl rfl rfl (by kernel_rfl) Tryd.func5 (by kernel_rfl)
    (of_decide_eq_true (by kernel_rfl)) (by unfold Func.isWrapper; first | (rw [if_pos (by decide +kernel)]; kernel_rfl) | (rw [if_neg (by decide +kernel)]; exact ⟨rfl, rfl⟩))
    (fun os started H enc _ => lifted os started H enc)
theorem proved : Go.Proofs.YtijkfhkjnhceoaaDoor.Rows.FnExactOpOfCardSaid :=
  Claim7.holds_tied_plain_at .later [] [.data, .data, .data, .sentinel, .sentinel] true Go.Proofs.YtijkfhkjnhceoaaDoor.Rows.fnExactOpOfCard.stood.harness true
    over (fun _ h => by cases h) (by kernel_rfl) (fun _ h => by cases h) Go.Proofs.YtijkfhkjnhceoaaDoor.fnExactOpOf_row_tie rfl ⟨rfl, rfl⟩ (by kernel_rfl) rfl
    (fun f fn hf hfn => by
      obtain rfl : f = 5 := Option.some.inj ((show Tryd.prog.funcNamed Go.Proofs.YtijkfhkjnhceoaaDoor.Rows.fnExactOpOfRow.func = some 5 by kernel_rfl).symm.trans hf) |>.symm
      obtain rfl : fn = Tryd.f5 := (Option.some.inj (Tryd.func5.symm.trans hfn)).symm
      exact ⟨by kernel_rfl, fun j t ht => by
        rw [Tryd.params5] at ht
        have hm : t ∈ [9] := by simpa using Array.mem_of_getElem? ht
        have hall : ([9].all fun u => !Tryd.prog.wantsStandIn u) = true := by kernel_rfl
        exact (show Tryd.prog.wantsStandIn t = false by simpa using List.all_eq_true.1 hall t hm)⟩)
    (by kernel_rfl)
end YtijkfhkjnhceoaaDoor.fnExactOpOf
end Go.GH

namespace Go.Proofs.YtijkfhkjnhceoaaDoor
/-- The law, under a short name. -/
theorem fnExactOpOf_holds : Rows.FnExactOpOfCardSaid := Go.GH.YtijkfhkjnhceoaaDoor.fnExactOpOf.proved
end Go.Proofs.YtijkfhkjnhceoaaDoor
#print axioms Go.Proofs.YtijkfhkjnhceoaaDoor.fnExactOpOf_holds
