/- FnExactMerge: for all arguments the law returns true, and its arguments read as they did. It holds for every input, with no condition. -/
import Derived.Test.YtijkfhkjnhceoaaSC
import Derived.Test.YtijkfhkjnhceoaaRows
set_option linter.unusedVariables false
set_option linter.unusedSimpArgs false
set_option linter.unusedSimpArgs false
namespace Go.GH
open Go Go.Proofs
open Go.ChangeShapes Go.WideShapes Go.ChangeAt Go.RowKit
namespace Ytijkfhkjnhceoaa.fnExactMerge
open Go.ChangeShapes Go.WideShapes Go.ChangeAt Go.RowKit
set_option maxRecDepth 100000
theorem own : ownKnob Try.prog.godebug = none := by kernel_rfl
theorem hargs : ∀ us, ArgsOk Try.prog 12 [29, 29] us → ∃ x, c_laws_FnExactMerge.pre x ∧ c_laws_FnExactMerge.enc x = us ∧ c_laws_FnExactMerge.res x = .bool true := by
  intro us has
  obtain ⟨a, r, rfl, ha, r2⟩ := has
  obtain ⟨b, r3, rfl, hb, e⟩ := r2
  have e : r3 = [] := e
  subst e
  obtain ⟨t, rfl, h1, h2⟩ := arg_Tree ha
  obtain ⟨p, rfl, h3, h4⟩ := arg_Tree hb
  exact ⟨(t, p), ⟨⟨h1, h2⟩, h3, h4⟩, rfl, rfl⟩
theorem lifted (os : Os) (started : os.Started) (H : Type) (enc : TypeId × Value → H) :
    ReturnsInHanded {} Try.checked os 9 .any (Go.Proofs.Ytijkfhkjnhceoaa.Rows.fnExactMergeSpec.pre6 enc Try.prog Try.f9 Go.Proofs.Ytijkfhkjnhceoaa.Rows.fnExactMergeRow.domain false) (Go.Proofs.Ytijkfhkjnhceoaa.Rows.fnExactMergeSpec.post enc Try.prog Try.f9 false true false false) := by
  refine returnsInHanded_of_change_sized (C := Try.checked) own started (by kernel_rfl) Try.func9
    (ChangeSpec.witness6 (enc := enc) (C := Try.checked) false ⟨#[], #[.agg #[.slice none 0 0], .agg #[.slice none 0 0]], []⟩ 8 (by kernel_rfl) (by kernel_rfl) (by kernel_rfl) (by kernel_rfl)) ?_
  intro W base args ds gs before hval0 hW hcnd hsz0 _
  have hval : ∀ (j : Nat) t v, Try.f9.params[j]? = some t → args[j]? = some v → Value.okWide Try.prog W .any base t v := hval0
  have hW' := hW
  obtain ⟨p, q, hA0, hV, rfl, hfz, hnd⟩ := hW
  have hA : DataW.TrodAll enc Try.prog W 0 (fun _ => true) true Try.f9.params.toList args.toList ds p := hA0
  obtain ⟨rfl, rfl⟩ := trodVars_none hV
  have hA2 := hA
  rw [Try.params9] at hA2
  obtain ⟨v0, vs0, d0, ds0, p0, q0, e0, rfl, rfl, h0, r0⟩ := trodAll_cons hA2
  obtain ⟨v1, vs1, d1, ds1, p1, q1, e1, rfl, rfl, h1, r1⟩ := trodAll_cons r0
  obtain ⟨ez, rfl, rfl⟩ := trodAll_nil r1
  have hsh : ∀ t, t ∈ Try.f9.params.toList → ∃ sh, shTy Try.prog 12 t = some sh := by
    intro t ht
    have ht : t = 29 ∨ t = 29 := by simpa [Try.params9] using ht
    rcases ht with rfl | rfl
    · exact ⟨_, sh_Tree⟩
    · exact ⟨_, sh_Tree⟩
  refine (law_calls ok_laws_FnExactMerge Try.call9 (ts := Try.f9.params.toList) rfl rfl hsh hargs (fun j t v h1 h2 => hval j t v (by simpa using h1) h2) hA).mono fun e W' ⟨he, bel, hk⟩ => ?_
  subst he
  exact ⟨_, rfl, _, _, _, [], _, [], hW', trodAll_mk1 (shut_bool Try.underlying4 _), hk, rfl, bel.frame _, fun h => by cases h⟩
theorem over : Go.Proofs.Ytijkfhkjnhceoaa.Rows.fnExactMergeRow.holds Go.Proofs.Ytijkfhkjnhceoaa.Try.pinned (OpenSpec.ofChange Go.Proofs.Ytijkfhkjnhceoaa.Rows.fnExactMergeSpec) :=
  OpenClaim.holds_of_wide 9 Try.f9 rfl rfl rfl rfl rfl rfl rfl ⟨rfl, rfl, rfl, rfl, rfl⟩ rfl rfl rfl rfl rfl (by kernel_rfl) Try.func9 (by kernel_rfl)
    (of_decide_eq_true (by kernel_rfl)) (by unfold Func.isWrapper; first | (rw [if_pos (by decide +kernel)]; kernel_rfl) | (rw [if_neg (by decide +kernel)]; exact ⟨rfl, rfl⟩))
    (fun os started H enc _ => lifted os started H enc)
theorem proved : Go.Proofs.Ytijkfhkjnhceoaa.Rows.FnExactMergeSaid := over
end Ytijkfhkjnhceoaa.fnExactMerge
end Go.GH

namespace Go.Proofs.Ytijkfhkjnhceoaa
/-- The law, under a short name. -/
theorem fnExactMerge_holds : Rows.FnExactMergeSaid := Go.GH.Ytijkfhkjnhceoaa.fnExactMerge.proved
end Go.Proofs.Ytijkfhkjnhceoaa
#print axioms Go.Proofs.Ytijkfhkjnhceoaa.fnExactMerge_holds
