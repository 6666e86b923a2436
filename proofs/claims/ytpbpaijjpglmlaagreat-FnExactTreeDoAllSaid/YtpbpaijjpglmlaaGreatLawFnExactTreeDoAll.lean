/- FnExactTreeDoAll: for all arguments the law returns true, and its arguments read as they did. It holds for every input, with no condition. -/
import Derived.Test.YtpbpaijjpglmlaaGreatSC
import Derived.Test.YtpbpaijjpglmlaaGreatRows
set_option linter.unusedVariables false
set_option linter.unusedSimpArgs false
set_option linter.unusedSimpArgs false
namespace Go.GH
open Go Go.Proofs
open Go.ChangeShapes Go.WideShapes Go.ChangeAt Go.RowKit
namespace YtpbpaijjpglmlaaGreat.fnExactTreeDoAll
open Go.ChangeShapes Go.WideShapes Go.ChangeAt Go.RowKit
set_option maxRecDepth 100000
theorem own : ownKnob Tryz.prog.godebug = none := by kernel_rfl
theorem hargs : ∀ us, ArgsOk Tryz.prog 12 [41, 42] us → ∃ x, c_laws_FnExactTreeDoAll.pre x ∧ c_laws_FnExactTreeDoAll.enc x = us ∧ c_laws_FnExactTreeDoAll.res x = .bool true := by
  intro us has
  obtain ⟨a, r, rfl, ha, r2⟩ := has
  obtain ⟨b, r3, rfl, hb, e⟩ := r2
  have e : r3 = [] := e
  subst e
  obtain ⟨t, rfl, h1, h2⟩ := arg_Tree ha
  obtain ⟨p, rfl, h3, h4⟩ := arg_OpS hb
  exact ⟨(t, p), ⟨⟨h1, h2⟩, h3, h4⟩, rfl, rfl⟩
theorem lifted (os : Os) (started : os.Started) (H : Type) (enc : TypeId × Value → H) :
    ReturnsInHanded {} Tryz.checked os 4 .any (Go.Proofs.YtpbpaijjpglmlaaGreat.Rows.fnExactTreeDoAllSpec.pre6 enc Tryz.prog Tryz.f4 Go.Proofs.YtpbpaijjpglmlaaGreat.Rows.fnExactTreeDoAllRow.domain false) (Go.Proofs.YtpbpaijjpglmlaaGreat.Rows.fnExactTreeDoAllSpec.post enc Tryz.prog Tryz.f4 false true false false) := by
  refine returnsInHanded_of_change_sized (C := Tryz.checked) own started (by kernel_rfl) Tryz.func4
    (ChangeSpec.witness6 (enc := enc) (C := Tryz.checked) false ⟨#[], #[.agg #[.slice none 0 0], .slice none 0 0], []⟩ 8 (by kernel_rfl) (by kernel_rfl) (by kernel_rfl) (by kernel_rfl)) ?_
  intro W base args ds gs before hval0 hW hcnd hsz0 _
  have hval : ∀ (j : Nat) t v, Tryz.f4.params[j]? = some t → args[j]? = some v → Value.okWide Tryz.prog W .any base t v := hval0
  have hW' := hW
  obtain ⟨p, q, hA0, hV, rfl, hfz, hnd⟩ := hW
  have hA : DataW.TrodAll enc Tryz.prog W 0 (fun _ => true) true Tryz.f4.params.toList args.toList ds p := hA0
  obtain ⟨rfl, rfl⟩ := trodVars_none hV
  have hA2 := hA
  rw [Tryz.params4] at hA2
  obtain ⟨v0, vs0, d0, ds0, p0, q0, e0, rfl, rfl, h0, r0⟩ := trodAll_cons hA2
  obtain ⟨v1, vs1, d1, ds1, p1, q1, e1, rfl, rfl, h1, r1⟩ := trodAll_cons r0
  obtain ⟨ez, rfl, rfl⟩ := trodAll_nil r1
  have hsh : ∀ t, t ∈ Tryz.f4.params.toList → ∃ sh, shTy Tryz.prog 12 t = some sh := by
    intro t ht
    have ht : t = 41 ∨ t = 42 := by simpa [Tryz.params4] using ht
    rcases ht with rfl | rfl
    · exact ⟨_, sh_Tree⟩
    · exact ⟨_, sh_OpS⟩
  refine (law_calls ok_laws_FnExactTreeDoAll rfl Tryz.call4 (ts := Tryz.f4.params.toList) rfl rfl hsh hargs ⟨fun _ => False, fun _ h => h.elim, fun _ _ => trivial⟩ (fun j t v h1 h2 => hval j t v (by simpa using h1) h2) hA).mono fun e W' ⟨he, bel, hk⟩ => ?_
  subst he
  exact ⟨_, rfl, _, _, _, [], _, [], hW', trodAll_mk1 (shut_bool Tryz.underlying4 _), hk, rfl, bel.frame _, fun h => by cases h⟩
theorem over : Go.Proofs.YtpbpaijjpglmlaaGreat.Rows.fnExactTreeDoAllRow.holds Go.Proofs.YtpbpaijjpglmlaaGreat.Tryz.pinned (OpenSpec.ofChange Go.Proofs.YtpbpaijjpglmlaaGreat.Rows.fnExactTreeDoAllSpec) :=
  OpenClaim.holds_of_wide 4 Tryz.f4 rfl rfl rfl rfl rfl rfl rfl ⟨rfl, rfl, rfl, rfl, rfl⟩ rfl rfl rfl rfl rfl (by kernel_rfl) Tryz.func4 (by kernel_rfl)
    (of_decide_eq_true (by kernel_rfl)) (by unfold Func.isWrapper; first | (rw [if_pos (by decide +kernel)]; kernel_rfl) | (rw [if_neg (by decide +kernel)]; exact ⟨rfl, rfl⟩))
    (fun os started H enc _ => lifted os started H enc)
theorem proved : Go.Proofs.YtpbpaijjpglmlaaGreat.Rows.FnExactTreeDoAllSaid := over
end YtpbpaijjpglmlaaGreat.fnExactTreeDoAll
end Go.GH

namespace Go.Proofs.YtpbpaijjpglmlaaGreat
/-- The law, under a short name. -/
theorem fnExactTreeDoAll_holds : Rows.FnExactTreeDoAllSaid := Go.GH.YtpbpaijjpglmlaaGreat.fnExactTreeDoAll.proved
end Go.Proofs.YtpbpaijjpglmlaaGreat
#print axioms Go.Proofs.YtpbpaijjpglmlaaGreat.fnExactTreeDoAll_holds
