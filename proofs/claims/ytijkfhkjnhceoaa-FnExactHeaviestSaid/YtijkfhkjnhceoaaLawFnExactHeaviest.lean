/- FnExactHeaviest: for all arguments the law returns true, and its arguments read as they did. It holds for every input, with no condition. -/
import Derived.Test.YtijkfhkjnhceoaaSB
import Derived.Test.YtijkfhkjnhceoaaRows
import Derived.WalkKit
import Derived.ProofKit
import Derived.OpenShut
import Derived.ChangeOld
import Derived.Below
import Derived.SizedLaws
set_option linter.unusedVariables false
set_option linter.unusedSimpArgs false
set_option linter.unusedSimpArgs false
namespace Go.GH
open Go Go.Proofs

open Go.ChangeShapes Go.WideShapes Go.ChangeAt Go.RowKit
theorem items_of {xs : List (List AV)} (h : ∀ r, r ∈ xs → ofL [.str, .int .i64, .str, .int .i64] r) : ∃ t : Tr, xs = t.map encI ∧ ∀ y, y ∈ t → y.path.length ≤ 9223372036854775807 ∧ y.data.length ≤ 9223372036854775807 := by
  induction xs with
  | nil => exact ⟨[], rfl, by simp⟩
  | cons r xs ih =>
    obtain ⟨t, rfl, ht⟩ := ih fun r hr => h r (by simp [hr])
    obtain ⟨c0, r0, rfl, ⟨s0, rfl, b0⟩, c1, r1, rfl, ⟨n1, rfl, _⟩, c2, r2, rfl, ⟨s2, rfl, b2⟩, c3, r3, rfl, ⟨n3, rfl, _⟩, e⟩ := h r (by simp)
    have e : r3 = [] := e
    subst e
    refine ⟨⟨s0, n1, s2, n3⟩ :: t, rfl, fun y hy => ?_⟩
    rcases List.mem_cons.1 hy with rfl | hy
    · exact ⟨b0, b2⟩
    · exact ht y hy
set_option maxRecDepth 100000 in
theorem sh_Tree : shTy Try.prog 12 29 = some [.slice 4 [.str, .int .i64, .str, .int .i64]] := by kernel_rfl
set_option maxRecDepth 100000 in
theorem arg_Tree {a : AV} (h : ArgOk Try.prog 12 29 a) : ∃ t : Tr, a = rdT t ∧ t.length ≤ 9223372036854775807 ∧ ∀ y, y ∈ t → y.path.length ≤ 9223372036854775807 ∧ y.data.length ≤ 9223372036854775807 := by
  obtain ⟨sh, avs, h1, h2, h3⟩ := h
  rw [sh_Tree] at h1
  obtain rfl := Option.some.inj h1
  rw [Try.underlying29] at h3
  obtain ⟨c, r, rfl, ⟨xs, rfl, hl, hx⟩, e⟩ := h2
  have e : r = [] := e
  subst e
  obtain ⟨t, rfl, ht⟩ := items_of hx
  exact ⟨t, h3, by simpa using hl, ht⟩

namespace Ytijkfhkjnhceoaa.fnExactHeaviest
open Go.ChangeShapes Go.WideShapes Go.ChangeAt Go.RowKit
set_option maxRecDepth 100000
theorem own : ownKnob Try.prog.godebug = none := by kernel_rfl
theorem hargs : ∀ us, ArgsOk Try.prog 12 [29] us → ∃ x, c_laws_FnExactHeaviest.pre x ∧ c_laws_FnExactHeaviest.enc x = us ∧ c_laws_FnExactHeaviest.res x = .bool true := by
  intro us has
  obtain ⟨a, r, rfl, ha, e⟩ := has
  have e : r = [] := e
  subst e
  obtain ⟨t, rfl, h1, h2⟩ := arg_Tree ha
  exact ⟨t, ⟨h1, h2⟩, rfl, rfl⟩
theorem lifted (os : Os) (started : os.Started) (H : Type) (enc : TypeId × Value → H) :
    ReturnsInHanded {} Try.checked os 5 .any (Go.Proofs.Ytijkfhkjnhceoaa.Rows.fnExactHeaviestSpec.pre6 enc Try.prog Try.f5 Go.Proofs.Ytijkfhkjnhceoaa.Rows.fnExactHeaviestRow.domain false) (Go.Proofs.Ytijkfhkjnhceoaa.Rows.fnExactHeaviestSpec.post enc Try.prog Try.f5 false true false false) := by
  refine returnsInHanded_of_change_sized (C := Try.checked) own started (by kernel_rfl) Try.func5
    (ChangeSpec.witness6 (enc := enc) (C := Try.checked) false ⟨#[], #[.agg #[.slice none 0 0]], []⟩ 8 (by kernel_rfl) (by kernel_rfl) (by kernel_rfl) (by kernel_rfl)) ?_
  intro W base args ds gs before hval0 hW hcnd hsz0 _
  have hval : ∀ (j : Nat) t v, Try.f5.params[j]? = some t → args[j]? = some v → Value.okWide Try.prog W .any base t v := hval0
  have hW' := hW
  obtain ⟨p, q, hA0, hV, rfl, hfz, hnd⟩ := hW
  have hA : DataW.TrodAll enc Try.prog W 0 (fun _ => true) true Try.f5.params.toList args.toList ds p := hA0
  obtain ⟨rfl, rfl⟩ := trodVars_none hV
  have hA2 := hA
  rw [Try.params5] at hA2
  obtain ⟨v0, vs0, d0, ds0, p0, q0, e0, rfl, rfl, h0, r0⟩ := trodAll_cons hA2
  obtain ⟨ez, rfl, rfl⟩ := trodAll_nil r0
  have hsh : ∀ t, t ∈ Try.f5.params.toList → ∃ sh, shTy Try.prog 12 t = some sh := by
    intro t ht
    have ht : t = 29 := by simpa [Try.params5] using ht
    rcases ht with rfl
    · exact ⟨_, sh_Tree⟩
  refine (law_calls ok_laws_FnExactHeaviest Try.call5 (ts := Try.f5.params.toList) rfl rfl hsh hargs (fun j t v h1 h2 => hval j t v (by simpa using h1) h2) hA).mono fun e W' ⟨he, bel, hk⟩ => ?_
  subst he
  exact ⟨_, rfl, _, _, _, [], _, [], hW', trodAll_mk1 (shut_bool Try.underlying4 _), hk, rfl, bel.frame _, fun h => by cases h⟩
theorem over : Go.Proofs.Ytijkfhkjnhceoaa.Rows.fnExactHeaviestRow.holds Go.Proofs.Ytijkfhkjnhceoaa.Try.pinned (OpenSpec.ofChange Go.Proofs.Ytijkfhkjnhceoaa.Rows.fnExactHeaviestSpec) :=
  OpenClaim.holds_of_wide 5 Try.f5 rfl rfl rfl rfl rfl rfl rfl ⟨rfl, rfl, rfl, rfl, rfl⟩ rfl rfl rfl rfl rfl (by kernel_rfl) Try.func5 (by kernel_rfl)
    (of_decide_eq_true (by kernel_rfl)) (by unfold Func.isWrapper; first | (rw [if_pos (by decide +kernel)]; kernel_rfl) | (rw [if_neg (by decide +kernel)]; exact ⟨rfl, rfl⟩))
    (fun os started H enc _ => lifted os started H enc)
theorem proved : Go.Proofs.Ytijkfhkjnhceoaa.Rows.FnExactHeaviestSaid := over
end Ytijkfhkjnhceoaa.fnExactHeaviest


end Go.GH

namespace Go.Proofs.Ytijkfhkjnhceoaa
/-- The law, under a short name. -/
theorem fnExactHeaviest_holds : Rows.FnExactHeaviestSaid := Go.GH.Ytijkfhkjnhceoaa.fnExactHeaviest.proved
end Go.Proofs.Ytijkfhkjnhceoaa
#print axioms Go.Proofs.Ytijkfhkjnhceoaa.fnExactHeaviest_holds
