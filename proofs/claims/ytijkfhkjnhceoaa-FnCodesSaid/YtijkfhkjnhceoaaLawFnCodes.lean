/- FnCodes: for all arguments the law returns true, and its arguments read as they did. It holds for every input, with no condition. -/
import Derived.Test.YtijkfhkjnhceoaaSA
import Derived.Test.YtijkfhkjnhceoaaRows
import Derived.WalkKit
import Derived.ProofKit
import Derived.OpenShut
import Derived.ChangeOld
import Derived.Below
import Derived.SizedLaws
set_option linter.unusedVariables false
set_option linter.unusedSimpArgs false
set_option linter.unusedSimpArgs false
namespace Go.GH
open Go Go.Proofs
open Go.ChangeShapes Go.WideShapes Go.ChangeAt Go.RowKit
theorem bytes_of {xs : List (List AV)} (h : ∀ r, r ∈ xs → ofL [.int .u8] r) : ∃ s : Str, xs = s.map encB := by
  induction xs with
  | nil => exact ⟨[], rfl⟩
  | cons r xs ih =>
    obtain ⟨s, rfl⟩ := ih fun r hr => h r (by simp [hr])
    obtain ⟨c0, r0, rfl, ⟨n, rfl, hn⟩, e⟩ := h r (by simp)
    have e : r0 = [] := e
    subst e
    have hn2 : 0 ≤ n ∧ n ≤ 255 := hn
    refine ⟨UInt8.ofNat n.toNat :: s, ?_⟩
    have : ((UInt8.ofNat n.toNat).toNat : Int) = n := by rw [UInt8.toNat_ofNat']; omega
    rw [List.map_cons]
    unfold encB
    rw [this]
set_option maxRecDepth 100000 in
theorem sh_Code : shTy Try.prog 12 24 = some [.slice 1 [.int .u8]] := by kernel_rfl
set_option maxRecDepth 100000 in
theorem arg_Code {a : AV} (h : ArgOk Try.prog 12 24 a) : ∃ s : Str, a = .rd 1 (s.map encB) ∧ s.length ≤ 9223372036854775807 := by
  obtain ⟨sh, avs, h1, h2, h3⟩ := h
  rw [sh_Code] at h1
  obtain rfl := Option.some.inj h1
  rw [Try.underlying24] at h3
  obtain ⟨c, r, rfl, ⟨xs, rfl, hl, hx⟩, e⟩ := h2
  have e : r = [] := e
  subst e
  obtain ⟨s, rfl⟩ := bytes_of hx
  have h3 : [AV.rd 1 (s.map encB)] = [a] := h3
  exact ⟨s, (List.cons.inj h3).1.symm, by simpa using hl⟩
namespace Ytijkfhkjnhceoaa.fnCodes
open Go.ChangeShapes Go.WideShapes Go.ChangeAt Go.RowKit
set_option maxRecDepth 100000
theorem own : ownKnob Try.prog.godebug = none := by kernel_rfl
theorem hargs : ∀ us, ArgsOk Try.prog 12 [24] us → ∃ x, c_laws_FnCodes.pre x ∧ c_laws_FnCodes.enc x = us ∧ c_laws_FnCodes.res x = .bool true := by
  intro us has
  obtain ⟨a, r, rfl, ha, e⟩ := has
  have e : r = [] := e
  subst e
  obtain ⟨s, rfl, h1⟩ := arg_Code ha
  exact ⟨s, h1, rfl, rfl⟩
theorem lifted (os : Os) (started : os.Started) (H : Type) (enc : TypeId × Value → H) :
    ReturnsInHanded {} Try.checked os 4 .any (Go.Proofs.Ytijkfhkjnhceoaa.Rows.fnCodesSpec.pre6 enc Try.prog Try.f4 Go.Proofs.Ytijkfhkjnhceoaa.Rows.fnCodesRow.domain false) (Go.Proofs.Ytijkfhkjnhceoaa.Rows.fnCodesSpec.post enc Try.prog Try.f4 false true false false) := by
  refine returnsInHanded_of_change_sized (C := Try.checked) own started (by kernel_rfl) Try.func4
    (ChangeSpec.witness6 (enc := enc) (C := Try.checked) false ⟨#[], #[.slice none 0 0], []⟩ 8 (by kernel_rfl) (by kernel_rfl) (by kernel_rfl) (by kernel_rfl)) ?_
  intro W base args ds gs before hval0 hW hcnd hsz0 _
  have hval : ∀ (j : Nat) t v, Try.f4.params[j]? = some t → args[j]? = some v → Value.okWide Try.prog W .any base t v := hval0
  have hW' := hW
  obtain ⟨p, q, hA0, hV, rfl, hfz, hnd⟩ := hW
  have hA : DataW.TrodAll enc Try.prog W 0 (fun _ => true) true Try.f4.params.toList args.toList ds p := hA0
  obtain ⟨rfl, rfl⟩ := trodVars_none hV
  have hA2 := hA
  rw [Try.params4] at hA2
  obtain ⟨v0, vs0, d0, ds0, p0, q0, e0, rfl, rfl, h0, r0⟩ := trodAll_cons hA2
  obtain ⟨ez, rfl, rfl⟩ := trodAll_nil r0
  have hsh : ∀ t, t ∈ Try.f4.params.toList → ∃ sh, shTy Try.prog 12 t = some sh := by
    intro t ht
    have ht : t = 24 := by simpa [Try.params4] using ht
    rcases ht with rfl
    · exact ⟨_, sh_Code⟩
  refine (law_calls ok_laws_FnCodes rfl Try.call4 (ts := Try.f4.params.toList) rfl rfl hsh hargs ⟨fun _ => False, fun _ h => h.elim, fun _ _ => trivial⟩ (fun j t v h1 h2 => hval j t v (by simpa using h1) h2) hA).mono fun e W' ⟨he, bel, hk⟩ => ?_
  subst he
  exact ⟨_, rfl, _, _, _, [], _, [], hW', trodAll_mk1 (shut_bool Try.underlying4 _), hk, rfl, bel.frame _, fun h => by cases h⟩
theorem over : Go.Proofs.Ytijkfhkjnhceoaa.Rows.fnCodesRow.holds Go.Proofs.Ytijkfhkjnhceoaa.Try.pinned (OpenSpec.ofChange Go.Proofs.Ytijkfhkjnhceoaa.Rows.fnCodesSpec) :=
  OpenClaim.holds_of_wide 4 Try.f4 rfl rfl rfl rfl rfl rfl rfl ⟨rfl, rfl, rfl, rfl, rfl⟩ rfl rfl rfl rfl rfl (by kernel_rfl) Try.func4 (by kernel_rfl)
    (of_decide_eq_true (by kernel_rfl)) (by unfold Func.isWrapper; first | (rw [if_pos (by decide +kernel)]; kernel_rfl) | (rw [if_neg (by decide +kernel)]; exact ⟨rfl, rfl⟩))
    (fun os started H enc _ => lifted os started H enc)
theorem proved : Go.Proofs.Ytijkfhkjnhceoaa.Rows.FnCodesSaid := over
end Ytijkfhkjnhceoaa.fnCodes
end Go.GH

namespace Go.Proofs.Ytijkfhkjnhceoaa
/-- The law, under a short name. -/
theorem fnCodes_holds : Rows.FnCodesSaid := Go.GH.Ytijkfhkjnhceoaa.fnCodes.proved
end Go.Proofs.Ytijkfhkjnhceoaa
#print axioms Go.Proofs.Ytijkfhkjnhceoaa.fnCodes_holds
