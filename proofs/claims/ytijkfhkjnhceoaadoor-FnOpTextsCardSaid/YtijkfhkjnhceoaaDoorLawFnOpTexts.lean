/- FnOpTexts: for all arguments the law returns true, and its arguments read as they did. The condition: the package-level variables that it reads start as the text of the program lays them (the tied card). -/
import Derived.Test.YtijkfhkjnhceoaaDoorSB
import Derived.Test.YtijkfhkjnhceoaaDoorRows
set_option linter.unusedVariables false
set_option linter.unusedSimpArgs false
set_option linter.unusedSimpArgs false
namespace Go.GH
open Go Go.Proofs
open Go.ChangeShapes Go.WideShapes Go.ChangeAt Go.RowKit
theorem bytes_of {xs : List (List AV)} (h : ∀ r, r ∈ xs → ofL [.int .u8] r) : ∃ s : Str, xs = s.map encB := by
  induction xs with
  | nil => exact ⟨[], rfl⟩
  | cons r xs ih =>
    obtain ⟨s, rfl⟩ := ih fun r hr => h r (by simp [hr])
    obtain ⟨c0, r0, rfl, ⟨n, rfl, hn⟩, e⟩ := h r (by simp)
    have e : r0 = [] := e
    subst e
    have hn2 : 0 ≤ n ∧ n ≤ 255 := hn
    refine ⟨UInt8.ofNat n.toNat :: s, ?_⟩
    have : ((UInt8.ofNat n.toNat).toNat : Int) = n := by rw [UInt8.toNat_ofNat']; omega
    rw [List.map_cons]
    unfold encB
    rw [this]
set_option maxRecDepth 100000 in
theorem sh_Code : shTy Tryd.prog 12 43 = some [.slice 1 [.int .u8]] := by kernel_rfl
set_option maxRecDepth 100000 in
theorem arg_Code {a : AV} (h : ArgOk Tryd.prog 12 43 a) : ∃ s : Str, a = .rd 1 (s.map encB) ∧ s.length ≤ 9223372036854775807 := by
  obtain ⟨sh, avs, h1, h2, h3⟩ := h
  rw [sh_Code] at h1
  obtain rfl := Option.some.inj h1
  rw [Tryd.underlying43] at h3
  obtain ⟨c, r, rfl, ⟨xs, rfl, hl, hx⟩, e⟩ := h2
  have e : r = [] := e
  subst e
  obtain ⟨s, rfl⟩ := bytes_of hx
  have h3 : [AV.rd 1 (s.map encB)] = [a] := h3
  exact ⟨s, (List.cons.inj h3).1.symm, by simpa using hl⟩
namespace YtijkfhkjnhceoaaDoor.fnOpTexts
open Go.ChangeShapes Go.WideShapes Go.ChangeAt Go.RowKit
set_option maxRecDepth 100000
theorem own : ownKnob Tryd.prog.godebug = none := by kernel_rfl
theorem hargs : ∀ us, ArgsOk Tryd.prog 12 [43] us → ∃ x, c_laws_FnOpTexts.pre x ∧ c_laws_FnOpTexts.enc x = us ∧ c_laws_FnOpTexts.res x = .bool true := by
  intro us has
  obtain ⟨a, r, rfl, ha, e⟩ := has
  have e : r = [] := e
  subst e
  obtain ⟨s, rfl, h1⟩ := arg_Code ha
  exact ⟨s, h1, rfl, rfl⟩
theorem door_met (os : Os) (args : Array Value) : laidMetH Tryd.prog Go.Proofs.YtijkfhkjnhceoaaDoor.Rows.fnOpTextsRow.laid ((World.doorLaid Tryd.prog 400 os).forCall (fun _ _ => 0) ⟨#[], args, []⟩).memory :=
  laidMetH_of_parts3 (fuel := 8) (laidMet_of_run' 8 (by kernel_rfl) (by kernel_rfl)) (by kernel_rfl) (by kernel_rfl)
theorem lifted (os : Os) (started : os.Started) (H : Type) (enc : TypeId × Value → H) :
    ReturnsInHanded {} Tryd.checked os 7 .any (fun w args => (Go.Proofs.YtijkfhkjnhceoaaDoor.Rows.fnOpTextsSpec.pre enc Tryd.prog Tryd.f7 [] false w args ∧ laidMetH Tryd.prog Go.Proofs.YtijkfhkjnhceoaaDoor.Rows.fnOpTextsRow.laid w) ∧ sizedMet enc Tryd.prog Tryd.f7 (OpenSpec.ofChange Go.Proofs.YtijkfhkjnhceoaaDoor.Rows.fnOpTextsSpec) false w args) (Go.Proofs.YtijkfhkjnhceoaaDoor.Rows.fnOpTextsSpec.post enc Tryd.prog Tryd.f7 false true false false) := by
  refine returnsInHanded_of_change_and (C := Tryd.checked) (X := fun w _ => laidMetH Tryd.prog Go.Proofs.YtijkfhkjnhceoaaDoor.Rows.fnOpTextsRow.laid w) (fun _ _ _ hh h => h.of_heap hh) own started (by kernel_rfl) Tryd.func7
    (ChangeSpec.witness_shaped (enc := enc) (C := Tryd.checked) (os := os) (X := fun w _ => laidMetH Tryd.prog Go.Proofs.YtijkfhkjnhceoaaDoor.Rows.fnOpTextsRow.laid w) false (World.doorLaid Tryd.prog 400 os) #[.slice none 0 0] 8 rfl (World.shaped_of_RefB (by kernel_rfl) (by kernel_rfl)) (by kernel_rfl) (by kernel_rfl) (by kernel_rfl) (door_met os _)) ?_
  intro W base args ds gs before hval0 hW _ _ hL _
  have hL : laidMetH Tryd.prog Go.Proofs.YtijkfhkjnhceoaaDoor.Rows.fnOpTextsRow.laid W := hL
  rw [MakeChecks.laidMetH_plain _ _ _ (by kernel_rfl)] at hL
  have hval : ∀ (j : Nat) t v, Tryd.f7.params[j]? = some t → args[j]? = some v → Value.okWide Tryd.prog W .any base t v := hval0
  have hW' := hW
  obtain ⟨p, q, hA0, hV, rfl, hfz, hnd⟩ := hW
  have hA : DataW.TrodAll enc Tryd.prog W 0 (fun _ => true) true Tryd.f7.params.toList args.toList ds p := hA0
  obtain ⟨rfl, rfl⟩ := trodVars_none hV
  have hA2 := hA
  rw [Tryd.params7] at hA2
  obtain ⟨v0, vs0, d0, ds0, p0, q0, e0, rfl, rfl, h0, r0⟩ := trodAll_cons hA2
  obtain ⟨ez, rfl, rfl⟩ := trodAll_nil r0
  have hsh : ∀ t, t ∈ Tryd.f7.params.toList → ∃ sh, shTy Tryd.prog 12 t = some sh := by
    intro t ht
    have ht : t = 43 := by simpa [Tryd.params7] using ht
    rcases ht with rfl
    · exact ⟨_, sh_Code⟩
  refine (law_calls ok_laws_FnOpTexts rfl Tryd.call7 (ts := Tryd.f7.params.toList) rfl rfl hsh hargs (gokErr (gwErr_laid hL (gwTab_laid hL))) (fun j t v h1 h2 => hval j t v (by simpa using h1) h2) hA).mono fun e W' ⟨he, bel, hk⟩ => ?_
  subst he
  exact ⟨_, rfl, _, _, _, [], _, [], hW', trodAll_mk1 (shut_bool Tryd.underlying4 _), hk, rfl, bel.frame _, fun h => by cases h⟩
theorem over : Go.Proofs.YtijkfhkjnhceoaaDoor.Rows.fnOpTextsRow.holds Go.Proofs.YtijkfhkjnhceoaaDoor.Tryd.pinned (OpenSpec.ofChange Go.Proofs.YtijkfhkjnhceoaaDoor.Rows.fnOpTextsSpec) :=
  OpenClaim.holds_of_wide 7 Tryd.f7 rfl rfl rfl rfl rfl rfl rfl ⟨rfl, rfl, rfl, rfl, rfl⟩ rfl rfl rfl rfl rfl (by kernel_rfl) Tryd.func7 (by kernel_rfl)
    (of_decide_eq_true (by kernel_rfl)) (by unfold Func.isWrapper; first | (rw [if_pos (by decide +kernel)]; kernel_rfl) | (rw [if_neg (by decide +kernel)]; exact ⟨rfl, rfl⟩))
    (fun os started H enc _ => lifted os started H enc)
theorem proved : Go.Proofs.YtijkfhkjnhceoaaDoor.Rows.FnOpTextsCardSaid :=
  Claim7.holds_tied_plain_at .later [] [.data, .data, .data, .sentinel, .sentinel] true Go.Proofs.YtijkfhkjnhceoaaDoor.Rows.fnOpTextsCard.stood.harness true
    over (fun _ h => by cases h) (by kernel_rfl) (fun _ h => by cases h) Go.Proofs.YtijkfhkjnhceoaaDoor.fnOpTexts_row_tie rfl ⟨rfl, rfl⟩ (by kernel_rfl) rfl
    (fun f fn hf hfn => by
      obtain rfl : f = 7 := Option.some.inj ((show Tryd.prog.funcNamed Go.Proofs.YtijkfhkjnhceoaaDoor.Rows.fnOpTextsRow.func = some 7 by kernel_rfl).symm.trans hf) |>.symm
      obtain rfl : fn = Tryd.f7 := (Option.some.inj (Tryd.func7.symm.trans hfn)).symm
      exact ⟨by kernel_rfl, fun j t ht => by
        rw [Tryd.params7] at ht
        have hm : t ∈ [43] := by simpa using Array.mem_of_getElem? ht
        have hall : ([43].all fun u => !Tryd.prog.wantsStandIn u) = true := by kernel_rfl
        exact (show Tryd.prog.wantsStandIn t = false by simpa using List.all_eq_true.1 hall t hm)⟩)
    (by kernel_rfl)
end YtijkfhkjnhceoaaDoor.fnOpTexts
end Go.GH

namespace Go.Proofs.YtijkfhkjnhceoaaDoor
/-- The law, under a short name. -/
theorem fnOpTexts_holds : Rows.FnOpTextsCardSaid := Go.GH.YtijkfhkjnhceoaaDoor.fnOpTexts.proved
end Go.Proofs.YtijkfhkjnhceoaaDoor
#print axioms Go.Proofs.YtijkfhkjnhceoaaDoor.fnOpTexts_holds
