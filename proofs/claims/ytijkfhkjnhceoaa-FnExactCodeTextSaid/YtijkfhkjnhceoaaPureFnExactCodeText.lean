/- Proved: the program's CodeText returns what the reference's CodeText returns, for every integer. No condition. -/
import Derived.Test.YtijkfhkjnhceoaaPFnExactCodeTextx1
namespace Go.Proofs.Ytijkfhkjnhceoaa.Pure
open Go.RowKit Go.Proofs.Ytijkfhkjnhceoaa.PFnExactCodeText Go.Proofs.YtijkfhkjnhceoaaW.PrintWords Go.Proofs.YtijkfhkjnhceoaaW.PrintLast

theorem ct_same (a : Int) : impl_CodeText.f a = spec_CodeText.f a := rfl

theorem ct_some (a : Int) : ∃ r, spec_CodeText.f a = some r := by
  unfold spec_CodeText.f
  simp only [Option.bind_some]
  unfold spec_l1In.f
  by_cases h : a ≥ 0
  · rw [if_pos h]
    simp only [Option.bind_some]
    by_cases h2 : a ≤ 10
    · rw [if_pos (by simpa [wrap64] using h2), if_pos h, if_pos (by simp; omega)]
      exact ⟨_, rfl⟩
    · rw [if_neg (by simpa [wrap64] using h2)]
      exact ⟨_, rfl⟩
  · rw [if_neg h]
    exact ⟨_, rfl⟩

theorem FnExactCodeText : laws_FnExactCodeText.Pure := by
  intro a _
  obtain ⟨r, hr⟩ := ct_some a
  unfold laws_FnExactCodeText.f
  rw [ct_same, hr]
  simp only [Option.bind_some, if_true]

end Go.Proofs.Ytijkfhkjnhceoaa.Pure
