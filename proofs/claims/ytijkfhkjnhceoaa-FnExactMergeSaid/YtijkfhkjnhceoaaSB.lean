import Derived.Test.YtijkfhkjnhceoaaSA
import Derived.Test.YtijkfhkjnhceoaaRows
import Derived.WalkKit
import Derived.ProofKit
import Derived.OpenShut
import Derived.ChangeOld
import Derived.Below
import Derived.SizedLaws
import Derived.Test.YtijkfhkjnhceoaaChecked
import Derived.Shelf.RegionOpenPlain
import Derived.Deep.LoopGhost
import Derived.Lib.Walk
import Derived.Lib.SliceRun
import Derived.Sort.Grow
import Derived.Shelf.SlSortCmp.NoneTotal
set_option linter.unusedVariables false
set_option linter.unusedSimpArgs false
set_option linter.unusedSimpArgs false
namespace Go.GH
open Go Go.Proofs
noncomputable def c_laws_szItem : PCon := con [.rd [none, none, none, none], mC] true (It × Int) (fun x => [.agg (encI x.1), .int .i64 x.2]) (fun x => 0 ≤ x.2 ∧ x.2 ≤ 4194304 ∧ x.1.path.length ≤ 9223372036854775807 ∧ x.1.data.length ≤ 9223372036854775807) (fun x => .int .i64 (szR x.2 (szI x.1)))
noncomputable def E_laws_szItem : Env := ⟨lookup tyTab, lookup [], [0, 1, 2, 4, 11, 18]⟩
set_option maxRecDepth 100000 in
set_option maxHeartbeats 4000000 in
theorem m_laws_szItem : Meets E_laws_szItem (codeOf Try.f60) Try.f60.results.toList c_laws_szItem := by
  rintro ⟨x, left⟩ hs
  obtain ⟨h1, h2, h3, h4⟩ : 0 ≤ left ∧ left ≤ 4194304 ∧ x.path.length ≤ 9223372036854775807 ∧ x.data.length ≤ 9223372036854775807 := hs
  refine ⟨trivial, ?_⟩
  repeat ((conv => whnf); first | refine ⟨fun h => h, ?_⟩ | refine ⟨(by kernel_rfl : drawOk _ _ = true), ?_⟩ | refine ⟨fun (h : gtrue _) => by first | assumption | exact absurd (Eq.trans (Eq.symm h) (by assumption) : true = false) Bool.noConfusion, ?_⟩ | refine ⟨fun h => (absurd (Eq.trans (Eq.symm h) (by assumption) : true = false) Bool.noConfusion : False), ?_⟩ | refine ⟨_, w64 (by (show (_ : Prop)); first | omega | ((try dsimp only at *); (try simp only [lns] at *); omega)), ?_⟩ | refine ⟨fun _ => ⟨by (show (_ : Prop)); first | omega | ((try dsimp only at *); (try simp only [lns] at *); omega), by (show (_ : Prop)); first | omega | ((try dsimp only at *); (try simp only [lns] at *); omega), by (show (_ : Prop)); first | omega | ((try dsimp only at *); (try simp only [lns] at *); omega)⟩, ?_⟩ | refine ⟨by (show (_ : Prop)); first | omega | ((try dsimp only at *); (try simp only [lns] at *); omega), ?_⟩ | refine ⟨fun h => ⟨by (show (_ : Prop)); first | omega | ((try dsimp only at *); (try simp only [lns] at *); omega), by (show (_ : Prop)); first | omega | ((try dsimp only at *); (try simp only [lns] at *); omega)⟩, ?_⟩ | refine ⟨fun (r : List AV) hr c hc => by simp [encS] at hr; (try subst hr); simp at hc; (try subst hc); rfl, ?_⟩ | refine ⟨noOwn (by rfl), ?_⟩)
  (conv => whnf); refine ⟨fun h5 => ?_, fun h5 => ?_⟩
  · have h5 : left - x.path.length < 0 := by simpa using h5
    conv => whnf
    exact ⟨trivial, eqN' (by unfold szR szI; dsimp only; rw [if_pos (by omega)])⟩
  have h5 : ¬ left - x.path.length < 0 := by simpa using h5
  repeat ((conv => whnf); first | refine ⟨fun h => h, ?_⟩ | refine ⟨(by kernel_rfl : drawOk _ _ = true), ?_⟩ | refine ⟨fun (h : gtrue _) => by first | assumption | exact absurd (Eq.trans (Eq.symm h) (by assumption) : true = false) Bool.noConfusion, ?_⟩ | refine ⟨fun h => (absurd (Eq.trans (Eq.symm h) (by assumption) : true = false) Bool.noConfusion : False), ?_⟩ | refine ⟨_, w64 (by (show (_ : Prop)); first | omega | ((try dsimp only at *); (try simp only [lns] at *); omega)), ?_⟩ | refine ⟨fun _ => ⟨by (show (_ : Prop)); first | omega | ((try dsimp only at *); (try simp only [lns] at *); omega), by (show (_ : Prop)); first | omega | ((try dsimp only at *); (try simp only [lns] at *); omega), by (show (_ : Prop)); first | omega | ((try dsimp only at *); (try simp only [lns] at *); omega)⟩, ?_⟩ | refine ⟨by (show (_ : Prop)); first | omega | ((try dsimp only at *); (try simp only [lns] at *); omega), ?_⟩ | refine ⟨fun h => ⟨by (show (_ : Prop)); first | omega | ((try dsimp only at *); (try simp only [lns] at *); omega), by (show (_ : Prop)); first | omega | ((try dsimp only at *); (try simp only [lns] at *); omega)⟩, ?_⟩ | refine ⟨fun (r : List AV) hr c hc => by simp [encS] at hr; (try subst hr); simp at hc; (try subst hc); rfl, ?_⟩ | refine ⟨noOwn (by rfl), ?_⟩)
  (conv => whnf); refine ⟨fun h6 => ?_, fun h6 => ?_⟩
  · have h6 : left - x.path.length - x.data.length < 0 := by simpa using h6
    conv => whnf
    exact ⟨trivial, eqN' (by unfold szR szI; dsimp only; rw [if_pos (by omega)])⟩
  have h6 : ¬ left - x.path.length - x.data.length < 0 := by simpa using h6
  conv => whnf
  exact ⟨trivial, eqN' (by unfold szR szI; dsimp only; rw [if_neg (by omega)]; omega)⟩
theorem ok_laws_szItem : ConOk Try.prog 60 c_laws_szItem := meets_ok (tabT _ _) FOk.nil mixed Try.func60 rfl Try.call60 (by decide) (by kernel_rfl) m_laws_szItem (by intro _ (y : (It × Int)) _; exact ⟨by simp [c_laws_szItem, con, AV.noRd, noRdCells, noRdRows, noRdRows_map', encS, encI], by simp [c_laws_szItem, con, AV.noRd, noRdCells, noRdRows, noRdRows_map', encS, encI]⟩) (by intro (y : (It × Int)) _; first | (simp [c_laws_szItem, con, AV.free, freeCells, freeRows, freeRows_map, encS, encI]; done) | (obtain ⟨_, _⟩ := y; simp [c_laws_szItem, con, AV.free, freeCells, freeRows, freeRows_map, encS, encI]; done) | (obtain ⟨_, _, _⟩ := y; simp [c_laws_szItem, con, AV.free, freeCells, freeRows, freeRows_map, encS, encI]; done))
noncomputable def c_laws_szItemS : PCon := con [mS 4, mC] true (Tr × Int) (fun x => [.rd 4 (x.1.map encI), .int .i64 x.2]) (fun x => 0 ≤ x.2 ∧ x.2 ≤ 4194304 ∧ x.1.length ≤ 9223372036854775807 ∧ ∀ y, y ∈ x.1 → y.path.length ≤ 9223372036854775807 ∧ y.data.length ≤ 9223372036854775807) (fun x => .int .i64 (szR x.2 (szT x.1)))
noncomputable def E_laws_szItemS : Env := ⟨lookup tyTab, lookup [(60, c_laws_szItem)], [0, 1, 4, 5, 11, 15, 25]⟩
set_option maxRecDepth 100000 in
set_option maxHeartbeats 4000000 in
theorem m_laws_szItemS : Meets E_laws_szItemS (codeOf Try.f36) Try.f36.results.toList c_laws_szItemS := by
  rintro ⟨t, left⟩ hs
  obtain ⟨h1, h2, h3, h4⟩ : 0 ≤ left ∧ left ≤ 4194304 ∧ t.length ≤ 9223372036854775807 ∧ ∀ y, y ∈ t → y.path.length ≤ 9223372036854775807 ∧ y.data.length ≤ 9223372036854775807 := hs
  refine ⟨trivial, ?_⟩
  repeat ((conv => whnf); first | refine ⟨fun h => h, ?_⟩ | refine ⟨(by kernel_rfl : drawOk _ _ = true), ?_⟩ | refine ⟨fun (h : gtrue _) => by first | assumption | exact absurd (Eq.trans (Eq.symm h) (by assumption) : true = false) Bool.noConfusion, ?_⟩ | refine ⟨fun h => (absurd (Eq.trans (Eq.symm h) (by assumption) : true = false) Bool.noConfusion : False), ?_⟩ | refine ⟨_, w64 (by (show (_ : Prop)); first | omega | ((try dsimp only at *); (try simp only [lns] at *); omega)), ?_⟩ | refine ⟨fun _ => ⟨by (show (_ : Prop)); first | omega | ((try dsimp only at *); (try simp only [lns] at *); omega), by (show (_ : Prop)); first | omega | ((try dsimp only at *); (try simp only [lns] at *); omega), by (show (_ : Prop)); first | omega | ((try dsimp only at *); (try simp only [lns] at *); omega)⟩, ?_⟩ | refine ⟨by (show (_ : Prop)); first | omega | ((try dsimp only at *); (try simp only [lns] at *); omega), ?_⟩ | refine ⟨fun h => ⟨by (show (_ : Prop)); first | omega | ((try dsimp only at *); (try simp only [lns] at *); omega), by (show (_ : Prop)); first | omega | ((try dsimp only at *); (try simp only [lns] at *); omega)⟩, ?_⟩ | refine ⟨fun (r : List AV) hr c hc => by simp [encS] at hr; (try subst hr); simp at hc; (try subst hc); rfl, ?_⟩ | refine ⟨noOwn (by rfl), ?_⟩)
  (conv => whnf); refine ⟨fun h5 => ?_, fun h5 => ?_⟩
  · have h5 : left - t.length < 0 := by simpa using h5
    conv => whnf
    exact ⟨trivial, eqN' (by unfold szR szT; dsimp only; rw [if_pos (by omega)])⟩
  have h5 : ¬ left - t.length < 0 := by simpa using h5
  repeat ((conv => whnf); first | refine ⟨fun h => h, ?_⟩ | refine ⟨(by kernel_rfl : drawOk _ _ = true), ?_⟩ | refine ⟨fun (h : gtrue _) => by first | assumption | exact absurd (Eq.trans (Eq.symm h) (by assumption) : true = false) Bool.noConfusion, ?_⟩ | refine ⟨fun h => (absurd (Eq.trans (Eq.symm h) (by assumption) : true = false) Bool.noConfusion : False), ?_⟩ | refine ⟨_, w64 (by (show (_ : Prop)); first | omega | ((try dsimp only at *); (try simp only [lns] at *); omega)), ?_⟩ | refine ⟨fun _ => ⟨by (show (_ : Prop)); first | omega | ((try dsimp only at *); (try simp only [lns] at *); omega), by (show (_ : Prop)); first | omega | ((try dsimp only at *); (try simp only [lns] at *); omega), by (show (_ : Prop)); first | omega | ((try dsimp only at *); (try simp only [lns] at *); omega)⟩, ?_⟩ | refine ⟨by (show (_ : Prop)); first | omega | ((try dsimp only at *); (try simp only [lns] at *); omega), ?_⟩ | refine ⟨fun h => ⟨by (show (_ : Prop)); first | omega | ((try dsimp only at *); (try simp only [lns] at *); omega), by (show (_ : Prop)); first | omega | ((try dsimp only at *); (try simp only [lns] at *); omega)⟩, ?_⟩ | refine ⟨fun (r : List AV) hr c hc => by simp [encS] at hr; (try subst hr); simp at hc; (try subst hc); rfl, ?_⟩ | refine ⟨noOwn (by rfl), ?_⟩)
  refine loop_rule (fun i : Nat => ⟨[(0, ⟨none, .rd 4 (t.map encI)⟩), (1, ⟨none, .int .i64 (left - t.length - ((t.take i).map szI).sum)⟩), (5, ⟨none, .int .i64 i⟩)], [], 0⟩)
    (fun i => i ≤ t.length ∧ 0 ≤ left - t.length - ((t.take i).map szI).sum) (fun i => t.length - i) 0 ?_ ⟨by omega, by simp; omega⟩ ?_
  · (refine ⟨?_, ?_, rfl⟩ <;> repeat' (first | exact rfl | exact trivial | refine ⟨?_, ?_⟩ | fail) <;> (conv => whnf))
    all_goals simp
  rintro i ⟨hi, hI⟩
  (conv => whnf); refine ⟨fun h6 => ?_, fun h6 => ?_⟩
  · have h6 : i < t.length := by simpa using h6
    obtain ⟨b, hb⟩ := get_lt h6
    have hbs := h4 b (List.mem_of_getElem? hb)
    have hsu := sum_take' (f := szI) hb
    have hle := sum_take_le (f := szI) (l := t) (i := i + 1)
    repeat ((conv => whnf); first | refine ⟨fun h => h, ?_⟩ | refine ⟨(by kernel_rfl : drawOk _ _ = true), ?_⟩ | refine ⟨fun (h : gtrue _) => by first | assumption | exact absurd (Eq.trans (Eq.symm h) (by assumption) : true = false) Bool.noConfusion, ?_⟩ | refine ⟨fun h => (absurd (Eq.trans (Eq.symm h) (by assumption) : true = false) Bool.noConfusion : False), ?_⟩ | refine ⟨_, w64 (by (show (_ : Prop)); first | omega | ((try dsimp only at *); (try simp only [lns] at *); omega)), ?_⟩ | refine ⟨fun _ => ⟨by (show (_ : Prop)); first | omega | ((try dsimp only at *); (try simp only [lns] at *); omega), by (show (_ : Prop)); first | omega | ((try dsimp only at *); (try simp only [lns] at *); omega), by (show (_ : Prop)); first | omega | ((try dsimp only at *); (try simp only [lns] at *); omega)⟩, ?_⟩ | refine ⟨by (show (_ : Prop)); first | omega | ((try dsimp only at *); (try simp only [lns] at *); omega), ?_⟩ | refine ⟨fun h => ⟨by (show (_ : Prop)); first | omega | ((try dsimp only at *); (try simp only [lns] at *); omega), by (show (_ : Prop)); first | omega | ((try dsimp only at *); (try simp only [lns] at *); omega)⟩, ?_⟩ | refine ⟨fun (r : List AV) hr c hc => by simp [encS] at hr; (try subst hr); simp at hc; (try subst hc); rfl, ?_⟩ | refine ⟨noOwn (by rfl), ?_⟩ | refine ⟨encI b, fun _ => ⟨by omega, by simp [hb]⟩, ?_⟩)
    conv => whnf
    refine ⟨(b, left - t.length - ((t.take i).map szI).sum), rfl, fun _ => ⟨hI, by show _ ≤ _; omega, hbs⟩, ?_⟩
    (conv => whnf); refine ⟨fun h7 => ?_, fun h7 => ?_⟩
    · have h7 : szR (left - t.length - ((t.take i).map szI).sum) (szI b) < 0 := by simpa using h7
      have h7 : left - t.length - ((t.take i).map szI).sum - szI b < 0 := by
        unfold szR at h7; split at h7 <;> omega
      conv => whnf
      exact ⟨trivial, eqN' (by unfold szR szT; dsimp only; rw [if_pos (by omega)])⟩
    · have h7 : ¬ szR (left - t.length - ((t.take i).map szI).sum) (szI b) < 0 := by simpa using h7
      have h8 := szR_ok h7
      have h9 : szR (left - t.length - ((t.take i).map szI).sum) (szI b) = left - t.length - ((t.take (i + 1)).map szI).sum := by
        unfold szR; rw [if_neg (by omega)]; omega
      repeat ((conv => whnf); first | refine ⟨fun h => h, ?_⟩ | refine ⟨(by kernel_rfl : drawOk _ _ = true), ?_⟩ | refine ⟨fun (h : gtrue _) => by first | assumption | exact absurd (Eq.trans (Eq.symm h) (by assumption) : true = false) Bool.noConfusion, ?_⟩ | refine ⟨fun h => (absurd (Eq.trans (Eq.symm h) (by assumption) : true = false) Bool.noConfusion : False), ?_⟩ | refine ⟨_, w64 (by (show (_ : Prop)); first | omega | ((try dsimp only at *); (try simp only [lns] at *); omega)), ?_⟩ | refine ⟨fun _ => ⟨by (show (_ : Prop)); first | omega | ((try dsimp only at *); (try simp only [lns] at *); omega), by (show (_ : Prop)); first | omega | ((try dsimp only at *); (try simp only [lns] at *); omega), by (show (_ : Prop)); first | omega | ((try dsimp only at *); (try simp only [lns] at *); omega)⟩, ?_⟩ | refine ⟨by (show (_ : Prop)); first | omega | ((try dsimp only at *); (try simp only [lns] at *); omega), ?_⟩ | refine ⟨fun h => ⟨by (show (_ : Prop)); first | omega | ((try dsimp only at *); (try simp only [lns] at *); omega), by (show (_ : Prop)); first | omega | ((try dsimp only at *); (try simp only [lns] at *); omega)⟩, ?_⟩ | refine ⟨fun (r : List AV) hr c hc => by simp [encS] at hr; (try subst hr); simp at hc; (try subst hc); rfl, ?_⟩ | refine ⟨noOwn (by rfl), ?_⟩)
      refine again (i + 1) ?_ ⟨h6, by omega⟩ (by first | omega | (simp; done) | (simp; omega))
      (refine ⟨?_, ?_, rfl⟩ <;> repeat' (first | exact rfl | exact trivial | refine ⟨?_, ?_⟩ | fail) <;> (conv => whnf))
      exact h9
  · have h6 : i = t.length := by
      have : ¬ i < t.length := by simpa using h6
      omega
    subst h6
    rw [List.take_length] at hI ⊢
    conv => whnf
    exact ⟨trivial, eqN' (by unfold szR szT; dsimp only; rw [if_neg (by omega)]; omega)⟩
theorem ok_laws_szItemS : ConOk Try.prog 36 c_laws_szItemS := meets_ok (tabT _ _) (FOk.cons ok_laws_szItem FOk.nil) mixed Try.func36 rfl Try.call36 (by decide) (by kernel_rfl) m_laws_szItemS (by intro _ (y : (Tr × Int)) _; exact ⟨by simp [c_laws_szItemS, con, AV.noRd, noRdCells, noRdRows, noRdRows_map', encS, encI], by simp [c_laws_szItemS, con, AV.noRd, noRdCells, noRdRows, noRdRows_map', encS, encI]⟩) (by intro (y : (Tr × Int)) _; first | (simp [c_laws_szItemS, con, AV.free, freeCells, freeRows, freeRows_map, encS, encI]; done) | (obtain ⟨_, _⟩ := y; simp [c_laws_szItemS, con, AV.free, freeCells, freeRows, freeRows_map, encS, encI]; done) | (obtain ⟨_, _, _⟩ := y; simp [c_laws_szItemS, con, AV.free, freeCells, freeRows, freeRows_map, encS, encI]; done))
noncomputable def c_laws_szTree : PCon := con [mS 4, mC] true (Tr × Int) (fun x => [rdT x.1, .int .i64 x.2]) (fun x => 0 ≤ x.2 ∧ x.2 ≤ 4194304 ∧ x.1.length ≤ 9223372036854775807 ∧ ∀ y, y ∈ x.1 → y.path.length ≤ 9223372036854775807 ∧ y.data.length ≤ 9223372036854775807) (fun x => .int .i64 (szR x.2 (szT x.1)))
noncomputable def E_laws_szTree : Env := ⟨lookup tyTab, lookup [(36, c_laws_szItemS)], [0, 1, 2, 4, 10]⟩
set_option maxRecDepth 100000 in
set_option maxHeartbeats 4000000 in
theorem m_laws_szTree : Meets E_laws_szTree (codeOf Try.f14) Try.f14.results.toList c_laws_szTree := by
  rintro ⟨t, left⟩ hs
  refine ⟨trivial, ?_⟩
  conv => whnf
  refine ⟨(t, left), rfl, fun _ => hs, ?_⟩
  (conv => whnf); refine ⟨fun h1 => ?_, fun h1 => ?_⟩
  · have h1 : szR left (szT t) < 0 := by simpa using h1
    conv => whnf
    exact ⟨trivial, eqN' (by
      show -1 = szR left (szT t)
      unfold szR at h1 ⊢; split at h1 <;> simp_all)⟩
  · conv => whnf
    exact ⟨trivial, rfl⟩
theorem ok_laws_szTree : ConOk Try.prog 14 c_laws_szTree := meets_ok (tabT _ _) (FOk.cons ok_laws_szItemS FOk.nil) mixed Try.func14 rfl Try.call14 (by decide) (by kernel_rfl) m_laws_szTree (by intro _ (y : (Tr × Int)) _; exact ⟨by simp [c_laws_szTree, con, AV.noRd, noRdCells, noRdRows, noRdRows_map', encS, encI], by simp [c_laws_szTree, con, AV.noRd, noRdCells, noRdRows, noRdRows_map', encS, encI]⟩) (by intro (y : (Tr × Int)) _; first | (simp [c_laws_szTree, con, AV.free, freeCells, freeRows, freeRows_map, encS, rdT, encI]; done) | (obtain ⟨_, _⟩ := y; simp [c_laws_szTree, con, AV.free, freeCells, freeRows, freeRows_map, encS, rdT, encI]; done) | (obtain ⟨_, _, _⟩ := y; simp [c_laws_szTree, con, AV.free, freeCells, freeRows, freeRows_map, encS, rdT, encI]; done))
noncomputable def c_laws_toItem : PCon := con [.rd [none, none, none, none]] true It (fun x => [.agg (encI x)]) (fun _ => True) (fun x => .agg (encI x))
noncomputable def E_laws_toItem : Env := ⟨lookup tyTab, lookup [], [0, 1, 2, 3]⟩
set_option maxRecDepth 100000 in
set_option maxHeartbeats 4000000 in
theorem m_laws_toItem : Meets E_laws_toItem (codeOf Try.f63) Try.f63.results.toList c_laws_toItem := by
  intro (x : It) hs
  refine ⟨trivial, ?_⟩
  conv => whnf
  exact ⟨trivial, rfl, rfl, rfl, rfl, trivial⟩
theorem ok_laws_toItem : ConOk Try.prog 63 c_laws_toItem := meets_ok (tabT _ _) FOk.nil mixed Try.func63 rfl Try.call63 (by decide) (by kernel_rfl) m_laws_toItem (by intro _ (y : It) _; exact ⟨by simp [c_laws_toItem, con, AV.noRd, noRdCells, noRdRows, noRdRows_map', encS, encI], by simp [c_laws_toItem, con, AV.noRd, noRdCells, noRdRows, noRdRows_map', encS, encI]⟩) (by intro (y : It) _; first | (simp [c_laws_toItem, con, AV.free, freeCells, freeRows, freeRows_map, encS, encI]; done) | (obtain ⟨_, _⟩ := y; simp [c_laws_toItem, con, AV.free, freeCells, freeRows, freeRows_map, encS, encI]; done) | (obtain ⟨_, _, _⟩ := y; simp [c_laws_toItem, con, AV.free, freeCells, freeRows, freeRows_map, encS, encI]; done))
noncomputable def c_laws_toItemS : PCon := con [mS 4] false Tr (fun t => [.rd 4 (t.map encI)]) smT (fun t => .own 4 (t.map encI))
noncomputable def E_laws_toItemS : Env := ⟨lookup tyTab, lookup [(63, c_laws_toItem)], [0, 2, 3, 4, 11]⟩
set_option maxRecDepth 100000 in
set_option maxHeartbeats 4000000 in
theorem m_laws_toItemS : Meets E_laws_toItemS (codeOf Try.f38) Try.f38.results.toList c_laws_toItemS := by
  intro (t : Tr) hs
  obtain ⟨hs1, hs2⟩ : smT t := hs
  refine ⟨trivial, ?_⟩
  repeat ((conv => whnf); first | refine ⟨fun h => h, ?_⟩ | refine ⟨(by kernel_rfl : drawOk _ _ = true), ?_⟩ | refine ⟨fun (h : gtrue _) => by first | assumption | exact absurd (Eq.trans (Eq.symm h) (by assumption) : true = false) Bool.noConfusion, ?_⟩ | refine ⟨fun h => (absurd (Eq.trans (Eq.symm h) (by assumption) : true = false) Bool.noConfusion : False), ?_⟩ | refine ⟨_, w64 (by (show (_ : Prop)); first | omega | ((try dsimp only at *); (try simp only [lns] at *); omega)), ?_⟩ | refine ⟨fun _ => ⟨by (show (_ : Prop)); first | omega | ((try dsimp only at *); (try simp only [lns] at *); omega), by (show (_ : Prop)); first | omega | ((try dsimp only at *); (try simp only [lns] at *); omega), by (show (_ : Prop)); first | omega | ((try dsimp only at *); (try simp only [lns] at *); omega)⟩, ?_⟩ | refine ⟨by (show (_ : Prop)); first | omega | ((try dsimp only at *); (try simp only [lns] at *); omega), ?_⟩ | refine ⟨fun h => ⟨by (show (_ : Prop)); first | omega | ((try dsimp only at *); (try simp only [lns] at *); omega), by (show (_ : Prop)); first | omega | ((try dsimp only at *); (try simp only [lns] at *); omega)⟩, ?_⟩ | refine ⟨fun (r : List AV) hr c hc => by simp [encS] at hr; (try subst hr); simp at hc; (try subst hc); rfl, ?_⟩ | refine ⟨noOwn (by rfl), ?_⟩)
  refine loop_rule (fun i : Nat => ⟨[(0, ⟨none, .rd 4 (t.map encI)⟩), (3, ⟨none, .view 0 [] 0 t.length⟩), (4, ⟨none, .int .i64 i⟩)], [(0, .own 4 (filled encI (encI It.none) t i))], 1⟩)
    (fun i => i ≤ t.length) (fun i => t.length - i) 0 ?_ (by omega) ?_
  · (refine ⟨?_, ?_, rfl⟩ <;> repeat' (first | exact rfl | exact trivial | refine ⟨?_, ?_⟩ | fail) <;> (conv => whnf))
    all_goals simp
    exact filled_zero.symm
  intro i hi
  have hi : i ≤ t.length := hi
  (conv => whnf); refine ⟨fun h6 => ?_, fun h6 => ?_⟩
  · have h6 : i < t.length := by simpa using h6
    obtain ⟨b, hb⟩ := get_lt h6
    repeat ((conv => whnf); first | refine ⟨fun h => h, ?_⟩ | refine ⟨(by kernel_rfl : drawOk _ _ = true), ?_⟩ | refine ⟨fun (h : gtrue _) => by first | assumption | exact absurd (Eq.trans (Eq.symm h) (by assumption) : true = false) Bool.noConfusion, ?_⟩ | refine ⟨fun h => (absurd (Eq.trans (Eq.symm h) (by assumption) : true = false) Bool.noConfusion : False), ?_⟩ | refine ⟨_, w64 (by (show (_ : Prop)); first | omega | ((try dsimp only at *); (try simp only [lns] at *); omega)), ?_⟩ | refine ⟨fun _ => ⟨by (show (_ : Prop)); first | omega | ((try dsimp only at *); (try simp only [lns] at *); omega), by (show (_ : Prop)); first | omega | ((try dsimp only at *); (try simp only [lns] at *); omega), by (show (_ : Prop)); first | omega | ((try dsimp only at *); (try simp only [lns] at *); omega)⟩, ?_⟩ | refine ⟨by (show (_ : Prop)); first | omega | ((try dsimp only at *); (try simp only [lns] at *); omega), ?_⟩ | refine ⟨fun h => ⟨by (show (_ : Prop)); first | omega | ((try dsimp only at *); (try simp only [lns] at *); omega), by (show (_ : Prop)); first | omega | ((try dsimp only at *); (try simp only [lns] at *); omega)⟩, ?_⟩ | refine ⟨fun (r : List AV) hr c hc => by simp [encS] at hr; (try subst hr); simp at hc; (try subst hc); rfl, ?_⟩ | refine ⟨noOwn (by rfl), ?_⟩ | refine ⟨encI b, fun _ => ⟨by omega, by simp [hb]⟩, ?_⟩ | refine ⟨b, rfl, fun _ => trivial, ?_⟩ | refine ⟨encI It.none, by simp [filled_get h6], ?_⟩)
    refine again (i + 1) ?_ h6 (by first | omega | (simp; done) | (simp; omega))
    (refine ⟨?_, ?_, rfl⟩ <;> repeat' (first | exact rfl | exact trivial | refine ⟨?_, ?_⟩ | fail) <;> (conv => whnf))
    simp only [Nat.zero_add, Int.toNat_natCast]
    exact filled_set hb
  · have h6 : i = t.length := by
      have : ¬ i < t.length := by simpa using h6
      omega
    subst h6
    conv => whnf
    exact ⟨trivial, eqOwn (by rw [filled_all]; (try simp only [List.drop_zero, List.take_length, take_app]) <;> simp)⟩
theorem ok_laws_toItemS : ConOk Try.prog 38 c_laws_toItemS := meets_ok (tabT _ _) (FOk.cons ok_laws_toItem FOk.nil) mixed Try.func38 rfl Try.call38 (by decide) (by kernel_rfl) m_laws_toItemS (by intro _ (y : Tr) _; exact ⟨by simp [c_laws_toItemS, con, AV.noRd, noRdCells, noRdRows, noRdRows_map', encS, encI], by simp [c_laws_toItemS, con, AV.noRd, noRdCells, noRdRows, noRdRows_map', encS, encI]⟩) (by intro (y : Tr) _; first | (simp [c_laws_toItemS, con, AV.free, freeCells, freeRows, freeRows_map, encS, encI]; done) | (obtain ⟨_, _⟩ := y; simp [c_laws_toItemS, con, AV.free, freeCells, freeRows, freeRows_map, encS, encI]; done) | (obtain ⟨_, _, _⟩ := y; simp [c_laws_toItemS, con, AV.free, freeCells, freeRows, freeRows_map, encS, encI]; done))
noncomputable def c_laws_toTree : PCon := con [mS 4] false Tr (fun t => [rdT t]) smT (fun t => .agg [.own 4 (t.map encI)])
noncomputable def E_laws_toTree : Env := ⟨lookup tyTab, lookup [(38, c_laws_toItemS)], [0, 1, 2, 3]⟩
set_option maxRecDepth 100000 in
set_option maxHeartbeats 4000000 in
theorem m_laws_toTree : Meets E_laws_toTree (codeOf Try.f16) Try.f16.results.toList c_laws_toTree := by
  intro (t : Tr) hs
  refine ⟨trivial, ?_⟩
  conv => whnf
  refine ⟨t, rfl, fun _ => hs, ?_⟩
  conv => whnf
  refine ⟨trivial, ⟨rfl, ?_⟩, trivial⟩
  simp only [List.drop_zero, List.take_length]
theorem ok_laws_toTree : ConOk Try.prog 16 c_laws_toTree := meets_ok (tabT _ _) (FOk.cons ok_laws_toItemS FOk.nil) mixed Try.func16 rfl Try.call16 (by decide) (by kernel_rfl) m_laws_toTree (by intro _ (y : Tr) _; exact ⟨by simp [c_laws_toTree, con, AV.noRd, noRdCells, noRdRows, noRdRows_map', encS, encI], by simp [c_laws_toTree, con, AV.noRd, noRdCells, noRdRows, noRdRows_map', encS, encI]⟩) (by intro (y : Tr) _; first | (simp [c_laws_toTree, con, AV.free, freeCells, freeRows, freeRows_map, encS, rdT, encI]; done) | (obtain ⟨_, _⟩ := y; simp [c_laws_toTree, con, AV.free, freeCells, freeRows, freeRows_map, encS, rdT, encI]; done) | (obtain ⟨_, _, _⟩ := y; simp [c_laws_toTree, con, AV.free, freeCells, freeRows, freeRows_map, encS, rdT, encI]; done))
noncomputable def c_laws_eqItem : PCon := con [.rd [none, none, none, none], .rd [none, none, none, none]] true It (fun x => [.agg (encI x), .agg (encI x)]) (fun _ => True) (fun _ => .bool true)
noncomputable def E_laws_eqItem : Env := ⟨lookup tyTab, lookup [], [0, 1, 2, 3, 4, 9, 14, 19, 24]⟩
set_option maxRecDepth 100000 in
set_option maxHeartbeats 4000000 in
theorem m_laws_eqItem : Meets E_laws_eqItem (codeOf Try.f66) Try.f66.results.toList c_laws_eqItem := by
  intro (x : It) hs
  refine ⟨trivial, ?_⟩
  conv => whnf
  refine ⟨fun h => ?_, fun _ => ?_⟩
  · have h : (!(x.path == x.path)) = true := h
    simp at h
  conv => whnf
  refine ⟨fun h => ?_, fun _ => ?_⟩
  · have h : (x.kind != x.kind) = true := h
    simp at h
  conv => whnf
  refine ⟨fun h => ?_, fun _ => ?_⟩
  · have h : (!(x.data == x.data)) = true := h
    simp at h
  conv => whnf
  refine ⟨fun h => ?_, fun _ => ?_⟩
  · have h : (x.time != x.time) = true := h
    simp at h
  conv => whnf
  exact ⟨trivial, rfl⟩
theorem ok_laws_eqItem : ConOk Try.prog 66 c_laws_eqItem := meets_ok (tabT _ _) FOk.nil mixed Try.func66 rfl Try.call66 (by decide) (by kernel_rfl) m_laws_eqItem (by intro _ (y : It) _; exact ⟨by simp [c_laws_eqItem, con, AV.noRd, noRdCells, noRdRows, noRdRows_map', encS, encI], by simp [c_laws_eqItem, con, AV.noRd, noRdCells, noRdRows, noRdRows_map', encS, encI]⟩) (by intro (y : It) _; first | (simp [c_laws_eqItem, con, AV.free, freeCells, freeRows, freeRows_map, encS, encI]; done) | (obtain ⟨_, _⟩ := y; simp [c_laws_eqItem, con, AV.free, freeCells, freeRows, freeRows_map, encS, encI]; done) | (obtain ⟨_, _, _⟩ := y; simp [c_laws_eqItem, con, AV.free, freeCells, freeRows, freeRows_map, encS, encI]; done))
noncomputable def c_laws_eqItemS : PCon := con [mS 4, mS 4] true Tr (fun t => [.rd 4 (t.map encI), .rd 4 (t.map encI)]) smT (fun _ => .bool true)
noncomputable def E_laws_eqItemS : Env := ⟨lookup tyTab, lookup [(66, c_laws_eqItem)], [0, 1, 4, 5, 10, 14, 26]⟩
set_option maxRecDepth 100000 in
set_option maxHeartbeats 4000000 in
theorem m_laws_eqItemS : Meets E_laws_eqItemS (codeOf Try.f40) Try.f40.results.toList c_laws_eqItemS := by
  intro (t : Tr) hs
  obtain ⟨hs1, hs2⟩ : smT t := hs
  refine ⟨trivial, ?_⟩
  conv => whnf
  refine ⟨fun h => ?_, fun _ => ?_⟩
  · simp at h
  repeat ((conv => whnf); first | refine ⟨fun h => h, ?_⟩ | refine ⟨(by kernel_rfl : drawOk _ _ = true), ?_⟩ | refine ⟨fun (h : gtrue _) => by first | assumption | exact absurd (Eq.trans (Eq.symm h) (by assumption) : true = false) Bool.noConfusion, ?_⟩ | refine ⟨fun h => (absurd (Eq.trans (Eq.symm h) (by assumption) : true = false) Bool.noConfusion : False), ?_⟩ | refine ⟨_, w64 (by (show (_ : Prop)); first | omega | ((try dsimp only at *); (try simp only [lns] at *); omega)), ?_⟩ | refine ⟨fun _ => ⟨by (show (_ : Prop)); first | omega | ((try dsimp only at *); (try simp only [lns] at *); omega), by (show (_ : Prop)); first | omega | ((try dsimp only at *); (try simp only [lns] at *); omega), by (show (_ : Prop)); first | omega | ((try dsimp only at *); (try simp only [lns] at *); omega)⟩, ?_⟩ | refine ⟨by (show (_ : Prop)); first | omega | ((try dsimp only at *); (try simp only [lns] at *); omega), ?_⟩ | refine ⟨fun h => ⟨by (show (_ : Prop)); first | omega | ((try dsimp only at *); (try simp only [lns] at *); omega), by (show (_ : Prop)); first | omega | ((try dsimp only at *); (try simp only [lns] at *); omega)⟩, ?_⟩ | refine ⟨fun (r : List AV) hr c hc => by simp [encS] at hr; (try subst hr); simp at hc; (try subst hc); rfl, ?_⟩ | refine ⟨noOwn (by rfl), ?_⟩)
  refine loop_rule (fun i : Nat => ⟨[(0, ⟨none, .rd 4 (t.map encI)⟩), (1, ⟨none, .rd 4 (t.map encI)⟩), (5, ⟨none, .int .i64 i⟩)], [], 0⟩)
    (fun i => i ≤ t.length) (fun i => t.length - i) 0 ?_ (by omega) ?_
  · (refine ⟨?_, ?_, rfl⟩ <;> repeat' (first | exact rfl | exact trivial | refine ⟨?_, ?_⟩ | fail) <;> (conv => whnf))
  intro i hi
  have hi : i ≤ t.length := hi
  (conv => whnf); refine ⟨fun h6 => ?_, fun h6 => ?_⟩
  · have h6 : i < t.length := by simpa using h6
    obtain ⟨b, hb⟩ := get_lt h6
    repeat ((conv => whnf); first | refine ⟨fun h => h, ?_⟩ | refine ⟨(by kernel_rfl : drawOk _ _ = true), ?_⟩ | refine ⟨fun (h : gtrue _) => by first | assumption | exact absurd (Eq.trans (Eq.symm h) (by assumption) : true = false) Bool.noConfusion, ?_⟩ | refine ⟨fun h => (absurd (Eq.trans (Eq.symm h) (by assumption) : true = false) Bool.noConfusion : False), ?_⟩ | refine ⟨_, w64 (by (show (_ : Prop)); first | omega | ((try dsimp only at *); (try simp only [lns] at *); omega)), ?_⟩ | refine ⟨fun _ => ⟨by (show (_ : Prop)); first | omega | ((try dsimp only at *); (try simp only [lns] at *); omega), by (show (_ : Prop)); first | omega | ((try dsimp only at *); (try simp only [lns] at *); omega), by (show (_ : Prop)); first | omega | ((try dsimp only at *); (try simp only [lns] at *); omega)⟩, ?_⟩ | refine ⟨by (show (_ : Prop)); first | omega | ((try dsimp only at *); (try simp only [lns] at *); omega), ?_⟩ | refine ⟨fun h => ⟨by (show (_ : Prop)); first | omega | ((try dsimp only at *); (try simp only [lns] at *); omega), by (show (_ : Prop)); first | omega | ((try dsimp only at *); (try simp only [lns] at *); omega)⟩, ?_⟩ | refine ⟨fun (r : List AV) hr c hc => by simp [encS] at hr; (try subst hr); simp at hc; (try subst hc); rfl, ?_⟩ | refine ⟨noOwn (by rfl), ?_⟩ | refine ⟨encI b, fun _ => ⟨by omega, by simp [hb]⟩, ?_⟩ | refine ⟨b, rfl, fun _ => trivial, ?_⟩)
    conv => whnf
    refine ⟨fun h => absurd h (by decide), fun _ => ?_⟩
    repeat ((conv => whnf); first | refine ⟨fun h => h, ?_⟩ | refine ⟨(by kernel_rfl : drawOk _ _ = true), ?_⟩ | refine ⟨fun (h : gtrue _) => by first | assumption | exact absurd (Eq.trans (Eq.symm h) (by assumption) : true = false) Bool.noConfusion, ?_⟩ | refine ⟨fun h => (absurd (Eq.trans (Eq.symm h) (by assumption) : true = false) Bool.noConfusion : False), ?_⟩ | refine ⟨_, w64 (by (show (_ : Prop)); first | omega | ((try dsimp only at *); (try simp only [lns] at *); omega)), ?_⟩ | refine ⟨fun _ => ⟨by (show (_ : Prop)); first | omega | ((try dsimp only at *); (try simp only [lns] at *); omega), by (show (_ : Prop)); first | omega | ((try dsimp only at *); (try simp only [lns] at *); omega), by (show (_ : Prop)); first | omega | ((try dsimp only at *); (try simp only [lns] at *); omega)⟩, ?_⟩ | refine ⟨by (show (_ : Prop)); first | omega | ((try dsimp only at *); (try simp only [lns] at *); omega), ?_⟩ | refine ⟨fun h => ⟨by (show (_ : Prop)); first | omega | ((try dsimp only at *); (try simp only [lns] at *); omega), by (show (_ : Prop)); first | omega | ((try dsimp only at *); (try simp only [lns] at *); omega)⟩, ?_⟩ | refine ⟨fun (r : List AV) hr c hc => by simp [encS] at hr; (try subst hr); simp at hc; (try subst hc); rfl, ?_⟩ | refine ⟨noOwn (by rfl), ?_⟩)
    refine again (i + 1) ?_ h6 (by first | omega | (simp; done) | (simp; omega))
    (refine ⟨?_, ?_, rfl⟩ <;> repeat' (first | exact rfl | exact trivial | refine ⟨?_, ?_⟩ | fail) <;> (conv => whnf))
  · conv => whnf
    exact ⟨trivial, rfl⟩
theorem ok_laws_eqItemS : ConOk Try.prog 40 c_laws_eqItemS := meets_ok (tabT _ _) (FOk.cons ok_laws_eqItem FOk.nil) mixed Try.func40 rfl Try.call40 (by decide) (by kernel_rfl) m_laws_eqItemS (by intro _ (y : Tr) _; exact ⟨by simp [c_laws_eqItemS, con, AV.noRd, noRdCells, noRdRows, noRdRows_map', encS, encI], by simp [c_laws_eqItemS, con, AV.noRd, noRdCells, noRdRows, noRdRows_map', encS, encI]⟩) (by intro (y : Tr) _; first | (simp [c_laws_eqItemS, con, AV.free, freeCells, freeRows, freeRows_map, encS, encI]; done) | (obtain ⟨_, _⟩ := y; simp [c_laws_eqItemS, con, AV.free, freeCells, freeRows, freeRows_map, encS, encI]; done) | (obtain ⟨_, _, _⟩ := y; simp [c_laws_eqItemS, con, AV.free, freeCells, freeRows, freeRows_map, encS, encI]; done))
noncomputable def c_laws_eqTree : PCon := con [mS 4, mS 4] true Tr (fun t => [rdT t, rdT t]) smT (fun _ => .bool true)
noncomputable def E_laws_eqTree : Env := ⟨lookup tyTab, lookup [(40, c_laws_eqItemS)], [0, 1, 2, 3, 4, 10]⟩
set_option maxRecDepth 100000 in
set_option maxHeartbeats 4000000 in
theorem m_laws_eqTree : Meets E_laws_eqTree (codeOf Try.f18) Try.f18.results.toList c_laws_eqTree := by
  intro (t : Tr) hs
  refine ⟨trivial, ?_⟩
  conv => whnf
  refine ⟨t, rfl, fun _ => hs, ?_⟩
  conv => whnf
  refine ⟨fun h => absurd h (by decide), fun _ => ?_⟩
  conv => whnf
  exact ⟨trivial, rfl⟩
theorem ok_laws_eqTree : ConOk Try.prog 18 c_laws_eqTree := meets_ok (tabT _ _) (FOk.cons ok_laws_eqItemS FOk.nil) mixed Try.func18 rfl Try.call18 (by decide) (by kernel_rfl) m_laws_eqTree (by intro _ (y : Tr) _; exact ⟨by simp [c_laws_eqTree, con, AV.noRd, noRdCells, noRdRows, noRdRows_map', encS, encI], by simp [c_laws_eqTree, con, AV.noRd, noRdCells, noRdRows, noRdRows_map', encS, encI]⟩) (by intro (y : Tr) _; first | (simp [c_laws_eqTree, con, AV.free, freeCells, freeRows, freeRows_map, encS, rdT, encI]; done) | (obtain ⟨_, _⟩ := y; simp [c_laws_eqTree, con, AV.free, freeCells, freeRows, freeRows_map, encS, rdT, encI]; done) | (obtain ⟨_, _, _⟩ := y; simp [c_laws_eqTree, con, AV.free, freeCells, freeRows, freeRows_map, encS, rdT, encI]; done))
noncomputable def c_laws_FnExactHeaviest : PCon := con [mS 4] true Tr (fun t => [rdT t]) (fun x => x.length ≤ 9223372036854775807 ∧ ∀ y, y ∈ x → y.path.length ≤ 9223372036854775807 ∧ y.data.length ≤ 9223372036854775807) (fun _ => .bool true)
noncomputable def E_laws_FnExactHeaviest : Env := ⟨lookup tyTab, lookup [(14, c_laws_szTree), (15, c_spec_Heaviest), (16, c_laws_toTree), (17, c_impl_Heaviest), (18, c_laws_eqTree)], [0, 1, 2, 3, 4, 5, 6, 11, 21, 26]⟩
set_option maxRecDepth 100000 in
set_option maxHeartbeats 4000000 in
theorem m_laws_FnExactHeaviest : Meets E_laws_FnExactHeaviest (codeOf Try.f5) Try.f5.results.toList c_laws_FnExactHeaviest := by
  intro (t : Tr) hs
  refine ⟨trivial, ?_⟩
  conv => whnf
  refine ⟨(t, 1048576), rfl, fun _ => ⟨by show (0:Int) ≤ 1048576; decide, by show (1048576:Int) ≤ 4194304; decide, hs⟩, ?_⟩
  (conv => whnf); refine ⟨fun h1 => ?_, fun h1 => ?_⟩
  · conv => whnf
    exact ⟨trivial, rfl⟩
  have h1 : ¬ szR 1048576 (szT t) < 0 := by simpa using h1
  have hsm : smT t := szT_sm (n := 1048576) (by have := szR_ok h1; omega) (by omega)
  conv => whnf
  refine ⟨t, rfl, fun _ => hsm, ?_⟩
  conv => whnf
  refine ⟨t, by refine argT ?_; simp [rdI], fun _ => hsm, ?_⟩
  conv => whnf
  refine ⟨t, rfl, fun _ => hsm, ?_⟩
  conv => whnf
  refine ⟨t, by refine argT ?_; simp [rdI], fun _ => hsm, ?_⟩
  conv => whnf
  refine ⟨fun h => ?_, fun _ => ?_⟩
  · have h : (!(heaviest t == heaviest t)) = true := h
    simp at h
  conv => whnf
  refine ⟨t, rfl, fun _ => hsm, ?_⟩
  conv => whnf
  refine ⟨t, by refine argTT ?_ ?_ <;> simp [rdI], fun _ => hsm, ?_⟩
  repeat ((conv => whnf); first | refine ⟨fun h => h, ?_⟩ | refine ⟨(by kernel_rfl : drawOk _ _ = true), ?_⟩ | refine ⟨fun (h : gtrue _) => by first | assumption | exact absurd (Eq.trans (Eq.symm h) (by assumption) : true = false) Bool.noConfusion, ?_⟩ | refine ⟨fun h => (absurd (Eq.trans (Eq.symm h) (by assumption) : true = false) Bool.noConfusion : False), ?_⟩ | refine ⟨_, w64 (by (show (_ : Prop)); first | omega | ((try dsimp only at *); (try simp only [lns] at *); omega)), ?_⟩ | refine ⟨fun _ => ⟨by (show (_ : Prop)); first | omega | ((try dsimp only at *); (try simp only [lns] at *); omega), by (show (_ : Prop)); first | omega | ((try dsimp only at *); (try simp only [lns] at *); omega), by (show (_ : Prop)); first | omega | ((try dsimp only at *); (try simp only [lns] at *); omega)⟩, ?_⟩ | refine ⟨by (show (_ : Prop)); first | omega | ((try dsimp only at *); (try simp only [lns] at *); omega), ?_⟩ | refine ⟨fun h => ⟨by (show (_ : Prop)); first | omega | ((try dsimp only at *); (try simp only [lns] at *); omega), by (show (_ : Prop)); first | omega | ((try dsimp only at *); (try simp only [lns] at *); omega)⟩, ?_⟩ | refine ⟨fun (r : List AV) hr c hc => by simp [encS] at hr; (try subst hr); simp at hc; (try subst hc); rfl, ?_⟩ | refine ⟨noOwn (by rfl), ?_⟩)
  conv => whnf
  refine ⟨fun h => absurd h (by decide), fun _ => ?_⟩
  conv => whnf
  exact ⟨trivial, rfl⟩
theorem ok_laws_FnExactHeaviest : ConOk Try.prog 5 c_laws_FnExactHeaviest := meets_ok (tabT _ _) (FOk.cons ok_laws_szTree (FOk.cons ok_spec_Heaviest (FOk.cons ok_laws_toTree (FOk.cons ok_impl_Heaviest (FOk.cons ok_laws_eqTree FOk.nil))))) mixed Try.func5 rfl Try.call5 (by decide) (by kernel_rfl) m_laws_FnExactHeaviest (by intro _ (y : Tr) _; exact ⟨by simp [c_laws_FnExactHeaviest, con, AV.noRd, noRdCells, noRdRows, noRdRows_map', encS, encI], by simp [c_laws_FnExactHeaviest, con, AV.noRd, noRdCells, noRdRows, noRdRows_map', encS, encI]⟩) (by intro (y : Tr) _; first | (simp [c_laws_FnExactHeaviest, con, AV.free, freeCells, freeRows, freeRows_map, encS, rdT, encI]; done) | (obtain ⟨_, _⟩ := y; simp [c_laws_FnExactHeaviest, con, AV.free, freeCells, freeRows, freeRows_map, encS, rdT, encI]; done) | (obtain ⟨_, _, _⟩ := y; simp [c_laws_FnExactHeaviest, con, AV.free, freeCells, freeRows, freeRows_map, encS, rdT, encI]; done))
end Go.GH

set_option linter.unusedVariables false
set_option linter.unusedSimpArgs false
namespace Go.GH
open Go Go.Proofs
open Go.ChangeShapes Go.WideShapes Go.ChangeAt Go.RowKit
theorem items_of {xs : List (List AV)} (h : ∀ r, r ∈ xs → ofL [.str, .int .i64, .str, .int .i64] r) : ∃ t : Tr, xs = t.map encI ∧ ∀ y, y ∈ t → y.path.length ≤ 9223372036854775807 ∧ y.data.length ≤ 9223372036854775807 := by
  induction xs with
  | nil => exact ⟨[], rfl, by simp⟩
  | cons r xs ih =>
    obtain ⟨t, rfl, ht⟩ := ih fun r hr => h r (by simp [hr])
    obtain ⟨c0, r0, rfl, ⟨s0, rfl, b0⟩, c1, r1, rfl, ⟨n1, rfl, _⟩, c2, r2, rfl, ⟨s2, rfl, b2⟩, c3, r3, rfl, ⟨n3, rfl, _⟩, e⟩ := h r (by simp)
    have e : r3 = [] := e
    subst e
    refine ⟨⟨s0, n1, s2, n3⟩ :: t, rfl, fun y hy => ?_⟩
    rcases List.mem_cons.1 hy with rfl | hy
    · exact ⟨b0, b2⟩
    · exact ht y hy
set_option maxRecDepth 100000 in
theorem sh_Tree : shTy Try.prog 12 29 = some [.slice 4 [.str, .int .i64, .str, .int .i64]] := by kernel_rfl
set_option maxRecDepth 100000 in
theorem arg_Tree {a : AV} (h : ArgOk Try.prog 12 29 a) : ∃ t : Tr, a = rdT t ∧ t.length ≤ 9223372036854775807 ∧ ∀ y, y ∈ t → y.path.length ≤ 9223372036854775807 ∧ y.data.length ≤ 9223372036854775807 := by
  obtain ⟨sh, avs, h1, h2, h3⟩ := h
  rw [sh_Tree] at h1
  obtain rfl := Option.some.inj h1
  rw [Try.underlying29] at h3
  obtain ⟨c, r, rfl, ⟨xs, rfl, hl, hx⟩, e⟩ := h2
  have e : r = [] := e
  subst e
  obtain ⟨t, rfl, ht⟩ := items_of hx
  exact ⟨t, h3, by simpa using hl, ht⟩
set_option maxRecDepth 100000 in
theorem sh_Str : shTy Try.prog 12 9 = some [.str] := by kernel_rfl
set_option maxRecDepth 100000 in
theorem arg_Str {a : AV} (h : ArgOk Try.prog 12 9 a) : ∃ p : Str, a = .str p ∧ p.length ≤ 9223372036854775807 := by
  obtain ⟨sh, avs, h1, h2, h3⟩ := h
  rw [sh_Str] at h1
  obtain rfl := Option.some.inj h1
  rw [Try.underlying9] at h3
  obtain ⟨c, r, rfl, ⟨s, rfl, hl⟩, e⟩ := h2
  have e : r = [] := e
  subst e
  have h3 : [AV.str s] = [a] := h3
  exact ⟨s, (List.cons.inj h3).1.symm, hl⟩
end Go.GH

set_option linter.unusedVariables false
set_option linter.unusedSimpArgs false
namespace Go.GH
open Go
def withinP (p q : Str) : Bool := pathOk p && pathOk q && (names q).isPrefixOf (names p)
theorem splitBy_head {p : Str} (h : (splitBy 47 p).headD [] = []) (h2 : 2 ≤ (splitBy 47 p).length) : ∃ r, p = 47 :: r ∧ splitBy 47 r = (splitBy 47 p).drop 1 := by
  cases p with
  | nil => simp [splitBy] at h2
  | cons x r =>
    by_cases hx : x = 47
    · subst hx; exact ⟨r, rfl, by simp [splitBy]⟩
    · simp only [splitBy, if_neg hx] at h
      split at h
      · simp at h
      · simp at h
theorem cat_split : ∀ (s : Str), cat (splitBy 47 s) = 47 :: s
  | [] => rfl
  | x :: r => by
    unfold splitBy
    have ih := cat_split r
    split
    · rename_i hx; rw [cat, ih, hx]; rfl
    · have := splitBy_ne 47 r
      cases h : splitBy 47 r with
      | nil => exact absurd h this
      | cons y t =>
        rw [h] at ih
        simp only [cat, List.cons_append] at ih ⊢
        rw [List.cons.injEq] at ih
        rw [← ih.2]
theorem cat_names {p : Str} (h : pathOk p = true) (h2 : (p == sl) = false) : p = cat (names p) ∧ names p ≠ [] := by
  have hn : names p = (splitBy 47 p).drop 1 := by simp [names, h, h2]
  simp only [pathOk, h2, Bool.false_or, Bool.and_eq_true, inB, decide_eq_true_eq, beq_iff_eq] at h
  obtain ⟨⟨⟨h3, h4⟩, h5⟩, h6⟩ := h
  obtain ⟨r, hr, hs⟩ := splitBy_head h5 (by omega)
  rw [hn, ← hs]
  exact ⟨by rw [cat_split, hr], splitBy_ne _ _⟩
theorem names_no {p : Str} : ∀ a, a ∈ names p → ∀ x, x ∈ a → x ≠ 47 := fun a ha => nameOk_no (List.all_eq_true.1 names_all a ha)
theorem names_sl : names sl = [] := by simp [names]
theorem withinP_impl {p q : Str} (hp : pathOk p = true) (hq : pathOk q = true) : ((p == q) || (q == sl) || (q ++ sl).isPrefixOf p) = withinP p q := by
  have e0 : withinP p q = (names q).isPrefixOf (names p) := by simp [withinP, hp, hq]
  rw [e0]
  by_cases h1 : (p == q) = true
  · have : p = q := by simpa using h1
    subst this
    rw [h1]
    simp
  have h1 : (p == q) = false := by simpa using h1
  by_cases h2 : (q == sl) = true
  · rw [h2]
    have : q = sl := by simpa using h2
    subst this
    rw [names_sl]
    simp
  have h2 : (q == sl) = false := by simpa using h2
  obtain ⟨cq, nq⟩ := cat_names hq h2
  rw [h1, h2, Bool.false_or, Bool.false_or]
  by_cases h3 : (p == sl) = true
  · have : p = sl := by simpa using h3
    subst this
    rw [names_sl]
    have hl : 1 ≤ q.length := by
      rw [cq, cat_len]
      have := List.length_pos_iff.2 nq
      omega
    have e1 : (q ++ sl).isPrefixOf sl = false := by
      rw [Bool.eq_false_iff]
      intro h
      have := (List.isPrefixOf_iff_prefix.1 h).length_le
      simp [sl] at this
      subst this
      simp at hl
    rw [e1]
    cases hn : names q with
    | nil => exact absurd hn nq
    | cons x r => rfl
  have h3 : (p == sl) = false := by simpa using h3
  obtain ⟨cp, np⟩ := cat_names hp h3
  have sp := split_cat (names_no (p := p)) np
  have sq := split_cat (names_no (p := q)) nq
  rw [← cp] at sp
  rw [← cq] at sq
  rw [Bool.eq_iff_iff, List.isPrefixOf_iff_prefix, List.isPrefixOf_iff_prefix]
  constructor
  · rintro ⟨t, ht⟩
    have ht : q ++ 47 :: t = p := by rw [← ht]; simp [sl]
    have sp2 : splitBy 47 (q ++ 47 :: t) = [] :: names p := by rw [ht]; exact sp
    rw [split_cons, sq, List.cons_append, List.cons.injEq] at sp2
    exact ⟨_, sp2.2⟩
  · rintro ⟨r, hr⟩
    cases r with
    | nil =>
      rw [List.append_nil] at hr
      rw [← hr, ← cq] at cp
      subst cp
      simp at h1
    | cons a r =>
      rw [← hr, cat_append, ← cq] at cp
      refine ⟨a ++ cat r, ?_⟩
      rw [cp]
      simp [cat, sl]
theorem isPrefix_take {a b : List Str} : (decide ((b.length : Int) ≤ a.length) && (a.take b.length == b)) = b.isPrefixOf a := by
  rw [Bool.eq_iff_iff, List.isPrefixOf_iff_prefix, List.prefix_iff_eq_take]
  simp only [Bool.and_eq_true, decide_eq_true_eq, beq_iff_eq]
  constructor
  · rintro ⟨_, h⟩; exact h.symm
  · intro h
    refine ⟨?_, h.symm⟩
    have := congrArg List.length h
    simp at this
    omega
theorem argRR {s s2 : Nat} {x x' y y' : List (List AV)} (h1 : x = x') (h2 : y = y') : [AV.rd s x, AV.rd s2 y] = [AV.rd s x', AV.rd s2 y'] := by rw [h1, h2]
theorem args_two {args : Array Value} {p q : Str} (hsz : args.size = 2) (h0 : args.getD 0 undef = bytesV p) (h1 : args.getD 1 undef = bytesV q) : args = #[.string (toB p), .string (toB q)] := by
  apply Array.ext
  · simp [hsz]
  · intro i hi1 hi2
    have : i = 0 ∨ i = 1 := by omega
    rcases this with rfl | rfl
    · rw [Array.getD_eq_getD_getElem?, Array.getElem?_eq_getElem hi1] at h0; simpa [bytesV, toB] using h0
    · rw [Array.getD_eq_getD_getElem?, Array.getElem?_eq_getElem hi1] at h1; simpa [bytesV, toB] using h1
theorem names_sm {p : Str} : smL (names p) := by
  refine ⟨by have := names_len (p := p); omega, fun s hs => ?_⟩
  have := nameOk_len (List.all_eq_true.1 (names_all (p := p)) s hs)
  omega
theorem smL_take {l : List Str} {k : Nat} (h : smL l) : smL (l.take k) := by
  refine ⟨by have := h.1; simp; omega, fun s hs => h.2 s (List.mem_of_mem_take hs)⟩
theorem argTs {s : Nat} {x x' : List (List AV)} {p : Str} (h1 : x = x') : [AV.agg [AV.rd s x], .str p] = [AV.agg [AV.rd s x'], .str p] := by rw [h1]
def useP (t : Tr) (p : Str) : Bool × Nat × Nat :=
  if treeOk t && (treeGet t p).isSome then (true, (t.filter fun x => x.kind != 2 && withinP x.path p).length, ((t.filter fun x => x.kind != 2 && withinP x.path p).map fun x => x.data.length).sum) else (false, 0, 0)
def useRes (t : Tr) (p : Str) : AV := .tup [.int .i64 (useP t p).2.1, .int .i64 (useP t p).2.2, .bool (useP t p).1]
def lyP (p : Str) (x : It) : Bool := x.kind != 2 && withinP x.path p
def cnt (p : Str) (l : Tr) : Nat := (l.filter (lyP p)).length
def byt (p : Str) (l : Tr) : Nat := ((l.filter (lyP p)).map fun x => x.data.length).sum
theorem cnt_hit {p : Str} {l : Tr} {i : Nat} {x : It} (h : l[i]? = some x) (hx : lyP p x = true) : cnt p (l.take (i + 1)) = cnt p (l.take i) + 1 := by
  unfold cnt; rw [take_succ' h, List.filter_append]; simp [hx]
theorem cnt_pass {p : Str} {l : Tr} {i : Nat} {x : It} (h : l[i]? = some x) (hx : lyP p x = false) : cnt p (l.take (i + 1)) = cnt p (l.take i) := by
  unfold cnt; rw [take_succ' h, List.filter_append]; simp [hx]
theorem byt_hit {p : Str} {l : Tr} {i : Nat} {x : It} (h : l[i]? = some x) (hx : lyP p x = true) : byt p (l.take (i + 1)) = byt p (l.take i) + x.data.length := by
  unfold byt; rw [take_succ' h, List.filter_append]; simp [hx]
theorem byt_pass {p : Str} {l : Tr} {i : Nat} {x : It} (h : l[i]? = some x) (hx : lyP p x = false) : byt p (l.take (i + 1)) = byt p (l.take i) := by
  unfold byt; rw [take_succ' h, List.filter_append]; simp [hx]
theorem cnt_le {p : Str} {l : Tr} {i : Nat} : cnt p (l.take i) ≤ i := by
  unfold cnt
  have := List.length_filter_le (lyP p) (l.take i)
  simp at this
  omega
theorem byt_le {p : Str} {l : Tr} (h : ∀ x, x ∈ l → x.data.length ≤ 4194304) {i : Nat} : byt p (l.take i) ≤ i * 4194304 := by
  unfold byt
  generalize 4194304 = B at *
  have h1 : ∀ (m : Tr), (∀ x, x ∈ m → x.data.length ≤ B) → (m.map fun x => x.data.length).sum ≤ m.length * B := by
    intro m hm
    induction m with
    | nil => exact Nat.zero_le _
    | cons a r ih =>
      have := ih fun x hx => hm x (by simp [hx])
      have := hm a (by simp)
      simp only [List.map_cons, List.sum_cons, List.length_cons, Nat.add_mul]
      omega
  have h2 := h1 ((l.take i).filter (lyP p)) fun x hx => h x (List.mem_of_mem_take (List.mem_filter.1 hx).1)
  have h3 := List.length_filter_le (lyP p) (l.take i)
  simp at h3
  have h4 : ((l.take i).filter (lyP p)).length * B ≤ i * B := Nat.mul_le_mul_right _ (by omega)
  omega
theorem use_no {t : Tr} {p : Str} (h : (treeOk t && (treeGet t p).isSome) = false) : useRes t p = .tup [.int .i64 0, .int .i64 0, .bool false] := by
  simp [useRes, useP, h]
theorem use_yes {t : Tr} {p : Str} (h : (treeOk t && (treeGet t p).isSome) = true) : useRes t p = .tup [.int .i64 (cnt p t), .int .i64 (byt p t), .bool true] := by
  simp only [useRes, useP, h, if_true, cnt, byt]
  rfl
end Go.GH

set_option linter.unusedVariables false
set_option linter.unusedSimpArgs false
namespace Go.GH
open Go
structure OpR where
  kind : Int
  path : Str
  to : Str
  at_ : Int
  data : Str
  time : Int
def encO (o : OpR) : List AV := [.int .i64 o.kind, .str o.path, .str o.to, .int .i64 o.at_, .str o.data, .int .i64 o.time]
def OpR.zero : OpR := ⟨0, [], [], 0, [], 0⟩
theorem rdO (l : List OpR) : toRdRows (l.map encO) = l.map encO := toRdRows_map (fun _ => rfl) l
def differ (x : It) (o : Option It) : Bool := match o with
  | none => true
  | some y => y.kind != x.kind || ((x.kind == 3) && !(y.data == x.data))
def goes (x : It) (b : Tr) : Bool := differ x (treeGet b x.path)
def newO (y : It) : OpR := if y.kind == 2 then ⟨0, y.path, [], 0, [], 0⟩ else if y.kind == 3 then ⟨2, y.path, [], 0, y.data, y.time⟩ else ⟨1, y.path, [], 0, y.data, y.time⟩
def goneO (x : It) : OpR := ⟨if x.kind == 2 then 7 else 6, x.path, [], 0, [], 0⟩
def stepO (a b : Tr) (y : It) : List OpR :=
  if !(treeGet a y.path).isSome || goes ((treeGet a y.path).getD It.none) b then [newO y]
  else if !(((treeGet a y.path).getD It.none).data == y.data) then [⟨3, y.path, [], 0, y.data, y.time⟩, ⟨4, y.path, [], y.data.length, [], y.time⟩]
  else if ((treeGet a y.path).getD It.none).time != y.time then [⟨5, y.path, [], 0, [], y.time⟩] else []
def downO (a b : Tr) (l : Tr) : List OpR := ((l.filter fun x => goes x b).map goneO)
def delta (a b : Tr) : List OpR := if treeOk a && treeOk b then downO a b a.reverse ++ b.flatMap (stepO a b) else []
theorem strLt_trans : ∀ {a b c : Str}, strLt a b = true → strLt b c = true → strLt a c = true
  | [], [], _, h, _ => by cases h
  | [], _ :: _, [], _, h => by cases h
  | [], _ :: _, _ :: _, _, _ => rfl
  | _ :: _, [], _, h, _ => by cases h
  | _ :: _, _ :: _, [], _, h => by cases h
  | x :: a, y :: b, z :: c, h1, h2 => by
    simp only [strLt, Bool.or_eq_true, Bool.and_eq_true, decide_eq_true_eq, beq_iff_eq] at h1 h2 ⊢
    rcases h1 with h1 | ⟨rfl, h1⟩
    · rcases h2 with h2 | ⟨rfl, h2⟩
      · exact .inl (UInt8.lt_trans h1 h2)
      · exact .inl h1
    · rcases h2 with h2 | ⟨rfl, h2⟩
      · exact .inl h2
      · exact .inr ⟨rfl, strLt_trans h1 h2⟩
section
variable {t : Tr}
theorem treeOk_chk (h : treeOk t = true) {i : Nat} (hi : i < t.length) : chk t i = true := by
  rw [treeOk, Bool.and_eq_true] at h
  exact (chk_all (t := t)).1 h.2 i hi
theorem treeOk_len (h : treeOk t = true) : t.length ≤ 40 := by
  rw [treeOk, Bool.and_eq_true] at h
  simpa using h.1
theorem treeOk_get (h : treeOk t = true) {i : Nat} {x : It} (hx : t[i]? = some x) : itemOk x = true ∧ (i = 0 ∨ strLt (t.getD (i - 1) It.none).path x.path = true) ∧ dirAt t (above x.path) = true := by
  have := treeOk_chk h (lt_of_get hx)
  rw [chk_eq hx rfl] at this
  simp only [Bool.and_eq_true, Bool.or_eq_true, beq_iff_eq] at this
  exact ⟨this.1.1, this.1.2, this.2⟩
theorem treeOk_item (h : treeOk t = true) {x : It} (hx : x ∈ t) : itemOk x = true := by
  obtain ⟨i, hi⟩ := List.mem_iff_getElem?.1 hx
  exact (treeOk_get h hi).1
theorem treeOk_lt (h : treeOk t = true) : ∀ {j i : Nat} {x y : It}, t[i]? = some x → t[j]? = some y → i < j → strLt x.path y.path = true
  | 0, i, x, y, hx, hy, hij => by omega
  | j + 1, i, x, y, hx, hy, hij => by
    have hj := lt_of_get hy
    obtain ⟨z, hz⟩ := get_lt (l := t) (i := j) (by omega)
    have h1 : strLt z.path y.path = true := by
      have := (treeOk_get h hy).2.1
      rcases this with h0 | h0
      · omega
      · rw [Nat.add_sub_cancel, List.getD_eq_getElem?_getD, hz] at h0; exact h0
    rcases Nat.lt_or_ge i j with hi | hi
    · exact strLt_trans (treeOk_lt h hx hz hi) h1
    · have : i = j := by omega
      subst this
      rw [hx] at hz
      rw [Option.some.inj hz]
      exact h1
theorem treeOk_inj (h : treeOk t = true) {x y : It} (hx : x ∈ t) (hy : y ∈ t) (e : x.path = y.path) : x = y := by
  obtain ⟨i, hi⟩ := List.mem_iff_getElem?.1 hx
  obtain ⟨j, hj⟩ := List.mem_iff_getElem?.1 hy
  rcases Nat.lt_trichotomy i j with hij | rfl | hij
  · have := treeOk_lt h hi hj hij
    rw [e, strLt_irrefl] at this; cases this
  · rw [hi] at hj; exact Option.some.inj hj
  · have := treeOk_lt h hj hi hij
    rw [e, strLt_irrefl] at this; cases this
theorem item_path {x : It} (h : itemOk x = true) : (x.path == sl) = false := by
  unfold itemOk at h
  simp only [Bool.and_eq_true, Bool.not_eq_true'] at h
  exact h.1.1.2
theorem treeGet_find {p : Str} (h : (p == sl) = false) : treeGet t p = t.find? fun x => x.path == p := by
  rw [treeGet, if_neg (by simp [h])]
theorem treeGet_mem (h : treeOk t = true) {x : It} (hx : x ∈ t) : treeGet t x.path = some x := by
  rw [treeGet_find (item_path (treeOk_item h hx))]
  cases hf : t.find? fun z => z.path == x.path with
  | none =>
    have := List.find?_eq_none.1 hf x hx
    simp at this
  | some y =>
    have h1 := List.find?_some hf
    have h2 := List.mem_of_find?_eq_some hf
    rw [treeOk_inj h h2 hx (by simpa using h1)]
end
theorem argIT {s : Nat} {c : List AV} {x x' : List (List AV)} (h1 : x = x') : [AV.agg c, AV.agg [AV.rd s x]] = [AV.agg c, AV.agg [AV.rd s x']] := by rw [h1]
theorem argT2 {s s2 : Nat} {x x' y y' : List (List AV)} (h1 : x = x') (h2 : y = y') : [AV.agg [AV.rd s x], AV.agg [AV.rd s2 y]] = [AV.agg [AV.rd s x'], AV.agg [AV.rd s2 y']] := by rw [h1, h2]
theorem same_data {a b : Tr} (ha : treeOk a = true) (hb : treeOk b = true) {x y : It} (hx : x ∈ a) (hy : y ∈ b) (e : x.path = y.path) (h : goes x b = false) : (!(x.data == y.data)) = ((y.kind == 1) && !(x.data == y.data)) := by
  have hg : treeGet b x.path = some y := by rw [e]; exact treeGet_mem hb hy
  have ix := treeOk_item ha hx
  have iy := treeOk_item hb hy
  simp only [goes, hg, differ, Bool.or_eq_false_iff, Bool.and_eq_false_iff, bne_eq_false_iff_eq, Bool.not_eq_false', beq_eq_false_iff_ne, beq_iff_eq] at h
  obtain ⟨hk, hd⟩ := h
  by_cases h1 : y.kind = 1
  · simp [h1]
  have e1 : (y.kind == 1) = false := by simpa using h1
  rw [e1, Bool.false_and]
  unfold itemOk at ix iy
  simp only [Bool.and_eq_true, inB, decide_eq_true_eq] at ix iy
  by_cases h2 : y.kind = 2
  · have hx2 : x.kind = 2 := by omega
    simp [h2, hx2] at ix iy
    rw [ix.2.1, iy.2.1]; rfl
  · have h3 : y.kind = 3 := by omega
    rcases hd with hd | hd
    · omega
    · rw [hd]; simp
theorem goes_find {a b : Tr} (ha : treeOk a = true) {x : It} (hx : x ∈ a) : differ x (b.find? fun z => z.path == x.path) = goes x b := by
  rw [goes, treeGet_find (item_path (treeOk_item ha hx))]
theorem find_at {a b : Tr} (ob : treeOk b = true) {y : It} (hy : y ∈ b) :
    (treeGet a y.path = none ∧ fnd (fun z => z.path == y.path) a = -1) ∨ ∃ x, treeGet a y.path = some x ∧ x ∈ a ∧ x.path = y.path ∧ 0 ≤ fnd (fun z => z.path == y.path) a ∧ a[(fnd (fun z => z.path == y.path) a).toNat]? = some x := by
  rw [treeGet_find (item_path (treeOk_item ob hy))]
  cases hq : a.any fun z => z.path == y.path with
  | false => exact .inl ⟨any_find hq, fnd_none hq⟩
  | true =>
    obtain ⟨x, h1, h2⟩ := fnd_get hq
    refine .inr ⟨x, h2, List.mem_of_find?_eq_some h2, ?_, ?_, h1⟩
    · have := List.find?_some h2; simpa using this
    · rw [fnd, if_pos hq]; omega
theorem stepO_sm (a b : Tr) (y : It) : (stepO a b y).length ≤ 2 := by
  unfold stepO
  split
  · simp
  · split
    · simp
    · split <;> simp
theorem take_flat {α β : Type} {f : α → List β} {l : List α} {i : Nat} {x : α} (h : l[i]? = some x) : (l.take (i + 1)).flatMap f = (l.take i).flatMap f ++ f x := by
  rw [take_succ' h, List.flatMap_append]; simp
theorem flat_len {α β : Type} {f : α → List β} (hf : ∀ x, (f x).length ≤ 2) : ∀ (l : List α), (l.flatMap f).length ≤ 2 * l.length
  | [] => by simp
  | a :: r => by
    have := flat_len hf r
    have := hf a
    simp only [List.flatMap_cons, List.length_append, List.length_cons]
    omega
def back (t : Tr) (i : Nat) : Tr := (t.drop i).reverse
theorem back_at {t : Tr} {i : Nat} {x : It} (h : t[i]? = some x) : back t i = back t (i + 1) ++ [x] := by
  unfold back
  have hi := lt_of_get h
  rw [← List.getElem_cons_drop hi, List.reverse_cons]
  rw [List.getElem?_eq_getElem hi] at h
  rw [Option.some.inj h]
theorem downO_hit {a b l : Tr} {x : It} (h : goes x b = true) : downO a b (l ++ [x]) = downO a b l ++ [goneO x] := by simp [downO, h]
theorem downO_pass {a b l : Tr} {x : It} (h : goes x b = false) : downO a b (l ++ [x]) = downO a b l := by simp [downO, h]
theorem downO_len {a b l : Tr} : (downO a b l).length ≤ l.length := by
  unfold downO; rw [List.length_map]; exact List.length_filter_le _ _
theorem delta_len (a b : Tr) : (delta a b).length ≤ 120 := by
  unfold delta
  split
  · rename_i h
    rw [Bool.and_eq_true] at h
    have h1 := treeOk_len h.1
    have h2 := treeOk_len h.2
    have h3 := downO_len (a := a) (b := b) (l := a.reverse)
    have h4 := flat_len (stepO_sm a b) b
    rw [List.length_append]
    rw [List.length_reverse] at h3
    omega
  · simp
end Go.GH

set_option linter.unusedVariables false
set_option linter.unusedSimpArgs false
namespace Go.GH
open Go
def ltP (x y : It) : Prop := strLt x.path y.path = true
def srt (l : Tr) : Prop := l.Pairwise ltP
def dst (l : Tr) : Prop := l.Pairwise fun x y => x.path ≠ y.path
def leB (a b : It) : Bool := !strLt b.path a.path
def sortT (l : Tr) : Tr := l.mergeSort leB
theorem lt_ne {x y : It} (h : ltP x y) : x.path ≠ y.path := by
  intro e
  unfold ltP at h
  rw [e, strLt_irrefl] at h
  cases h
theorem srt_dst {l : Tr} (h : srt l) : dst l := List.Pairwise.imp (fun hh => lt_ne hh) h
theorem dst_perm {l m : Tr} (h : l.Perm m) : dst l ↔ dst m := h.pairwise_iff fun hh => Ne.symm hh
theorem leB_trans (a b c : It) (h1 : leB a b = true) (h2 : leB b c = true) : leB a c = true := by
  unfold leB at *
  simp only [Bool.not_eq_true'] at *
  cases h : strLt c.path a.path with
  | false => rfl
  | true =>
    rcases strLt_total b.path c.path with h3 | h3 | h3
    · rw [strLt_trans h3 h] at h1; cases h1
    · rw [h3, h] at h1; cases h1
    · rw [h3] at h2; cases h2
theorem leB_total (a b : It) : (leB a b || leB b a) = true := by
  unfold leB
  cases h : strLt b.path a.path with
  | false => rfl
  | true => rw [strLt_asymm _ _ h]; rfl
theorem sortT_perm (l : Tr) : (sortT l).Perm l := List.mergeSort_perm l leB
theorem sortT_len (l : Tr) : (sortT l).length = l.length := (sortT_perm l).length_eq
theorem le_lt {a b : It} (h1 : leB a b = true) (h2 : a.path ≠ b.path) : ltP a b := by
  unfold leB at h1
  rcases strLt_total a.path b.path with h | h | h
  · exact h
  · exact absurd h h2
  · rw [h] at h1; cases h1
theorem srt_of {l : Tr} (h1 : l.Pairwise fun a b => leB a b = true) (h2 : dst l) : srt l := by
  have := h1.and h2
  exact this.imp fun hh => le_lt hh.1 hh.2
theorem sortT_srt {l : Tr} (h : dst l) : srt (sortT l) := srt_of (List.pairwise_mergeSort leB_trans leB_total l) ((dst_perm (sortT_perm l)).2 h)
theorem srt_uniq {l m : Tr} (h1 : srt l) (h2 : srt m) (h : l.Perm m) : l = m := by
  refine h.eq_of_pairwise (fun a b _ _ hab hba => ?_) h1 h2
  rw [ltP, strLt_asymm _ _ hab] at hba
  cases hba
theorem sortT_is {l m : Tr} (hd : dst l) (h1 : m.Pairwise fun a b => leB a b = true) (h2 : m.Perm l) : m = sortT l :=
  srt_uniq (srt_of h1 ((dst_perm h2).2 hd)) (sortT_srt hd) (h2.trans (sortT_perm l).symm)
theorem argR {s : Nat} {x x' : List (List AV)} (h : x = x') : [AV.rd s x] = [AV.rd s x'] := by rw [h]
def putStep (x : It) (s : Tr × Bool) (y : It) : Tr × Bool :=
  let d := !s.2 && strLt x.path y.path
  (s.1 ++ (if d then [x] else []) ++ (if !(y.path == x.path) then [y] else []), d || s.2)
def putAt (l : Tr) (x : It) : Tr × Bool := l.foldl (putStep x) ([], false)
def putP (l : Tr) (x : It) : Tr := if (putAt l x).2 then (putAt l x).1 else (putAt l x).1 ++ [x]
theorem put_done {x : It} : ∀ {l out : Tr}, (∀ y, y ∈ l → y.path ≠ x.path) → l.foldl (putStep x) (out, true) = (out ++ l, true)
  | [], out, h => by simp
  | y :: l, out, h => by
    have hy : (y.path == x.path) = false := by simpa using h y (by simp)
    rw [List.foldl_cons]
    have : putStep x (out, true) y = (out ++ [y], true) := by simp [putStep, hy]
    rw [this, put_done fun z hz => h z (by simp [hz])]
    simp
theorem put_go {x : It} : ∀ {l out : Tr}, (∀ y, y ∈ l → y.path ≠ x.path) →
    (let s := l.foldl (putStep x) (out, false); if s.2 then s.1 else s.1 ++ [x]) = out ++ (l.takeWhile fun y => !strLt x.path y.path) ++ x :: l.dropWhile fun y => !strLt x.path y.path
  | [], out, h => by simp
  | y :: l, out, h => by
    have hy : (y.path == x.path) = false := by simpa using h y (by simp)
    rw [List.foldl_cons]
    cases hl : strLt x.path y.path with
    | true =>
      have : putStep x (out, false) y = (out ++ [x] ++ [y], true) := by simp [putStep, hy, hl]
      rw [this, put_done fun z hz => h z (by simp [hz])]
      simp [hl]
    | false =>
      have : putStep x (out, false) y = (out ++ [y], false) := by simp [putStep, hy, hl]
      rw [this, put_go fun z hz => h z (by simp [hz])]
      simp [hl]
theorem put_eq {l : Tr} {x : It} (h : ∀ y, y ∈ l → y.path ≠ x.path) : putP l x = (l.takeWhile fun y => !strLt x.path y.path) ++ x :: l.dropWhile fun y => !strLt x.path y.path := by
  have := put_go (out := []) h
  exact this
theorem put_perm {l : Tr} {x : It} (h : ∀ y, y ∈ l → y.path ≠ x.path) : (putP l x).Perm (x :: l) := by
  rw [put_eq h]
  refine List.perm_middle.trans ?_
  rw [List.takeWhile_append_dropWhile]
theorem take_while_all {p : It → Bool} : ∀ {l : Tr} {y : It}, y ∈ l.takeWhile p → p y = true
  | a :: l, y, h => by
    rw [List.takeWhile_cons] at h
    split at h
    · rcases List.mem_cons.1 h with rfl | h
      · assumption
      · exact take_while_all h
    · cases h
theorem drop_while_srt {x : It} : ∀ {l : Tr}, srt l → ∀ y, y ∈ l.dropWhile (fun y => !strLt x.path y.path) → ltP x y
  | [], _, y, h => by simp at h
  | a :: l, hs, y, h => by
    rw [List.dropWhile_cons] at h
    have hs' := List.pairwise_cons.1 hs
    split at h
    · exact drop_while_srt hs'.2 y h
    · rename_i hp
      have hxa : ltP x a := by simpa [ltP] using hp
      rcases List.mem_cons.1 h with rfl | h
      · exact hxa
      · exact strLt_trans hxa (hs'.1 y h)
theorem put_srt {l : Tr} {x : It} (h : ∀ y, y ∈ l → y.path ≠ x.path) (hs : srt l) : srt (putP l x) := by
  rw [put_eq h]
  have hsplit : srt ((l.takeWhile fun y => !strLt x.path y.path) ++ l.dropWhile fun y => !strLt x.path y.path) := by rw [List.takeWhile_append_dropWhile]; exact hs
  obtain ⟨h1, h2, h3⟩ := List.pairwise_append.1 hsplit
  have hx : ∀ y, y ∈ (l.takeWhile fun y => !strLt x.path y.path) → ltP y x := fun y hy => by
    have hp := take_while_all hy
    exact le_lt (a := y) (b := x) hp (h y ((List.takeWhile_prefix _).subset hy))
  refine List.pairwise_append.2 ⟨h1, List.pairwise_cons.2 ⟨drop_while_srt hs, h2⟩, fun y hy z hz => ?_⟩
  rcases List.mem_cons.1 hz with rfl | hz
  · exact hx y hy
  · exact h3 y hy z hz
def inT (a : Tr) (y : It) : Bool := (treeGet a y.path).isSome
def mergeStep (a : Tr) (out : Tr) (y : It) : Tr := if inT a y then out else putP out y
def mergeS (a b : Tr) : Tr := b.foldl (mergeStep a) a
theorem merge_go {a : Tr} : ∀ {l out : Tr}, srt out → dst l → (∀ y, y ∈ l → inT a y = false → ∀ z, z ∈ out → z.path ≠ y.path) →
    srt (l.foldl (mergeStep a) out) ∧ (l.foldl (mergeStep a) out).Perm (out ++ l.filter fun y => !inT a y)
  | [], out, h1, _, _ => ⟨h1, by simp⟩
  | y :: l, out, h1, h2, h3 => by
    obtain ⟨h4, h5⟩ := List.pairwise_cons.1 h2
    rw [List.foldl_cons]
    cases hy : inT a y with
    | true =>
      rw [show mergeStep a out y = out by simp [mergeStep, hy], List.filter_cons, if_neg (by simp [hy])]
      exact merge_go h1 h5 fun z hz => h3 z (by simp [hz])
    | false =>
      have hne := h3 y (by simp) hy
      rw [show mergeStep a out y = putP out y by simp [mergeStep, hy], List.filter_cons, if_pos (by simp [hy])]
      obtain ⟨q1, q2⟩ := merge_go (l := l) (put_srt hne h1) h5 fun z hz hza u hu => by
        rcases List.mem_cons.1 ((put_perm hne).mem_iff.1 hu) with rfl | hu
        · exact h4 z hz
        · exact h3 z (by simp [hz]) hza u hu
      refine ⟨q1, q2.trans ?_⟩
      refine ((put_perm hne).append_right _).trans ?_
      exact (List.perm_middle (a := y) (l₁ := out) (l₂ := l.filter fun y => !inT a y)).symm
theorem treeOk_srt {t : Tr} (h : treeOk t = true) : srt t := by
  refine List.pairwise_iff_getElem.2 fun i j hi hj hij => ?_
  exact treeOk_lt h (List.getElem?_eq_getElem hi) (List.getElem?_eq_getElem hj) hij
theorem inT_no {a b : Tr} (hb : treeOk b = true) {y : It} (hy : y ∈ b) (h : inT a y = false) : ∀ z, z ∈ a → z.path ≠ y.path := by
  intro z hz e
  rw [inT, treeGet_find (item_path (treeOk_item hb hy))] at h
  simp only [Option.isSome_eq_false_iff, Option.isNone_iff_eq_none] at h
  have := List.find?_eq_none.1 h z hz
  simp [e] at this
def joinT (a b : Tr) : Tr := a ++ b.filter fun y => !inT a y
theorem merge_both {a b : Tr} (ha : treeOk a = true) (hb : treeOk b = true) : dst (joinT a b) ∧ mergeS a b = sortT (joinT a b) := by
  obtain ⟨h1, h2⟩ := merge_go (a := a) (l := b) (treeOk_srt ha) (srt_dst (treeOk_srt hb)) fun y hy h => inT_no hb hy h
  have hd : dst (joinT a b) := (dst_perm h2).1 (srt_dst h1)
  exact ⟨hd, srt_uniq h1 (sortT_srt hd) (h2.trans (sortT_perm _).symm)⟩
theorem merge_sm {a b : Tr} (ha : treeOk a = true) (hb : treeOk b = true) (sa : smT a) (sb : smT b) (i : Nat) :
    ((b.take i).foldl (mergeStep a) a).length ≤ 80 ∧ ∀ x, x ∈ (b.take i).foldl (mergeStep a) a → x.path.length ≤ 4194304 ∧ x.data.length ≤ 4194304 := by
  obtain ⟨h1, h2⟩ := merge_go (a := a) (l := b.take i) (treeOk_srt ha) ((srt_dst (treeOk_srt hb)).sublist (List.take_sublist i b)) fun y hy h => inT_no hb (List.mem_of_mem_take hy) h
  have l1 := treeOk_len ha
  have l2 := treeOk_len hb
  refine ⟨?_, fun x hx => ?_⟩
  · rw [h2.length_eq, List.length_append]
    have := List.length_filter_le (fun y => !inT a y) (b.take i)
    rw [List.length_take] at this
    omega
  · rcases List.mem_append.1 (h2.mem_iff.1 hx) with h | h
    · exact sa.2 x h
    · exact sb.2 x (List.mem_of_mem_take (List.mem_filter.1 h).1)
theorem argRI {s : Nat} {x x' : List (List AV)} {c : List AV} (h : x = x') : [AV.rd s x, .agg c] = [AV.rd s x', .agg c] := by rw [h]
def mergeP (a b : Tr) : Tr × Bool := if treeOk a && treeOk b && treeOk (mergeS a b) then (mergeS a b, true) else ([], false)
theorem mergeP_sm {a b : Tr} (sa : smT a) (sb : smT b) : smT (mergeP a b).1 := by
  unfold mergeP
  split
  · rename_i h
    simp only [Bool.and_eq_true] at h
    have h1 := merge_sm h.1.1 h.1.2 sa sb b.length
    rw [List.take_length] at h1
    exact ⟨by have := h1.1; show (b.foldl (mergeStep a) a).length ≤ _; omega, h1.2⟩
  · exact ⟨by simp, by simp⟩
theorem join_len {a b : Tr} : (joinT a b).length ≤ a.length + b.length := by
  unfold joinT
  rw [List.length_append]
  have := List.length_filter_le (fun y => !inT a y) b
  omega
theorem putAt_take {l : Tr} {x y : It} {i : Nat} (h : l[i]? = some y) : putAt (l.take (i + 1)) x = putStep x (putAt (l.take i) x) y := foldl_take h
theorem putAt_len {x : It} : ∀ {l out : Tr} {d : Bool}, (l.foldl (putStep x) (out, d)).1.length ≤ out.length + 2 * l.length
  | [], out, d => by simp
  | y :: l, out, d => by
    rw [List.foldl_cons]
    obtain ⟨o', d', h⟩ : ∃ o' d', putStep x (out, d) y = (o', d') := ⟨_, _, rfl⟩
    have h1 : o'.length ≤ out.length + 2 := by
      have : o' = (putStep x (out, d) y).1 := by rw [h]
      rw [this]
      unfold putStep
      dsimp only
      split <;> split <;> simp
    rw [h]
    have := putAt_len (x := x) (l := l) (out := o') (d := d')
    simp only [List.length_cons]
    omega
theorem putP_mem {l : Tr} {x y : It} (h : y ∈ putP l x) : y = x ∨ y ∈ l := by
  have go : ∀ {l out : Tr} {d : Bool}, y ∈ (l.foldl (putStep x) (out, d)).1 → y = x ∨ y ∈ out ∨ y ∈ l := by
    intro l
    induction l with
    | nil => intro out d h; exact .inr (.inl h)
    | cons z l ih =>
      intro out d h
      rw [List.foldl_cons] at h
      rcases ih (out := (putStep x (out, d) z).1) (d := (putStep x (out, d) z).2) h with h | h | h
      · exact .inl h
      · unfold putStep at h
        simp only [List.mem_append] at h
        rcases h with (h | h) | h
        · exact .inr (.inl h)
        · split at h
          · exact .inl (by simpa using h)
          · cases h
        · split at h
          · exact .inr (.inr (by simp at h; simp [h]))
          · cases h
      · exact .inr (.inr (by simp [h]))
  unfold putP at h
  split at h
  · rcases go h with h | h | h
    · exact .inl h
    · cases h
    · exact .inr h
  · rcases List.mem_append.1 h with h | h
    · rcases go h with h | h | h
      · exact .inl h
      · cases h
      · exact .inr h
    · exact .inl (by simpa using h)
end Go.GH

set_option linter.unusedVariables false
set_option linter.unusedSimpArgs false
namespace Go.Proofs
open Go.Shelf Go.RowKit Go.Lib Go.Sort
set_option maxHeartbeats 2000000 in
set_option maxRecDepth 100000 in
theorem Try.clone_none (a : Option Addr) (c : Nat) (w : World) : Calls Try.prog 73 #[.slice a 0 c] w fun e w' => (∃ a', e = .returned (.slice a' 0 0)) ∧ Below w.heap.size w w' := by
  have q22 : ∀ (w : World) (a : Option Addr) (n c n' c' : Nat), (binOp .eql 32 (.slice a n c) (.slice none n' c')).run Try.prog w = .ok (.bool a.isNone) w := fun w a n c n' c' => Lib.run_eql_slice_nil w _ _ a n c n' c' Try.underlying32
  cases a with
  | none =>
    go_enter Try.func73, Try.ntmps73
    go_wp2
    go_ret
    exact ⟨⟨none, rfl⟩, Below.refl _ _⟩
  | some q =>
    go_enter Try.func73, Try.ntmps73
    go_wp2
    go_ret
    exact ⟨⟨_, rfl⟩, (Below.refl _ w).alloc (Nat.le_refl _) _⟩
set_option maxHeartbeats 2000000 in
set_option maxRecDepth 100000 in
theorem Try.byPath_calls (p d : ByteArray) (k t : Int) (p' d' : ByteArray) (k' t' : Int) (W : World) : Calls Try.prog 57 #[.agg #[.string p, .int .i64 k, .string d, .int .i64 t], .agg #[.string p', .int .i64 k', .string d', .int .i64 t']] W fun e w' => e = .returned (.int .i64 (Lib.compareBytes p.data.toList p'.data.toList)) ∧ ∃ q os', w' = grow (W.drewN q) os' := by
  have hcon := fun W' => Try.strings_Compare p p' W'
  generalize Lib.compareBytes p.data.toList p'.data.toList = r at hcon ⊢
  go_enter Try.func57, Try.ntmps57
  go_wp2_with (go_at_call 76; refine (hcon _).mono ?_; rintro e w' ⟨rfl, rfl⟩)
  go_ret
  exact ⟨rfl, 0, _, by rw [alloc_eq_grow, alloc_eq_grow, grow_grow]; rfl⟩
end Go.Proofs

set_option linter.unusedVariables false
set_option linter.unusedSimpArgs false
namespace Go.GH
open Go Go.Proofs
noncomputable def c_spec_l10Put : PCon := con [mS 4, .rd [none, none, none, none]] false (Tr × It) (fun ⟨l, x⟩ => [.rd 4 (l.map encI), .agg (encI x)]) (fun x => smT x.1) (fun x => .own 4 ((putP x.1 x.2).map encI))
noncomputable def E_spec_l10Put : Env := ⟨lookup tyTab, lookup [], [0, 1, 3, 4, 5, 6, 7, 12, 26, 38, 47]⟩
set_option maxRecDepth 100000 in
set_option maxHeartbeats 4000000 in
theorem m_spec_l10Put : Meets E_spec_l10Put (codeOf Try.f54) Try.f54.results.toList c_spec_l10Put := by
  rintro ⟨l, x⟩ hs
  obtain ⟨hs1, hs2⟩ : smT l := hs
  refine ⟨trivial, ?_⟩
  repeat ((conv => whnf); first | refine ⟨fun h => h, ?_⟩ | refine ⟨(by kernel_rfl : drawOk _ _ = true), ?_⟩ | refine ⟨fun (h : gtrue _) => by first | assumption | exact absurd (Eq.trans (Eq.symm h) (by assumption) : true = false) Bool.noConfusion, ?_⟩ | refine ⟨fun h => (absurd (Eq.trans (Eq.symm h) (by assumption) : true = false) Bool.noConfusion : False), ?_⟩ | refine ⟨_, w64 (by (show (_ : Prop)); first | omega | ((try dsimp only at *); (try simp only [lns] at *); omega)), ?_⟩ | refine ⟨fun _ => ⟨by (show (_ : Prop)); first | omega | ((try dsimp only at *); (try simp only [lns] at *); omega), by (show (_ : Prop)); first | omega | ((try dsimp only at *); (try simp only [lns] at *); omega), by (show (_ : Prop)); first | omega | ((try dsimp only at *); (try simp only [lns] at *); omega)⟩, ?_⟩ | refine ⟨by (show (_ : Prop)); first | omega | ((try dsimp only at *); (try simp only [lns] at *); omega), ?_⟩ | refine ⟨fun h => ⟨by (show (_ : Prop)); first | omega | ((try dsimp only at *); (try simp only [lns] at *); omega), by (show (_ : Prop)); first | omega | ((try dsimp only at *); (try simp only [lns] at *); omega)⟩, ?_⟩ | refine ⟨fun (r : List AV) hr c hc => by simp [encS] at hr; (try subst hr); simp at hc; (try subst hc); rfl, ?_⟩ | refine ⟨noOwn (by rfl), ?_⟩)
  refine loop_rule (fun i : Nat => ⟨[(0, ⟨none, .rd 4 (l.map encI)⟩), (3, ⟨none, .bx 0 0⟩), (5, ⟨none, .view 1 [] 0 ((putAt (l.take i) x).1.map encI).length⟩), (6, ⟨none, .bool (putAt (l.take i) x).2⟩), (7, ⟨none, .int .i64 i⟩)], [(1, .own 4 ((putAt (l.take i) x).1.map encI)), (0, .own 4 [encI x])], 2⟩)
    (fun i => i ≤ l.length) (fun i => l.length - i) 0 ?_ (by omega) ?_
  · (refine ⟨?_, ?_, rfl⟩ <;> repeat' (first | exact rfl | exact trivial | refine ⟨?_, ?_⟩ | fail) <;> (conv => whnf))
    all_goals simp [putAt]
  intro i hi
  have hi : i ≤ l.length := hi
  have hlen := putAt_len (x := x) (l := l.take i) (out := []) (d := false)
  have hlen : (putAt (l.take i) x).1.length ≤ 8388608 := by
    have h3 : (l.take i).length ≤ l.length := by simp; omega
    simp only [List.length_nil] at hlen
    show (List.foldl (putStep x) ([], false) (l.take i)).1.length ≤ _
    omega
  (conv => whnf); refine ⟨fun h2 => ?_, fun h2 => ?_⟩
  · have h2 : i < l.length := by simpa using h2
    obtain ⟨y, hy⟩ := get_lt h2
    have hnx := putAt_take (x := x) hy
    generalize hst : putAt (l.take i) x = st at hlen hnx ⊢
    obtain ⟨out, d⟩ := st
    have hlen : out.length ≤ 8388608 := hlen
    repeat ((conv => whnf); first | refine ⟨fun h => h, ?_⟩ | refine ⟨(by kernel_rfl : drawOk _ _ = true), ?_⟩ | refine ⟨fun (h : gtrue _) => by first | assumption | exact absurd (Eq.trans (Eq.symm h) (by assumption) : true = false) Bool.noConfusion, ?_⟩ | refine ⟨fun h => (absurd (Eq.trans (Eq.symm h) (by assumption) : true = false) Bool.noConfusion : False), ?_⟩ | refine ⟨_, w64 (by (show (_ : Prop)); first | omega | ((try dsimp only at *); (try simp only [lns] at *); omega)), ?_⟩ | refine ⟨fun _ => ⟨by (show (_ : Prop)); first | omega | ((try dsimp only at *); (try simp only [lns] at *); omega), by (show (_ : Prop)); first | omega | ((try dsimp only at *); (try simp only [lns] at *); omega), by (show (_ : Prop)); first | omega | ((try dsimp only at *); (try simp only [lns] at *); omega)⟩, ?_⟩ | refine ⟨by (show (_ : Prop)); first | omega | ((try dsimp only at *); (try simp only [lns] at *); omega), ?_⟩ | refine ⟨fun h => ⟨by (show (_ : Prop)); first | omega | ((try dsimp only at *); (try simp only [lns] at *); omega), by (show (_ : Prop)); first | omega | ((try dsimp only at *); (try simp only [lns] at *); omega)⟩, ?_⟩ | refine ⟨fun (r : List AV) hr c hc => by simp [encS] at hr; (try subst hr); simp at hc; (try subst hc); rfl, ?_⟩ | refine ⟨noOwn (by rfl), ?_⟩ | refine ⟨encI y, fun _ => ⟨by omega, get_map hy⟩, ?_⟩)
    (conv => whnf); refine ⟨fun h3 => ?_, fun h3 => ?_⟩
    · have h3 : (!d && strLt x.path y.path) = true := h3
      repeat ((conv => whnf); first | refine ⟨fun h => h, ?_⟩ | refine ⟨(by kernel_rfl : drawOk _ _ = true), ?_⟩ | refine ⟨fun (h : gtrue _) => by first | assumption | exact absurd (Eq.trans (Eq.symm h) (by assumption) : true = false) Bool.noConfusion, ?_⟩ | refine ⟨fun h => (absurd (Eq.trans (Eq.symm h) (by assumption) : true = false) Bool.noConfusion : False), ?_⟩ | refine ⟨_, w64 (by (show (_ : Prop)); first | omega | ((try dsimp only at *); (try simp only [lns] at *); omega)), ?_⟩ | refine ⟨fun _ => ⟨by (show (_ : Prop)); first | omega | ((try dsimp only at *); (try simp only [lns] at *); omega), by (show (_ : Prop)); first | omega | ((try dsimp only at *); (try simp only [lns] at *); omega), by (show (_ : Prop)); first | omega | ((try dsimp only at *); (try simp only [lns] at *); omega)⟩, ?_⟩ | refine ⟨by (show (_ : Prop)); first | omega | ((try dsimp only at *); (try simp only [lns] at *); omega), ?_⟩ | refine ⟨fun h => ⟨by (show (_ : Prop)); first | omega | ((try dsimp only at *); (try simp only [lns] at *); omega), by (show (_ : Prop)); first | omega | ((try dsimp only at *); (try simp only [lns] at *); omega)⟩, ?_⟩ | refine ⟨fun (r : List AV) hr c hc => by simp [encS] at hr; (try subst hr); simp at hc; (try subst hc); rfl, ?_⟩ | refine ⟨noOwn (by rfl), ?_⟩ | refine ⟨encI y, fun _ => ⟨by omega, get_map hy⟩, ?_⟩)
      (conv => whnf); refine ⟨fun h4 => ?_, fun h4 => ?_⟩
      · have h4 : (!(y.path == x.path)) = true := h4
        have hn : putStep x (out, d) y = (out ++ [x] ++ [y], true) := by simp only [putStep, h3, h4, if_true, Bool.true_or]
        repeat ((conv => whnf); first | refine ⟨fun h => h, ?_⟩ | refine ⟨(by kernel_rfl : drawOk _ _ = true), ?_⟩ | refine ⟨fun (h : gtrue _) => by first | assumption | exact absurd (Eq.trans (Eq.symm h) (by assumption) : true = false) Bool.noConfusion, ?_⟩ | refine ⟨fun h => (absurd (Eq.trans (Eq.symm h) (by assumption) : true = false) Bool.noConfusion : False), ?_⟩ | refine ⟨_, w64 (by (show (_ : Prop)); first | omega | ((try dsimp only at *); (try simp only [lns] at *); omega)), ?_⟩ | refine ⟨fun _ => ⟨by (show (_ : Prop)); first | omega | ((try dsimp only at *); (try simp only [lns] at *); omega), by (show (_ : Prop)); first | omega | ((try dsimp only at *); (try simp only [lns] at *); omega), by (show (_ : Prop)); first | omega | ((try dsimp only at *); (try simp only [lns] at *); omega)⟩, ?_⟩ | refine ⟨by (show (_ : Prop)); first | omega | ((try dsimp only at *); (try simp only [lns] at *); omega), ?_⟩ | refine ⟨fun h => ⟨by (show (_ : Prop)); first | omega | ((try dsimp only at *); (try simp only [lns] at *); omega), by (show (_ : Prop)); first | omega | ((try dsimp only at *); (try simp only [lns] at *); omega)⟩, ?_⟩ | refine ⟨fun (r : List AV) hr c hc => by simp [encS] at hr; (try subst hr); simp at hc; (try subst hc); rfl, ?_⟩ | refine ⟨noOwn (by rfl), ?_⟩ | refine ⟨encI y, fun _ => ⟨by omega, get_map hy⟩, ?_⟩)
        refine again (i + 1) ?_ h2 (by first | omega | (simp; done) | (simp; omega))
        rw [hnx, hn]
        (refine ⟨?_, ?_, rfl⟩ <;> repeat' (first | exact rfl | exact trivial | refine ⟨?_, ?_⟩ | fail) <;> (conv => whnf))
        all_goals first | (simp [encI]; done) | (simp [encI]; rw [List.take_of_length_le (by simp)]; simp)
      · have h4 : (!(y.path == x.path)) = false := h4
        have hn : putStep x (out, d) y = (out ++ [x], true) := by simp [putStep, h3, h4]
        repeat ((conv => whnf); first | refine ⟨fun h => h, ?_⟩ | refine ⟨(by kernel_rfl : drawOk _ _ = true), ?_⟩ | refine ⟨fun (h : gtrue _) => by first | assumption | exact absurd (Eq.trans (Eq.symm h) (by assumption) : true = false) Bool.noConfusion, ?_⟩ | refine ⟨fun h => (absurd (Eq.trans (Eq.symm h) (by assumption) : true = false) Bool.noConfusion : False), ?_⟩ | refine ⟨_, w64 (by (show (_ : Prop)); first | omega | ((try dsimp only at *); (try simp only [lns] at *); omega)), ?_⟩ | refine ⟨fun _ => ⟨by (show (_ : Prop)); first | omega | ((try dsimp only at *); (try simp only [lns] at *); omega), by (show (_ : Prop)); first | omega | ((try dsimp only at *); (try simp only [lns] at *); omega), by (show (_ : Prop)); first | omega | ((try dsimp only at *); (try simp only [lns] at *); omega)⟩, ?_⟩ | refine ⟨by (show (_ : Prop)); first | omega | ((try dsimp only at *); (try simp only [lns] at *); omega), ?_⟩ | refine ⟨fun h => ⟨by (show (_ : Prop)); first | omega | ((try dsimp only at *); (try simp only [lns] at *); omega), by (show (_ : Prop)); first | omega | ((try dsimp only at *); (try simp only [lns] at *); omega)⟩, ?_⟩ | refine ⟨fun (r : List AV) hr c hc => by simp [encS] at hr; (try subst hr); simp at hc; (try subst hc); rfl, ?_⟩ | refine ⟨noOwn (by rfl), ?_⟩)
        refine again (i + 1) ?_ h2 (by first | omega | (simp; done) | (simp; omega))
        rw [hnx, hn]
        (refine ⟨?_, ?_, rfl⟩ <;> repeat' (first | exact rfl | exact trivial | refine ⟨?_, ?_⟩ | fail) <;> (conv => whnf))
        all_goals simp [encI]
    have h3 : (!d && strLt x.path y.path) = false := h3
    repeat ((conv => whnf); first | refine ⟨fun h => h, ?_⟩ | refine ⟨(by kernel_rfl : drawOk _ _ = true), ?_⟩ | refine ⟨fun (h : gtrue _) => by first | assumption | exact absurd (Eq.trans (Eq.symm h) (by assumption) : true = false) Bool.noConfusion, ?_⟩ | refine ⟨fun h => (absurd (Eq.trans (Eq.symm h) (by assumption) : true = false) Bool.noConfusion : False), ?_⟩ | refine ⟨_, w64 (by (show (_ : Prop)); first | omega | ((try dsimp only at *); (try simp only [lns] at *); omega)), ?_⟩ | refine ⟨fun _ => ⟨by (show (_ : Prop)); first | omega | ((try dsimp only at *); (try simp only [lns] at *); omega), by (show (_ : Prop)); first | omega | ((try dsimp only at *); (try simp only [lns] at *); omega), by (show (_ : Prop)); first | omega | ((try dsimp only at *); (try simp only [lns] at *); omega)⟩, ?_⟩ | refine ⟨by (show (_ : Prop)); first | omega | ((try dsimp only at *); (try simp only [lns] at *); omega), ?_⟩ | refine ⟨fun h => ⟨by (show (_ : Prop)); first | omega | ((try dsimp only at *); (try simp only [lns] at *); omega), by (show (_ : Prop)); first | omega | ((try dsimp only at *); (try simp only [lns] at *); omega)⟩, ?_⟩ | refine ⟨fun (r : List AV) hr c hc => by simp [encS] at hr; (try subst hr); simp at hc; (try subst hc); rfl, ?_⟩ | refine ⟨noOwn (by rfl), ?_⟩ | refine ⟨encI y, fun _ => ⟨by omega, get_map hy⟩, ?_⟩)
    (conv => whnf); refine ⟨fun h4 => ?_, fun h4 => ?_⟩
    · have h4 : (!(y.path == x.path)) = true := h4
      have hn : putStep x (out, d) y = (out ++ [y], d) := by simp only [putStep, h3, h4]; simp
      repeat ((conv => whnf); first | refine ⟨fun h => h, ?_⟩ | refine ⟨(by kernel_rfl : drawOk _ _ = true), ?_⟩ | refine ⟨fun (h : gtrue _) => by first | assumption | exact absurd (Eq.trans (Eq.symm h) (by assumption) : true = false) Bool.noConfusion, ?_⟩ | refine ⟨fun h => (absurd (Eq.trans (Eq.symm h) (by assumption) : true = false) Bool.noConfusion : False), ?_⟩ | refine ⟨_, w64 (by (show (_ : Prop)); first | omega | ((try dsimp only at *); (try simp only [lns] at *); omega)), ?_⟩ | refine ⟨fun _ => ⟨by (show (_ : Prop)); first | omega | ((try dsimp only at *); (try simp only [lns] at *); omega), by (show (_ : Prop)); first | omega | ((try dsimp only at *); (try simp only [lns] at *); omega), by (show (_ : Prop)); first | omega | ((try dsimp only at *); (try simp only [lns] at *); omega)⟩, ?_⟩ | refine ⟨by (show (_ : Prop)); first | omega | ((try dsimp only at *); (try simp only [lns] at *); omega), ?_⟩ | refine ⟨fun h => ⟨by (show (_ : Prop)); first | omega | ((try dsimp only at *); (try simp only [lns] at *); omega), by (show (_ : Prop)); first | omega | ((try dsimp only at *); (try simp only [lns] at *); omega)⟩, ?_⟩ | refine ⟨fun (r : List AV) hr c hc => by simp [encS] at hr; (try subst hr); simp at hc; (try subst hc); rfl, ?_⟩ | refine ⟨noOwn (by rfl), ?_⟩ | refine ⟨encI y, fun _ => ⟨by omega, get_map hy⟩, ?_⟩)
      refine again (i + 1) ?_ h2 (by first | omega | (simp; done) | (simp; omega))
      rw [hnx, hn]
      (refine ⟨?_, ?_, rfl⟩ <;> repeat' (first | exact rfl | exact trivial | refine ⟨?_, ?_⟩ | fail) <;> (conv => whnf))
      all_goals simp [encI]
    · have h4 : (!(y.path == x.path)) = false := h4
      have hn : putStep x (out, d) y = (out, d) := by simp [putStep, h3, h4]
      repeat ((conv => whnf); first | refine ⟨fun h => h, ?_⟩ | refine ⟨(by kernel_rfl : drawOk _ _ = true), ?_⟩ | refine ⟨fun (h : gtrue _) => by first | assumption | exact absurd (Eq.trans (Eq.symm h) (by assumption) : true = false) Bool.noConfusion, ?_⟩ | refine ⟨fun h => (absurd (Eq.trans (Eq.symm h) (by assumption) : true = false) Bool.noConfusion : False), ?_⟩ | refine ⟨_, w64 (by (show (_ : Prop)); first | omega | ((try dsimp only at *); (try simp only [lns] at *); omega)), ?_⟩ | refine ⟨fun _ => ⟨by (show (_ : Prop)); first | omega | ((try dsimp only at *); (try simp only [lns] at *); omega), by (show (_ : Prop)); first | omega | ((try dsimp only at *); (try simp only [lns] at *); omega), by (show (_ : Prop)); first | omega | ((try dsimp only at *); (try simp only [lns] at *); omega)⟩, ?_⟩ | refine ⟨by (show (_ : Prop)); first | omega | ((try dsimp only at *); (try simp only [lns] at *); omega), ?_⟩ | refine ⟨fun h => ⟨by (show (_ : Prop)); first | omega | ((try dsimp only at *); (try simp only [lns] at *); omega), by (show (_ : Prop)); first | omega | ((try dsimp only at *); (try simp only [lns] at *); omega)⟩, ?_⟩ | refine ⟨fun (r : List AV) hr c hc => by simp [encS] at hr; (try subst hr); simp at hc; (try subst hc); rfl, ?_⟩ | refine ⟨noOwn (by rfl), ?_⟩)
      refine again (i + 1) ?_ h2 (by first | omega | (simp; done) | (simp; omega))
      rw [hnx, hn]
      (refine ⟨?_, ?_, rfl⟩ <;> repeat' (first | exact rfl | exact trivial | refine ⟨?_, ?_⟩ | fail) <;> (conv => whnf))
      all_goals simp [encI]
  · have h2 : i = l.length := by
      have : ¬ i < l.length := by simpa using h2
      omega
    subst h2
    rw [List.take_length] at hlen ⊢
    have hp : putP l x = if (putAt l x).2 then (putAt l x).1 else (putAt l x).1 ++ [x] := rfl
    generalize hst : putAt l x = st at hlen hp ⊢
    obtain ⟨out, d⟩ := st
    have hlen : out.length ≤ 8388608 := hlen
    repeat ((conv => whnf); first | refine ⟨fun h => h, ?_⟩ | refine ⟨(by kernel_rfl : drawOk _ _ = true), ?_⟩ | refine ⟨fun (h : gtrue _) => by first | assumption | exact absurd (Eq.trans (Eq.symm h) (by assumption) : true = false) Bool.noConfusion, ?_⟩ | refine ⟨fun h => (absurd (Eq.trans (Eq.symm h) (by assumption) : true = false) Bool.noConfusion : False), ?_⟩ | refine ⟨_, w64 (by (show (_ : Prop)); first | omega | ((try dsimp only at *); (try simp only [lns] at *); omega)), ?_⟩ | refine ⟨fun _ => ⟨by (show (_ : Prop)); first | omega | ((try dsimp only at *); (try simp only [lns] at *); omega), by (show (_ : Prop)); first | omega | ((try dsimp only at *); (try simp only [lns] at *); omega), by (show (_ : Prop)); first | omega | ((try dsimp only at *); (try simp only [lns] at *); omega)⟩, ?_⟩ | refine ⟨by (show (_ : Prop)); first | omega | ((try dsimp only at *); (try simp only [lns] at *); omega), ?_⟩ | refine ⟨fun h => ⟨by (show (_ : Prop)); first | omega | ((try dsimp only at *); (try simp only [lns] at *); omega), by (show (_ : Prop)); first | omega | ((try dsimp only at *); (try simp only [lns] at *); omega)⟩, ?_⟩ | refine ⟨fun (r : List AV) hr c hc => by simp [encS] at hr; (try subst hr); simp at hc; (try subst hc); rfl, ?_⟩ | refine ⟨noOwn (by rfl), ?_⟩)
    (conv => whnf); refine ⟨fun h5 => ?_, fun h5 => ?_⟩
    · have h5 : d = false := by simpa using h5
      repeat ((conv => whnf); first | refine ⟨fun h => h, ?_⟩ | refine ⟨(by kernel_rfl : drawOk _ _ = true), ?_⟩ | refine ⟨fun (h : gtrue _) => by first | assumption | exact absurd (Eq.trans (Eq.symm h) (by assumption) : true = false) Bool.noConfusion, ?_⟩ | refine ⟨fun h => (absurd (Eq.trans (Eq.symm h) (by assumption) : true = false) Bool.noConfusion : False), ?_⟩ | refine ⟨_, w64 (by (show (_ : Prop)); first | omega | ((try dsimp only at *); (try simp only [lns] at *); omega)), ?_⟩ | refine ⟨fun _ => ⟨by (show (_ : Prop)); first | omega | ((try dsimp only at *); (try simp only [lns] at *); omega), by (show (_ : Prop)); first | omega | ((try dsimp only at *); (try simp only [lns] at *); omega), by (show (_ : Prop)); first | omega | ((try dsimp only at *); (try simp only [lns] at *); omega)⟩, ?_⟩ | refine ⟨by (show (_ : Prop)); first | omega | ((try dsimp only at *); (try simp only [lns] at *); omega), ?_⟩ | refine ⟨fun h => ⟨by (show (_ : Prop)); first | omega | ((try dsimp only at *); (try simp only [lns] at *); omega), by (show (_ : Prop)); first | omega | ((try dsimp only at *); (try simp only [lns] at *); omega)⟩, ?_⟩ | refine ⟨fun (r : List AV) hr c hc => by simp [encS] at hr; (try subst hr); simp at hc; (try subst hc); rfl, ?_⟩ | refine ⟨noOwn (by rfl), ?_⟩)
      exact ⟨trivial, eqOwn (by show _ = (putP l x).map encI; rw [hp, h5]; simp [encI]; rw [List.take_of_length_le (by simp)])⟩
    · have h5 : d = true := by simpa using h5
      repeat ((conv => whnf); first | refine ⟨fun h => h, ?_⟩ | refine ⟨(by kernel_rfl : drawOk _ _ = true), ?_⟩ | refine ⟨fun (h : gtrue _) => by first | assumption | exact absurd (Eq.trans (Eq.symm h) (by assumption) : true = false) Bool.noConfusion, ?_⟩ | refine ⟨fun h => (absurd (Eq.trans (Eq.symm h) (by assumption) : true = false) Bool.noConfusion : False), ?_⟩ | refine ⟨_, w64 (by (show (_ : Prop)); first | omega | ((try dsimp only at *); (try simp only [lns] at *); omega)), ?_⟩ | refine ⟨fun _ => ⟨by (show (_ : Prop)); first | omega | ((try dsimp only at *); (try simp only [lns] at *); omega), by (show (_ : Prop)); first | omega | ((try dsimp only at *); (try simp only [lns] at *); omega), by (show (_ : Prop)); first | omega | ((try dsimp only at *); (try simp only [lns] at *); omega)⟩, ?_⟩ | refine ⟨by (show (_ : Prop)); first | omega | ((try dsimp only at *); (try simp only [lns] at *); omega), ?_⟩ | refine ⟨fun h => ⟨by (show (_ : Prop)); first | omega | ((try dsimp only at *); (try simp only [lns] at *); omega), by (show (_ : Prop)); first | omega | ((try dsimp only at *); (try simp only [lns] at *); omega)⟩, ?_⟩ | refine ⟨fun (r : List AV) hr c hc => by simp [encS] at hr; (try subst hr); simp at hc; (try subst hc); rfl, ?_⟩ | refine ⟨noOwn (by rfl), ?_⟩)
      exact ⟨trivial, eqOwn (by show _ = (putP l x).map encI; rw [hp, h5]; simp)⟩
theorem ok_spec_l10Put : ConOk Try.prog 54 c_spec_l10Put := meets_ok (tabT _ _) FOk.nil mixed Try.func54 rfl Try.call54 (by decide) (by kernel_rfl) m_spec_l10Put (by intro _ (y : (Tr × It)) _; exact ⟨by simp [c_spec_l10Put, con, AV.noRd, noRdCells, noRdRows, noRdRows_map', encS, encI], by simp [c_spec_l10Put, con, AV.noRd, noRdCells, noRdRows, noRdRows_map', encS, encI]⟩) (by intro (y : (Tr × It)) _; first | (simp [c_spec_l10Put, con, AV.free, freeCells, freeRows, freeRows_map, encS, encI]; done) | (obtain ⟨_, _⟩ := y; simp [c_spec_l10Put, con, AV.free, freeCells, freeRows, freeRows_map, encS, encI]; done) | (obtain ⟨_, _, _⟩ := y; simp [c_spec_l10Put, con, AV.free, freeCells, freeRows, freeRows_map, encS, encI]; done))
noncomputable def c_spec_l14Copy : PCon := con [mS 4] false Tr (fun t => [rdT t]) smT (fun t => .agg [.own 4 (t.map encI)])
noncomputable def E_spec_l14Copy : Env := ⟨lookup tyTab, lookup [], [0, 1, 2]⟩
set_option maxRecDepth 100000 in
set_option maxHeartbeats 4000000 in
theorem m_spec_l14Copy : Meets E_spec_l14Copy (codeOf Try.f53) Try.f53.results.toList c_spec_l14Copy := by
  intro (t : Tr) hs
  obtain ⟨hs1, hs2⟩ : smT t := hs
  refine ⟨trivial, ?_⟩
  repeat ((conv => whnf); first | refine ⟨fun h => h, ?_⟩ | refine ⟨(by kernel_rfl : drawOk _ _ = true), ?_⟩ | refine ⟨fun (h : gtrue _) => by first | assumption | exact absurd (Eq.trans (Eq.symm h) (by assumption) : true = false) Bool.noConfusion, ?_⟩ | refine ⟨fun h => (absurd (Eq.trans (Eq.symm h) (by assumption) : true = false) Bool.noConfusion : False), ?_⟩ | refine ⟨_, w64 (by (show (_ : Prop)); first | omega | ((try dsimp only at *); (try simp only [lns] at *); omega)), ?_⟩ | refine ⟨fun _ => ⟨by (show (_ : Prop)); first | omega | ((try dsimp only at *); (try simp only [lns] at *); omega), by (show (_ : Prop)); first | omega | ((try dsimp only at *); (try simp only [lns] at *); omega), by (show (_ : Prop)); first | omega | ((try dsimp only at *); (try simp only [lns] at *); omega)⟩, ?_⟩ | refine ⟨by (show (_ : Prop)); first | omega | ((try dsimp only at *); (try simp only [lns] at *); omega), ?_⟩ | refine ⟨fun h => ⟨by (show (_ : Prop)); first | omega | ((try dsimp only at *); (try simp only [lns] at *); omega), by (show (_ : Prop)); first | omega | ((try dsimp only at *); (try simp only [lns] at *); omega)⟩, ?_⟩ | refine ⟨fun (r : List AV) hr c hc => by simp [encS] at hr; (try subst hr); simp at hc; (try subst hc); rfl, ?_⟩ | refine ⟨noOwn (by rfl), ?_⟩)
  refine ⟨trivial, ⟨rfl, ?_⟩, trivial⟩
  simp
theorem ok_spec_l14Copy : ConOk Try.prog 53 c_spec_l14Copy := meets_ok (tabT _ _) FOk.nil mixed Try.func53 rfl Try.call53 (by decide) (by kernel_rfl) m_spec_l14Copy (by intro _ (y : Tr) _; exact ⟨by simp [c_spec_l14Copy, con, AV.noRd, noRdCells, noRdRows, noRdRows_map', encS, encI], by simp [c_spec_l14Copy, con, AV.noRd, noRdCells, noRdRows, noRdRows_map', encS, encI]⟩) (by intro (y : Tr) _; first | (simp [c_spec_l14Copy, con, AV.free, freeCells, freeRows, freeRows_map, encS, rdT, encI]; done) | (obtain ⟨_, _⟩ := y; simp [c_spec_l14Copy, con, AV.free, freeCells, freeRows, freeRows_map, encS, rdT, encI]; done) | (obtain ⟨_, _, _⟩ := y; simp [c_spec_l14Copy, con, AV.free, freeCells, freeRows, freeRows_map, encS, rdT, encI]; done))
noncomputable def c_clone1 : PCon := con [mS 4] false Tr (fun t => [.rd 4 (t.map encI)]) (fun t => smT t ∧ t ≠ []) (fun t => .own 4 (t.map encI))
noncomputable def E_clone1 : Env := ⟨lookup tyTab, lookup [], [0, 2, 4]⟩
set_option maxRecDepth 100000 in
set_option maxHeartbeats 4000000 in
theorem m_clone1 : Meets E_clone1 (codeOf Try.f73) Try.f73.results.toList c_clone1 := by
  intro (t : Tr) hs
  obtain ⟨⟨hs1, hs2⟩, hne⟩ : smT t ∧ t ≠ [] := hs
  refine ⟨trivial, ?_⟩
  repeat ((conv => whnf); first | refine ⟨fun h => h, ?_⟩ | refine ⟨(by kernel_rfl : drawOk _ _ = true), ?_⟩ | refine ⟨fun (h : gtrue _) => by first | assumption | exact absurd (Eq.trans (Eq.symm h) (by assumption) : true = false) Bool.noConfusion, ?_⟩ | refine ⟨fun h => (absurd (Eq.trans (Eq.symm h) (by assumption) : true = false) Bool.noConfusion : False), ?_⟩ | refine ⟨_, w64 (by (show (_ : Prop)); first | omega | ((try dsimp only at *); (try simp only [lns] at *); omega)), ?_⟩ | refine ⟨fun _ => ⟨by (show (_ : Prop)); first | omega | ((try dsimp only at *); (try simp only [lns] at *); omega), by (show (_ : Prop)); first | omega | ((try dsimp only at *); (try simp only [lns] at *); omega), by (show (_ : Prop)); first | omega | ((try dsimp only at *); (try simp only [lns] at *); omega)⟩, ?_⟩ | refine ⟨by (show (_ : Prop)); first | omega | ((try dsimp only at *); (try simp only [lns] at *); omega), ?_⟩ | refine ⟨fun h => ⟨by (show (_ : Prop)); first | omega | ((try dsimp only at *); (try simp only [lns] at *); omega), by (show (_ : Prop)); first | omega | ((try dsimp only at *); (try simp only [lns] at *); omega)⟩, ?_⟩ | refine ⟨fun (r : List AV) hr c hc => by simp [encS] at hr; (try subst hr); simp at hc; (try subst hc); rfl, ?_⟩ | refine ⟨noOwn (by rfl), ?_⟩)
  conv => whnf
  obtain ⟨x, r, rfl⟩ : ∃ x r, t = x :: r := by cases t with | nil => exact absurd rfl hne | cons x r => exact ⟨x, r, rfl⟩
  refine ⟨⟨_, _, rfl⟩, ?_⟩
  repeat ((conv => whnf); first | refine ⟨fun h => h, ?_⟩ | refine ⟨(by kernel_rfl : drawOk _ _ = true), ?_⟩ | refine ⟨fun (h : gtrue _) => by first | assumption | exact absurd (Eq.trans (Eq.symm h) (by assumption) : true = false) Bool.noConfusion, ?_⟩ | refine ⟨fun h => (absurd (Eq.trans (Eq.symm h) (by assumption) : true = false) Bool.noConfusion : False), ?_⟩ | refine ⟨_, w64 (by (show (_ : Prop)); first | omega | ((try dsimp only at *); (try simp only [lns] at *); omega)), ?_⟩ | refine ⟨fun _ => ⟨by (show (_ : Prop)); first | omega | ((try dsimp only at *); (try simp only [lns] at *); omega), by (show (_ : Prop)); first | omega | ((try dsimp only at *); (try simp only [lns] at *); omega), by (show (_ : Prop)); first | omega | ((try dsimp only at *); (try simp only [lns] at *); omega)⟩, ?_⟩ | refine ⟨by (show (_ : Prop)); first | omega | ((try dsimp only at *); (try simp only [lns] at *); omega), ?_⟩ | refine ⟨fun h => ⟨by (show (_ : Prop)); first | omega | ((try dsimp only at *); (try simp only [lns] at *); omega), by (show (_ : Prop)); first | omega | ((try dsimp only at *); (try simp only [lns] at *); omega)⟩, ?_⟩ | refine ⟨fun (r : List AV) hr c hc => by simp [encS] at hr; (try subst hr); simp at hc; (try subst hc); rfl, ?_⟩ | refine ⟨noOwn (by rfl), ?_⟩)
  conv => whnf
  refine ⟨fun h => absurd h (by decide), fun _ => ?_⟩
  repeat ((conv => whnf); first | refine ⟨fun h => h, ?_⟩ | refine ⟨(by kernel_rfl : drawOk _ _ = true), ?_⟩ | refine ⟨fun (h : gtrue _) => by first | assumption | exact absurd (Eq.trans (Eq.symm h) (by assumption) : true = false) Bool.noConfusion, ?_⟩ | refine ⟨fun h => (absurd (Eq.trans (Eq.symm h) (by assumption) : true = false) Bool.noConfusion : False), ?_⟩ | refine ⟨_, w64 (by (show (_ : Prop)); first | omega | ((try dsimp only at *); (try simp only [lns] at *); omega)), ?_⟩ | refine ⟨fun _ => ⟨by (show (_ : Prop)); first | omega | ((try dsimp only at *); (try simp only [lns] at *); omega), by (show (_ : Prop)); first | omega | ((try dsimp only at *); (try simp only [lns] at *); omega), by (show (_ : Prop)); first | omega | ((try dsimp only at *); (try simp only [lns] at *); omega)⟩, ?_⟩ | refine ⟨by (show (_ : Prop)); first | omega | ((try dsimp only at *); (try simp only [lns] at *); omega), ?_⟩ | refine ⟨fun h => ⟨by (show (_ : Prop)); first | omega | ((try dsimp only at *); (try simp only [lns] at *); omega), by (show (_ : Prop)); first | omega | ((try dsimp only at *); (try simp only [lns] at *); omega)⟩, ?_⟩ | refine ⟨fun (r : List AV) hr c hc => by simp [encS] at hr; (try subst hr); simp at hc; (try subst hc); rfl, ?_⟩ | refine ⟨noOwn (by rfl), ?_⟩)
  exact ⟨trivial, eqOwn (by simp)⟩
theorem ok_clone1 : ConOk Try.prog 73 c_clone1 := meets_ok (tabT _ _) FOk.nil mixed Try.func73 rfl Try.call73 (by decide) (by kernel_rfl) m_clone1 (by intro _ (y : Tr) _; exact ⟨by simp [c_clone1, con, AV.noRd, noRdCells, noRdRows, noRdRows_map', encS, encI], by simp [c_clone1, con, AV.noRd, noRdCells, noRdRows, noRdRows_map', encS, encI]⟩) (by intro (y : Tr) _; first | (simp [c_clone1, con, AV.free, freeCells, freeRows, freeRows_map, encS, encI]; done) | (obtain ⟨_, _⟩ := y; simp [c_clone1, con, AV.free, freeCells, freeRows, freeRows_map, encS, encI]; done) | (obtain ⟨_, _, _⟩ := y; simp [c_clone1, con, AV.free, freeCells, freeRows, freeRows_map, encS, encI]; done))
def c_slices_Clone_Item : PCon := con [mS 4] false Tr (fun t => [.rd 4 (t.map encI)]) smT (fun t => .own 4 (t.map encI))
theorem ok_slices_Clone_Item : ConOk Try.prog 73 c_slices_Clone_Item := by
  intro t ht
  cases t with
  | nil =>
    refine con_empty (s := 4) (c := c_slices_Clone_Item) (x := []) rfl rfl rfl rfl rfl Try.call73 ?_
    intro a cap w
    refine (Try.clone_none a cap w).mono ?_
    rintro e w' ⟨⟨a', rfl⟩, hb⟩
    exact ⟨a', rfl, hb⟩
  | cons x r => exact ok_clone1 (x :: r) ⟨ht, by simp⟩
noncomputable def c_impl_cloneTree : PCon := con [mS 4] false Tr (fun t => [rdT t]) smT (fun t => .agg [.own 4 (t.map encI)])
noncomputable def E_impl_cloneTree : Env := ⟨lookup tyTab, lookup [(73, c_slices_Clone_Item)], [0, 1, 2]⟩
set_option maxRecDepth 100000 in
set_option maxHeartbeats 4000000 in
theorem m_impl_cloneTree : Meets E_impl_cloneTree (codeOf Try.f55) Try.f55.results.toList c_impl_cloneTree := by
  intro (t : Tr) hs
  refine ⟨trivial, ?_⟩
  repeat ((conv => whnf); first | refine ⟨fun h => h, ?_⟩ | refine ⟨(by kernel_rfl : drawOk _ _ = true), ?_⟩ | refine ⟨fun (h : gtrue _) => by first | assumption | exact absurd (Eq.trans (Eq.symm h) (by assumption) : true = false) Bool.noConfusion, ?_⟩ | refine ⟨fun h => (absurd (Eq.trans (Eq.symm h) (by assumption) : true = false) Bool.noConfusion : False), ?_⟩ | refine ⟨_, w64 (by (show (_ : Prop)); first | omega | ((try dsimp only at *); (try simp only [lns] at *); omega)), ?_⟩ | refine ⟨fun _ => ⟨by (show (_ : Prop)); first | omega | ((try dsimp only at *); (try simp only [lns] at *); omega), by (show (_ : Prop)); first | omega | ((try dsimp only at *); (try simp only [lns] at *); omega), by (show (_ : Prop)); first | omega | ((try dsimp only at *); (try simp only [lns] at *); omega)⟩, ?_⟩ | refine ⟨by (show (_ : Prop)); first | omega | ((try dsimp only at *); (try simp only [lns] at *); omega), ?_⟩ | refine ⟨fun h => ⟨by (show (_ : Prop)); first | omega | ((try dsimp only at *); (try simp only [lns] at *); omega), by (show (_ : Prop)); first | omega | ((try dsimp only at *); (try simp only [lns] at *); omega)⟩, ?_⟩ | refine ⟨fun (r : List AV) hr c hc => by simp [encS] at hr; (try subst hr); simp at hc; (try subst hc); rfl, ?_⟩ | refine ⟨noOwn (by rfl), ?_⟩)
  refine ⟨t, by refine argR ?_; simp [rdI], fun _ => hs, ?_⟩
  repeat ((conv => whnf); first | refine ⟨fun h => h, ?_⟩ | refine ⟨(by kernel_rfl : drawOk _ _ = true), ?_⟩ | refine ⟨fun (h : gtrue _) => by first | assumption | exact absurd (Eq.trans (Eq.symm h) (by assumption) : true = false) Bool.noConfusion, ?_⟩ | refine ⟨fun h => (absurd (Eq.trans (Eq.symm h) (by assumption) : true = false) Bool.noConfusion : False), ?_⟩ | refine ⟨_, w64 (by (show (_ : Prop)); first | omega | ((try dsimp only at *); (try simp only [lns] at *); omega)), ?_⟩ | refine ⟨fun _ => ⟨by (show (_ : Prop)); first | omega | ((try dsimp only at *); (try simp only [lns] at *); omega), by (show (_ : Prop)); first | omega | ((try dsimp only at *); (try simp only [lns] at *); omega), by (show (_ : Prop)); first | omega | ((try dsimp only at *); (try simp only [lns] at *); omega)⟩, ?_⟩ | refine ⟨by (show (_ : Prop)); first | omega | ((try dsimp only at *); (try simp only [lns] at *); omega), ?_⟩ | refine ⟨fun h => ⟨by (show (_ : Prop)); first | omega | ((try dsimp only at *); (try simp only [lns] at *); omega), by (show (_ : Prop)); first | omega | ((try dsimp only at *); (try simp only [lns] at *); omega)⟩, ?_⟩ | refine ⟨fun (r : List AV) hr c hc => by simp [encS] at hr; (try subst hr); simp at hc; (try subst hc); rfl, ?_⟩ | refine ⟨noOwn (by rfl), ?_⟩)
  refine ⟨trivial, ⟨rfl, ?_⟩, trivial⟩
  simp
theorem ok_impl_cloneTree : ConOk Try.prog 55 c_impl_cloneTree := meets_ok (tabT _ _) (FOk.cons ok_slices_Clone_Item FOk.nil) mixed Try.func55 rfl Try.call55 (by decide) (by kernel_rfl) m_impl_cloneTree (by intro _ (y : Tr) _; exact ⟨by simp [c_impl_cloneTree, con, AV.noRd, noRdCells, noRdRows, noRdRows_map', encS, encI], by simp [c_impl_cloneTree, con, AV.noRd, noRdCells, noRdRows, noRdRows_map', encS, encI]⟩) (by intro (y : Tr) _; first | (simp [c_impl_cloneTree, con, AV.free, freeCells, freeRows, freeRows_map, encS, rdT, encI]; done) | (obtain ⟨_, _⟩ := y; simp [c_impl_cloneTree, con, AV.free, freeCells, freeRows, freeRows_map, encS, rdT, encI]; done) | (obtain ⟨_, _, _⟩ := y; simp [c_impl_cloneTree, con, AV.free, freeCells, freeRows, freeRows_map, encS, rdT, encI]; done))
end Go.GH

set_option linter.unusedVariables false
set_option linter.unusedSimpArgs false
namespace Go.GH
open Go Go.Proofs
noncomputable def c_spec_Merge : PCon := con [mS 4, mS 4] false (Tr × Tr) (fun ⟨a, b⟩ => [rdT a, rdT b]) (fun x => smT x.1 ∧ smT x.2) (fun x => .tup [.agg [.own 4 ((mergeP x.1 x.2).1.map encI)], .bool (mergeP x.1 x.2).2])
noncomputable def E_spec_Merge : Env := ⟨lookup tyTab, lookup [(37, c_spec_TreeOk), (41, c_spec_TreeGet), (53, c_spec_l14Copy), (54, c_spec_l10Put)], [0, 1, 2, 3, 4, 5, 6, 7, 9, 17, 25, 40, 52]⟩
set_option maxRecDepth 100000 in
set_option maxHeartbeats 4000000 in
theorem m_spec_Merge : Meets E_spec_Merge (codeOf Try.f29) Try.f29.results.toList c_spec_Merge := by
  rintro ⟨a, b⟩ hs
  obtain ⟨ha, hb⟩ : smT a ∧ smT b := hs
  refine ⟨trivial, ?_⟩
  repeat ((conv => whnf); first | refine ⟨fun h => h, ?_⟩ | refine ⟨(by kernel_rfl : drawOk _ _ = true), ?_⟩ | refine ⟨fun (h : gtrue _) => by first | assumption | exact absurd (Eq.trans (Eq.symm h) (by assumption) : true = false) Bool.noConfusion, ?_⟩ | refine ⟨fun h => (absurd (Eq.trans (Eq.symm h) (by assumption) : true = false) Bool.noConfusion : False), ?_⟩ | refine ⟨_, w64 (by (show (_ : Prop)); first | omega | ((try dsimp only at *); (try simp only [lns] at *); omega)), ?_⟩ | refine ⟨fun _ => ⟨by (show (_ : Prop)); first | omega | ((try dsimp only at *); (try simp only [lns] at *); omega), by (show (_ : Prop)); first | omega | ((try dsimp only at *); (try simp only [lns] at *); omega), by (show (_ : Prop)); first | omega | ((try dsimp only at *); (try simp only [lns] at *); omega)⟩, ?_⟩ | refine ⟨by (show (_ : Prop)); first | omega | ((try dsimp only at *); (try simp only [lns] at *); omega), ?_⟩ | refine ⟨fun h => ⟨by (show (_ : Prop)); first | omega | ((try dsimp only at *); (try simp only [lns] at *); omega), by (show (_ : Prop)); first | omega | ((try dsimp only at *); (try simp only [lns] at *); omega)⟩, ?_⟩ | refine ⟨fun (r : List AV) hr c hc => by simp [encS] at hr; (try subst hr); simp at hc; (try subst hc); rfl, ?_⟩ | refine ⟨noOwn (by rfl), ?_⟩)
  refine ⟨a, rfl, fun _ => ha, ?_⟩
  repeat ((conv => whnf); first | refine ⟨fun h => h, ?_⟩ | refine ⟨(by kernel_rfl : drawOk _ _ = true), ?_⟩ | refine ⟨fun (h : gtrue _) => by first | assumption | exact absurd (Eq.trans (Eq.symm h) (by assumption) : true = false) Bool.noConfusion, ?_⟩ | refine ⟨fun h => (absurd (Eq.trans (Eq.symm h) (by assumption) : true = false) Bool.noConfusion : False), ?_⟩ | refine ⟨_, w64 (by (show (_ : Prop)); first | omega | ((try dsimp only at *); (try simp only [lns] at *); omega)), ?_⟩ | refine ⟨fun _ => ⟨by (show (_ : Prop)); first | omega | ((try dsimp only at *); (try simp only [lns] at *); omega), by (show (_ : Prop)); first | omega | ((try dsimp only at *); (try simp only [lns] at *); omega), by (show (_ : Prop)); first | omega | ((try dsimp only at *); (try simp only [lns] at *); omega)⟩, ?_⟩ | refine ⟨by (show (_ : Prop)); first | omega | ((try dsimp only at *); (try simp only [lns] at *); omega), ?_⟩ | refine ⟨fun h => ⟨by (show (_ : Prop)); first | omega | ((try dsimp only at *); (try simp only [lns] at *); omega), by (show (_ : Prop)); first | omega | ((try dsimp only at *); (try simp only [lns] at *); omega)⟩, ?_⟩ | refine ⟨fun (r : List AV) hr c hc => by simp [encS] at hr; (try subst hr); simp at hc; (try subst hc); rfl, ?_⟩ | refine ⟨noOwn (by rfl), ?_⟩)
  refine ⟨b, rfl, fun _ => hb, ?_⟩
  repeat ((conv => whnf); first | refine ⟨fun h => h, ?_⟩ | refine ⟨(by kernel_rfl : drawOk _ _ = true), ?_⟩ | refine ⟨fun (h : gtrue _) => by first | assumption | exact absurd (Eq.trans (Eq.symm h) (by assumption) : true = false) Bool.noConfusion, ?_⟩ | refine ⟨fun h => (absurd (Eq.trans (Eq.symm h) (by assumption) : true = false) Bool.noConfusion : False), ?_⟩ | refine ⟨_, w64 (by (show (_ : Prop)); first | omega | ((try dsimp only at *); (try simp only [lns] at *); omega)), ?_⟩ | refine ⟨fun _ => ⟨by (show (_ : Prop)); first | omega | ((try dsimp only at *); (try simp only [lns] at *); omega), by (show (_ : Prop)); first | omega | ((try dsimp only at *); (try simp only [lns] at *); omega), by (show (_ : Prop)); first | omega | ((try dsimp only at *); (try simp only [lns] at *); omega)⟩, ?_⟩ | refine ⟨by (show (_ : Prop)); first | omega | ((try dsimp only at *); (try simp only [lns] at *); omega), ?_⟩ | refine ⟨fun h => ⟨by (show (_ : Prop)); first | omega | ((try dsimp only at *); (try simp only [lns] at *); omega), by (show (_ : Prop)); first | omega | ((try dsimp only at *); (try simp only [lns] at *); omega)⟩, ?_⟩ | refine ⟨fun (r : List AV) hr c hc => by simp [encS] at hr; (try subst hr); simp at hc; (try subst hc); rfl, ?_⟩ | refine ⟨noOwn (by rfl), ?_⟩)
  (conv => whnf); refine ⟨fun h1 => ?_, fun h1 => ?_⟩
  · have h1 : (!treeOk a || !treeOk b) = true := h1
    repeat ((conv => whnf); first | refine ⟨fun h => h, ?_⟩ | refine ⟨(by kernel_rfl : drawOk _ _ = true), ?_⟩ | refine ⟨fun (h : gtrue _) => by first | assumption | exact absurd (Eq.trans (Eq.symm h) (by assumption) : true = false) Bool.noConfusion, ?_⟩ | refine ⟨fun h => (absurd (Eq.trans (Eq.symm h) (by assumption) : true = false) Bool.noConfusion : False), ?_⟩ | refine ⟨_, w64 (by (show (_ : Prop)); first | omega | ((try dsimp only at *); (try simp only [lns] at *); omega)), ?_⟩ | refine ⟨fun _ => ⟨by (show (_ : Prop)); first | omega | ((try dsimp only at *); (try simp only [lns] at *); omega), by (show (_ : Prop)); first | omega | ((try dsimp only at *); (try simp only [lns] at *); omega), by (show (_ : Prop)); first | omega | ((try dsimp only at *); (try simp only [lns] at *); omega)⟩, ?_⟩ | refine ⟨by (show (_ : Prop)); first | omega | ((try dsimp only at *); (try simp only [lns] at *); omega), ?_⟩ | refine ⟨fun h => ⟨by (show (_ : Prop)); first | omega | ((try dsimp only at *); (try simp only [lns] at *); omega), by (show (_ : Prop)); first | omega | ((try dsimp only at *); (try simp only [lns] at *); omega)⟩, ?_⟩ | refine ⟨fun (r : List AV) hr c hc => by simp [encS] at hr; (try subst hr); simp at hc; (try subst hc); rfl, ?_⟩ | refine ⟨noOwn (by rfl), ?_⟩)
    have h0 : mergeP a b = ([], false) := by unfold mergeP; revert h1; cases treeOk a <;> cases treeOk b <;> simp
    rw [show c_spec_Merge.res (a, b) = .tup [.agg [.own 4 []], .bool false] by show AV.tup [.agg [.own 4 ((mergeP a b).1.map encI)], .bool (mergeP a b).2] = _; rw [h0]; rfl]
    exact ⟨trivial, ⟨⟨rfl, rfl⟩, trivial⟩, rfl, trivial⟩
  have h1 : (!treeOk a || !treeOk b) = false := h1
  have oa : treeOk a = true := by revert h1; cases treeOk a <;> simp
  have ob : treeOk b = true := by revert h1; cases treeOk b <;> simp
  have la := treeOk_len oa
  have lb := treeOk_len ob
  repeat ((conv => whnf); first | refine ⟨fun h => h, ?_⟩ | refine ⟨(by kernel_rfl : drawOk _ _ = true), ?_⟩ | refine ⟨fun (h : gtrue _) => by first | assumption | exact absurd (Eq.trans (Eq.symm h) (by assumption) : true = false) Bool.noConfusion, ?_⟩ | refine ⟨fun h => (absurd (Eq.trans (Eq.symm h) (by assumption) : true = false) Bool.noConfusion : False), ?_⟩ | refine ⟨_, w64 (by (show (_ : Prop)); first | omega | ((try dsimp only at *); (try simp only [lns] at *); omega)), ?_⟩ | refine ⟨fun _ => ⟨by (show (_ : Prop)); first | omega | ((try dsimp only at *); (try simp only [lns] at *); omega), by (show (_ : Prop)); first | omega | ((try dsimp only at *); (try simp only [lns] at *); omega), by (show (_ : Prop)); first | omega | ((try dsimp only at *); (try simp only [lns] at *); omega)⟩, ?_⟩ | refine ⟨by (show (_ : Prop)); first | omega | ((try dsimp only at *); (try simp only [lns] at *); omega), ?_⟩ | refine ⟨fun h => ⟨by (show (_ : Prop)); first | omega | ((try dsimp only at *); (try simp only [lns] at *); omega), by (show (_ : Prop)); first | omega | ((try dsimp only at *); (try simp only [lns] at *); omega)⟩, ?_⟩ | refine ⟨fun (r : List AV) hr c hc => by simp [encS] at hr; (try subst hr); simp at hc; (try subst hc); rfl, ?_⟩ | refine ⟨noOwn (by rfl), ?_⟩)
  refine ⟨a, by refine argT ?_; simp [rdI], fun _ => ha, ?_⟩
  repeat ((conv => whnf); first | refine ⟨fun h => h, ?_⟩ | refine ⟨(by kernel_rfl : drawOk _ _ = true), ?_⟩ | refine ⟨fun (h : gtrue _) => by first | assumption | exact absurd (Eq.trans (Eq.symm h) (by assumption) : true = false) Bool.noConfusion, ?_⟩ | refine ⟨fun h => (absurd (Eq.trans (Eq.symm h) (by assumption) : true = false) Bool.noConfusion : False), ?_⟩ | refine ⟨_, w64 (by (show (_ : Prop)); first | omega | ((try dsimp only at *); (try simp only [lns] at *); omega)), ?_⟩ | refine ⟨fun _ => ⟨by (show (_ : Prop)); first | omega | ((try dsimp only at *); (try simp only [lns] at *); omega), by (show (_ : Prop)); first | omega | ((try dsimp only at *); (try simp only [lns] at *); omega), by (show (_ : Prop)); first | omega | ((try dsimp only at *); (try simp only [lns] at *); omega)⟩, ?_⟩ | refine ⟨by (show (_ : Prop)); first | omega | ((try dsimp only at *); (try simp only [lns] at *); omega), ?_⟩ | refine ⟨fun h => ⟨by (show (_ : Prop)); first | omega | ((try dsimp only at *); (try simp only [lns] at *); omega), by (show (_ : Prop)); first | omega | ((try dsimp only at *); (try simp only [lns] at *); omega)⟩, ?_⟩ | refine ⟨fun (r : List AV) hr c hc => by simp [encS] at hr; (try subst hr); simp at hc; (try subst hc); rfl, ?_⟩ | refine ⟨noOwn (by rfl), ?_⟩)
  refine loop_rule (fun i : Nat => ⟨[(2, ⟨none, .bx 0 0⟩), (3, ⟨none, .bx 1 0⟩), (4, ⟨none, .bx 2 0⟩), (5, ⟨none, .bool false⟩), (6, ⟨none, .bx 3 0⟩), (7, ⟨none, .int .i64 i⟩)], [(3, .own 1 [[.own 4 (((b.take i).foldl (mergeStep a) a).map encI)]]), (2, .own 1 [[.own 4 []]]), (1, .own 1 [[.rd 4 (b.map encI)]]), (0, .own 1 [[.rd 4 (a.map encI)]])], 4⟩)
    (fun i => i ≤ b.length) (fun i => b.length - i) 0 ?_ (by omega) ?_
  · (refine ⟨?_, ?_, rfl⟩ <;> repeat' (first | exact rfl | exact trivial | refine ⟨?_, ?_⟩ | fail) <;> (conv => whnf))
    all_goals simp [setCells]
  intro i hi
  have hi : i ≤ b.length := hi
  have hO := merge_sm oa ob ha hb i
  have hnext : ∀ {y : It}, b[i]? = some y → (b.take (i + 1)).foldl (mergeStep a) a = mergeStep a ((b.take i).foldl (mergeStep a) a) y := fun hy => foldl_take hy
  have hfin : mergeS a b = b.foldl (mergeStep a) a := rfl
  generalize hout : (b.take i).foldl (mergeStep a) a = out at hO hnext ⊢
  obtain ⟨hO1, hO2⟩ := hO
  have hsm : smT out := ⟨by omega, hO2⟩
  (conv => whnf); refine ⟨fun h2 => ?_, fun h2 => ?_⟩
  · have h2 : i < b.length := by simpa using h2
    obtain ⟨y, hy⟩ := get_lt h2
    repeat ((conv => whnf); first | refine ⟨fun h => h, ?_⟩ | refine ⟨(by kernel_rfl : drawOk _ _ = true), ?_⟩ | refine ⟨fun (h : gtrue _) => by first | assumption | exact absurd (Eq.trans (Eq.symm h) (by assumption) : true = false) Bool.noConfusion, ?_⟩ | refine ⟨fun h => (absurd (Eq.trans (Eq.symm h) (by assumption) : true = false) Bool.noConfusion : False), ?_⟩ | refine ⟨_, w64 (by (show (_ : Prop)); first | omega | ((try dsimp only at *); (try simp only [lns] at *); omega)), ?_⟩ | refine ⟨fun _ => ⟨by (show (_ : Prop)); first | omega | ((try dsimp only at *); (try simp only [lns] at *); omega), by (show (_ : Prop)); first | omega | ((try dsimp only at *); (try simp only [lns] at *); omega), by (show (_ : Prop)); first | omega | ((try dsimp only at *); (try simp only [lns] at *); omega)⟩, ?_⟩ | refine ⟨by (show (_ : Prop)); first | omega | ((try dsimp only at *); (try simp only [lns] at *); omega), ?_⟩ | refine ⟨fun h => ⟨by (show (_ : Prop)); first | omega | ((try dsimp only at *); (try simp only [lns] at *); omega), by (show (_ : Prop)); first | omega | ((try dsimp only at *); (try simp only [lns] at *); omega)⟩, ?_⟩ | refine ⟨fun (r : List AV) hr c hc => by simp [encS] at hr; (try subst hr); simp at hc; (try subst hc); rfl, ?_⟩ | refine ⟨noOwn (by rfl), ?_⟩ | refine ⟨encI y, fun _ => ⟨by omega, get_map hy⟩, ?_⟩)
    refine ⟨(a, y.path), rfl, fun _ => ha, ?_⟩
    repeat ((conv => whnf); first | refine ⟨fun h => h, ?_⟩ | refine ⟨(by kernel_rfl : drawOk _ _ = true), ?_⟩ | refine ⟨fun (h : gtrue _) => by first | assumption | exact absurd (Eq.trans (Eq.symm h) (by assumption) : true = false) Bool.noConfusion, ?_⟩ | refine ⟨fun h => (absurd (Eq.trans (Eq.symm h) (by assumption) : true = false) Bool.noConfusion : False), ?_⟩ | refine ⟨_, w64 (by (show (_ : Prop)); first | omega | ((try dsimp only at *); (try simp only [lns] at *); omega)), ?_⟩ | refine ⟨fun _ => ⟨by (show (_ : Prop)); first | omega | ((try dsimp only at *); (try simp only [lns] at *); omega), by (show (_ : Prop)); first | omega | ((try dsimp only at *); (try simp only [lns] at *); omega), by (show (_ : Prop)); first | omega | ((try dsimp only at *); (try simp only [lns] at *); omega)⟩, ?_⟩ | refine ⟨by (show (_ : Prop)); first | omega | ((try dsimp only at *); (try simp only [lns] at *); omega), ?_⟩ | refine ⟨fun h => ⟨by (show (_ : Prop)); first | omega | ((try dsimp only at *); (try simp only [lns] at *); omega), by (show (_ : Prop)); first | omega | ((try dsimp only at *); (try simp only [lns] at *); omega)⟩, ?_⟩ | refine ⟨fun (r : List AV) hr c hc => by simp [encS] at hr; (try subst hr); simp at hc; (try subst hc); rfl, ?_⟩ | refine ⟨noOwn (by rfl), ?_⟩)
    (conv => whnf); refine ⟨fun h3 => ?_, fun h3 => ?_⟩
    · have h3 : inT a y = false := by
        have h3 : (!(treeGet a y.path).isSome) = true := h3
        simpa [inT] using h3
      repeat ((conv => whnf); first | refine ⟨fun h => h, ?_⟩ | refine ⟨(by kernel_rfl : drawOk _ _ = true), ?_⟩ | refine ⟨fun (h : gtrue _) => by first | assumption | exact absurd (Eq.trans (Eq.symm h) (by assumption) : true = false) Bool.noConfusion, ?_⟩ | refine ⟨fun h => (absurd (Eq.trans (Eq.symm h) (by assumption) : true = false) Bool.noConfusion : False), ?_⟩ | refine ⟨_, w64 (by (show (_ : Prop)); first | omega | ((try dsimp only at *); (try simp only [lns] at *); omega)), ?_⟩ | refine ⟨fun _ => ⟨by (show (_ : Prop)); first | omega | ((try dsimp only at *); (try simp only [lns] at *); omega), by (show (_ : Prop)); first | omega | ((try dsimp only at *); (try simp only [lns] at *); omega), by (show (_ : Prop)); first | omega | ((try dsimp only at *); (try simp only [lns] at *); omega)⟩, ?_⟩ | refine ⟨by (show (_ : Prop)); first | omega | ((try dsimp only at *); (try simp only [lns] at *); omega), ?_⟩ | refine ⟨fun h => ⟨by (show (_ : Prop)); first | omega | ((try dsimp only at *); (try simp only [lns] at *); omega), by (show (_ : Prop)); first | omega | ((try dsimp only at *); (try simp only [lns] at *); omega)⟩, ?_⟩ | refine ⟨fun (r : List AV) hr c hc => by simp [encS] at hr; (try subst hr); simp at hc; (try subst hc); rfl, ?_⟩ | refine ⟨noOwn (by rfl), ?_⟩ | refine ⟨encI y, fun _ => ⟨by omega, get_map hy⟩, ?_⟩)
      refine ⟨(out, y), by refine argRI ?_; simp [rdI], fun _ => hsm, ?_⟩
      repeat ((conv => whnf); first | refine ⟨fun h => h, ?_⟩ | refine ⟨(by kernel_rfl : drawOk _ _ = true), ?_⟩ | refine ⟨fun (h : gtrue _) => by first | assumption | exact absurd (Eq.trans (Eq.symm h) (by assumption) : true = false) Bool.noConfusion, ?_⟩ | refine ⟨fun h => (absurd (Eq.trans (Eq.symm h) (by assumption) : true = false) Bool.noConfusion : False), ?_⟩ | refine ⟨_, w64 (by (show (_ : Prop)); first | omega | ((try dsimp only at *); (try simp only [lns] at *); omega)), ?_⟩ | refine ⟨fun _ => ⟨by (show (_ : Prop)); first | omega | ((try dsimp only at *); (try simp only [lns] at *); omega), by (show (_ : Prop)); first | omega | ((try dsimp only at *); (try simp only [lns] at *); omega), by (show (_ : Prop)); first | omega | ((try dsimp only at *); (try simp only [lns] at *); omega)⟩, ?_⟩ | refine ⟨by (show (_ : Prop)); first | omega | ((try dsimp only at *); (try simp only [lns] at *); omega), ?_⟩ | refine ⟨fun h => ⟨by (show (_ : Prop)); first | omega | ((try dsimp only at *); (try simp only [lns] at *); omega), by (show (_ : Prop)); first | omega | ((try dsimp only at *); (try simp only [lns] at *); omega)⟩, ?_⟩ | refine ⟨fun (r : List AV) hr c hc => by simp [encS] at hr; (try subst hr); simp at hc; (try subst hc); rfl, ?_⟩ | refine ⟨noOwn (by rfl), ?_⟩)
      refine again (i + 1) ?_ h2 (by first | omega | (simp; done) | (simp; omega))
      rw [hnext hy, show mergeStep a out y = putP out y by simp [mergeStep, h3]]
      (refine ⟨?_, ?_, rfl⟩ <;> repeat' (first | exact rfl | exact trivial | refine ⟨?_, ?_⟩ | fail) <;> (conv => whnf))
      all_goals simp [setCells]
    · have h3 : inT a y = true := by
        have h3 : (!(treeGet a y.path).isSome) = false := h3
        simpa [inT] using h3
      repeat ((conv => whnf); first | refine ⟨fun h => h, ?_⟩ | refine ⟨(by kernel_rfl : drawOk _ _ = true), ?_⟩ | refine ⟨fun (h : gtrue _) => by first | assumption | exact absurd (Eq.trans (Eq.symm h) (by assumption) : true = false) Bool.noConfusion, ?_⟩ | refine ⟨fun h => (absurd (Eq.trans (Eq.symm h) (by assumption) : true = false) Bool.noConfusion : False), ?_⟩ | refine ⟨_, w64 (by (show (_ : Prop)); first | omega | ((try dsimp only at *); (try simp only [lns] at *); omega)), ?_⟩ | refine ⟨fun _ => ⟨by (show (_ : Prop)); first | omega | ((try dsimp only at *); (try simp only [lns] at *); omega), by (show (_ : Prop)); first | omega | ((try dsimp only at *); (try simp only [lns] at *); omega), by (show (_ : Prop)); first | omega | ((try dsimp only at *); (try simp only [lns] at *); omega)⟩, ?_⟩ | refine ⟨by (show (_ : Prop)); first | omega | ((try dsimp only at *); (try simp only [lns] at *); omega), ?_⟩ | refine ⟨fun h => ⟨by (show (_ : Prop)); first | omega | ((try dsimp only at *); (try simp only [lns] at *); omega), by (show (_ : Prop)); first | omega | ((try dsimp only at *); (try simp only [lns] at *); omega)⟩, ?_⟩ | refine ⟨fun (r : List AV) hr c hc => by simp [encS] at hr; (try subst hr); simp at hc; (try subst hc); rfl, ?_⟩ | refine ⟨noOwn (by rfl), ?_⟩)
      refine again (i + 1) ?_ h2 (by first | omega | (simp; done) | (simp; omega))
      rw [hnext hy, show mergeStep a out y = out by simp [mergeStep, h3]]
      (refine ⟨?_, ?_, rfl⟩ <;> repeat' (first | exact rfl | exact trivial | refine ⟨?_, ?_⟩ | fail) <;> (conv => whnf))
      all_goals simp
  · have h2 : i = b.length := by
      have : ¬ i < b.length := by simpa using h2
      omega
    subst h2
    rw [List.take_length] at hout
    repeat ((conv => whnf); first | refine ⟨fun h => h, ?_⟩ | refine ⟨(by kernel_rfl : drawOk _ _ = true), ?_⟩ | refine ⟨fun (h : gtrue _) => by first | assumption | exact absurd (Eq.trans (Eq.symm h) (by assumption) : true = false) Bool.noConfusion, ?_⟩ | refine ⟨fun h => (absurd (Eq.trans (Eq.symm h) (by assumption) : true = false) Bool.noConfusion : False), ?_⟩ | refine ⟨_, w64 (by (show (_ : Prop)); first | omega | ((try dsimp only at *); (try simp only [lns] at *); omega)), ?_⟩ | refine ⟨fun _ => ⟨by (show (_ : Prop)); first | omega | ((try dsimp only at *); (try simp only [lns] at *); omega), by (show (_ : Prop)); first | omega | ((try dsimp only at *); (try simp only [lns] at *); omega), by (show (_ : Prop)); first | omega | ((try dsimp only at *); (try simp only [lns] at *); omega)⟩, ?_⟩ | refine ⟨by (show (_ : Prop)); first | omega | ((try dsimp only at *); (try simp only [lns] at *); omega), ?_⟩ | refine ⟨fun h => ⟨by (show (_ : Prop)); first | omega | ((try dsimp only at *); (try simp only [lns] at *); omega), by (show (_ : Prop)); first | omega | ((try dsimp only at *); (try simp only [lns] at *); omega)⟩, ?_⟩ | refine ⟨fun (r : List AV) hr c hc => by simp [encS] at hr; (try subst hr); simp at hc; (try subst hc); rfl, ?_⟩ | refine ⟨noOwn (by rfl), ?_⟩)
    refine ⟨out, by refine argT ?_; simp [rdI], fun _ => hsm, ?_⟩
    repeat ((conv => whnf); first | refine ⟨fun h => h, ?_⟩ | refine ⟨(by kernel_rfl : drawOk _ _ = true), ?_⟩ | refine ⟨fun (h : gtrue _) => by first | assumption | exact absurd (Eq.trans (Eq.symm h) (by assumption) : true = false) Bool.noConfusion, ?_⟩ | refine ⟨fun h => (absurd (Eq.trans (Eq.symm h) (by assumption) : true = false) Bool.noConfusion : False), ?_⟩ | refine ⟨_, w64 (by (show (_ : Prop)); first | omega | ((try dsimp only at *); (try simp only [lns] at *); omega)), ?_⟩ | refine ⟨fun _ => ⟨by (show (_ : Prop)); first | omega | ((try dsimp only at *); (try simp only [lns] at *); omega), by (show (_ : Prop)); first | omega | ((try dsimp only at *); (try simp only [lns] at *); omega), by (show (_ : Prop)); first | omega | ((try dsimp only at *); (try simp only [lns] at *); omega)⟩, ?_⟩ | refine ⟨by (show (_ : Prop)); first | omega | ((try dsimp only at *); (try simp only [lns] at *); omega), ?_⟩ | refine ⟨fun h => ⟨by (show (_ : Prop)); first | omega | ((try dsimp only at *); (try simp only [lns] at *); omega), by (show (_ : Prop)); first | omega | ((try dsimp only at *); (try simp only [lns] at *); omega)⟩, ?_⟩ | refine ⟨fun (r : List AV) hr c hc => by simp [encS] at hr; (try subst hr); simp at hc; (try subst hc); rfl, ?_⟩ | refine ⟨noOwn (by rfl), ?_⟩)
    (conv => whnf); refine ⟨fun h4 => ?_, fun h4 => ?_⟩
    · have h4 : (!treeOk out) = true := h4
      have hm : mergeP a b = ([], false) := by
        unfold mergeP
        rw [hfin, hout]
        revert h4; cases treeOk out <;> simp
      rw [show c_spec_Merge.res (a, b) = .tup [.agg [.own 4 []], .bool false] by show AV.tup [.agg [.own 4 ((mergeP a b).1.map encI)], .bool (mergeP a b).2] = _; rw [hm]; rfl]
      repeat ((conv => whnf); first | refine ⟨fun h => h, ?_⟩ | refine ⟨(by kernel_rfl : drawOk _ _ = true), ?_⟩ | refine ⟨fun (h : gtrue _) => by first | assumption | exact absurd (Eq.trans (Eq.symm h) (by assumption) : true = false) Bool.noConfusion, ?_⟩ | refine ⟨fun h => (absurd (Eq.trans (Eq.symm h) (by assumption) : true = false) Bool.noConfusion : False), ?_⟩ | refine ⟨_, w64 (by (show (_ : Prop)); first | omega | ((try dsimp only at *); (try simp only [lns] at *); omega)), ?_⟩ | refine ⟨fun _ => ⟨by (show (_ : Prop)); first | omega | ((try dsimp only at *); (try simp only [lns] at *); omega), by (show (_ : Prop)); first | omega | ((try dsimp only at *); (try simp only [lns] at *); omega), by (show (_ : Prop)); first | omega | ((try dsimp only at *); (try simp only [lns] at *); omega)⟩, ?_⟩ | refine ⟨by (show (_ : Prop)); first | omega | ((try dsimp only at *); (try simp only [lns] at *); omega), ?_⟩ | refine ⟨fun h => ⟨by (show (_ : Prop)); first | omega | ((try dsimp only at *); (try simp only [lns] at *); omega), by (show (_ : Prop)); first | omega | ((try dsimp only at *); (try simp only [lns] at *); omega)⟩, ?_⟩ | refine ⟨fun (r : List AV) hr c hc => by simp [encS] at hr; (try subst hr); simp at hc; (try subst hc); rfl, ?_⟩ | refine ⟨noOwn (by rfl), ?_⟩)
      exact ⟨trivial, ⟨⟨rfl, rfl⟩, trivial⟩, rfl, trivial⟩
    · have h4 : (!treeOk out) = false := h4
      have hm : mergeP a b = (out, true) := by
        unfold mergeP
        rw [hfin, hout, oa, ob]
        revert h4; cases treeOk out <;> simp
      rw [show c_spec_Merge.res (a, b) = .tup [.agg [.own 4 (out.map encI)], .bool true] by show AV.tup [.agg [.own 4 ((mergeP a b).1.map encI)], .bool (mergeP a b).2] = _; rw [hm]]
      repeat ((conv => whnf); first | refine ⟨fun h => h, ?_⟩ | refine ⟨(by kernel_rfl : drawOk _ _ = true), ?_⟩ | refine ⟨fun (h : gtrue _) => by first | assumption | exact absurd (Eq.trans (Eq.symm h) (by assumption) : true = false) Bool.noConfusion, ?_⟩ | refine ⟨fun h => (absurd (Eq.trans (Eq.symm h) (by assumption) : true = false) Bool.noConfusion : False), ?_⟩ | refine ⟨_, w64 (by (show (_ : Prop)); first | omega | ((try dsimp only at *); (try simp only [lns] at *); omega)), ?_⟩ | refine ⟨fun _ => ⟨by (show (_ : Prop)); first | omega | ((try dsimp only at *); (try simp only [lns] at *); omega), by (show (_ : Prop)); first | omega | ((try dsimp only at *); (try simp only [lns] at *); omega), by (show (_ : Prop)); first | omega | ((try dsimp only at *); (try simp only [lns] at *); omega)⟩, ?_⟩ | refine ⟨by (show (_ : Prop)); first | omega | ((try dsimp only at *); (try simp only [lns] at *); omega), ?_⟩ | refine ⟨fun h => ⟨by (show (_ : Prop)); first | omega | ((try dsimp only at *); (try simp only [lns] at *); omega), by (show (_ : Prop)); first | omega | ((try dsimp only at *); (try simp only [lns] at *); omega)⟩, ?_⟩ | refine ⟨fun (r : List AV) hr c hc => by simp [encS] at hr; (try subst hr); simp at hc; (try subst hc); rfl, ?_⟩ | refine ⟨noOwn (by rfl), ?_⟩)
      exact ⟨trivial, ⟨⟨rfl, by simp⟩, trivial⟩, rfl, trivial⟩
theorem ok_spec_Merge : ConOk Try.prog 29 c_spec_Merge := meets_ok (tabT _ _) (FOk.cons ok_spec_TreeOk (FOk.cons ok_spec_TreeGet (FOk.cons ok_spec_l14Copy (FOk.cons ok_spec_l10Put FOk.nil)))) mixed Try.func29 rfl Try.call29 (by decide) (by kernel_rfl) m_spec_Merge (by intro _ (y : (Tr × Tr)) _; exact ⟨by simp [c_spec_Merge, con, AV.noRd, noRdCells, noRdRows, noRdRows_map', encS, encI], by simp [c_spec_Merge, con, AV.noRd, noRdCells, noRdRows, noRdRows_map', encS, encI]⟩) (by intro (y : (Tr × Tr)) _; first | (simp [c_spec_Merge, con, AV.free, freeCells, freeRows, freeRows_map, encS, rdT, encI]; done) | (obtain ⟨_, _⟩ := y; simp [c_spec_Merge, con, AV.free, freeCells, freeRows, freeRows_map, encS, rdT, encI]; done) | (obtain ⟨_, _, _⟩ := y; simp [c_spec_Merge, con, AV.free, freeCells, freeRows, freeRows_map, encS, rdT, encI]; done))
end Go.GH

namespace Go.Proofs
open Go.Shelf
def Try.sortItem_ren : Go.Shelf.Ren := ⟨fun | 6 => 56 | 15 => 75 | 14 => 74 | 28 => 93 | 29 => 94 | 20 => 85 | 21 => 86 | 22 => 87 | 23 => 88 | 24 => 89 | 25 => 90 | 26 => 91 | 27 => 92 | 46 => 102 | 47 => 103 | 48 => 104 | 49 => 105 | 50 => 106 | 57 => 112 | n => n, fun | 22 => 32 | 24 => 58 | 25 => 74 | 3 => 3 | 39 => 91 | 0 => 0 | 53 => 107 | 55 => 109 | 4 => 4 | 46 => 100 | 45 => 99 | 50 => 104 | 5 => 5 | 9 => 9 | 66 => 112 | 70 => 116 | 76 => 128 | 77 => 129 | n => n, fun | n => n⟩
theorem Try.sortItem : Go.Proofs.SlLaysF0.n6 Try.prog Try.sortItem_ren := {
  mixed := by kernel_rfl
  f6 := ⟨Try.f56.name, by decide, Try.func56.trans (congrArg some (by kernel_rfl))⟩
  f14 := ⟨Try.f74.name, by decide, Try.func74.trans (congrArg some (by kernel_rfl))⟩
  f15 := Try.func75.trans (congrArg some (by kernel_rfl))
  f20 := ⟨Try.f85.name, by decide, Try.func85.trans (congrArg some (by kernel_rfl))⟩
  f21 := ⟨Try.f86.name, by decide, Try.func86.trans (congrArg some (by kernel_rfl))⟩
  f22 := ⟨Try.f87.name, by decide, Try.func87.trans (congrArg some (by kernel_rfl))⟩
  f23 := ⟨Try.f88.name, by decide, Try.func88.trans (congrArg some (by kernel_rfl))⟩
  f24 := ⟨Try.f89.name, by decide, Try.func89.trans (congrArg some (by kernel_rfl))⟩
  f25 := ⟨Try.f90.name, by decide, Try.func90.trans (congrArg some (by kernel_rfl))⟩
  f26 := ⟨Try.f91.name, by decide, Try.func91.trans (congrArg some (by kernel_rfl))⟩
  f27 := ⟨Try.f92.name, by decide, Try.func92.trans (congrArg some (by kernel_rfl))⟩
  f28 := Try.func93.trans (congrArg some (by kernel_rfl))
  f29 := Try.func94.trans (congrArg some (by kernel_rfl))
  f46 := ⟨Try.f102.name, by decide, Try.func102.trans (congrArg some (by kernel_rfl))⟩
  f47 := Try.func103.trans (congrArg some (by kernel_rfl))
  f48 := Try.func104.trans (congrArg some (by kernel_rfl))
  f49 := ⟨Try.f105.name, by decide, Try.func105.trans (congrArg some (by kernel_rfl))⟩
  f50 := ⟨Try.f106.name, by decide, Try.func106.trans (congrArg some (by kernel_rfl))⟩
  f57 := ⟨Try.f112.name, by decide, Try.func112.trans (congrArg some (by kernel_rfl))⟩
  t0 := Try.underlying0
  a0 := Try.isAgg0
  z0 := Try.sizeOf0
  v0 := Try.zeroValue0
  t3 := Try.underlying3
  a3 := Try.isAgg3
  z3 := Try.sizeOf3
  v3 := Try.zeroValue3
  t4 := Try.underlying4
  a4 := Try.isAgg4
  z4 := Try.sizeOf4
  v4 := Try.zeroValue4
  t5 := Try.underlying5
  a5 := Try.isAgg5
  z5 := Try.sizeOf5
  v5 := Try.zeroValue5
  t9 := Try.underlying9
  a9 := Try.isAgg9
  z9 := Try.sizeOf9
  v9 := Try.zeroValue9
  t22 := Try.underlying32
  a22 := Try.isAgg32
  z22 := Try.sizeOf32
  v22 := Try.zeroValue32
  t25 := Try.underlying74
  a25 := Try.isAgg74
  z25 := Try.sizeOf74
  v25 := Try.zeroValue74
  t39 := Try.underlying91
  a39 := Try.isAgg91
  z39 := Try.sizeOf91
  v39 := Try.zeroValue91
  t45 := Try.underlying99
  a45 := Try.isAgg99
  z45 := Try.sizeOf99
  v45 := Try.zeroValue99
  t46 := Try.underlying100
  a46 := Try.isAgg100
  z46 := Try.sizeOf100
  v46 := Try.zeroValue100
  t50 := Try.underlying104
  a50 := Try.isAgg104
  z50 := Try.sizeOf104
  v50 := Try.zeroValue104
  t53 := Try.underlying107
  a53 := Try.isAgg107
  z53 := Try.sizeOf107
  v53 := Try.zeroValue107
  t55 := Try.underlying109
  a55 := Try.isAgg109
  z55 := Try.sizeOf109
  v55 := Try.zeroValue109
  t66 := Try.underlying112
  a66 := Try.isAgg112
  z66 := Try.sizeOf112
  v66 := Try.zeroValue112
  t70 := Try.underlying116
  a70 := Try.isAgg116
  z70 := Try.sizeOf116
  v70 := Try.zeroValue116
  t76 := Try.underlying128
  a76 := Try.isAgg128
  z76 := Try.sizeOf128
  v76 := Try.zeroValue128
  t77 := Try.underlying129
  a77 := Try.isAgg129
  z77 := Try.sizeOf129
  v77 := Try.zeroValue129 }
end Go.Proofs

set_option linter.unusedVariables false
set_option linter.unusedSimpArgs false
namespace Go.GH
open Go Go.Proofs Go.Sort
instance : Inhabited It := ⟨It.none⟩
def valI (x : It) : List Value := [bytesV x.path, .int .i64 x.kind, bytesV x.data, .int .i64 x.time]
theorem valI_flat (x : It) : (encI x).map flatV = valI x := rfl
theorem plain_items (l : Tr) : plainRows 4 (l.map encI) := by
  intro r hr
  obtain ⟨x, _, rfl⟩ := List.mem_map.1 hr
  refine ⟨rfl, fun c hc => ?_⟩
  simp only [encI, List.mem_cons, List.not_mem_nil, or_false] at hc
  rcases hc with rfl | rfl | rfl | rfl <;> rfl
theorem cell_items {l : Tr} {i f : Nat} {d : AV} (h : cellAt (l.map encI) i f = some d) : ∃ x, l[i]? = some x ∧ (encI x)[f]? = some d := by
  unfold cellAt at h
  rw [List.getElem?_map] at h
  cases hx : l[i]? with
  | none => rw [hx] at h; simp at h
  | some x => rw [hx] at h; exact ⟨x, rfl, by simpa using h⟩
theorem cmp_lt : ∀ (a b : Str), decide (Lib.compareBytes a b < 0) = strLt a b
  | [], [] => rfl
  | [], _ :: _ => rfl
  | _ :: _, [] => rfl
  | x :: a, y :: b => by
    simp only [Lib.compareBytes, strLt]
    have ih := cmp_lt a b
    by_cases h1 : x < y
    · simp [h1]
    · by_cases h2 : y < x
      · have hxy : (x == y) = false := by rw [beq_eq_false_iff_ne]; rintro rfl; exact h1 h2
        simp [h1, h2, hxy]
      · have hxy : x = y := UInt8.le_antisymm (UInt8.not_lt.1 h2) (UInt8.not_lt.1 h1)
        subst hxy
        simpa [h1] using ih
def cfI (x y : It) : Int := Lib.compareBytes x.path y.path
theorem ltI (x y : It) : ltOf cfI x y = strLt x.path y.path := cmp_lt x.path y.path
theorem swoI : Sort.SWO (ltOf cfI) where
  irrefl x := by rw [ltI]; exact strLt_irrefl _
  trans x y z h1 h2 := by rw [ltI] at *; exact strLt_trans h1 h2
  ntrans x y z h1 h2 := by
    rw [ltI] at *
    have := leB_trans z y x (by simp [leB, h2]) (by simp [leB, h1])
    simpa [leB] using this
theorem getElem_list {l : Tr} {i : Nat} {x : It} (h : l[i]? = some x) : l.toArray[i]! = x := by
  simp [Array.getElem!_eq_getD, Array.getD_eq_getD_getElem?, h]
theorem flat_at {l : Tr} {i f : Nat} {x : It} {d : AV} (hx : l[i]? = some x) (hd : (encI x)[f]? = some d) : i * 4 + f < l.toArray.size * 4 ∧ (flatK valI 4 l.toArray)[i * 4 + f]! = flatV d := by
  have hi := lt_of_get hx
  have hf : f < 4 := by
    have := lt_of_get hd
    exact this
  have hlt : i * 4 + f < l.toArray.size * 4 := by simp; omega
  refine ⟨hlt, ?_⟩
  rw [get_flatK _ _ _ _ hlt, show (i * 4 + f) / 4 = i by omega, show (i * 4 + f) % 4 = f by omega, getElem_list hx, ← valI_flat]
  rw [getElem!_def, List.getElem?_map, hd]
  rfl
theorem flat_any {l : Tr} {t : Nat} (h : t < (flatK valI 4 l.toArray).size) : ∃ i f x d, t = i * 4 + f ∧ l[i]? = some x ∧ (encI x)[f]? = some d := by
  have h : t < l.length * 4 := by simpa using h
  obtain ⟨x, hx⟩ := get_lt (l := l) (i := t / 4) (by omega)
  obtain ⟨d, hd⟩ := get_lt (l := encI x) (i := t % 4) (by show t % 4 < 4; omega)
  exact ⟨t / 4, t % 4, x, d, by omega, hx, hd⟩
def c_slices_SortFunc_Item : PCon := ⟨[.mv, mC], false, false, Tr, fun l => [.own 4 (l.map encI), .fn 57 []], fun l => dst l ∧ l.length ≤ 4194304, fun _ => .tup [], fun l => [.own 4 ((sortT l).map encI)]⟩
set_option maxRecDepth 100000 in
set_option maxHeartbeats 2000000 in
theorem ok_slices_SortFunc_Item : ConOk Try.prog 56 c_slices_SortFunc_Item := by
  refine con_of_row (c := c_slices_SortFunc_Item) (s := 4) (rows := fun l => l.map encI) (rows' := fun l => (sortT l).map encI) (snd := fun _ => .fn 57 []) rfl (fun _ => rfl) (fun _ => rfl) (fun _ => rfl) (fun l => plain_items l) (fun l => plain_items _) (fun (l : Tr) => by rw [List.length_map, List.length_map, sortT_len]) Try.call56 (fun _ => trivial) ?_ ?_ ?_
  · intro (l : Tr) _ _ y w a cap v ρ _
    refine (AnyF.slices_SortFunc_none Try.sortItem a cap v w).mono ?_
    rintro e w' ⟨rfl, rfl⟩
    exact ⟨rfl, RowKit.Below.refl _ _⟩
  · intro (l : Tr) y w h n ρ v hs
    cases hs with
    | cell hr => cases hr
    | fn hl hc => exact .fn hl (by simp)
  · intro (l : Tr) hpre hne y w b o cap v ρ hb hv hrow
    obtain ⟨hd, hl⟩ : dst l ∧ l.length ≤ 4194304 := hpre
    have hv : v = .func (.func 57) #[] #[] := by
      cases hv with
      | cell hr => cases hr
      | fn hl hc =>
        rename_i us
        have : us = #[] := Array.eq_empty_of_size_eq_zero hl
        rw [this]
    subst hv
    obtain ⟨c, e, fz, h1, h2, h3⟩ := hrow
    have hH : HoldsK valI 4 w b o l.toArray := by
      intro t ht
      obtain ⟨i, f, x, d, rfl, hx, hd'⟩ := flat_any ht
      have hc := h3 i f d (by unfold cellAt; simp [hx, hd'])
      have hlt := (Array.getElem?_eq_some_iff.1 hc).1
      refine ⟨?_, ?_⟩
      · rw [(flat_at hx hd').2]
        simp only [World.cell?, h1]
        exact hc
      · simp only [World.frozen?, h1]
        rcases h2 with h2 | h2
        · simp; omega
        · simp; omega
    have hcon := AnyQ.slices_SortFunc Try.sortItem 4 Try.isAgg58 Try.sizeOf58 valI (fun _ => rfl) (fun x v hv => by
      simp [valI] at hv
      rcases hv with rfl | rfl | rfl | rfl <;> rfl) cfI swoI 57 #[] b o cap l.toArray w Try.call57 (fun m os dk hs x y => Try.byPath_calls _ _ _ _ _ _ _ _ _) hH hb (by simp; omega)
    change Calls Try.prog 56 _ _ _ at hcon
    have ez : (l.map encI).length = l.toArray.size := by simp
    show Calls Try.prog 56 #[.slice (some ⟨b, o, none⟩) (l.map encI).length cap, .func (.func 57) #[] #[]] w _
    rw [ez]
    refine hcon.mono ?_
    clear hcon hH
    rintro e' w' ⟨rfl, d', n, os, hp, hsrt, rfl⟩
    refine ⟨rfl, ?_⟩
    obtain ⟨p1, _, p3⟩ := hp
    have hsz : d'.size = l.length := by simpa using p1
    have hperm : d'.toList.Perm l := by
      have e1 : d'.extract 0 l.toArray.size = d' := by
        rw [show l.toArray.size = d'.size by rw [hsz]; simp]; exact Array.extract_size
      have e2 : l.toArray.extract 0 l.toArray.size = l.toArray := Array.extract_size
      rw [e1, e2] at p3
      simpa using p3
    have hpw : d'.toList.Pairwise fun a b => leB a b = true := by
      refine List.pairwise_iff_getElem.2 fun i j hi hj hij => ?_
      have := hsrt i j (Nat.zero_le _) hij (by simpa [hsz] using hj)
      rw [ltI] at this
      simp only [Array.length_toList] at hi hj
      rw [getElem!_pos d' j hj, getElem!_pos d' i hi] at this
      simp [leB, this]
    have hm : d'.toList = sortT l := sortT_is hd hpw hperm
    have hd' : d' = (sortT l).toArray := by rw [← hm]
    subst hd'
    have hheap : (sortWorldK valI 4 w b o n (sortT l).toArray os).heap = w.heap.modify b (onCells (putCells id o (flatK valI 4 (sortT l).toArray))) ++ os := rfl
    refine ⟨rfl, rfl, rfl, ?_, fun k hk hkb => ?_, fun c1 e1 fz1 hc1 => ?_⟩
    · rw [hheap]; simp
    · rw [hheap, Array.getElem?_append_left (by simpa using hk), Array.getElem?_modify, if_neg (Ne.symm hkb)]
    · rw [h1] at hc1
      simp only [Option.some.injEq, Obj.cells.injEq] at hc1
      obtain ⟨rfl, rfl, rfl⟩ := hc1
      refine ⟨putCells id o (flatK valI 4 (sortT l).toArray) c, ?_, by simp [putCells], fun i f d hid => ?_⟩
      · rw [hheap, Array.getElem?_append_left (by simpa using hb), Array.getElem?_modify, if_pos rfl, h1]
        rfl
      · obtain ⟨x, hx, hxd⟩ := cell_items hid
        obtain ⟨q1, q2⟩ := flat_at hx hxd
        have hi := lt_of_get hx
        have hf : f < 4 := lt_of_get hxd
        rw [sortT_len] at hi
        obtain ⟨x0, hx0⟩ := get_lt (l := l) (i := i) hi
        obtain ⟨d0, hd0⟩ := get_lt (l := encI x0) (i := f) hf
        have hc0 := h3 i f d0 (by unfold cellAt; simp [hx0, hd0])
        have hlt := (Array.getElem?_eq_some_iff.1 hc0).1
        unfold putCells
        rw [Array.getElem?_mapIdx, Array.getElem?_eq_getElem hlt]
        simp only [Option.map_some, size_flatK]
        rw [if_pos ⟨by omega, by omega⟩, show o + (i * 4 + f) - o = i * 4 + f by omega, q2]
        rfl
end Go.GH

set_option linter.unusedVariables false
set_option linter.unusedSimpArgs false
namespace Go.GH
open Go Go.Proofs
noncomputable def c_impl_Merge : PCon := con [mS 4, mS 4] false (Tr × Tr) (fun ⟨a, b⟩ => [rdT a, rdT b]) (fun x => smT x.1 ∧ smT x.2) (fun x => .tup [.agg [.own 4 ((mergeP x.1 x.2).1.map encI)], .bool (mergeP x.1 x.2).2])
noncomputable def E_impl_Merge : Env := ⟨lookup tyTab, lookup [(39, c_impl_TreeOk), (48, c_impl_itemAt), (55, c_impl_cloneTree), (56, c_slices_SortFunc_Item)], [0, 1, 2, 3, 4, 5, 6, 8, 16, 21, 22, 23, 24, 31, 44]⟩
set_option maxRecDepth 100000 in
set_option maxHeartbeats 4000000 in
theorem m_impl_Merge : Meets E_impl_Merge (codeOf Try.f30) Try.f30.results.toList c_impl_Merge := by
  rintro ⟨a, b⟩ hs
  obtain ⟨ha, hb⟩ : smT a ∧ smT b := hs
  refine ⟨trivial, ?_⟩
  repeat ((conv => whnf); first | refine ⟨fun h => h, ?_⟩ | refine ⟨(by kernel_rfl : drawOk _ _ = true), ?_⟩ | refine ⟨fun (h : gtrue _) => by first | assumption | exact absurd (Eq.trans (Eq.symm h) (by assumption) : true = false) Bool.noConfusion, ?_⟩ | refine ⟨fun h => (absurd (Eq.trans (Eq.symm h) (by assumption) : true = false) Bool.noConfusion : False), ?_⟩ | refine ⟨_, w64 (by (show (_ : Prop)); first | omega | ((try dsimp only at *); (try simp only [lns] at *); omega)), ?_⟩ | refine ⟨fun _ => ⟨by (show (_ : Prop)); first | omega | ((try dsimp only at *); (try simp only [lns] at *); omega), by (show (_ : Prop)); first | omega | ((try dsimp only at *); (try simp only [lns] at *); omega), by (show (_ : Prop)); first | omega | ((try dsimp only at *); (try simp only [lns] at *); omega)⟩, ?_⟩ | refine ⟨by (show (_ : Prop)); first | omega | ((try dsimp only at *); (try simp only [lns] at *); omega), ?_⟩ | refine ⟨fun h => ⟨by (show (_ : Prop)); first | omega | ((try dsimp only at *); (try simp only [lns] at *); omega), by (show (_ : Prop)); first | omega | ((try dsimp only at *); (try simp only [lns] at *); omega)⟩, ?_⟩ | refine ⟨fun (r : List AV) hr c hc => by simp [encS] at hr; (try subst hr); simp at hc; (try subst hc); rfl, ?_⟩ | refine ⟨noOwn (by rfl), ?_⟩)
  refine ⟨a, rfl, fun _ => ha, ?_⟩
  repeat ((conv => whnf); first | refine ⟨fun h => h, ?_⟩ | refine ⟨(by kernel_rfl : drawOk _ _ = true), ?_⟩ | refine ⟨fun (h : gtrue _) => by first | assumption | exact absurd (Eq.trans (Eq.symm h) (by assumption) : true = false) Bool.noConfusion, ?_⟩ | refine ⟨fun h => (absurd (Eq.trans (Eq.symm h) (by assumption) : true = false) Bool.noConfusion : False), ?_⟩ | refine ⟨_, w64 (by (show (_ : Prop)); first | omega | ((try dsimp only at *); (try simp only [lns] at *); omega)), ?_⟩ | refine ⟨fun _ => ⟨by (show (_ : Prop)); first | omega | ((try dsimp only at *); (try simp only [lns] at *); omega), by (show (_ : Prop)); first | omega | ((try dsimp only at *); (try simp only [lns] at *); omega), by (show (_ : Prop)); first | omega | ((try dsimp only at *); (try simp only [lns] at *); omega)⟩, ?_⟩ | refine ⟨by (show (_ : Prop)); first | omega | ((try dsimp only at *); (try simp only [lns] at *); omega), ?_⟩ | refine ⟨fun h => ⟨by (show (_ : Prop)); first | omega | ((try dsimp only at *); (try simp only [lns] at *); omega), by (show (_ : Prop)); first | omega | ((try dsimp only at *); (try simp only [lns] at *); omega)⟩, ?_⟩ | refine ⟨fun (r : List AV) hr c hc => by simp [encS] at hr; (try subst hr); simp at hc; (try subst hc); rfl, ?_⟩ | refine ⟨noOwn (by rfl), ?_⟩)
  refine ⟨b, rfl, fun _ => hb, ?_⟩
  repeat ((conv => whnf); first | refine ⟨fun h => h, ?_⟩ | refine ⟨(by kernel_rfl : drawOk _ _ = true), ?_⟩ | refine ⟨fun (h : gtrue _) => by first | assumption | exact absurd (Eq.trans (Eq.symm h) (by assumption) : true = false) Bool.noConfusion, ?_⟩ | refine ⟨fun h => (absurd (Eq.trans (Eq.symm h) (by assumption) : true = false) Bool.noConfusion : False), ?_⟩ | refine ⟨_, w64 (by (show (_ : Prop)); first | omega | ((try dsimp only at *); (try simp only [lns] at *); omega)), ?_⟩ | refine ⟨fun _ => ⟨by (show (_ : Prop)); first | omega | ((try dsimp only at *); (try simp only [lns] at *); omega), by (show (_ : Prop)); first | omega | ((try dsimp only at *); (try simp only [lns] at *); omega), by (show (_ : Prop)); first | omega | ((try dsimp only at *); (try simp only [lns] at *); omega)⟩, ?_⟩ | refine ⟨by (show (_ : Prop)); first | omega | ((try dsimp only at *); (try simp only [lns] at *); omega), ?_⟩ | refine ⟨fun h => ⟨by (show (_ : Prop)); first | omega | ((try dsimp only at *); (try simp only [lns] at *); omega), by (show (_ : Prop)); first | omega | ((try dsimp only at *); (try simp only [lns] at *); omega)⟩, ?_⟩ | refine ⟨fun (r : List AV) hr c hc => by simp [encS] at hr; (try subst hr); simp at hc; (try subst hc); rfl, ?_⟩ | refine ⟨noOwn (by rfl), ?_⟩)
  (conv => whnf); refine ⟨fun h1 => ?_, fun h1 => ?_⟩
  · have h1 : (!treeOk a || !treeOk b) = true := h1
    repeat ((conv => whnf); first | refine ⟨fun h => h, ?_⟩ | refine ⟨(by kernel_rfl : drawOk _ _ = true), ?_⟩ | refine ⟨fun (h : gtrue _) => by first | assumption | exact absurd (Eq.trans (Eq.symm h) (by assumption) : true = false) Bool.noConfusion, ?_⟩ | refine ⟨fun h => (absurd (Eq.trans (Eq.symm h) (by assumption) : true = false) Bool.noConfusion : False), ?_⟩ | refine ⟨_, w64 (by (show (_ : Prop)); first | omega | ((try dsimp only at *); (try simp only [lns] at *); omega)), ?_⟩ | refine ⟨fun _ => ⟨by (show (_ : Prop)); first | omega | ((try dsimp only at *); (try simp only [lns] at *); omega), by (show (_ : Prop)); first | omega | ((try dsimp only at *); (try simp only [lns] at *); omega), by (show (_ : Prop)); first | omega | ((try dsimp only at *); (try simp only [lns] at *); omega)⟩, ?_⟩ | refine ⟨by (show (_ : Prop)); first | omega | ((try dsimp only at *); (try simp only [lns] at *); omega), ?_⟩ | refine ⟨fun h => ⟨by (show (_ : Prop)); first | omega | ((try dsimp only at *); (try simp only [lns] at *); omega), by (show (_ : Prop)); first | omega | ((try dsimp only at *); (try simp only [lns] at *); omega)⟩, ?_⟩ | refine ⟨fun (r : List AV) hr c hc => by simp [encS] at hr; (try subst hr); simp at hc; (try subst hc); rfl, ?_⟩ | refine ⟨noOwn (by rfl), ?_⟩)
    have h0 : mergeP a b = ([], false) := by unfold mergeP; revert h1; cases treeOk a <;> cases treeOk b <;> simp
    rw [show c_impl_Merge.res (a, b) = .tup [.agg [.own 4 []], .bool false] by show AV.tup [.agg [.own 4 ((mergeP a b).1.map encI)], .bool (mergeP a b).2] = _; rw [h0]; rfl]
    exact ⟨trivial, ⟨⟨rfl, rfl⟩, trivial⟩, rfl, trivial⟩
  have h1 : (!treeOk a || !treeOk b) = false := h1
  have oa : treeOk a = true := by revert h1; cases treeOk a <;> simp
  have ob : treeOk b = true := by revert h1; cases treeOk b <;> simp
  have la := treeOk_len oa
  have lb := treeOk_len ob
  repeat ((conv => whnf); first | refine ⟨fun h => h, ?_⟩ | refine ⟨(by kernel_rfl : drawOk _ _ = true), ?_⟩ | refine ⟨fun (h : gtrue _) => by first | assumption | exact absurd (Eq.trans (Eq.symm h) (by assumption) : true = false) Bool.noConfusion, ?_⟩ | refine ⟨fun h => (absurd (Eq.trans (Eq.symm h) (by assumption) : true = false) Bool.noConfusion : False), ?_⟩ | refine ⟨_, w64 (by (show (_ : Prop)); first | omega | ((try dsimp only at *); (try simp only [lns] at *); omega)), ?_⟩ | refine ⟨fun _ => ⟨by (show (_ : Prop)); first | omega | ((try dsimp only at *); (try simp only [lns] at *); omega), by (show (_ : Prop)); first | omega | ((try dsimp only at *); (try simp only [lns] at *); omega), by (show (_ : Prop)); first | omega | ((try dsimp only at *); (try simp only [lns] at *); omega)⟩, ?_⟩ | refine ⟨by (show (_ : Prop)); first | omega | ((try dsimp only at *); (try simp only [lns] at *); omega), ?_⟩ | refine ⟨fun h => ⟨by (show (_ : Prop)); first | omega | ((try dsimp only at *); (try simp only [lns] at *); omega), by (show (_ : Prop)); first | omega | ((try dsimp only at *); (try simp only [lns] at *); omega)⟩, ?_⟩ | refine ⟨fun (r : List AV) hr c hc => by simp [encS] at hr; (try subst hr); simp at hc; (try subst hc); rfl, ?_⟩ | refine ⟨noOwn (by rfl), ?_⟩)
  refine ⟨a, by refine argT ?_; simp [rdI], fun _ => ha, ?_⟩
  repeat ((conv => whnf); first | refine ⟨fun h => h, ?_⟩ | refine ⟨(by kernel_rfl : drawOk _ _ = true), ?_⟩ | refine ⟨fun (h : gtrue _) => by first | assumption | exact absurd (Eq.trans (Eq.symm h) (by assumption) : true = false) Bool.noConfusion, ?_⟩ | refine ⟨fun h => (absurd (Eq.trans (Eq.symm h) (by assumption) : true = false) Bool.noConfusion : False), ?_⟩ | refine ⟨_, w64 (by (show (_ : Prop)); first | omega | ((try dsimp only at *); (try simp only [lns] at *); omega)), ?_⟩ | refine ⟨fun _ => ⟨by (show (_ : Prop)); first | omega | ((try dsimp only at *); (try simp only [lns] at *); omega), by (show (_ : Prop)); first | omega | ((try dsimp only at *); (try simp only [lns] at *); omega), by (show (_ : Prop)); first | omega | ((try dsimp only at *); (try simp only [lns] at *); omega)⟩, ?_⟩ | refine ⟨by (show (_ : Prop)); first | omega | ((try dsimp only at *); (try simp only [lns] at *); omega), ?_⟩ | refine ⟨fun h => ⟨by (show (_ : Prop)); first | omega | ((try dsimp only at *); (try simp only [lns] at *); omega), by (show (_ : Prop)); first | omega | ((try dsimp only at *); (try simp only [lns] at *); omega)⟩, ?_⟩ | refine ⟨fun (r : List AV) hr c hc => by simp [encS] at hr; (try subst hr); simp at hc; (try subst hc); rfl, ?_⟩ | refine ⟨noOwn (by rfl), ?_⟩)
  refine loop_rule (fun i : Nat => ⟨[(2, ⟨none, .bx 0 0⟩), (3, ⟨none, .bx 1 0⟩), (4, ⟨none, .bx 2 0⟩), (5, ⟨none, .bool false⟩), (6, ⟨none, .bx 3 0⟩), (21, ⟨none, .rd 4 (b.map encI)⟩), (22, ⟨none, .int .i64 b.length⟩), (23, ⟨none, .int .i64 i⟩)], [(3, .own 1 [[.own 4 ((a ++ (b.take i).filter fun y => !inT a y).map encI)]]), (2, .own 1 [[.own 4 []]]), (1, .own 1 [[.rd 4 (b.map encI)]]), (0, .own 1 [[.rd 4 (a.map encI)]])], 4⟩)
    (fun i => i ≤ b.length) (fun i => b.length - i) 0 ?_ (by omega) ?_
  · (refine ⟨?_, ?_, rfl⟩ <;> repeat' (first | exact rfl | exact trivial | refine ⟨?_, ?_⟩ | fail) <;> (conv => whnf))
    all_goals simp [setCells]
  intro i hi
  have hi : i ≤ b.length := hi
  have hO : (a ++ (b.take i).filter fun y => !inT a y).length ≤ 80 := by
    rw [List.length_append]
    have := List.length_filter_le (fun y => !inT a y) (b.take i)
    rw [List.length_take] at this
    omega
  have hnext : ∀ {y : It}, b[i]? = some y → (a ++ (b.take (i + 1)).filter fun y => !inT a y) = (a ++ (b.take i).filter fun y => !inT a y) ++ [y].filter fun y => !inT a y := fun hy => by
    rw [take_succ' hy, List.filter_append, List.append_assoc]
  generalize hout : (a ++ (b.take i).filter fun y => !inT a y) = out at hO hnext ⊢
  (conv => whnf); refine ⟨fun h2 => ?_, fun h2 => ?_⟩
  · have h2 : i < b.length := by simpa using h2
    obtain ⟨y, hy⟩ := get_lt h2
    have hyb : y ∈ b := List.mem_of_getElem? hy
    have hin : decide (fnd (fun z => z.path == y.path) a < 0) = !inT a y := by
      rcases find_at (a := a) ob hyb with ⟨h4, h5⟩ | ⟨x, h4, h5, _, h6, _⟩
      · rw [inT, h4, h5]; rfl
      · rw [inT, h4, decide_eq_false (by omega)]; rfl
    repeat ((conv => whnf); first | refine ⟨fun h => h, ?_⟩ | refine ⟨(by kernel_rfl : drawOk _ _ = true), ?_⟩ | refine ⟨fun (h : gtrue _) => by first | assumption | exact absurd (Eq.trans (Eq.symm h) (by assumption) : true = false) Bool.noConfusion, ?_⟩ | refine ⟨fun h => (absurd (Eq.trans (Eq.symm h) (by assumption) : true = false) Bool.noConfusion : False), ?_⟩ | refine ⟨_, w64 (by (show (_ : Prop)); first | omega | ((try dsimp only at *); (try simp only [lns] at *); omega)), ?_⟩ | refine ⟨fun _ => ⟨by (show (_ : Prop)); first | omega | ((try dsimp only at *); (try simp only [lns] at *); omega), by (show (_ : Prop)); first | omega | ((try dsimp only at *); (try simp only [lns] at *); omega), by (show (_ : Prop)); first | omega | ((try dsimp only at *); (try simp only [lns] at *); omega)⟩, ?_⟩ | refine ⟨by (show (_ : Prop)); first | omega | ((try dsimp only at *); (try simp only [lns] at *); omega), ?_⟩ | refine ⟨fun h => ⟨by (show (_ : Prop)); first | omega | ((try dsimp only at *); (try simp only [lns] at *); omega), by (show (_ : Prop)); first | omega | ((try dsimp only at *); (try simp only [lns] at *); omega)⟩, ?_⟩ | refine ⟨fun (r : List AV) hr c hc => by simp [encS] at hr; (try subst hr); simp at hc; (try subst hc); rfl, ?_⟩ | refine ⟨noOwn (by rfl), ?_⟩ | refine ⟨encI y, fun _ => ⟨by omega, get_map hy⟩, ?_⟩)
    refine ⟨(a, y.path), rfl, fun _ => ha.1, ?_⟩
    repeat ((conv => whnf); first | refine ⟨fun h => h, ?_⟩ | refine ⟨(by kernel_rfl : drawOk _ _ = true), ?_⟩ | refine ⟨fun (h : gtrue _) => by first | assumption | exact absurd (Eq.trans (Eq.symm h) (by assumption) : true = false) Bool.noConfusion, ?_⟩ | refine ⟨fun h => (absurd (Eq.trans (Eq.symm h) (by assumption) : true = false) Bool.noConfusion : False), ?_⟩ | refine ⟨_, w64 (by (show (_ : Prop)); first | omega | ((try dsimp only at *); (try simp only [lns] at *); omega)), ?_⟩ | refine ⟨fun _ => ⟨by (show (_ : Prop)); first | omega | ((try dsimp only at *); (try simp only [lns] at *); omega), by (show (_ : Prop)); first | omega | ((try dsimp only at *); (try simp only [lns] at *); omega), by (show (_ : Prop)); first | omega | ((try dsimp only at *); (try simp only [lns] at *); omega)⟩, ?_⟩ | refine ⟨by (show (_ : Prop)); first | omega | ((try dsimp only at *); (try simp only [lns] at *); omega), ?_⟩ | refine ⟨fun h => ⟨by (show (_ : Prop)); first | omega | ((try dsimp only at *); (try simp only [lns] at *); omega), by (show (_ : Prop)); first | omega | ((try dsimp only at *); (try simp only [lns] at *); omega)⟩, ?_⟩ | refine ⟨fun (r : List AV) hr c hc => by simp [encS] at hr; (try subst hr); simp at hc; (try subst hc); rfl, ?_⟩ | refine ⟨noOwn (by rfl), ?_⟩)
    (conv => whnf); refine ⟨fun h3 => ?_, fun h3 => ?_⟩
    · have h3 : inT a y = false := by simpa using hin.symm.trans h3
      repeat ((conv => whnf); first | refine ⟨fun h => h, ?_⟩ | refine ⟨(by kernel_rfl : drawOk _ _ = true), ?_⟩ | refine ⟨fun (h : gtrue _) => by first | assumption | exact absurd (Eq.trans (Eq.symm h) (by assumption) : true = false) Bool.noConfusion, ?_⟩ | refine ⟨fun h => (absurd (Eq.trans (Eq.symm h) (by assumption) : true = false) Bool.noConfusion : False), ?_⟩ | refine ⟨_, w64 (by (show (_ : Prop)); first | omega | ((try dsimp only at *); (try simp only [lns] at *); omega)), ?_⟩ | refine ⟨fun _ => ⟨by (show (_ : Prop)); first | omega | ((try dsimp only at *); (try simp only [lns] at *); omega), by (show (_ : Prop)); first | omega | ((try dsimp only at *); (try simp only [lns] at *); omega), by (show (_ : Prop)); first | omega | ((try dsimp only at *); (try simp only [lns] at *); omega)⟩, ?_⟩ | refine ⟨by (show (_ : Prop)); first | omega | ((try dsimp only at *); (try simp only [lns] at *); omega), ?_⟩ | refine ⟨fun h => ⟨by (show (_ : Prop)); first | omega | ((try dsimp only at *); (try simp only [lns] at *); omega), by (show (_ : Prop)); first | omega | ((try dsimp only at *); (try simp only [lns] at *); omega)⟩, ?_⟩ | refine ⟨fun (r : List AV) hr c hc => by simp [encS] at hr; (try subst hr); simp at hc; (try subst hc); rfl, ?_⟩ | refine ⟨noOwn (by rfl), ?_⟩)
      refine again (i + 1) ?_ h2 (by first | omega | (simp; done) | (simp; omega))
      rw [hnext hy]
      (refine ⟨?_, ?_, rfl⟩ <;> repeat' (first | exact rfl | exact trivial | refine ⟨?_, ?_⟩ | fail) <;> (conv => whnf))
      all_goals first | (simp [h3, setCells, encI]; done) | (simp [h3, setCells, encI]; rw [List.take_of_length_le (by simp)]; rfl)
    · have h3 : inT a y = true := by simpa using hin.symm.trans h3
      repeat ((conv => whnf); first | refine ⟨fun h => h, ?_⟩ | refine ⟨(by kernel_rfl : drawOk _ _ = true), ?_⟩ | refine ⟨fun (h : gtrue _) => by first | assumption | exact absurd (Eq.trans (Eq.symm h) (by assumption) : true = false) Bool.noConfusion, ?_⟩ | refine ⟨fun h => (absurd (Eq.trans (Eq.symm h) (by assumption) : true = false) Bool.noConfusion : False), ?_⟩ | refine ⟨_, w64 (by (show (_ : Prop)); first | omega | ((try dsimp only at *); (try simp only [lns] at *); omega)), ?_⟩ | refine ⟨fun _ => ⟨by (show (_ : Prop)); first | omega | ((try dsimp only at *); (try simp only [lns] at *); omega), by (show (_ : Prop)); first | omega | ((try dsimp only at *); (try simp only [lns] at *); omega), by (show (_ : Prop)); first | omega | ((try dsimp only at *); (try simp only [lns] at *); omega)⟩, ?_⟩ | refine ⟨by (show (_ : Prop)); first | omega | ((try dsimp only at *); (try simp only [lns] at *); omega), ?_⟩ | refine ⟨fun h => ⟨by (show (_ : Prop)); first | omega | ((try dsimp only at *); (try simp only [lns] at *); omega), by (show (_ : Prop)); first | omega | ((try dsimp only at *); (try simp only [lns] at *); omega)⟩, ?_⟩ | refine ⟨fun (r : List AV) hr c hc => by simp [encS] at hr; (try subst hr); simp at hc; (try subst hc); rfl, ?_⟩ | refine ⟨noOwn (by rfl), ?_⟩)
      refine again (i + 1) ?_ h2 (by first | omega | (simp; done) | (simp; omega))
      rw [hnext hy]
      (refine ⟨?_, ?_, rfl⟩ <;> repeat' (first | exact rfl | exact trivial | refine ⟨?_, ?_⟩ | fail) <;> (conv => whnf))
      all_goals simp [h3, setCells]
  · have h2 : i = b.length := by
      have : ¬ i < b.length := by simpa using h2
      omega
    subst h2
    rw [List.take_length] at hout
    have hout : joinT a b = out := hout
    obtain ⟨hd, hm0⟩ := merge_both oa ob
    rw [hout] at hd hm0
    have hsm := (merge_sm oa ob ha hb b.length).2
    rw [List.take_length, show b.foldl (mergeStep a) a = mergeS a b from rfl, hm0] at hsm
    have hsm : smT (sortT out) := ⟨by rw [sortT_len]; omega, hsm⟩
    repeat ((conv => whnf); first | refine ⟨fun h => h, ?_⟩ | refine ⟨(by kernel_rfl : drawOk _ _ = true), ?_⟩ | refine ⟨fun (h : gtrue _) => by first | assumption | exact absurd (Eq.trans (Eq.symm h) (by assumption) : true = false) Bool.noConfusion, ?_⟩ | refine ⟨fun h => (absurd (Eq.trans (Eq.symm h) (by assumption) : true = false) Bool.noConfusion : False), ?_⟩ | refine ⟨_, w64 (by (show (_ : Prop)); first | omega | ((try dsimp only at *); (try simp only [lns] at *); omega)), ?_⟩ | refine ⟨fun _ => ⟨by (show (_ : Prop)); first | omega | ((try dsimp only at *); (try simp only [lns] at *); omega), by (show (_ : Prop)); first | omega | ((try dsimp only at *); (try simp only [lns] at *); omega), by (show (_ : Prop)); first | omega | ((try dsimp only at *); (try simp only [lns] at *); omega)⟩, ?_⟩ | refine ⟨by (show (_ : Prop)); first | omega | ((try dsimp only at *); (try simp only [lns] at *); omega), ?_⟩ | refine ⟨fun h => ⟨by (show (_ : Prop)); first | omega | ((try dsimp only at *); (try simp only [lns] at *); omega), by (show (_ : Prop)); first | omega | ((try dsimp only at *); (try simp only [lns] at *); omega)⟩, ?_⟩ | refine ⟨fun (r : List AV) hr c hc => by simp [encS] at hr; (try subst hr); simp at hc; (try subst hc); rfl, ?_⟩ | refine ⟨noOwn (by rfl), ?_⟩)
    refine ⟨out, rfl, fun _ => ⟨hd, by omega⟩, ?_⟩
    repeat ((conv => whnf); first | refine ⟨fun h => h, ?_⟩ | refine ⟨(by kernel_rfl : drawOk _ _ = true), ?_⟩ | refine ⟨fun (h : gtrue _) => by first | assumption | exact absurd (Eq.trans (Eq.symm h) (by assumption) : true = false) Bool.noConfusion, ?_⟩ | refine ⟨fun h => (absurd (Eq.trans (Eq.symm h) (by assumption) : true = false) Bool.noConfusion : False), ?_⟩ | refine ⟨_, w64 (by (show (_ : Prop)); first | omega | ((try dsimp only at *); (try simp only [lns] at *); omega)), ?_⟩ | refine ⟨fun _ => ⟨by (show (_ : Prop)); first | omega | ((try dsimp only at *); (try simp only [lns] at *); omega), by (show (_ : Prop)); first | omega | ((try dsimp only at *); (try simp only [lns] at *); omega), by (show (_ : Prop)); first | omega | ((try dsimp only at *); (try simp only [lns] at *); omega)⟩, ?_⟩ | refine ⟨by (show (_ : Prop)); first | omega | ((try dsimp only at *); (try simp only [lns] at *); omega), ?_⟩ | refine ⟨fun h => ⟨by (show (_ : Prop)); first | omega | ((try dsimp only at *); (try simp only [lns] at *); omega), by (show (_ : Prop)); first | omega | ((try dsimp only at *); (try simp only [lns] at *); omega)⟩, ?_⟩ | refine ⟨fun (r : List AV) hr c hc => by simp [encS] at hr; (try subst hr); simp at hc; (try subst hc); rfl, ?_⟩ | refine ⟨noOwn (by rfl), ?_⟩)
    refine ⟨sortT out, by refine argT ?_; simp [rdI], fun _ => hsm, ?_⟩
    repeat ((conv => whnf); first | refine ⟨fun h => h, ?_⟩ | refine ⟨(by kernel_rfl : drawOk _ _ = true), ?_⟩ | refine ⟨fun (h : gtrue _) => by first | assumption | exact absurd (Eq.trans (Eq.symm h) (by assumption) : true = false) Bool.noConfusion, ?_⟩ | refine ⟨fun h => (absurd (Eq.trans (Eq.symm h) (by assumption) : true = false) Bool.noConfusion : False), ?_⟩ | refine ⟨_, w64 (by (show (_ : Prop)); first | omega | ((try dsimp only at *); (try simp only [lns] at *); omega)), ?_⟩ | refine ⟨fun _ => ⟨by (show (_ : Prop)); first | omega | ((try dsimp only at *); (try simp only [lns] at *); omega), by (show (_ : Prop)); first | omega | ((try dsimp only at *); (try simp only [lns] at *); omega), by (show (_ : Prop)); first | omega | ((try dsimp only at *); (try simp only [lns] at *); omega)⟩, ?_⟩ | refine ⟨by (show (_ : Prop)); first | omega | ((try dsimp only at *); (try simp only [lns] at *); omega), ?_⟩ | refine ⟨fun h => ⟨by (show (_ : Prop)); first | omega | ((try dsimp only at *); (try simp only [lns] at *); omega), by (show (_ : Prop)); first | omega | ((try dsimp only at *); (try simp only [lns] at *); omega)⟩, ?_⟩ | refine ⟨fun (r : List AV) hr c hc => by simp [encS] at hr; (try subst hr); simp at hc; (try subst hc); rfl, ?_⟩ | refine ⟨noOwn (by rfl), ?_⟩)
    (conv => whnf); refine ⟨fun h4 => ?_, fun h4 => ?_⟩
    · have h4 : (!treeOk (sortT out)) = true := h4
      have hm : mergeP a b = ([], false) := by
        unfold mergeP
        rw [hm0]
        revert h4; cases treeOk (sortT out) <;> simp
      rw [show c_impl_Merge.res (a, b) = .tup [.agg [.own 4 []], .bool false] by show AV.tup [.agg [.own 4 ((mergeP a b).1.map encI)], .bool (mergeP a b).2] = _; rw [hm]; rfl]
      repeat ((conv => whnf); first | refine ⟨fun h => h, ?_⟩ | refine ⟨(by kernel_rfl : drawOk _ _ = true), ?_⟩ | refine ⟨fun (h : gtrue _) => by first | assumption | exact absurd (Eq.trans (Eq.symm h) (by assumption) : true = false) Bool.noConfusion, ?_⟩ | refine ⟨fun h => (absurd (Eq.trans (Eq.symm h) (by assumption) : true = false) Bool.noConfusion : False), ?_⟩ | refine ⟨_, w64 (by (show (_ : Prop)); first | omega | ((try dsimp only at *); (try simp only [lns] at *); omega)), ?_⟩ | refine ⟨fun _ => ⟨by (show (_ : Prop)); first | omega | ((try dsimp only at *); (try simp only [lns] at *); omega), by (show (_ : Prop)); first | omega | ((try dsimp only at *); (try simp only [lns] at *); omega), by (show (_ : Prop)); first | omega | ((try dsimp only at *); (try simp only [lns] at *); omega)⟩, ?_⟩ | refine ⟨by (show (_ : Prop)); first | omega | ((try dsimp only at *); (try simp only [lns] at *); omega), ?_⟩ | refine ⟨fun h => ⟨by (show (_ : Prop)); first | omega | ((try dsimp only at *); (try simp only [lns] at *); omega), by (show (_ : Prop)); first | omega | ((try dsimp only at *); (try simp only [lns] at *); omega)⟩, ?_⟩ | refine ⟨fun (r : List AV) hr c hc => by simp [encS] at hr; (try subst hr); simp at hc; (try subst hc); rfl, ?_⟩ | refine ⟨noOwn (by rfl), ?_⟩)
      exact ⟨trivial, ⟨⟨rfl, rfl⟩, trivial⟩, rfl, trivial⟩
    · have h4 : (!treeOk (sortT out)) = false := h4
      have hm : mergeP a b = (sortT out, true) := by
        unfold mergeP
        rw [hm0, oa, ob]
        revert h4; cases treeOk (sortT out) <;> simp
      rw [show c_impl_Merge.res (a, b) = .tup [.agg [.own 4 ((sortT out).map encI)], .bool true] by show AV.tup [.agg [.own 4 ((mergeP a b).1.map encI)], .bool (mergeP a b).2] = _; rw [hm]]
      repeat ((conv => whnf); first | refine ⟨fun h => h, ?_⟩ | refine ⟨(by kernel_rfl : drawOk _ _ = true), ?_⟩ | refine ⟨fun (h : gtrue _) => by first | assumption | exact absurd (Eq.trans (Eq.symm h) (by assumption) : true = false) Bool.noConfusion, ?_⟩ | refine ⟨fun h => (absurd (Eq.trans (Eq.symm h) (by assumption) : true = false) Bool.noConfusion : False), ?_⟩ | refine ⟨_, w64 (by (show (_ : Prop)); first | omega | ((try dsimp only at *); (try simp only [lns] at *); omega)), ?_⟩ | refine ⟨fun _ => ⟨by (show (_ : Prop)); first | omega | ((try dsimp only at *); (try simp only [lns] at *); omega), by (show (_ : Prop)); first | omega | ((try dsimp only at *); (try simp only [lns] at *); omega), by (show (_ : Prop)); first | omega | ((try dsimp only at *); (try simp only [lns] at *); omega)⟩, ?_⟩ | refine ⟨by (show (_ : Prop)); first | omega | ((try dsimp only at *); (try simp only [lns] at *); omega), ?_⟩ | refine ⟨fun h => ⟨by (show (_ : Prop)); first | omega | ((try dsimp only at *); (try simp only [lns] at *); omega), by (show (_ : Prop)); first | omega | ((try dsimp only at *); (try simp only [lns] at *); omega)⟩, ?_⟩ | refine ⟨fun (r : List AV) hr c hc => by simp [encS] at hr; (try subst hr); simp at hc; (try subst hc); rfl, ?_⟩ | refine ⟨noOwn (by rfl), ?_⟩)
      exact ⟨trivial, ⟨⟨rfl, by simp⟩, trivial⟩, rfl, trivial⟩
theorem ok_impl_Merge : ConOk Try.prog 30 c_impl_Merge := meets_ok (tabT _ _) (FOk.cons ok_impl_TreeOk (FOk.cons ok_impl_itemAt (FOk.cons ok_impl_cloneTree (FOk.cons ok_slices_SortFunc_Item FOk.nil)))) mixed Try.func30 rfl Try.call30 (by decide) (by kernel_rfl) m_impl_Merge (by intro _ (y : (Tr × Tr)) _; exact ⟨by simp [c_impl_Merge, con, AV.noRd, noRdCells, noRdRows, noRdRows_map', encS, encI], by simp [c_impl_Merge, con, AV.noRd, noRdCells, noRdRows, noRdRows_map', encS, encI]⟩) (by intro (y : (Tr × Tr)) _; first | (simp [c_impl_Merge, con, AV.free, freeCells, freeRows, freeRows_map, encS, rdT, encI]; done) | (obtain ⟨_, _⟩ := y; simp [c_impl_Merge, con, AV.free, freeCells, freeRows, freeRows_map, encS, rdT, encI]; done) | (obtain ⟨_, _, _⟩ := y; simp [c_impl_Merge, con, AV.free, freeCells, freeRows, freeRows_map, encS, rdT, encI]; done))
end Go.GH

set_option linter.unusedVariables false
set_option linter.unusedSimpArgs false
namespace Go.GH
open Go
def digs : Nat → Nat → Str → Str
  | 0, _, out => out
  | f + 1, k, out => if k = 0 then out else digs f (k / 10) (UInt8.ofNat (48 + k % 10) :: out)
def markT (k : Int) : Str := if k ≤ 0 then [109, 48] else 109 :: digs 64 k.toNat []
noncomputable def hide {α : Type} (x : α) : α := Classical.choose (⟨x, rfl⟩ : ∃ y, y = x)
theorem hide_eq {α : Type} (x : α) : hide x = x := Classical.choose_spec (⟨x, rfl⟩ : ∃ y, y = x)
noncomputable def mkT : Int → Str := hide markT
theorem mkT_eq (k : Int) : mkT k = markT k := by rw [mkT, hide_eq]
theorem digs_more : ∀ (f f' k : Nat) (out : Str), k < 2 ^ f → k < 2 ^ f' → digs f k out = digs f' k out
  | 0, 0, k, out, _, _ => rfl
  | 0, f' + 1, k, out, h, _ => by
    have : k = 0 := by simpa using h
    subst this; simp [digs]
  | f + 1, 0, k, out, _, h => by
    have : k = 0 := by simpa using h
    subst this; simp [digs]
  | f + 1, f' + 1, k, out, h, h' => by
    simp only [digs]
    split
    · rfl
    · exact digs_more f f' _ _ (by rw [Nat.pow_succ] at h; omega) (by rw [Nat.pow_succ] at h'; omega)
theorem digs_step {k : Nat} {out : Str} (h : 0 < k) (hk : k < 2 ^ 63) : digs 64 k out = digs 64 (k / 10) (UInt8.ofNat (48 + k % 10) :: out) := by
  conv => lhs; rw [digs]
  rw [if_neg (by omega)]
  exact digs_more 63 64 _ _ (by omega) (by omega)
theorem digs_zero {out : Str} : digs 64 0 out = out := by simp [digs]
theorem digs_len : ∀ (f k : Nat) (out : Str), (digs f k out).length ≤ f + out.length
  | 0, _, out => by simp [digs]
  | f + 1, k, out => by
    rw [digs]
    split
    · omega
    · have := digs_len f (k / 10) (UInt8.ofNat (48 + k % 10) :: out)
      rw [List.length_cons] at this; omega
theorem markT_len (k : Int) : (markT k).length ≤ 65 := by
  unfold markT
  split
  · simp
  · have := digs_len 64 k.toNat []
    simp at this ⊢; omega
noncomputable def mkI (k : Int) (i : Nat) : It := hide ⟨mkT (k + 4 * i), k + 4 * i + 1, mkT (k + 4 * i + 2), k + 4 * i + 3⟩
noncomputable def mkO (k : Int) (i : Nat) : OpR := hide ⟨k + 6 * i, mkT (k + 6 * i + 1), mkT (k + 6 * i + 2), k + 6 * i + 3, mkT (k + 6 * i + 4), k + 6 * i + 5⟩
def marked {α : Type} (f : α → List AV) (mk : Nat → α) (l : List α) (i : Nat) : List (List AV) := ((List.range i).map fun j => f (mk j)) ++ (l.drop i).map f
theorem marked_zero {α : Type} {f : α → List AV} {mk : Nat → α} {l : List α} : marked f mk l 0 = l.map f := by simp [marked]
theorem marked_all {α : Type} {f : α → List AV} {mk : Nat → α} {l : List α} : marked f mk l l.length = (List.range l.length).map fun j => f (mk j) := by simp [marked]
theorem marked_len {α : Type} {f : α → List AV} {mk : Nat → α} {l : List α} {i : Nat} (hi : i ≤ l.length) : (marked f mk l i).length = l.length := by
  simp [marked]; omega
theorem marked_get {α : Type} {f : α → List AV} {mk : Nat → α} {l : List α} {i : Nat} {x : α} (hx : l[i]? = some x) : (marked f mk l i)[i]? = some (f x) := by
  unfold marked
  rw [List.getElem?_append_right (by simp)]
  simp [hx]
theorem marked_set {α : Type} {f : α → List AV} {mk : Nat → α} {l : List α} {i : Nat} {x : α} (hx : l[i]? = some x) : (marked f mk l i).set i (f (mk i)) = marked f mk l (i + 1) := by
  have hi := lt_of_get hx
  unfold marked
  rw [List.set_append_right _ _ (by simp), ← List.getElem_cons_drop hi, List.map_cons, show i - ((List.range i).map fun j => f (mk j)).length = 0 by simp, List.set_cons_zero, List.range_succ, List.map_append]
  simp
theorem argOK {s : Nat} {x x' : List (List AV)} {k : Int} (h : x = x') : [AV.own s x, .int .i64 k] = [AV.own s x', .int .i64 k] := by rw [h]
theorem argCK {s : Nat} {x x' : List (List AV)} {k : Int} (h : x = x') : [AV.agg [AV.own s x], .int .i64 k] = [AV.agg [AV.own s x'], .int .i64 k] := by rw [h]
theorem argRK {s : Nat} {x x' : List (List AV)} {k : Int} (h : x = x') : [AV.rd s x, .int .i64 k] = [AV.rd s x', .int .i64 k] := by rw [h]
theorem toRdRows_mk {α : Type} {f : α → List AV} (h : ∀ a, toRdCells (f a) = f a) (l : List Nat) (g : Nat → α) : toRdRows (l.map fun i => f (g i)) = l.map fun i => f (g i) := toRdRows_map (f := fun i => f (g i)) (fun i => h (g i)) l
theorem argCR {s : Nat} {x x' : List (List AV)} {k : Int} (h : x = x') : [AV.agg [AV.rd s x], .int .i64 k] = [AV.agg [AV.rd s x'], .int .i64 k] := by rw [h]
theorem set_get {α : Type} {l : List α} {i : Nat} {x : α} (h : i < l.length) : (l.set i x)[i]? = some x := by simp [h]
theorem set_set {α : Type} {l : List α} {i : Nat} {x y : α} : (l.set i x).set i y = l.set i y := by simp
end Go.GH

set_option linter.unusedVariables false
set_option linter.unusedSimpArgs false
namespace Go.GH
open Go Go.Proofs
noncomputable def c_laws_markText : PCon := con [mC] true Int (fun k => [.int .i64 k]) (fun k => k ≤ 1152921504606846976) (fun k => .str (mkT k))
noncomputable def E_laws_markText : Env := ⟨lookup tyTab, lookup [], [0, 2, 3, 5, 7]⟩
set_option maxRecDepth 100000 in
set_option maxHeartbeats 4000000 in
theorem m_laws_markText : Meets E_laws_markText (codeOf Try.f52) Try.f52.results.toList c_laws_markText := by
  intro (k : Int) (hk : k ≤ 1152921504606846976)
  refine ⟨trivial, ?_⟩
  (conv => whnf); refine ⟨fun h1 => ?_, fun h1 => ?_⟩
  · have h1 : k ≤ 0 := by simpa using h1
    repeat ((conv => whnf); first | refine ⟨fun h => h, ?_⟩ | refine ⟨(by kernel_rfl : drawOk _ _ = true), ?_⟩ | refine ⟨fun (h : gtrue _) => by first | assumption | exact absurd (Eq.trans (Eq.symm h) (by assumption) : true = false) Bool.noConfusion, ?_⟩ | refine ⟨fun h => (absurd (Eq.trans (Eq.symm h) (by assumption) : true = false) Bool.noConfusion : False), ?_⟩ | refine ⟨_, w64 (by (show (_ : Prop)); first | omega | ((try dsimp only at *); (try simp only [lns] at *); omega)), ?_⟩ | refine ⟨fun _ => ⟨by (show (_ : Prop)); first | omega | ((try dsimp only at *); (try simp only [lns] at *); omega), by (show (_ : Prop)); first | omega | ((try dsimp only at *); (try simp only [lns] at *); omega), by (show (_ : Prop)); first | omega | ((try dsimp only at *); (try simp only [lns] at *); omega)⟩, ?_⟩ | refine ⟨by (show (_ : Prop)); first | omega | ((try dsimp only at *); (try simp only [lns] at *); omega), ?_⟩ | refine ⟨fun h => ⟨by (show (_ : Prop)); first | omega | ((try dsimp only at *); (try simp only [lns] at *); omega), by (show (_ : Prop)); first | omega | ((try dsimp only at *); (try simp only [lns] at *); omega)⟩, ?_⟩ | refine ⟨fun (r : List AV) hr c hc => by simp [encS] at hr; (try subst hr); simp at hc; (try subst hc); rfl, ?_⟩ | refine ⟨noOwn (by rfl), ?_⟩)
    exact ⟨trivial, eqS (by show _ = mkT k; rw [mkT_eq]; simp [markT, h1])⟩
  have h1 : 0 < k := by simp at h1; omega
  obtain ⟨n, rfl⟩ : ∃ n : Nat, k = n := ⟨k.toNat, by omega⟩
  repeat ((conv => whnf); first | refine ⟨fun h => h, ?_⟩ | refine ⟨(by kernel_rfl : drawOk _ _ = true), ?_⟩ | refine ⟨fun (h : gtrue _) => by first | assumption | exact absurd (Eq.trans (Eq.symm h) (by assumption) : true = false) Bool.noConfusion, ?_⟩ | refine ⟨fun h => (absurd (Eq.trans (Eq.symm h) (by assumption) : true = false) Bool.noConfusion : False), ?_⟩ | refine ⟨_, w64 (by (show (_ : Prop)); first | omega | ((try dsimp only at *); (try simp only [lns] at *); omega)), ?_⟩ | refine ⟨fun _ => ⟨by (show (_ : Prop)); first | omega | ((try dsimp only at *); (try simp only [lns] at *); omega), by (show (_ : Prop)); first | omega | ((try dsimp only at *); (try simp only [lns] at *); omega), by (show (_ : Prop)); first | omega | ((try dsimp only at *); (try simp only [lns] at *); omega)⟩, ?_⟩ | refine ⟨by (show (_ : Prop)); first | omega | ((try dsimp only at *); (try simp only [lns] at *); omega), ?_⟩ | refine ⟨fun h => ⟨by (show (_ : Prop)); first | omega | ((try dsimp only at *); (try simp only [lns] at *); omega), by (show (_ : Prop)); first | omega | ((try dsimp only at *); (try simp only [lns] at *); omega)⟩, ?_⟩ | refine ⟨fun (r : List AV) hr c hc => by simp [encS] at hr; (try subst hr); simp at hc; (try subst hc); rfl, ?_⟩ | refine ⟨noOwn (by rfl), ?_⟩)
  refine loop_rule (fun ((m, out) : Nat × Str) => ⟨[(0, ⟨none, .int .i64 m⟩), (3, ⟨none, .str out⟩)], [], 0⟩)
    (fun (m, out) => m ≤ n ∧ digs 64 n [] = digs 64 m out ∧ out.length ≤ n - m) (fun x => x.1) (n, []) ?_ ⟨by omega, rfl, by simp⟩ ?_
  · (refine ⟨?_, ?_, rfl⟩ <;> repeat' (first | exact rfl | exact trivial | refine ⟨?_, ?_⟩ | fail) <;> (conv => whnf))
  rintro ⟨m, out⟩ ⟨hm, hd, hl⟩
  (conv => whnf); refine ⟨fun h2 => ?_, fun h2 => ?_⟩
  · have h2 : 0 < m := by simp at h2; omega
    repeat ((conv => whnf); first | refine ⟨fun h => h, ?_⟩ | refine ⟨(by kernel_rfl : drawOk _ _ = true), ?_⟩ | refine ⟨fun (h : gtrue _) => by first | assumption | exact absurd (Eq.trans (Eq.symm h) (by assumption) : true = false) Bool.noConfusion, ?_⟩ | refine ⟨fun h => (absurd (Eq.trans (Eq.symm h) (by assumption) : true = false) Bool.noConfusion : False), ?_⟩ | refine ⟨_, w64 (by (show (_ : Prop)); first | omega | ((try dsimp only at *); (try simp only [lns] at *); omega)), ?_⟩ | refine ⟨fun _ => ⟨by (show (_ : Prop)); first | omega | ((try dsimp only at *); (try simp only [lns] at *); omega), by (show (_ : Prop)); first | omega | ((try dsimp only at *); (try simp only [lns] at *); omega), by (show (_ : Prop)); first | omega | ((try dsimp only at *); (try simp only [lns] at *); omega)⟩, ?_⟩ | refine ⟨by (show (_ : Prop)); first | omega | ((try dsimp only at *); (try simp only [lns] at *); omega), ?_⟩ | refine ⟨fun h => ⟨by (show (_ : Prop)); first | omega | ((try dsimp only at *); (try simp only [lns] at *); omega), by (show (_ : Prop)); first | omega | ((try dsimp only at *); (try simp only [lns] at *); omega)⟩, ?_⟩ | refine ⟨fun (r : List AV) hr c hc => by simp [encS] at hr; (try subst hr); simp at hc; (try subst hc); rfl, ?_⟩ | refine ⟨noOwn (by rfl), ?_⟩)
    refine ⟨((m % 10 : Nat) : Int), rfl, ?_⟩
    repeat ((conv => whnf); first | refine ⟨fun h => h, ?_⟩ | refine ⟨(by kernel_rfl : drawOk _ _ = true), ?_⟩ | refine ⟨fun (h : gtrue _) => by first | assumption | exact absurd (Eq.trans (Eq.symm h) (by assumption) : true = false) Bool.noConfusion, ?_⟩ | refine ⟨fun h => (absurd (Eq.trans (Eq.symm h) (by assumption) : true = false) Bool.noConfusion : False), ?_⟩ | refine ⟨_, w64 (by (show (_ : Prop)); first | omega | ((try dsimp only at *); (try simp only [lns] at *); omega)), ?_⟩ | refine ⟨fun _ => ⟨by (show (_ : Prop)); first | omega | ((try dsimp only at *); (try simp only [lns] at *); omega), by (show (_ : Prop)); first | omega | ((try dsimp only at *); (try simp only [lns] at *); omega), by (show (_ : Prop)); first | omega | ((try dsimp only at *); (try simp only [lns] at *); omega)⟩, ?_⟩ | refine ⟨by (show (_ : Prop)); first | omega | ((try dsimp only at *); (try simp only [lns] at *); omega), ?_⟩ | refine ⟨fun h => ⟨by (show (_ : Prop)); first | omega | ((try dsimp only at *); (try simp only [lns] at *); omega), by (show (_ : Prop)); first | omega | ((try dsimp only at *); (try simp only [lns] at *); omega)⟩, ?_⟩ | refine ⟨fun (r : List AV) hr c hc => by simp [encS] at hr; (try subst hr); simp at hc; (try subst hc); rfl, ?_⟩ | refine ⟨noOwn (by rfl), ?_⟩)
    refine ⟨((48 + m % 10 : Nat) : Int), by show Int.ofNat ((48 + m % 10) % 256) = _; rw [Nat.mod_eq_of_lt (by omega)]; rfl, ?_⟩
    repeat ((conv => whnf); first | refine ⟨fun h => h, ?_⟩ | refine ⟨(by kernel_rfl : drawOk _ _ = true), ?_⟩ | refine ⟨fun (h : gtrue _) => by first | assumption | exact absurd (Eq.trans (Eq.symm h) (by assumption) : true = false) Bool.noConfusion, ?_⟩ | refine ⟨fun h => (absurd (Eq.trans (Eq.symm h) (by assumption) : true = false) Bool.noConfusion : False), ?_⟩ | refine ⟨_, w64 (by (show (_ : Prop)); first | omega | ((try dsimp only at *); (try simp only [lns] at *); omega)), ?_⟩ | refine ⟨fun _ => ⟨by (show (_ : Prop)); first | omega | ((try dsimp only at *); (try simp only [lns] at *); omega), by (show (_ : Prop)); first | omega | ((try dsimp only at *); (try simp only [lns] at *); omega), by (show (_ : Prop)); first | omega | ((try dsimp only at *); (try simp only [lns] at *); omega)⟩, ?_⟩ | refine ⟨by (show (_ : Prop)); first | omega | ((try dsimp only at *); (try simp only [lns] at *); omega), ?_⟩ | refine ⟨fun h => ⟨by (show (_ : Prop)); first | omega | ((try dsimp only at *); (try simp only [lns] at *); omega), by (show (_ : Prop)); first | omega | ((try dsimp only at *); (try simp only [lns] at *); omega)⟩, ?_⟩ | refine ⟨fun (r : List AV) hr c hc => by simp [encS] at hr; (try subst hr); simp at hc; (try subst hc); rfl, ?_⟩ | refine ⟨noOwn (by rfl), ?_⟩)
    refine ⟨[UInt8.ofNat (48 + m % 10)], by
      have e : (UInt8.ofNat (48 + m % 10)).toNat = 48 + m % 10 := by rw [UInt8.toNat_ofNat']; omega
      rw [List.map_cons, List.map_nil, e]; rfl, ?_⟩
    repeat ((conv => whnf); first | refine ⟨fun h => h, ?_⟩ | refine ⟨(by kernel_rfl : drawOk _ _ = true), ?_⟩ | refine ⟨fun (h : gtrue _) => by first | assumption | exact absurd (Eq.trans (Eq.symm h) (by assumption) : true = false) Bool.noConfusion, ?_⟩ | refine ⟨fun h => (absurd (Eq.trans (Eq.symm h) (by assumption) : true = false) Bool.noConfusion : False), ?_⟩ | refine ⟨_, w64 (by (show (_ : Prop)); first | omega | ((try dsimp only at *); (try simp only [lns] at *); omega)), ?_⟩ | refine ⟨fun _ => ⟨by (show (_ : Prop)); first | omega | ((try dsimp only at *); (try simp only [lns] at *); omega), by (show (_ : Prop)); first | omega | ((try dsimp only at *); (try simp only [lns] at *); omega), by (show (_ : Prop)); first | omega | ((try dsimp only at *); (try simp only [lns] at *); omega)⟩, ?_⟩ | refine ⟨by (show (_ : Prop)); first | omega | ((try dsimp only at *); (try simp only [lns] at *); omega), ?_⟩ | refine ⟨fun h => ⟨by (show (_ : Prop)); first | omega | ((try dsimp only at *); (try simp only [lns] at *); omega), by (show (_ : Prop)); first | omega | ((try dsimp only at *); (try simp only [lns] at *); omega)⟩, ?_⟩ | refine ⟨fun (r : List AV) hr c hc => by simp [encS] at hr; (try subst hr); simp at hc; (try subst hc); rfl, ?_⟩ | refine ⟨noOwn (by rfl), ?_⟩)
    refine ⟨((m / 10 : Nat) : Int), w64 (a := ((m / 10 : Nat) : Int)) (by omega), ?_⟩
    repeat ((conv => whnf); first | refine ⟨fun h => h, ?_⟩ | refine ⟨(by kernel_rfl : drawOk _ _ = true), ?_⟩ | refine ⟨fun (h : gtrue _) => by first | assumption | exact absurd (Eq.trans (Eq.symm h) (by assumption) : true = false) Bool.noConfusion, ?_⟩ | refine ⟨fun h => (absurd (Eq.trans (Eq.symm h) (by assumption) : true = false) Bool.noConfusion : False), ?_⟩ | refine ⟨_, w64 (by (show (_ : Prop)); first | omega | ((try dsimp only at *); (try simp only [lns] at *); omega)), ?_⟩ | refine ⟨fun _ => ⟨by (show (_ : Prop)); first | omega | ((try dsimp only at *); (try simp only [lns] at *); omega), by (show (_ : Prop)); first | omega | ((try dsimp only at *); (try simp only [lns] at *); omega), by (show (_ : Prop)); first | omega | ((try dsimp only at *); (try simp only [lns] at *); omega)⟩, ?_⟩ | refine ⟨by (show (_ : Prop)); first | omega | ((try dsimp only at *); (try simp only [lns] at *); omega), ?_⟩ | refine ⟨fun h => ⟨by (show (_ : Prop)); first | omega | ((try dsimp only at *); (try simp only [lns] at *); omega), by (show (_ : Prop)); first | omega | ((try dsimp only at *); (try simp only [lns] at *); omega)⟩, ?_⟩ | refine ⟨fun (r : List AV) hr c hc => by simp [encS] at hr; (try subst hr); simp at hc; (try subst hc); rfl, ?_⟩ | refine ⟨noOwn (by rfl), ?_⟩)
    refine again (m / 10, UInt8.ofNat (48 + m % 10) :: out) ?_ ⟨by omega, by rw [hd, digs_step h2 (by omega)], by simp; omega⟩ (by show m / 10 < m; omega)
    (refine ⟨?_, ?_, rfl⟩ <;> repeat' (first | exact rfl | exact trivial | refine ⟨?_, ?_⟩ | fail) <;> (conv => whnf))
  · have h2 : m = 0 := by simp at h2; omega
    subst h2
    rw [digs_zero] at hd
    repeat ((conv => whnf); first | refine ⟨fun h => h, ?_⟩ | refine ⟨(by kernel_rfl : drawOk _ _ = true), ?_⟩ | refine ⟨fun (h : gtrue _) => by first | assumption | exact absurd (Eq.trans (Eq.symm h) (by assumption) : true = false) Bool.noConfusion, ?_⟩ | refine ⟨fun h => (absurd (Eq.trans (Eq.symm h) (by assumption) : true = false) Bool.noConfusion : False), ?_⟩ | refine ⟨_, w64 (by (show (_ : Prop)); first | omega | ((try dsimp only at *); (try simp only [lns] at *); omega)), ?_⟩ | refine ⟨fun _ => ⟨by (show (_ : Prop)); first | omega | ((try dsimp only at *); (try simp only [lns] at *); omega), by (show (_ : Prop)); first | omega | ((try dsimp only at *); (try simp only [lns] at *); omega), by (show (_ : Prop)); first | omega | ((try dsimp only at *); (try simp only [lns] at *); omega)⟩, ?_⟩ | refine ⟨by (show (_ : Prop)); first | omega | ((try dsimp only at *); (try simp only [lns] at *); omega), ?_⟩ | refine ⟨fun h => ⟨by (show (_ : Prop)); first | omega | ((try dsimp only at *); (try simp only [lns] at *); omega), by (show (_ : Prop)); first | omega | ((try dsimp only at *); (try simp only [lns] at *); omega)⟩, ?_⟩ | refine ⟨fun (r : List AV) hr c hc => by simp [encS] at hr; (try subst hr); simp at hc; (try subst hc); rfl, ?_⟩ | refine ⟨noOwn (by rfl), ?_⟩)
    exact ⟨trivial, eqS (by show _ = mkT n; rw [mkT_eq, markT, if_neg (by omega), Int.toNat_natCast, hd]; rfl)⟩
theorem ok_laws_markText : ConOk Try.prog 52 c_laws_markText := meets_ok (tabT _ _) FOk.nil mixed Try.func52 rfl Try.call52 (by decide) (by kernel_rfl) m_laws_markText (by intro _ (y : Int) _; exact ⟨by simp [c_laws_markText, con, AV.noRd, noRdCells, noRdRows, noRdRows_map', encS, encI, encO], by simp [c_laws_markText, con, AV.noRd, noRdCells, noRdRows, noRdRows_map', encS, encI, encO]⟩) (by intro (y : Int) _; first | (simp [c_laws_markText, con, AV.free, freeCells, freeRows, freeRows_map, encS, encI, encO]; done) | (obtain ⟨_, _⟩ := y; simp [c_laws_markText, con, AV.free, freeCells, freeRows, freeRows_map, encS, encI, encO]; done) | (obtain ⟨_, _, _⟩ := y; simp [c_laws_markText, con, AV.free, freeCells, freeRows, freeRows_map, encS, encI, encO]; done))
noncomputable def c_laws_markItemS : PCon := ⟨[.mv, mC], false, false, Tr × Int, fun ⟨t, k⟩ => [.own 4 (t.map encI), .int .i64 k], fun x => smT x.1 ∧ 0 ≤ x.2 ∧ x.2 ≤ 1099511627776, fun x => .int .i64 (x.2 + 4 * x.1.length), fun ⟨t, k⟩ => [.own 4 ((List.range t.length).map fun i => encI (mkI k i))]⟩
noncomputable def E_laws_markItemS : Env := ⟨lookup tyTab, lookup [(52, c_laws_markText)], [0, 1, 4, 5, 9]⟩
set_option maxRecDepth 100000 in
set_option maxHeartbeats 4000000 in
theorem m_laws_markItemS : Meets E_laws_markItemS (codeOf Try.f51) Try.f51.results.toList c_laws_markItemS := by
  rintro ⟨t, k⟩ hs
  obtain ⟨⟨hs1, hs2⟩, hk1, hk2⟩ : smT t ∧ 0 ≤ k ∧ k ≤ 1099511627776 := hs
  refine ⟨⟨⟨_, _, _, rfl, rfl, by simp⟩, trivial⟩, ?_⟩
  repeat ((conv => whnf); first | refine ⟨fun h => h, ?_⟩ | refine ⟨(by kernel_rfl : drawOk _ _ = true), ?_⟩ | refine ⟨fun (h : gtrue _) => by first | assumption | exact absurd (Eq.trans (Eq.symm h) (by assumption) : true = false) Bool.noConfusion, ?_⟩ | refine ⟨fun h => (absurd (Eq.trans (Eq.symm h) (by assumption) : true = false) Bool.noConfusion : False), ?_⟩ | refine ⟨_, w64 (by (show (_ : Prop)); first | omega | ((try dsimp only at *); (try simp only [lns] at *); omega)), ?_⟩ | refine ⟨fun _ => ⟨by (show (_ : Prop)); first | omega | ((try dsimp only at *); (try simp only [lns] at *); omega), by (show (_ : Prop)); first | omega | ((try dsimp only at *); (try simp only [lns] at *); omega), by (show (_ : Prop)); first | omega | ((try dsimp only at *); (try simp only [lns] at *); omega)⟩, ?_⟩ | refine ⟨by (show (_ : Prop)); first | omega | ((try dsimp only at *); (try simp only [lns] at *); omega), ?_⟩ | refine ⟨fun h => ⟨by (show (_ : Prop)); first | omega | ((try dsimp only at *); (try simp only [lns] at *); omega), by (show (_ : Prop)); first | omega | ((try dsimp only at *); (try simp only [lns] at *); omega)⟩, ?_⟩ | refine ⟨fun (r : List AV) hr c hc => by simp [encS] at hr; (try subst hr); simp at hc; (try subst hc); rfl, ?_⟩ | refine ⟨noOwn (by rfl), ?_⟩)
  refine loop_rule (fun i : Nat => ⟨[(0, ⟨none, .view 0 [] 0 t.length⟩), (1, ⟨none, .int .i64 (k + 4 * i)⟩), (5, ⟨none, .int .i64 i⟩)], [(0, .own 4 (marked encI (mkI k) t i))], 1⟩)
    (fun i => i ≤ t.length) (fun i => t.length - i) 0 ?_ (by omega) ?_
  · (refine ⟨?_, ?_, rfl⟩ <;> repeat' (first | exact rfl | exact trivial | refine ⟨?_, ?_⟩ | fail) <;> (conv => whnf))
    all_goals simp [marked]
  intro i hi
  have hi : i ≤ t.length := hi
  (conv => whnf); refine ⟨fun h2 => ?_, fun h2 => ?_⟩
  · have h2 : i < t.length := by simpa using h2
    have hml := marked_len (f := encI) (mk := mkI k) (l := t) (i := i) hi
    obtain ⟨x, hx⟩ := get_lt h2
    repeat ((conv => whnf); first | refine ⟨fun h => h, ?_⟩ | refine ⟨(by kernel_rfl : drawOk _ _ = true), ?_⟩ | refine ⟨fun (h : gtrue _) => by first | assumption | exact absurd (Eq.trans (Eq.symm h) (by assumption) : true = false) Bool.noConfusion, ?_⟩ | refine ⟨fun h => (absurd (Eq.trans (Eq.symm h) (by assumption) : true = false) Bool.noConfusion : False), ?_⟩ | refine ⟨_, w64 (by (show (_ : Prop)); first | omega | ((try dsimp only at *); (try simp only [lns] at *); omega)), ?_⟩ | refine ⟨fun _ => ⟨by (show (_ : Prop)); first | omega | ((try dsimp only at *); (try simp only [lns] at *); omega), by (show (_ : Prop)); first | omega | ((try dsimp only at *); (try simp only [lns] at *); omega), by (show (_ : Prop)); first | omega | ((try dsimp only at *); (try simp only [lns] at *); omega)⟩, ?_⟩ | refine ⟨by (show (_ : Prop)); first | omega | ((try dsimp only at *); (try simp only [lns] at *); omega), ?_⟩ | refine ⟨fun h => ⟨by (show (_ : Prop)); first | omega | ((try dsimp only at *); (try simp only [lns] at *); omega), by (show (_ : Prop)); first | omega | ((try dsimp only at *); (try simp only [lns] at *); omega)⟩, ?_⟩ | refine ⟨fun (r : List AV) hr c hc => by simp [encS] at hr; (try subst hr); simp at hc; (try subst hc); rfl, ?_⟩ | refine ⟨noOwn (by rfl), ?_⟩ | refine ⟨(_ : Int), rfl, fun _ => (show (_ : Int) ≤ (1152921504606846976 : Int) from by omega), ?_⟩ | refine ⟨encI x, by rw [Nat.zero_add, Int.toNat_natCast]; exact marked_get hx, ?_⟩ | refine ⟨_, set_get (by simp only [List.length_set, hml, Nat.zero_add, Int.toNat_natCast]; exact h2), ?_⟩)
    refine again (i + 1) ?_ h2 (by first | omega | (simp; done) | (simp; omega))
    (refine ⟨?_, ?_, rfl⟩ <;> repeat' (first | exact rfl | exact trivial | refine ⟨?_, ?_⟩ | fail) <;> (conv => whnf))
    · omega
    · rw [← marked_set hx]
      simp only [Nat.zero_add, Int.toNat_natCast, set_set]
      congr 1
      simp [encI, mkI, hide_eq, c_laws_markText, con, Int.add_assoc]
  · have h2 : i = t.length := by
      have : ¬ i < t.length := by simpa using h2
      omega
    subst h2
    repeat ((conv => whnf); first | refine ⟨fun h => h, ?_⟩ | refine ⟨(by kernel_rfl : drawOk _ _ = true), ?_⟩ | refine ⟨fun (h : gtrue _) => by first | assumption | exact absurd (Eq.trans (Eq.symm h) (by assumption) : true = false) Bool.noConfusion, ?_⟩ | refine ⟨fun h => (absurd (Eq.trans (Eq.symm h) (by assumption) : true = false) Bool.noConfusion : False), ?_⟩ | refine ⟨_, w64 (by (show (_ : Prop)); first | omega | ((try dsimp only at *); (try simp only [lns] at *); omega)), ?_⟩ | refine ⟨fun _ => ⟨by (show (_ : Prop)); first | omega | ((try dsimp only at *); (try simp only [lns] at *); omega), by (show (_ : Prop)); first | omega | ((try dsimp only at *); (try simp only [lns] at *); omega), by (show (_ : Prop)); first | omega | ((try dsimp only at *); (try simp only [lns] at *); omega)⟩, ?_⟩ | refine ⟨by (show (_ : Prop)); first | omega | ((try dsimp only at *); (try simp only [lns] at *); omega), ?_⟩ | refine ⟨fun h => ⟨by (show (_ : Prop)); first | omega | ((try dsimp only at *); (try simp only [lns] at *); omega), by (show (_ : Prop)); first | omega | ((try dsimp only at *); (try simp only [lns] at *); omega)⟩, ?_⟩ | refine ⟨fun (r : List AV) hr c hc => by simp [encS] at hr; (try subst hr); simp at hc; (try subst hc); rfl, ?_⟩ | refine ⟨noOwn (by rfl), ?_⟩)
    exact ⟨⟨congrArg some (congrArg (AV.own 4) marked_all), trivial⟩, rfl⟩
theorem ok_laws_markItemS : ConOk Try.prog 51 c_laws_markItemS := meets_ok (tabT _ _) (FOk.cons ok_laws_markText FOk.nil) mixed Try.func51 rfl Try.call51 (by decide) (by kernel_rfl) m_laws_markItemS (by intro _ (y : _) _; exact ⟨by simp [c_laws_markItemS, con, AV.noRd, noRdCells, noRdRows, noRdRows_map', encS, encI, encO], by simp [c_laws_markItemS, con, AV.noRd, noRdCells, noRdRows, noRdRows_map', encS, encI, encO]⟩) (by intro (y : _) _; first | (simp [c_laws_markItemS, con, AV.free, freeCells, freeRows, freeRows_map, encS, encI, encO]; done) | (obtain ⟨_, _⟩ := y; simp [c_laws_markItemS, con, AV.free, freeCells, freeRows, freeRows_map, encS, encI, encO]; done) | (obtain ⟨_, _, _⟩ := y; simp [c_laws_markItemS, con, AV.free, freeCells, freeRows, freeRows_map, encS, encI, encO]; done))
noncomputable def c_laws_heldItemS : PCon := con [mS 4, mC] true (Nat × Int) (fun ⟨n, k⟩ => [.rd 4 ((List.range n).map fun i => encI (mkI k i)), .int .i64 k]) (fun x => x.1 ≤ 4194304 ∧ 0 ≤ x.2 ∧ x.2 ≤ 1099511627776) (fun x => .int .i64 (x.2 + 4 * x.1))
noncomputable def E_laws_heldItemS : Env := ⟨lookup tyTab, lookup [(52, c_laws_markText)], [0, 1, 4, 5, 9, 19, 28, 38, 47]⟩
set_option maxRecDepth 100000 in
set_option maxHeartbeats 4000000 in
theorem m_laws_heldItemS : Meets E_laws_heldItemS (codeOf Try.f58) Try.f58.results.toList c_laws_heldItemS := by
  rintro ⟨n, k⟩ hs
  obtain ⟨hs1, hk1, hk2⟩ : n ≤ 4194304 ∧ 0 ≤ k ∧ k ≤ 1099511627776 := hs
  refine ⟨trivial, ?_⟩
  repeat ((conv => whnf); first | refine ⟨fun h => h, ?_⟩ | refine ⟨(by kernel_rfl : drawOk _ _ = true), ?_⟩ | refine ⟨fun (h : gtrue _) => by first | assumption | exact absurd (Eq.trans (Eq.symm h) (by assumption) : true = false) Bool.noConfusion, ?_⟩ | refine ⟨fun h => (absurd (Eq.trans (Eq.symm h) (by assumption) : true = false) Bool.noConfusion : False), ?_⟩ | refine ⟨_, w64 (by (show (_ : Prop)); first | omega | ((try dsimp only at *); (try simp only [lns] at *); omega)), ?_⟩ | refine ⟨fun _ => ⟨by (show (_ : Prop)); first | omega | ((try dsimp only at *); (try simp only [lns] at *); omega), by (show (_ : Prop)); first | omega | ((try dsimp only at *); (try simp only [lns] at *); omega), by (show (_ : Prop)); first | omega | ((try dsimp only at *); (try simp only [lns] at *); omega)⟩, ?_⟩ | refine ⟨by (show (_ : Prop)); first | omega | ((try dsimp only at *); (try simp only [lns] at *); omega), ?_⟩ | refine ⟨fun h => ⟨by (show (_ : Prop)); first | omega | ((try dsimp only at *); (try simp only [lns] at *); omega), by (show (_ : Prop)); first | omega | ((try dsimp only at *); (try simp only [lns] at *); omega)⟩, ?_⟩ | refine ⟨fun (r : List AV) hr c hc => by simp [encS] at hr; (try subst hr); simp at hc; (try subst hc); rfl, ?_⟩ | refine ⟨noOwn (by rfl), ?_⟩)
  refine loop_rule (fun i : Nat => ⟨[(0, ⟨none, .rd 4 ((List.range n).map fun i => encI (mkI k i))⟩), (1, ⟨none, .int .i64 (k + 4 * i)⟩), (5, ⟨none, .int .i64 i⟩)], [], 0⟩)
    (fun i => i ≤ n) (fun i => n - i) 0 ?_ (by omega) ?_
  · (refine ⟨?_, ?_, rfl⟩ <;> repeat' (first | exact rfl | exact trivial | refine ⟨?_, ?_⟩ | fail) <;> (conv => whnf))
    all_goals simp
  intro i hi
  have hi : i ≤ n := hi
  (conv => whnf); refine ⟨fun h2 => ?_, fun h2 => ?_⟩
  · have h2 : i < n := by simpa using h2
    have hx : ((List.range n).map fun i => encI (mkI k i))[(i : Int).toNat]? = some (encI (mkI k i)) := by simp [h2]
    repeat ((conv => whnf); first | refine ⟨fun h => h, ?_⟩ | refine ⟨(by kernel_rfl : drawOk _ _ = true), ?_⟩ | refine ⟨fun (h : gtrue _) => by first | assumption | exact absurd (Eq.trans (Eq.symm h) (by assumption) : true = false) Bool.noConfusion, ?_⟩ | refine ⟨fun h => (absurd (Eq.trans (Eq.symm h) (by assumption) : true = false) Bool.noConfusion : False), ?_⟩ | refine ⟨_, w64 (by (show (_ : Prop)); first | omega | ((try dsimp only at *); (try simp only [lns] at *); omega)), ?_⟩ | refine ⟨fun _ => ⟨by (show (_ : Prop)); first | omega | ((try dsimp only at *); (try simp only [lns] at *); omega), by (show (_ : Prop)); first | omega | ((try dsimp only at *); (try simp only [lns] at *); omega), by (show (_ : Prop)); first | omega | ((try dsimp only at *); (try simp only [lns] at *); omega)⟩, ?_⟩ | refine ⟨by (show (_ : Prop)); first | omega | ((try dsimp only at *); (try simp only [lns] at *); omega), ?_⟩ | refine ⟨fun h => ⟨by (show (_ : Prop)); first | omega | ((try dsimp only at *); (try simp only [lns] at *); omega), by (show (_ : Prop)); first | omega | ((try dsimp only at *); (try simp only [lns] at *); omega)⟩, ?_⟩ | refine ⟨fun (r : List AV) hr c hc => by simp [encS] at hr; (try subst hr); simp at hc; (try subst hc); rfl, ?_⟩ | refine ⟨noOwn (by rfl), ?_⟩ | refine ⟨(_ : Int), rfl, fun _ => (show (_ : Int) ≤ (1152921504606846976 : Int) from by omega), ?_⟩ | refine ⟨encI (mkI k i), fun _ => ⟨by omega, hx⟩, ?_⟩)
    conv => whnf
    refine ⟨fun h => ?_, fun _ => ?_⟩
    · exfalso
      simp [mkI, hide_eq, c_laws_markText, con, Int.add_assoc] at h
    repeat ((conv => whnf); first | refine ⟨fun h => h, ?_⟩ | refine ⟨(by kernel_rfl : drawOk _ _ = true), ?_⟩ | refine ⟨fun (h : gtrue _) => by first | assumption | exact absurd (Eq.trans (Eq.symm h) (by assumption) : true = false) Bool.noConfusion, ?_⟩ | refine ⟨fun h => (absurd (Eq.trans (Eq.symm h) (by assumption) : true = false) Bool.noConfusion : False), ?_⟩ | refine ⟨_, w64 (by (show (_ : Prop)); first | omega | ((try dsimp only at *); (try simp only [lns] at *); omega)), ?_⟩ | refine ⟨fun _ => ⟨by (show (_ : Prop)); first | omega | ((try dsimp only at *); (try simp only [lns] at *); omega), by (show (_ : Prop)); first | omega | ((try dsimp only at *); (try simp only [lns] at *); omega), by (show (_ : Prop)); first | omega | ((try dsimp only at *); (try simp only [lns] at *); omega)⟩, ?_⟩ | refine ⟨by (show (_ : Prop)); first | omega | ((try dsimp only at *); (try simp only [lns] at *); omega), ?_⟩ | refine ⟨fun h => ⟨by (show (_ : Prop)); first | omega | ((try dsimp only at *); (try simp only [lns] at *); omega), by (show (_ : Prop)); first | omega | ((try dsimp only at *); (try simp only [lns] at *); omega)⟩, ?_⟩ | refine ⟨fun (r : List AV) hr c hc => by simp [encS] at hr; (try subst hr); simp at hc; (try subst hc); rfl, ?_⟩ | refine ⟨noOwn (by rfl), ?_⟩ | refine ⟨(_ : Int), rfl, fun _ => (show (_ : Int) ≤ (1152921504606846976 : Int) from by omega), ?_⟩ | refine ⟨encI (mkI k i), fun _ => ⟨by omega, hx⟩, ?_⟩)
    conv => whnf
    refine ⟨fun h => ?_, fun _ => ?_⟩
    · exfalso
      simp [mkI, hide_eq, c_laws_markText, con, Int.add_assoc] at h
    repeat ((conv => whnf); first | refine ⟨fun h => h, ?_⟩ | refine ⟨(by kernel_rfl : drawOk _ _ = true), ?_⟩ | refine ⟨fun (h : gtrue _) => by first | assumption | exact absurd (Eq.trans (Eq.symm h) (by assumption) : true = false) Bool.noConfusion, ?_⟩ | refine ⟨fun h => (absurd (Eq.trans (Eq.symm h) (by assumption) : true = false) Bool.noConfusion : False), ?_⟩ | refine ⟨_, w64 (by (show (_ : Prop)); first | omega | ((try dsimp only at *); (try simp only [lns] at *); omega)), ?_⟩ | refine ⟨fun _ => ⟨by (show (_ : Prop)); first | omega | ((try dsimp only at *); (try simp only [lns] at *); omega), by (show (_ : Prop)); first | omega | ((try dsimp only at *); (try simp only [lns] at *); omega), by (show (_ : Prop)); first | omega | ((try dsimp only at *); (try simp only [lns] at *); omega)⟩, ?_⟩ | refine ⟨by (show (_ : Prop)); first | omega | ((try dsimp only at *); (try simp only [lns] at *); omega), ?_⟩ | refine ⟨fun h => ⟨by (show (_ : Prop)); first | omega | ((try dsimp only at *); (try simp only [lns] at *); omega), by (show (_ : Prop)); first | omega | ((try dsimp only at *); (try simp only [lns] at *); omega)⟩, ?_⟩ | refine ⟨fun (r : List AV) hr c hc => by simp [encS] at hr; (try subst hr); simp at hc; (try subst hc); rfl, ?_⟩ | refine ⟨noOwn (by rfl), ?_⟩ | refine ⟨(_ : Int), rfl, fun _ => (show (_ : Int) ≤ (1152921504606846976 : Int) from by omega), ?_⟩ | refine ⟨encI (mkI k i), fun _ => ⟨by omega, hx⟩, ?_⟩)
    conv => whnf
    refine ⟨fun h => ?_, fun _ => ?_⟩
    · exfalso
      simp [mkI, hide_eq, c_laws_markText, con, Int.add_assoc] at h
    repeat ((conv => whnf); first | refine ⟨fun h => h, ?_⟩ | refine ⟨(by kernel_rfl : drawOk _ _ = true), ?_⟩ | refine ⟨fun (h : gtrue _) => by first | assumption | exact absurd (Eq.trans (Eq.symm h) (by assumption) : true = false) Bool.noConfusion, ?_⟩ | refine ⟨fun h => (absurd (Eq.trans (Eq.symm h) (by assumption) : true = false) Bool.noConfusion : False), ?_⟩ | refine ⟨_, w64 (by (show (_ : Prop)); first | omega | ((try dsimp only at *); (try simp only [lns] at *); omega)), ?_⟩ | refine ⟨fun _ => ⟨by (show (_ : Prop)); first | omega | ((try dsimp only at *); (try simp only [lns] at *); omega), by (show (_ : Prop)); first | omega | ((try dsimp only at *); (try simp only [lns] at *); omega), by (show (_ : Prop)); first | omega | ((try dsimp only at *); (try simp only [lns] at *); omega)⟩, ?_⟩ | refine ⟨by (show (_ : Prop)); first | omega | ((try dsimp only at *); (try simp only [lns] at *); omega), ?_⟩ | refine ⟨fun h => ⟨by (show (_ : Prop)); first | omega | ((try dsimp only at *); (try simp only [lns] at *); omega), by (show (_ : Prop)); first | omega | ((try dsimp only at *); (try simp only [lns] at *); omega)⟩, ?_⟩ | refine ⟨fun (r : List AV) hr c hc => by simp [encS] at hr; (try subst hr); simp at hc; (try subst hc); rfl, ?_⟩ | refine ⟨noOwn (by rfl), ?_⟩ | refine ⟨(_ : Int), rfl, fun _ => (show (_ : Int) ≤ (1152921504606846976 : Int) from by omega), ?_⟩ | refine ⟨encI (mkI k i), fun _ => ⟨by omega, hx⟩, ?_⟩)
    conv => whnf
    refine ⟨fun h => ?_, fun _ => ?_⟩
    · exfalso
      simp [mkI, hide_eq, c_laws_markText, con, Int.add_assoc] at h
    repeat ((conv => whnf); first | refine ⟨fun h => h, ?_⟩ | refine ⟨(by kernel_rfl : drawOk _ _ = true), ?_⟩ | refine ⟨fun (h : gtrue _) => by first | assumption | exact absurd (Eq.trans (Eq.symm h) (by assumption) : true = false) Bool.noConfusion, ?_⟩ | refine ⟨fun h => (absurd (Eq.trans (Eq.symm h) (by assumption) : true = false) Bool.noConfusion : False), ?_⟩ | refine ⟨_, w64 (by (show (_ : Prop)); first | omega | ((try dsimp only at *); (try simp only [lns] at *); omega)), ?_⟩ | refine ⟨fun _ => ⟨by (show (_ : Prop)); first | omega | ((try dsimp only at *); (try simp only [lns] at *); omega), by (show (_ : Prop)); first | omega | ((try dsimp only at *); (try simp only [lns] at *); omega), by (show (_ : Prop)); first | omega | ((try dsimp only at *); (try simp only [lns] at *); omega)⟩, ?_⟩ | refine ⟨by (show (_ : Prop)); first | omega | ((try dsimp only at *); (try simp only [lns] at *); omega), ?_⟩ | refine ⟨fun h => ⟨by (show (_ : Prop)); first | omega | ((try dsimp only at *); (try simp only [lns] at *); omega), by (show (_ : Prop)); first | omega | ((try dsimp only at *); (try simp only [lns] at *); omega)⟩, ?_⟩ | refine ⟨fun (r : List AV) hr c hc => by simp [encS] at hr; (try subst hr); simp at hc; (try subst hc); rfl, ?_⟩ | refine ⟨noOwn (by rfl), ?_⟩ | refine ⟨(_ : Int), rfl, fun _ => (show (_ : Int) ≤ (1152921504606846976 : Int) from by omega), ?_⟩ | refine ⟨encI (mkI k i), fun _ => ⟨by omega, hx⟩, ?_⟩)
    refine again (i + 1) ?_ h2 (by first | omega | (simp; done) | (simp; omega))
    (refine ⟨?_, ?_, rfl⟩ <;> repeat' (first | exact rfl | exact trivial | refine ⟨?_, ?_⟩ | fail) <;> (conv => whnf))
    omega
  · have h2 : i = n := by
      have : ¬ i < n := by simpa using h2
      omega
    subst h2
    repeat ((conv => whnf); first | refine ⟨fun h => h, ?_⟩ | refine ⟨(by kernel_rfl : drawOk _ _ = true), ?_⟩ | refine ⟨fun (h : gtrue _) => by first | assumption | exact absurd (Eq.trans (Eq.symm h) (by assumption) : true = false) Bool.noConfusion, ?_⟩ | refine ⟨fun h => (absurd (Eq.trans (Eq.symm h) (by assumption) : true = false) Bool.noConfusion : False), ?_⟩ | refine ⟨_, w64 (by (show (_ : Prop)); first | omega | ((try dsimp only at *); (try simp only [lns] at *); omega)), ?_⟩ | refine ⟨fun _ => ⟨by (show (_ : Prop)); first | omega | ((try dsimp only at *); (try simp only [lns] at *); omega), by (show (_ : Prop)); first | omega | ((try dsimp only at *); (try simp only [lns] at *); omega), by (show (_ : Prop)); first | omega | ((try dsimp only at *); (try simp only [lns] at *); omega)⟩, ?_⟩ | refine ⟨by (show (_ : Prop)); first | omega | ((try dsimp only at *); (try simp only [lns] at *); omega), ?_⟩ | refine ⟨fun h => ⟨by (show (_ : Prop)); first | omega | ((try dsimp only at *); (try simp only [lns] at *); omega), by (show (_ : Prop)); first | omega | ((try dsimp only at *); (try simp only [lns] at *); omega)⟩, ?_⟩ | refine ⟨fun (r : List AV) hr c hc => by simp [encS] at hr; (try subst hr); simp at hc; (try subst hc); rfl, ?_⟩ | refine ⟨noOwn (by rfl), ?_⟩)
    exact ⟨trivial, rfl⟩
theorem ok_laws_heldItemS : ConOk Try.prog 58 c_laws_heldItemS := meets_ok (tabT _ _) (FOk.cons ok_laws_markText FOk.nil) mixed Try.func58 rfl Try.call58 (by decide) (by kernel_rfl) m_laws_heldItemS (by intro _ (y : (Nat × Int)) _; exact ⟨by simp [c_laws_heldItemS, con, AV.noRd, noRdCells, noRdRows, noRdRows_map', encS, encI, encO], by simp [c_laws_heldItemS, con, AV.noRd, noRdCells, noRdRows, noRdRows_map', encS, encI, encO]⟩) (by intro (y : (Nat × Int)) _; first | (simp [c_laws_heldItemS, con, AV.free, freeCells, freeRows, freeRows_map, encS, encI, encO]; done) | (obtain ⟨_, _⟩ := y; simp [c_laws_heldItemS, con, AV.free, freeCells, freeRows, freeRows_map, encS, encI, encO]; done) | (obtain ⟨_, _, _⟩ := y; simp [c_laws_heldItemS, con, AV.free, freeCells, freeRows, freeRows_map, encS, encI, encO]; done))
end Go.GH

set_option linter.unusedVariables false
set_option linter.unusedSimpArgs false
namespace Go.GH
open Go Go.Proofs
noncomputable def c_laws_markTree : PCon := ⟨[.ma, mC], false, false, Tr × Int, fun ⟨t, k⟩ => [.agg [.own 4 (t.map encI)], .int .i64 k], fun x => smT x.1 ∧ 0 ≤ x.2 ∧ x.2 ≤ 1099511627776, fun x => .int .i64 (x.2 + 4 * x.1.length), fun ⟨t, k⟩ => [.own 4 ((List.range t.length).map fun i => encI (mkI k i))]⟩
noncomputable def E_laws_markTree : Env := ⟨lookup tyTab, lookup [(51, c_laws_markItemS)], [0, 1, 2, 4]⟩
set_option maxRecDepth 100000 in
set_option maxHeartbeats 4000000 in
theorem m_laws_markTree : Meets E_laws_markTree (codeOf Try.f26) Try.f26.results.toList c_laws_markTree := by
  rintro ⟨t, k⟩ hs
  refine ⟨⟨⟨_, _, _, rfl, rfl, by simp⟩, trivial⟩, ?_⟩
  repeat ((conv => whnf); first | refine ⟨fun h => h, ?_⟩ | refine ⟨(by kernel_rfl : drawOk _ _ = true), ?_⟩ | refine ⟨fun (h : gtrue _) => by first | assumption | exact absurd (Eq.trans (Eq.symm h) (by assumption) : true = false) Bool.noConfusion, ?_⟩ | refine ⟨fun h => (absurd (Eq.trans (Eq.symm h) (by assumption) : true = false) Bool.noConfusion : False), ?_⟩ | refine ⟨_, w64 (by (show (_ : Prop)); first | omega | ((try dsimp only at *); (try simp only [lns] at *); omega)), ?_⟩ | refine ⟨fun _ => ⟨by (show (_ : Prop)); first | omega | ((try dsimp only at *); (try simp only [lns] at *); omega), by (show (_ : Prop)); first | omega | ((try dsimp only at *); (try simp only [lns] at *); omega), by (show (_ : Prop)); first | omega | ((try dsimp only at *); (try simp only [lns] at *); omega)⟩, ?_⟩ | refine ⟨by (show (_ : Prop)); first | omega | ((try dsimp only at *); (try simp only [lns] at *); omega), ?_⟩ | refine ⟨fun h => ⟨by (show (_ : Prop)); first | omega | ((try dsimp only at *); (try simp only [lns] at *); omega), by (show (_ : Prop)); first | omega | ((try dsimp only at *); (try simp only [lns] at *); omega)⟩, ?_⟩ | refine ⟨fun (r : List AV) hr c hc => by simp [encS] at hr; (try subst hr); simp at hc; (try subst hc); rfl, ?_⟩ | refine ⟨noOwn (by rfl), ?_⟩)
  refine ⟨rfl, rfl, (t, k), rfl, fun _ => hs, ?_⟩
  repeat ((conv => whnf); first | refine ⟨fun h => h, ?_⟩ | refine ⟨(by kernel_rfl : drawOk _ _ = true), ?_⟩ | refine ⟨fun (h : gtrue _) => by first | assumption | exact absurd (Eq.trans (Eq.symm h) (by assumption) : true = false) Bool.noConfusion, ?_⟩ | refine ⟨fun h => (absurd (Eq.trans (Eq.symm h) (by assumption) : true = false) Bool.noConfusion : False), ?_⟩ | refine ⟨_, w64 (by (show (_ : Prop)); first | omega | ((try dsimp only at *); (try simp only [lns] at *); omega)), ?_⟩ | refine ⟨fun _ => ⟨by (show (_ : Prop)); first | omega | ((try dsimp only at *); (try simp only [lns] at *); omega), by (show (_ : Prop)); first | omega | ((try dsimp only at *); (try simp only [lns] at *); omega), by (show (_ : Prop)); first | omega | ((try dsimp only at *); (try simp only [lns] at *); omega)⟩, ?_⟩ | refine ⟨by (show (_ : Prop)); first | omega | ((try dsimp only at *); (try simp only [lns] at *); omega), ?_⟩ | refine ⟨fun h => ⟨by (show (_ : Prop)); first | omega | ((try dsimp only at *); (try simp only [lns] at *); omega), by (show (_ : Prop)); first | omega | ((try dsimp only at *); (try simp only [lns] at *); omega)⟩, ?_⟩ | refine ⟨fun (r : List AV) hr c hc => by simp [encS] at hr; (try subst hr); simp at hc; (try subst hc); rfl, ?_⟩ | refine ⟨noOwn (by rfl), ?_⟩)
  exact ⟨⟨rfl, trivial⟩, rfl⟩
theorem ok_laws_markTree : ConOk Try.prog 26 c_laws_markTree := meets_ok (tabT _ _) (FOk.cons ok_laws_markItemS FOk.nil) mixed Try.func26 rfl Try.call26 (by decide) (by kernel_rfl) m_laws_markTree (by intro _ (y : _) _; exact ⟨by simp [c_laws_markTree, con, AV.noRd, noRdCells, noRdRows, noRdRows_map', encS, encI, encO], by simp [c_laws_markTree, con, AV.noRd, noRdCells, noRdRows, noRdRows_map', encS, encI, encO]⟩) (by intro (y : _) _; first | (simp [c_laws_markTree, con, AV.free, freeCells, freeRows, freeRows_map, encS, encI, encO]; done) | (obtain ⟨_, _⟩ := y; simp [c_laws_markTree, con, AV.free, freeCells, freeRows, freeRows_map, encS, encI, encO]; done) | (obtain ⟨_, _, _⟩ := y; simp [c_laws_markTree, con, AV.free, freeCells, freeRows, freeRows_map, encS, encI, encO]; done))
noncomputable def c_laws_heldTree : PCon := con [mS 4, mC] true (Nat × Int) (fun ⟨n, k⟩ => [.agg [.rd 4 ((List.range n).map fun i => encI (mkI k i))], .int .i64 k]) (fun x => x.1 ≤ 4194304 ∧ 0 ≤ x.2 ∧ x.2 ≤ 1099511627776) (fun x => .int .i64 (x.2 + 4 * x.1))
noncomputable def E_laws_heldTree : Env := ⟨lookup tyTab, lookup [(58, c_laws_heldItemS)], [0, 1, 2, 4, 10]⟩
set_option maxRecDepth 100000 in
set_option maxHeartbeats 4000000 in
theorem m_laws_heldTree : Meets E_laws_heldTree (codeOf Try.f31) Try.f31.results.toList c_laws_heldTree := by
  rintro ⟨n, k⟩ hs
  obtain ⟨hs1, hk1, hk2⟩ : n ≤ 4194304 ∧ 0 ≤ k ∧ k ≤ 1099511627776 := hs
  refine ⟨trivial, ?_⟩
  repeat ((conv => whnf); first | refine ⟨fun h => h, ?_⟩ | refine ⟨(by kernel_rfl : drawOk _ _ = true), ?_⟩ | refine ⟨fun (h : gtrue _) => by first | assumption | exact absurd (Eq.trans (Eq.symm h) (by assumption) : true = false) Bool.noConfusion, ?_⟩ | refine ⟨fun h => (absurd (Eq.trans (Eq.symm h) (by assumption) : true = false) Bool.noConfusion : False), ?_⟩ | refine ⟨_, w64 (by (show (_ : Prop)); first | omega | ((try dsimp only at *); (try simp only [lns] at *); omega)), ?_⟩ | refine ⟨fun _ => ⟨by (show (_ : Prop)); first | omega | ((try dsimp only at *); (try simp only [lns] at *); omega), by (show (_ : Prop)); first | omega | ((try dsimp only at *); (try simp only [lns] at *); omega), by (show (_ : Prop)); first | omega | ((try dsimp only at *); (try simp only [lns] at *); omega)⟩, ?_⟩ | refine ⟨by (show (_ : Prop)); first | omega | ((try dsimp only at *); (try simp only [lns] at *); omega), ?_⟩ | refine ⟨fun h => ⟨by (show (_ : Prop)); first | omega | ((try dsimp only at *); (try simp only [lns] at *); omega), by (show (_ : Prop)); first | omega | ((try dsimp only at *); (try simp only [lns] at *); omega)⟩, ?_⟩ | refine ⟨fun (r : List AV) hr c hc => by simp [encS] at hr; (try subst hr); simp at hc; (try subst hc); rfl, ?_⟩ | refine ⟨noOwn (by rfl), ?_⟩)
  refine ⟨(n, k), by refine argRK ?_; simp [toRdRows_mk (f := encI) (fun _ => rfl)], fun _ => ⟨hs1, hk1, hk2⟩, ?_⟩
  repeat ((conv => whnf); first | refine ⟨fun h => h, ?_⟩ | refine ⟨(by kernel_rfl : drawOk _ _ = true), ?_⟩ | refine ⟨fun (h : gtrue _) => by first | assumption | exact absurd (Eq.trans (Eq.symm h) (by assumption) : true = false) Bool.noConfusion, ?_⟩ | refine ⟨fun h => (absurd (Eq.trans (Eq.symm h) (by assumption) : true = false) Bool.noConfusion : False), ?_⟩ | refine ⟨_, w64 (by (show (_ : Prop)); first | omega | ((try dsimp only at *); (try simp only [lns] at *); omega)), ?_⟩ | refine ⟨fun _ => ⟨by (show (_ : Prop)); first | omega | ((try dsimp only at *); (try simp only [lns] at *); omega), by (show (_ : Prop)); first | omega | ((try dsimp only at *); (try simp only [lns] at *); omega), by (show (_ : Prop)); first | omega | ((try dsimp only at *); (try simp only [lns] at *); omega)⟩, ?_⟩ | refine ⟨by (show (_ : Prop)); first | omega | ((try dsimp only at *); (try simp only [lns] at *); omega), ?_⟩ | refine ⟨fun h => ⟨by (show (_ : Prop)); first | omega | ((try dsimp only at *); (try simp only [lns] at *); omega), by (show (_ : Prop)); first | omega | ((try dsimp only at *); (try simp only [lns] at *); omega)⟩, ?_⟩ | refine ⟨fun (r : List AV) hr c hc => by simp [encS] at hr; (try subst hr); simp at hc; (try subst hc); rfl, ?_⟩ | refine ⟨noOwn (by rfl), ?_⟩)
  conv => whnf
  refine ⟨fun h => ?_, fun _ => ?_⟩
  · have h : decide (k + 4 * (n : Int) < 0) = true := h
    simp at h
    omega
  repeat ((conv => whnf); first | refine ⟨fun h => h, ?_⟩ | refine ⟨(by kernel_rfl : drawOk _ _ = true), ?_⟩ | refine ⟨fun (h : gtrue _) => by first | assumption | exact absurd (Eq.trans (Eq.symm h) (by assumption) : true = false) Bool.noConfusion, ?_⟩ | refine ⟨fun h => (absurd (Eq.trans (Eq.symm h) (by assumption) : true = false) Bool.noConfusion : False), ?_⟩ | refine ⟨_, w64 (by (show (_ : Prop)); first | omega | ((try dsimp only at *); (try simp only [lns] at *); omega)), ?_⟩ | refine ⟨fun _ => ⟨by (show (_ : Prop)); first | omega | ((try dsimp only at *); (try simp only [lns] at *); omega), by (show (_ : Prop)); first | omega | ((try dsimp only at *); (try simp only [lns] at *); omega), by (show (_ : Prop)); first | omega | ((try dsimp only at *); (try simp only [lns] at *); omega)⟩, ?_⟩ | refine ⟨by (show (_ : Prop)); first | omega | ((try dsimp only at *); (try simp only [lns] at *); omega), ?_⟩ | refine ⟨fun h => ⟨by (show (_ : Prop)); first | omega | ((try dsimp only at *); (try simp only [lns] at *); omega), by (show (_ : Prop)); first | omega | ((try dsimp only at *); (try simp only [lns] at *); omega)⟩, ?_⟩ | refine ⟨fun (r : List AV) hr c hc => by simp [encS] at hr; (try subst hr); simp at hc; (try subst hc); rfl, ?_⟩ | refine ⟨noOwn (by rfl), ?_⟩)
  exact ⟨trivial, rfl⟩
theorem ok_laws_heldTree : ConOk Try.prog 31 c_laws_heldTree := meets_ok (tabT _ _) (FOk.cons ok_laws_heldItemS FOk.nil) mixed Try.func31 rfl Try.call31 (by decide) (by kernel_rfl) m_laws_heldTree (by intro _ (y : (Nat × Int)) _; exact ⟨by simp [c_laws_heldTree, con, AV.noRd, noRdCells, noRdRows, noRdRows_map', encS, encI, encO], by simp [c_laws_heldTree, con, AV.noRd, noRdCells, noRdRows, noRdRows_map', encS, encI, encO]⟩) (by intro (y : (Nat × Int)) _; first | (simp [c_laws_heldTree, con, AV.free, freeCells, freeRows, freeRows_map, encS, encI, encO]; done) | (obtain ⟨_, _⟩ := y; simp [c_laws_heldTree, con, AV.free, freeCells, freeRows, freeRows_map, encS, encI, encO]; done) | (obtain ⟨_, _, _⟩ := y; simp [c_laws_heldTree, con, AV.free, freeCells, freeRows, freeRows_map, encS, encI, encO]; done))
end Go.GH

