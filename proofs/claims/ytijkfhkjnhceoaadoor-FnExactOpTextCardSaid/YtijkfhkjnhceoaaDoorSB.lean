import Derived.Test.YtijkfhkjnhceoaaDoorSA
import Derived.Test.YtijkfhkjnhceoaaDoorTie
import Derived.Test.YtijkfhkjnhceoaaDoorCards
import Derived.WalkKit
import Derived.ProofKit
import Derived.OpenShut
import Derived.ChangeOld
import Derived.Below
import Derived.SizedLaws
import Derived.LaidMore
import Derived.Stop.Joined
import Derived.Stop.LaidErr
import Derived.SevenTiedAt
set_option linter.unusedVariables false
set_option linter.unusedSimpArgs false
set_option linter.unusedSimpArgs false
namespace Go.GH
open Go Go.Proofs
noncomputable def c_laws_szOp : PCon := con [.rd [none, none, none, none, none, none], mC] true (OpR × Int) (fun x => [.agg (encO x.1), .int .i64 x.2]) (fun x => 0 ≤ x.2 ∧ x.2 ≤ 4194304 ∧ bigO x.1) (fun x => .int .i64 (szR x.2 (szO x.1)))
noncomputable def E_laws_szOp : Env := ⟨lookup tyTab, lookup [], [0, 1, 2, 4, 11, 18, 25]⟩
set_option maxRecDepth 100000 in
set_option maxHeartbeats 4000000 in
theorem m_laws_szOp : Meets E_laws_szOp (codeOf Tryd.f8) Tryd.f8.results.toList c_laws_szOp := by
  rintro ⟨x, left⟩ hs
  obtain ⟨h1, h2, h3, h4, h4'⟩ : 0 ≤ left ∧ left ≤ 4194304 ∧ x.path.length ≤ 9223372036854775807 ∧ x.to.length ≤ 9223372036854775807 ∧ x.data.length ≤ 9223372036854775807 := hs
  refine ⟨trivial, ?_⟩
  repeat ((conv => whnf); first | refine ⟨fun h => h, ?_⟩ | refine ⟨(by kernel_rfl : drawOk _ _ = true), ?_⟩ | refine ⟨fun (h : gtrue _) => by first | assumption | exact absurd (Eq.trans (Eq.symm h) (by assumption) : true = false) Bool.noConfusion, ?_⟩ | refine ⟨fun h => (absurd (Eq.trans (Eq.symm h) (by assumption) : true = false) Bool.noConfusion : False), ?_⟩ | refine ⟨_, w64 (by (show (_ : Prop)); first | omega | ((try dsimp only at *); (try simp only [lns] at *); omega)), ?_⟩ | refine ⟨fun _ => ⟨by (show (_ : Prop)); first | omega | ((try dsimp only at *); (try simp only [lns] at *); omega), by (show (_ : Prop)); first | omega | ((try dsimp only at *); (try simp only [lns] at *); omega), by (show (_ : Prop)); first | omega | ((try dsimp only at *); (try simp only [lns] at *); omega)⟩, ?_⟩ | refine ⟨by (show (_ : Prop)); first | omega | ((try dsimp only at *); (try simp only [lns] at *); omega), ?_⟩ | refine ⟨fun h => ⟨by (show (_ : Prop)); first | omega | ((try dsimp only at *); (try simp only [lns] at *); omega), by (show (_ : Prop)); first | omega | ((try dsimp only at *); (try simp only [lns] at *); omega)⟩, ?_⟩ | refine ⟨fun (r : List AV) hr c hc => by simp [encS] at hr; (try subst hr); simp at hc; (try subst hc); rfl, ?_⟩ | refine ⟨noOwn (by rfl), ?_⟩)
  (conv => whnf); refine ⟨fun h5 => ?_, fun h5 => ?_⟩
  · have h5 : left - x.path.length < 0 := by simpa using h5
    conv => whnf
    exact ⟨trivial, eqN' (by unfold szR szO; dsimp only; rw [if_pos (by omega)])⟩
  have h5 : ¬ left - x.path.length < 0 := by simpa using h5
  repeat ((conv => whnf); first | refine ⟨fun h => h, ?_⟩ | refine ⟨(by kernel_rfl : drawOk _ _ = true), ?_⟩ | refine ⟨fun (h : gtrue _) => by first | assumption | exact absurd (Eq.trans (Eq.symm h) (by assumption) : true = false) Bool.noConfusion, ?_⟩ | refine ⟨fun h => (absurd (Eq.trans (Eq.symm h) (by assumption) : true = false) Bool.noConfusion : False), ?_⟩ | refine ⟨_, w64 (by (show (_ : Prop)); first | omega | ((try dsimp only at *); (try simp only [lns] at *); omega)), ?_⟩ | refine ⟨fun _ => ⟨by (show (_ : Prop)); first | omega | ((try dsimp only at *); (try simp only [lns] at *); omega), by (show (_ : Prop)); first | omega | ((try dsimp only at *); (try simp only [lns] at *); omega), by (show (_ : Prop)); first | omega | ((try dsimp only at *); (try simp only [lns] at *); omega)⟩, ?_⟩ | refine ⟨by (show (_ : Prop)); first | omega | ((try dsimp only at *); (try simp only [lns] at *); omega), ?_⟩ | refine ⟨fun h => ⟨by (show (_ : Prop)); first | omega | ((try dsimp only at *); (try simp only [lns] at *); omega), by (show (_ : Prop)); first | omega | ((try dsimp only at *); (try simp only [lns] at *); omega)⟩, ?_⟩ | refine ⟨fun (r : List AV) hr c hc => by simp [encS] at hr; (try subst hr); simp at hc; (try subst hc); rfl, ?_⟩ | refine ⟨noOwn (by rfl), ?_⟩)
  (conv => whnf); refine ⟨fun h6 => ?_, fun h6 => ?_⟩
  · have h6 : left - x.path.length - x.to.length < 0 := by simpa using h6
    conv => whnf
    exact ⟨trivial, eqN' (by unfold szR szO; dsimp only; rw [if_pos (by omega)])⟩
  have h6 : ¬ left - x.path.length - x.to.length < 0 := by simpa using h6
  repeat ((conv => whnf); first | refine ⟨fun h => h, ?_⟩ | refine ⟨(by kernel_rfl : drawOk _ _ = true), ?_⟩ | refine ⟨fun (h : gtrue _) => by first | assumption | exact absurd (Eq.trans (Eq.symm h) (by assumption) : true = false) Bool.noConfusion, ?_⟩ | refine ⟨fun h => (absurd (Eq.trans (Eq.symm h) (by assumption) : true = false) Bool.noConfusion : False), ?_⟩ | refine ⟨_, w64 (by (show (_ : Prop)); first | omega | ((try dsimp only at *); (try simp only [lns] at *); omega)), ?_⟩ | refine ⟨fun _ => ⟨by (show (_ : Prop)); first | omega | ((try dsimp only at *); (try simp only [lns] at *); omega), by (show (_ : Prop)); first | omega | ((try dsimp only at *); (try simp only [lns] at *); omega), by (show (_ : Prop)); first | omega | ((try dsimp only at *); (try simp only [lns] at *); omega)⟩, ?_⟩ | refine ⟨by (show (_ : Prop)); first | omega | ((try dsimp only at *); (try simp only [lns] at *); omega), ?_⟩ | refine ⟨fun h => ⟨by (show (_ : Prop)); first | omega | ((try dsimp only at *); (try simp only [lns] at *); omega), by (show (_ : Prop)); first | omega | ((try dsimp only at *); (try simp only [lns] at *); omega)⟩, ?_⟩ | refine ⟨fun (r : List AV) hr c hc => by simp [encS] at hr; (try subst hr); simp at hc; (try subst hc); rfl, ?_⟩ | refine ⟨noOwn (by rfl), ?_⟩)
  (conv => whnf); refine ⟨fun h7 => ?_, fun h7 => ?_⟩
  · have h7 : left - x.path.length - x.to.length - x.data.length < 0 := by simpa using h7
    conv => whnf
    exact ⟨trivial, eqN' (by unfold szR szO; dsimp only; rw [if_pos (by omega)])⟩
  have h7 : ¬ left - x.path.length - x.to.length - x.data.length < 0 := by simpa using h7
  conv => whnf
  exact ⟨trivial, eqN' (by unfold szR szO; dsimp only; rw [if_neg (by omega)]; omega)⟩
theorem ok_laws_szOp : ConOk Tryd.prog 8 c_laws_szOp := meets_ok (tabT _ _) FOk.nil mixed Tryd.func8 rfl Tryd.call8 (by decide) (by kernel_rfl) m_laws_szOp (by intro _ (y : (OpR × Int)) _; exact ⟨by simp [c_laws_szOp, con, conG, conW, AV.noRd, noRdCells, noRdRows, noRdRows_map', encS, encO], by simp [c_laws_szOp, con, conG, conW, AV.noRd, noRdCells, noRdRows, noRdRows_map', encS, encO]⟩) (by intro (y : (OpR × Int)) _; first | (simp [c_laws_szOp, con, conG, conW, conP, AV.free, freeCells, freeRows, freeRows_map, encS, encO]; done) | (obtain ⟨_, _⟩ := y; simp [c_laws_szOp, con, conG, conW, conP, AV.free, freeCells, freeRows, freeRows_map, encS, encO]; done) | (obtain ⟨_, _, _⟩ := y; simp [c_laws_szOp, con, conG, conW, conP, AV.free, freeCells, freeRows, freeRows_map, encS, encO]; done))
noncomputable def c_laws_toOp : PCon := con [.rd [none, none, none, none, none, none]] true OpR (fun x => [.agg (encO x)]) (fun _ => True) (fun x => .agg (encO x))
noncomputable def E_laws_toOp : Env := ⟨lookup tyTab, lookup [], [0, 1, 2, 3]⟩
set_option maxRecDepth 100000 in
set_option maxHeartbeats 4000000 in
theorem m_laws_toOp : Meets E_laws_toOp (codeOf Tryd.f10) Tryd.f10.results.toList c_laws_toOp := by
  intro (x : OpR) hs
  refine ⟨trivial, ?_⟩
  conv => whnf
  exact ⟨trivial, rfl, rfl, rfl, rfl, rfl, rfl, trivial⟩
theorem ok_laws_toOp : ConOk Tryd.prog 10 c_laws_toOp := meets_ok (tabT _ _) FOk.nil mixed Tryd.func10 rfl Tryd.call10 (by decide) (by kernel_rfl) m_laws_toOp (by intro _ (y : OpR) _; exact ⟨by simp [c_laws_toOp, con, conG, conW, AV.noRd, noRdCells, noRdRows, noRdRows_map', encS, encO], by simp [c_laws_toOp, con, conG, conW, AV.noRd, noRdCells, noRdRows, noRdRows_map', encS, encO]⟩) (by intro (y : OpR) _; first | (simp [c_laws_toOp, con, conG, conW, conP, AV.free, freeCells, freeRows, freeRows_map, encS, encO]; done) | (obtain ⟨_, _⟩ := y; simp [c_laws_toOp, con, conG, conW, conP, AV.free, freeCells, freeRows, freeRows_map, encS, encO]; done) | (obtain ⟨_, _, _⟩ := y; simp [c_laws_toOp, con, conG, conW, conP, AV.free, freeCells, freeRows, freeRows_map, encS, encO]; done))
noncomputable def c_laws_FnExactOpText : PCon := conG gwTab [.rd [none, none, none, none, none, none]] true OpR (fun x => [.agg (encO x)]) bigO (fun _ => .bool true)
noncomputable def E_laws_FnExactOpText : Env := ⟨lookup tyTab, lookup [(8, c_laws_szOp), (9, c_spec_OpText), (10, c_laws_toOp), (11, c_impl_OpText)], [0, 1, 2, 3, 4, 5, 10, 19]⟩
set_option maxRecDepth 100000 in
set_option maxHeartbeats 4000000 in
theorem m_laws_FnExactOpText : Meets E_laws_FnExactOpText (codeOf Tryd.f3) Tryd.f3.results.toList c_laws_FnExactOpText := by
  intro (o : OpR) hs
  have hs : bigO o := hs
  refine ⟨trivial, ?_⟩
  conv => whnf
  refine ⟨(o, 1048576), rfl, fun _ => ⟨by show (0:Int) ≤ 1048576; decide, by show (1048576:Int) ≤ 4194304; decide, hs⟩, ?_⟩
  (conv => whnf); refine ⟨fun h1 => ?_, fun h1 => ?_⟩
  · conv => whnf
    exact ⟨trivial, rfl⟩
  have h1 : ¬ szR 1048576 (szO o) < 0 := by simpa using h1
  have hsm := szO_sm h1 (by omega)
  conv => whnf
  refine ⟨o, rfl, fun _ => trivial, ?_⟩
  conv => whnf
  refine ⟨o, rfl, fun _ => hsm, ?_⟩
  conv => whnf
  refine ⟨o, rfl, fun _ => trivial, ?_⟩
  conv => whnf
  refine ⟨o, rfl, fun _ => hsm, ?_⟩
  conv => whnf
  refine ⟨fun h => ?_, fun _ => ?_⟩
  · have h : (!(opText o == opText o)) = true := h
    simp at h
  conv => whnf
  exact ⟨trivial, rfl⟩
theorem ok_laws_FnExactOpText : ConOk Tryd.prog 3 c_laws_FnExactOpText := meets_ok (tabT _ _) (FOk.cons ok_laws_szOp (FOk.cons ok_spec_OpText (FOk.cons ok_laws_toOp (FOk.cons ok_impl_OpText FOk.nil)))) mixed Tryd.func3 rfl Tryd.call3 (by decide) (by kernel_rfl) m_laws_FnExactOpText (by intro _ (y : OpR) _; exact ⟨by simp [c_laws_FnExactOpText, con, conG, conW, AV.noRd, noRdCells, noRdRows, noRdRows_map', encS, encO], by simp [c_laws_FnExactOpText, con, conG, conW, AV.noRd, noRdCells, noRdRows, noRdRows_map', encS, encO]⟩) (by intro (y : OpR) _; first | (simp [c_laws_FnExactOpText, con, conG, conW, conP, AV.free, freeCells, freeRows, freeRows_map, encS, encO]; done) | (obtain ⟨_, _⟩ := y; simp [c_laws_FnExactOpText, con, conG, conW, conP, AV.free, freeCells, freeRows, freeRows_map, encS, encO]; done) | (obtain ⟨_, _, _⟩ := y; simp [c_laws_FnExactOpText, con, conG, conW, conP, AV.free, freeCells, freeRows, freeRows_map, encS, encO]; done))
end Go.GH

set_option linter.unusedVariables false
set_option linter.unusedSimpArgs false
namespace Go.GH
open Go Go.Proofs
open Go.ChangeShapes Go.WideShapes Go.ChangeAt Go.RowKit
set_option maxRecDepth 100000 in
theorem sh_Op : shTy Tryd.prog 12 23 = some [.int .i64, .str, .str, .int .i64, .str, .int .i64] := by kernel_rfl
set_option maxRecDepth 100000 in
theorem arg_Op {a : AV} (h : ArgOk Tryd.prog 12 23 a) : ∃ o : OpR, a = .agg (encO o) ∧ bigO o := by
  obtain ⟨sh, avs, h1, h2, h3⟩ := h
  rw [sh_Op] at h1
  obtain rfl := Option.some.inj h1
  rw [Tryd.underlying23] at h3
  obtain ⟨c0, r0, rfl, ⟨n0, rfl, _⟩, c1, r1, rfl, ⟨s1, rfl, b1⟩, c2, r2, rfl, ⟨s2, rfl, b2⟩, c3, r3, rfl, ⟨n3, rfl, _⟩, c4, r4, rfl, ⟨s4, rfl, b4⟩, c5, r5, rfl, ⟨n5, rfl, _⟩, e⟩ := h2
  have e : r5 = [] := e
  subst e
  exact ⟨⟨n0, s1, s2, n3, s4, n5⟩, h3, b1, b2, b4⟩
theorem var_congr {P : Program} {w w' : World} {n : String} {g : Nat} (hg : P.globalNamed n = some g) (h : w'.heap[g]? = w.heap[g]?) : w'.var? P n = w.var? P n := by
  simp only [World.var?, hg, Option.bind_some, h]
theorem var_lt {P : Program} {w : World} {n : String} {g : Nat} {cs : Array Value} (hg : P.globalNamed n = some g) (h : w.var? P n = some cs) : g < w.heap.size := by
  rcases Nat.lt_or_ge g w.heap.size with hl | hl
  · exact hl
  · simp only [World.var?, hg, Option.bind_some] at h
    rw [Array.getElem?_eq_none hl] at h
    cases h
theorem gTab : Tryd.prog.globalNamed "internal/strconv.uint64pow10" = some 3 := by kernel_rfl
set_option maxRecDepth 100000 in
theorem gwTab_laid {W : World} {x y : String × DataW Unit} {rest : List (String × DataW Unit)} (h : laidMet Tryd.prog (x :: y :: ("internal/strconv.uint64pow10", Go.Proofs.YtijkfhkjnhceoaaDoor.Rows.laid_internal_strconv_uint64pow10) :: rest) W) : gwTab W := by
  have h2 := h.tail.tail
  have e : (Go.Proofs.YtijkfhkjnhceoaaDoor.Rows.laid_internal_strconv_uint64pow10 : DataW Unit) = Lib.tabData .u64 Lib.pow10Tab := by kernel_rfl
  rw [e] at h2
  exact Lib.tabIs_of_head gTab (by kernel_rfl) Tryd.underlying120 Tryd.underlying106 (by kernel_rfl) (by kernel_rfl) h2
theorem gokTab {W : World} (h : gwTab W) : GOk gwTab W fun _ => False :=
  ⟨fun b => b = 3, fun b hb => ⟨by subst hb; exact var_lt gTab h, fun h => h⟩, fun w' hw => (var_congr gTab (hw 3 rfl)).trans h⟩
set_option maxRecDepth 100000 in
theorem sh_OpS : shTy Tryd.prog 12 29 = some [.slice 6 [.int .i64, .str, .str, .int .i64, .str, .int .i64]] := by kernel_rfl
theorem ops_of {xs : List (List AV)} (h : ∀ r, r ∈ xs → ofL [.int .i64, .str, .str, .int .i64, .str, .int .i64] r) : ∃ t : List OpR, xs = t.map encO ∧ ∀ y, y ∈ t → bigO y := by
  induction xs with
  | nil => exact ⟨[], rfl, by simp⟩
  | cons r xs ih =>
    obtain ⟨t, rfl, ht⟩ := ih fun r hr => h r (by simp [hr])
    obtain ⟨c0, r0, rfl, ⟨n0, rfl, _⟩, c1, r1, rfl, ⟨s1, rfl, b1⟩, c2, r2, rfl, ⟨s2, rfl, b2⟩, c3, r3, rfl, ⟨n3, rfl, _⟩, c4, r4, rfl, ⟨s4, rfl, b4⟩, c5, r5, rfl, ⟨n5, rfl, _⟩, e⟩ := h r (by simp)
    have e : r5 = [] := e
    subst e
    refine ⟨⟨n0, s1, s2, n3, s4, n5⟩ :: t, rfl, fun y hy => ?_⟩
    rcases List.mem_cons.1 hy with rfl | hy
    · exact ⟨b1, b2, b4⟩
    · exact ht y hy
set_option maxRecDepth 100000 in
theorem arg_OpS {a : AV} (h : ArgOk Tryd.prog 12 29 a) : ∃ t : List OpR, a = .rd 6 (t.map encO) ∧ t.length ≤ 9223372036854775807 ∧ ∀ y, y ∈ t → bigO y := by
  obtain ⟨sh, avs, h1, h2, h3⟩ := h
  rw [sh_OpS] at h1
  obtain rfl := Option.some.inj h1
  rw [Tryd.underlying29] at h3
  obtain ⟨c, r, rfl, ⟨xs, rfl, hl, hx⟩, e⟩ := h2
  have e : r = [] := e
  subst e
  obtain ⟨t, rfl, ht⟩ := ops_of hx
  have h3 : [AV.rd 6 (t.map encO)] = [a] := h3
  exact ⟨t, (List.cons.inj h3).1.symm, by simpa using hl, ht⟩
end Go.GH

