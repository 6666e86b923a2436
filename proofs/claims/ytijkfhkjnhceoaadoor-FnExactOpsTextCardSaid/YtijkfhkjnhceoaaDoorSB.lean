import Derived.Test.YtijkfhkjnhceoaaDoorSA
import Derived.Test.YtijkfhkjnhceoaaDoorTie
import Derived.Test.YtijkfhkjnhceoaaDoorCards
import Derived.WalkKit
import Derived.ProofKit
import Derived.OpenShut
import Derived.ChangeOld
import Derived.Below
import Derived.SizedLaws
import Derived.LaidMore
import Derived.Stop.Joined
import Derived.Stop.LaidErr
import Derived.SevenTiedAt
set_option linter.unusedVariables false
set_option linter.unusedSimpArgs false
set_option linter.unusedSimpArgs false
namespace Go.GH
open Go Go.Proofs
noncomputable def c_laws_szOp : PCon := con [.rd [none, none, none, none, none, none], mC] true (OpR × Int) (fun x => [.agg (encO x.1), .int .i64 x.2]) (fun x => 0 ≤ x.2 ∧ x.2 ≤ 4194304 ∧ bigO x.1) (fun x => .int .i64 (szR x.2 (szO x.1)))
noncomputable def E_laws_szOp : Env := ⟨lookup tyTab, lookup [], [0, 1, 2, 4, 11, 18, 25]⟩
set_option maxRecDepth 100000 in
set_option maxHeartbeats 4000000 in
theorem m_laws_szOp : Meets E_laws_szOp (codeOf Tryd.f8) Tryd.f8.results.toList c_laws_szOp := by
  rintro ⟨x, left⟩ hs
  obtain ⟨h1, h2, h3, h4, h4'⟩ : 0 ≤ left ∧ left ≤ 4194304 ∧ x.path.length ≤ 9223372036854775807 ∧ x.to.length ≤ 9223372036854775807 ∧ x.data.length ≤ 9223372036854775807 := hs
  refine ⟨trivial, ?_⟩
  repeat ((conv => whnf); first | refine ⟨fun h => h, ?_⟩ | refine ⟨(by kernel_rfl : drawOk _ _ = true), ?_⟩ | refine ⟨fun (h : gtrue _) => by first | assumption | exact absurd (Eq.trans (Eq.symm h) (by assumption) : true = false) Bool.noConfusion, ?_⟩ | refine ⟨fun h => (absurd (Eq.trans (Eq.symm h) (by assumption) : true = false) Bool.noConfusion : False), ?_⟩ | refine ⟨_, w64 (by (show (_ : Prop)); first | omega | ((try dsimp only at *); (try simp only [lns] at *); omega)), ?_⟩ | refine ⟨fun _ => ⟨by (show (_ : Prop)); first | omega | ((try dsimp only at *); (try simp only [lns] at *); omega), by (show (_ : Prop)); first | omega | ((try dsimp only at *); (try simp only [lns] at *); omega), by (show (_ : Prop)); first | omega | ((try dsimp only at *); (try simp only [lns] at *); omega)⟩, ?_⟩ | refine ⟨by (show (_ : Prop)); first | omega | ((try dsimp only at *); (try simp only [lns] at *); omega), ?_⟩ | refine ⟨fun h => ⟨by (show (_ : Prop)); first | omega | ((try dsimp only at *); (try simp only [lns] at *); omega), by (show (_ : Prop)); first | omega | ((try dsimp only at *); (try simp only [lns] at *); omega)⟩, ?_⟩ | refine ⟨fun (r : List AV) hr c hc => by simp [encS] at hr; (try subst hr); simp at hc; (try subst hc); rfl, ?_⟩ | refine ⟨noOwn (by rfl), ?_⟩)
  (conv => whnf); refine ⟨fun h5 => ?_, fun h5 => ?_⟩
  · have h5 : left - x.path.length < 0 := by simpa using h5
    conv => whnf
    exact ⟨trivial, eqN' (by unfold szR szO; dsimp only; rw [if_pos (by omega)])⟩
  have h5 : ¬ left - x.path.length < 0 := by simpa using h5
  repeat ((conv => whnf); first | refine ⟨fun h => h, ?_⟩ | refine ⟨(by kernel_rfl : drawOk _ _ = true), ?_⟩ | refine ⟨fun (h : gtrue _) => by first | assumption | exact absurd (Eq.trans (Eq.symm h) (by assumption) : true = false) Bool.noConfusion, ?_⟩ | refine ⟨fun h => (absurd (Eq.trans (Eq.symm h) (by assumption) : true = false) Bool.noConfusion : False), ?_⟩ | refine ⟨_, w64 (by (show (_ : Prop)); first | omega | ((try dsimp only at *); (try simp only [lns] at *); omega)), ?_⟩ | refine ⟨fun _ => ⟨by (show (_ : Prop)); first | omega | ((try dsimp only at *); (try simp only [lns] at *); omega), by (show (_ : Prop)); first | omega | ((try dsimp only at *); (try simp only [lns] at *); omega), by (show (_ : Prop)); first | omega | ((try dsimp only at *); (try simp only [lns] at *); omega)⟩, ?_⟩ | refine ⟨by (show (_ : Prop)); first | omega | ((try dsimp only at *); (try simp only [lns] at *); omega), ?_⟩ | refine ⟨fun h => ⟨by (show (_ : Prop)); first | omega | ((try dsimp only at *); (try simp only [lns] at *); omega), by (show (_ : Prop)); first | omega | ((try dsimp only at *); (try simp only [lns] at *); omega)⟩, ?_⟩ | refine ⟨fun (r : List AV) hr c hc => by simp [encS] at hr; (try subst hr); simp at hc; (try subst hc); rfl, ?_⟩ | refine ⟨noOwn (by rfl), ?_⟩)
  (conv => whnf); refine ⟨fun h6 => ?_, fun h6 => ?_⟩
  · have h6 : left - x.path.length - x.to.length < 0 := by simpa using h6
    conv => whnf
    exact ⟨trivial, eqN' (by unfold szR szO; dsimp only; rw [if_pos (by omega)])⟩
  have h6 : ¬ left - x.path.length - x.to.length < 0 := by simpa using h6
  repeat ((conv => whnf); first | refine ⟨fun h => h, ?_⟩ | refine ⟨(by kernel_rfl : drawOk _ _ = true), ?_⟩ | refine ⟨fun (h : gtrue _) => by first | assumption | exact absurd (Eq.trans (Eq.symm h) (by assumption) : true = false) Bool.noConfusion, ?_⟩ | refine ⟨fun h => (absurd (Eq.trans (Eq.symm h) (by assumption) : true = false) Bool.noConfusion : False), ?_⟩ | refine ⟨_, w64 (by (show (_ : Prop)); first | omega | ((try dsimp only at *); (try simp only [lns] at *); omega)), ?_⟩ | refine ⟨fun _ => ⟨by (show (_ : Prop)); first | omega | ((try dsimp only at *); (try simp only [lns] at *); omega), by (show (_ : Prop)); first | omega | ((try dsimp only at *); (try simp only [lns] at *); omega), by (show (_ : Prop)); first | omega | ((try dsimp only at *); (try simp only [lns] at *); omega)⟩, ?_⟩ | refine ⟨by (show (_ : Prop)); first | omega | ((try dsimp only at *); (try simp only [lns] at *); omega), ?_⟩ | refine ⟨fun h => ⟨by (show (_ : Prop)); first | omega | ((try dsimp only at *); (try simp only [lns] at *); omega), by (show (_ : Prop)); first | omega | ((try dsimp only at *); (try simp only [lns] at *); omega)⟩, ?_⟩ | refine ⟨fun (r : List AV) hr c hc => by simp [encS] at hr; (try subst hr); simp at hc; (try subst hc); rfl, ?_⟩ | refine ⟨noOwn (by rfl), ?_⟩)
  (conv => whnf); refine ⟨fun h7 => ?_, fun h7 => ?_⟩
  · have h7 : left - x.path.length - x.to.length - x.data.length < 0 := by simpa using h7
    conv => whnf
    exact ⟨trivial, eqN' (by unfold szR szO; dsimp only; rw [if_pos (by omega)])⟩
  have h7 : ¬ left - x.path.length - x.to.length - x.data.length < 0 := by simpa using h7
  conv => whnf
  exact ⟨trivial, eqN' (by unfold szR szO; dsimp only; rw [if_neg (by omega)]; omega)⟩
theorem ok_laws_szOp : ConOk Tryd.prog 8 c_laws_szOp := meets_ok (tabT _ _) FOk.nil mixed Tryd.func8 rfl Tryd.call8 (by decide) (by kernel_rfl) m_laws_szOp (by intro _ (y : (OpR × Int)) _; exact ⟨by simp [c_laws_szOp, con, conG, conW, AV.noRd, noRdCells, noRdRows, noRdRows_map', encS, encO], by simp [c_laws_szOp, con, conG, conW, AV.noRd, noRdCells, noRdRows, noRdRows_map', encS, encO]⟩) (by intro (y : (OpR × Int)) _; first | (simp [c_laws_szOp, con, conG, conW, conP, AV.free, freeCells, freeRows, freeRows_map, encS, encO]; done) | (obtain ⟨_, _⟩ := y; simp [c_laws_szOp, con, conG, conW, conP, AV.free, freeCells, freeRows, freeRows_map, encS, encO]; done) | (obtain ⟨_, _, _⟩ := y; simp [c_laws_szOp, con, conG, conW, conP, AV.free, freeCells, freeRows, freeRows_map, encS, encO]; done))
noncomputable def c_laws_toOp : PCon := con [.rd [none, none, none, none, none, none]] true OpR (fun x => [.agg (encO x)]) (fun _ => True) (fun x => .agg (encO x))
noncomputable def E_laws_toOp : Env := ⟨lookup tyTab, lookup [], [0, 1, 2, 3]⟩
set_option maxRecDepth 100000 in
set_option maxHeartbeats 4000000 in
theorem m_laws_toOp : Meets E_laws_toOp (codeOf Tryd.f10) Tryd.f10.results.toList c_laws_toOp := by
  intro (x : OpR) hs
  refine ⟨trivial, ?_⟩
  conv => whnf
  exact ⟨trivial, rfl, rfl, rfl, rfl, rfl, rfl, trivial⟩
theorem ok_laws_toOp : ConOk Tryd.prog 10 c_laws_toOp := meets_ok (tabT _ _) FOk.nil mixed Tryd.func10 rfl Tryd.call10 (by decide) (by kernel_rfl) m_laws_toOp (by intro _ (y : OpR) _; exact ⟨by simp [c_laws_toOp, con, conG, conW, AV.noRd, noRdCells, noRdRows, noRdRows_map', encS, encO], by simp [c_laws_toOp, con, conG, conW, AV.noRd, noRdCells, noRdRows, noRdRows_map', encS, encO]⟩) (by intro (y : OpR) _; first | (simp [c_laws_toOp, con, conG, conW, conP, AV.free, freeCells, freeRows, freeRows_map, encS, encO]; done) | (obtain ⟨_, _⟩ := y; simp [c_laws_toOp, con, conG, conW, conP, AV.free, freeCells, freeRows, freeRows_map, encS, encO]; done) | (obtain ⟨_, _, _⟩ := y; simp [c_laws_toOp, con, conG, conW, conP, AV.free, freeCells, freeRows, freeRows_map, encS, encO]; done))
noncomputable def c_laws_FnExactOpText : PCon := conG gwTab [.rd [none, none, none, none, none, none]] true OpR (fun x => [.agg (encO x)]) bigO (fun _ => .bool true)
noncomputable def E_laws_FnExactOpText : Env := ⟨lookup tyTab, lookup [(8, c_laws_szOp), (9, c_spec_OpText), (10, c_laws_toOp), (11, c_impl_OpText)], [0, 1, 2, 3, 4, 5, 10, 19]⟩
set_option maxRecDepth 100000 in
set_option maxHeartbeats 4000000 in
theorem m_laws_FnExactOpText : Meets E_laws_FnExactOpText (codeOf Tryd.f3) Tryd.f3.results.toList c_laws_FnExactOpText := by
  intro (o : OpR) hs
  have hs : bigO o := hs
  refine ⟨trivial, ?_⟩
  conv => whnf
  refine ⟨(o, 1048576), rfl, fun _ => ⟨by show (0:Int) ≤ 1048576; decide, by show (1048576:Int) ≤ 4194304; decide, hs⟩, ?_⟩
  (conv => whnf); refine ⟨fun h1 => ?_, fun h1 => ?_⟩
  · conv => whnf
    exact ⟨trivial, rfl⟩
  have h1 : ¬ szR 1048576 (szO o) < 0 := by simpa using h1
  have hsm := szO_sm h1 (by omega)
  conv => whnf
  refine ⟨o, rfl, fun _ => trivial, ?_⟩
  conv => whnf
  refine ⟨o, rfl, fun _ => hsm, ?_⟩
  conv => whnf
  refine ⟨o, rfl, fun _ => trivial, ?_⟩
  conv => whnf
  refine ⟨o, rfl, fun _ => hsm, ?_⟩
  conv => whnf
  refine ⟨fun h => ?_, fun _ => ?_⟩
  · have h : (!(opText o == opText o)) = true := h
    simp at h
  conv => whnf
  exact ⟨trivial, rfl⟩
theorem ok_laws_FnExactOpText : ConOk Tryd.prog 3 c_laws_FnExactOpText := meets_ok (tabT _ _) (FOk.cons ok_laws_szOp (FOk.cons ok_spec_OpText (FOk.cons ok_laws_toOp (FOk.cons ok_impl_OpText FOk.nil)))) mixed Tryd.func3 rfl Tryd.call3 (by decide) (by kernel_rfl) m_laws_FnExactOpText (by intro _ (y : OpR) _; exact ⟨by simp [c_laws_FnExactOpText, con, conG, conW, AV.noRd, noRdCells, noRdRows, noRdRows_map', encS, encO], by simp [c_laws_FnExactOpText, con, conG, conW, AV.noRd, noRdCells, noRdRows, noRdRows_map', encS, encO]⟩) (by intro (y : OpR) _; first | (simp [c_laws_FnExactOpText, con, conG, conW, conP, AV.free, freeCells, freeRows, freeRows_map, encS, encO]; done) | (obtain ⟨_, _⟩ := y; simp [c_laws_FnExactOpText, con, conG, conW, conP, AV.free, freeCells, freeRows, freeRows_map, encS, encO]; done) | (obtain ⟨_, _, _⟩ := y; simp [c_laws_FnExactOpText, con, conG, conW, conP, AV.free, freeCells, freeRows, freeRows_map, encS, encO]; done))
end Go.GH

set_option linter.unusedVariables false
set_option linter.unusedSimpArgs false
namespace Go.GH
open Go Go.Proofs
open Go.ChangeShapes Go.WideShapes Go.ChangeAt Go.RowKit
set_option maxRecDepth 100000 in
theorem sh_Op : shTy Tryd.prog 12 23 = some [.int .i64, .str, .str, .int .i64, .str, .int .i64] := by kernel_rfl
set_option maxRecDepth 100000 in
theorem arg_Op {a : AV} (h : ArgOk Tryd.prog 12 23 a) : ∃ o : OpR, a = .agg (encO o) ∧ bigO o := by
  obtain ⟨sh, avs, h1, h2, h3⟩ := h
  rw [sh_Op] at h1
  obtain rfl := Option.some.inj h1
  rw [Tryd.underlying23] at h3
  obtain ⟨c0, r0, rfl, ⟨n0, rfl, _⟩, c1, r1, rfl, ⟨s1, rfl, b1⟩, c2, r2, rfl, ⟨s2, rfl, b2⟩, c3, r3, rfl, ⟨n3, rfl, _⟩, c4, r4, rfl, ⟨s4, rfl, b4⟩, c5, r5, rfl, ⟨n5, rfl, _⟩, e⟩ := h2
  have e : r5 = [] := e
  subst e
  exact ⟨⟨n0, s1, s2, n3, s4, n5⟩, h3, b1, b2, b4⟩
theorem var_congr {P : Program} {w w' : World} {n : String} {g : Nat} (hg : P.globalNamed n = some g) (h : w'.heap[g]? = w.heap[g]?) : w'.var? P n = w.var? P n := by
  simp only [World.var?, hg, Option.bind_some, h]
theorem var_lt {P : Program} {w : World} {n : String} {g : Nat} {cs : Array Value} (hg : P.globalNamed n = some g) (h : w.var? P n = some cs) : g < w.heap.size := by
  rcases Nat.lt_or_ge g w.heap.size with hl | hl
  · exact hl
  · simp only [World.var?, hg, Option.bind_some] at h
    rw [Array.getElem?_eq_none hl] at h
    cases h
theorem gTab : Tryd.prog.globalNamed "internal/strconv.uint64pow10" = some 3 := by kernel_rfl
set_option maxRecDepth 100000 in
theorem gwTab_laid {W : World} {x y : String × DataW Unit} {rest : List (String × DataW Unit)} (h : laidMet Tryd.prog (x :: y :: ("internal/strconv.uint64pow10", Go.Proofs.YtijkfhkjnhceoaaDoor.Rows.laid_internal_strconv_uint64pow10) :: rest) W) : gwTab W := by
  have h2 := h.tail.tail
  have e : (Go.Proofs.YtijkfhkjnhceoaaDoor.Rows.laid_internal_strconv_uint64pow10 : DataW Unit) = Lib.tabData .u64 Lib.pow10Tab := by kernel_rfl
  rw [e] at h2
  exact Lib.tabIs_of_head gTab (by kernel_rfl) Tryd.underlying120 Tryd.underlying106 (by kernel_rfl) (by kernel_rfl) h2
theorem gokTab {W : World} (h : gwTab W) : GOk gwTab W fun _ => False :=
  ⟨fun b => b = 3, fun b hb => ⟨by subst hb; exact var_lt gTab h, fun h => h⟩, fun w' hw => (var_congr gTab (hw 3 rfl)).trans h⟩
set_option maxRecDepth 100000 in
theorem sh_OpS : shTy Tryd.prog 12 29 = some [.slice 6 [.int .i64, .str, .str, .int .i64, .str, .int .i64]] := by kernel_rfl
theorem ops_of {xs : List (List AV)} (h : ∀ r, r ∈ xs → ofL [.int .i64, .str, .str, .int .i64, .str, .int .i64] r) : ∃ t : List OpR, xs = t.map encO ∧ ∀ y, y ∈ t → bigO y := by
  induction xs with
  | nil => exact ⟨[], rfl, by simp⟩
  | cons r xs ih =>
    obtain ⟨t, rfl, ht⟩ := ih fun r hr => h r (by simp [hr])
    obtain ⟨c0, r0, rfl, ⟨n0, rfl, _⟩, c1, r1, rfl, ⟨s1, rfl, b1⟩, c2, r2, rfl, ⟨s2, rfl, b2⟩, c3, r3, rfl, ⟨n3, rfl, _⟩, c4, r4, rfl, ⟨s4, rfl, b4⟩, c5, r5, rfl, ⟨n5, rfl, _⟩, e⟩ := h r (by simp)
    have e : r5 = [] := e
    subst e
    refine ⟨⟨n0, s1, s2, n3, s4, n5⟩ :: t, rfl, fun y hy => ?_⟩
    rcases List.mem_cons.1 hy with rfl | hy
    · exact ⟨b1, b2, b4⟩
    · exact ht y hy
set_option maxRecDepth 100000 in
theorem arg_OpS {a : AV} (h : ArgOk Tryd.prog 12 29 a) : ∃ t : List OpR, a = .rd 6 (t.map encO) ∧ t.length ≤ 9223372036854775807 ∧ ∀ y, y ∈ t → bigO y := by
  obtain ⟨sh, avs, h1, h2, h3⟩ := h
  rw [sh_OpS] at h1
  obtain rfl := Option.some.inj h1
  rw [Tryd.underlying29] at h3
  obtain ⟨c, r, rfl, ⟨xs, rfl, hl, hx⟩, e⟩ := h2
  have e : r = [] := e
  subst e
  obtain ⟨t, rfl, ht⟩ := ops_of hx
  have h3 : [AV.rd 6 (t.map encO)] = [a] := h3
  exact ⟨t, (List.cons.inj h3).1.symm, by simpa using hl, ht⟩
end Go.GH

set_option linter.unusedVariables false
set_option linter.unusedSimpArgs false
namespace Go.GH
open Go Go.Proofs
noncomputable def c_spec_OpsText : PCon := con [mS 6] true (List OpR) (fun l => [.rd 6 (l.map encO)]) smOL (fun l => .str (opsText l))
noncomputable def E_spec_OpsText : Env := ⟨lookup tyTab, lookup [(9, c_spec_OpText)], [0, 2, 3, 4, 5, 9, 18]⟩
set_option maxRecDepth 100000 in
set_option maxHeartbeats 4000000 in
theorem m_spec_OpsText : Meets E_spec_OpsText (codeOf Tryd.f13) Tryd.f13.results.toList c_spec_OpsText := by
  intro (l : List OpR) hs
  have hs : smOL l := hs
  have hl1 := hs.1
  refine ⟨trivial, ?_⟩
  repeat ((conv => whnf); first | refine ⟨fun h => h, ?_⟩ | refine ⟨(by kernel_rfl : drawOk _ _ = true), ?_⟩ | refine ⟨fun (h : gtrue _) => by first | assumption | exact absurd (Eq.trans (Eq.symm h) (by assumption) : true = false) Bool.noConfusion, ?_⟩ | refine ⟨fun h => (absurd (Eq.trans (Eq.symm h) (by assumption) : true = false) Bool.noConfusion : False), ?_⟩ | refine ⟨_, w64 (by (show (_ : Prop)); first | omega | ((try dsimp only at *); (try simp only [lns] at *); omega)), ?_⟩ | refine ⟨fun _ => ⟨by (show (_ : Prop)); first | omega | ((try dsimp only at *); (try simp only [lns] at *); omega), by (show (_ : Prop)); first | omega | ((try dsimp only at *); (try simp only [lns] at *); omega), by (show (_ : Prop)); first | omega | ((try dsimp only at *); (try simp only [lns] at *); omega)⟩, ?_⟩ | refine ⟨by (show (_ : Prop)); first | omega | ((try dsimp only at *); (try simp only [lns] at *); omega), ?_⟩ | refine ⟨fun h => ⟨by (show (_ : Prop)); first | omega | ((try dsimp only at *); (try simp only [lns] at *); omega), by (show (_ : Prop)); first | omega | ((try dsimp only at *); (try simp only [lns] at *); omega)⟩, ?_⟩ | refine ⟨fun (r : List AV) hr c hc => by simp [encS] at hr; (try subst hr); simp at hc; (try subst hc); rfl, ?_⟩ | refine ⟨noOwn (by rfl), ?_⟩)
  refine loop_rule (fun i : Nat => ⟨[(0, ⟨none, .rd 6 (l.map encO)⟩), (3, ⟨none, .str ((l.take i).flatMap opLine)⟩), (4, ⟨none, .int .i64 i⟩)], [], 0⟩)
    (fun i => i ≤ l.length ∧ (l.take i).all (fun o => !(opText o == [])) = true) (fun i => l.length - i) 0 ?_ ⟨by omega, rfl⟩ ?_
  · (refine ⟨?_, ?_, rfl⟩ <;> repeat' (first | exact rfl | exact trivial | refine ⟨?_, ?_⟩ | fail) <;> (conv => whnf))
    all_goals simp
  rintro i ⟨hi, hI⟩
  have hll := lines_len hs i
  (conv => whnf); refine ⟨fun h2 => ?_, fun h2 => ?_⟩
  · have h2 : i < l.length := by simpa using h2
    obtain ⟨o, ho⟩ := get_lt h2
    have hso := hs.2 o (List.mem_of_getElem? ho)
    have hle := opText_len o
    have s1 := hso.1
    have s2 := hso.2.1
    repeat ((conv => whnf); first | refine ⟨fun h => h, ?_⟩ | refine ⟨(by kernel_rfl : drawOk _ _ = true), ?_⟩ | refine ⟨fun (h : gtrue _) => by first | assumption | exact absurd (Eq.trans (Eq.symm h) (by assumption) : true = false) Bool.noConfusion, ?_⟩ | refine ⟨fun h => (absurd (Eq.trans (Eq.symm h) (by assumption) : true = false) Bool.noConfusion : False), ?_⟩ | refine ⟨_, w64 (by (show (_ : Prop)); first | omega | ((try dsimp only at *); (try simp only [lns] at *); omega)), ?_⟩ | refine ⟨fun _ => ⟨by (show (_ : Prop)); first | omega | ((try dsimp only at *); (try simp only [lns] at *); omega), by (show (_ : Prop)); first | omega | ((try dsimp only at *); (try simp only [lns] at *); omega), by (show (_ : Prop)); first | omega | ((try dsimp only at *); (try simp only [lns] at *); omega)⟩, ?_⟩ | refine ⟨by (show (_ : Prop)); first | omega | ((try dsimp only at *); (try simp only [lns] at *); omega), ?_⟩ | refine ⟨fun h => ⟨by (show (_ : Prop)); first | omega | ((try dsimp only at *); (try simp only [lns] at *); omega), by (show (_ : Prop)); first | omega | ((try dsimp only at *); (try simp only [lns] at *); omega)⟩, ?_⟩ | refine ⟨fun (r : List AV) hr c hc => by simp [encS] at hr; (try subst hr); simp at hc; (try subst hc); rfl, ?_⟩ | refine ⟨noOwn (by rfl), ?_⟩ | refine ⟨encO o, fun _ => ⟨by omega, get_map ho⟩, ?_⟩)
    refine ⟨o, rfl, fun _ => hso, ?_⟩
    (conv => whnf); refine ⟨fun h3 => ?_, fun h3 => ?_⟩
    · have h3 : (opText o == []) = true := h3
      conv => whnf
      exact ⟨trivial, eqS (by rw [opsText, if_neg]; rw [all_no ho (by simp [h3])]; simp)⟩
    have h3 : (opText o == []) = false := h3
    repeat ((conv => whnf); first | refine ⟨fun h => h, ?_⟩ | refine ⟨(by kernel_rfl : drawOk _ _ = true), ?_⟩ | refine ⟨fun (h : gtrue _) => by first | assumption | exact absurd (Eq.trans (Eq.symm h) (by assumption) : true = false) Bool.noConfusion, ?_⟩ | refine ⟨fun h => (absurd (Eq.trans (Eq.symm h) (by assumption) : true = false) Bool.noConfusion : False), ?_⟩ | refine ⟨_, w64 (by (show (_ : Prop)); first | omega | ((try dsimp only at *); (try simp only [lns] at *); omega)), ?_⟩ | refine ⟨fun _ => ⟨by (show (_ : Prop)); first | omega | ((try dsimp only at *); (try simp only [lns] at *); omega), by (show (_ : Prop)); first | omega | ((try dsimp only at *); (try simp only [lns] at *); omega), by (show (_ : Prop)); first | omega | ((try dsimp only at *); (try simp only [lns] at *); omega)⟩, ?_⟩ | refine ⟨by (show (_ : Prop)); first | omega | ((try dsimp only at *); (try simp only [lns] at *); omega), ?_⟩ | refine ⟨fun h => ⟨by (show (_ : Prop)); first | omega | ((try dsimp only at *); (try simp only [lns] at *); omega), by (show (_ : Prop)); first | omega | ((try dsimp only at *); (try simp only [lns] at *); omega)⟩, ?_⟩ | refine ⟨fun (r : List AV) hr c hc => by simp [encS] at hr; (try subst hr); simp at hc; (try subst hc); rfl, ?_⟩ | refine ⟨noOwn (by rfl), ?_⟩ | refine ⟨(by (show (_ : Prop)); simp only [List.length_append] at *; omega), ?_⟩)
    refine again (i + 1) ?_ ⟨h2, all_take_succ hI ho (by simp [h3])⟩ (by first | omega | (simp; done) | (simp; omega))
    (refine ⟨?_, ?_, rfl⟩ <;> repeat' (first | exact rfl | exact trivial | refine ⟨?_, ?_⟩ | fail) <;> (conv => whnf))
    all_goals (rw [take_flat ho]; simp [opLine])
  · have h2 : i = l.length := by
      have : ¬ i < l.length := by simpa using h2
      omega
    subst h2
    rw [List.take_length] at hI hll ⊢
    conv => whnf
    exact ⟨trivial, eqS (by rw [opsText, if_pos hI])⟩
theorem ok_spec_OpsText : ConOk Tryd.prog 13 c_spec_OpsText := meets_ok (tabT _ _) (FOk.cons ok_spec_OpText FOk.nil) mixed Tryd.func13 rfl Tryd.call13 (by decide) (by kernel_rfl) m_spec_OpsText (by intro _ (y : (List OpR)) _; exact ⟨by simp [c_spec_OpsText, con, conG, conW, AV.noRd, noRdCells, noRdRows, noRdRows_map', encS, encO], by simp [c_spec_OpsText, con, conG, conW, AV.noRd, noRdCells, noRdRows, noRdRows_map', encS, encO]⟩) (by intro (y : (List OpR)) _; first | (simp [c_spec_OpsText, con, conG, conW, conP, AV.free, freeCells, freeRows, freeRows_map, encS, encO]; done) | (obtain ⟨_, _⟩ := y; simp [c_spec_OpsText, con, conG, conW, conP, AV.free, freeCells, freeRows, freeRows_map, encS, encO]; done) | (obtain ⟨_, _, _⟩ := y; simp [c_spec_OpsText, con, conG, conW, conP, AV.free, freeCells, freeRows, freeRows_map, encS, encO]; done))
noncomputable def c_impl_OpsText : PCon := conG gwTab [mS 6] true (List OpR) (fun l => [.rd 6 (l.map encO)]) smOL (fun l => .str (opsText l))
noncomputable def E_impl_OpsText : Env := ⟨lookup tyTab, lookup [(11, c_impl_OpText)], [0, 2, 3, 5, 6, 7, 8, 9, 10, 16]⟩
set_option maxRecDepth 100000 in
set_option maxHeartbeats 4000000 in
theorem m_impl_OpsText : Meets E_impl_OpsText (codeOf Tryd.f15) Tryd.f15.results.toList c_impl_OpsText := by
  intro (l : List OpR) hs
  have hs : smOL l := hs
  have hl1 := hs.1
  refine ⟨trivial, ?_⟩
  repeat ((conv => whnf); first | refine ⟨fun h => h, ?_⟩ | refine ⟨(by kernel_rfl : drawOk _ _ = true), ?_⟩ | refine ⟨fun (h : gtrue _) => by first | assumption | exact absurd (Eq.trans (Eq.symm h) (by assumption) : true = false) Bool.noConfusion, ?_⟩ | refine ⟨fun h => (absurd (Eq.trans (Eq.symm h) (by assumption) : true = false) Bool.noConfusion : False), ?_⟩ | refine ⟨_, w64 (by (show (_ : Prop)); first | omega | ((try dsimp only at *); (try simp only [lns] at *); omega)), ?_⟩ | refine ⟨fun _ => ⟨by (show (_ : Prop)); first | omega | ((try dsimp only at *); (try simp only [lns] at *); omega), by (show (_ : Prop)); first | omega | ((try dsimp only at *); (try simp only [lns] at *); omega), by (show (_ : Prop)); first | omega | ((try dsimp only at *); (try simp only [lns] at *); omega)⟩, ?_⟩ | refine ⟨by (show (_ : Prop)); first | omega | ((try dsimp only at *); (try simp only [lns] at *); omega), ?_⟩ | refine ⟨fun h => ⟨by (show (_ : Prop)); first | omega | ((try dsimp only at *); (try simp only [lns] at *); omega), by (show (_ : Prop)); first | omega | ((try dsimp only at *); (try simp only [lns] at *); omega)⟩, ?_⟩ | refine ⟨fun (r : List AV) hr c hc => by simp [encS] at hr; (try subst hr); simp at hc; (try subst hc); rfl, ?_⟩ | refine ⟨noOwn (by rfl), ?_⟩)
  refine loop_rule (fun i : Nat => ⟨[(3, ⟨none, .str ((l.take i).flatMap opLine)⟩), (7, ⟨none, .rd 6 (l.map encO)⟩), (8, ⟨none, .int .i64 l.length⟩), (9, ⟨none, .int .i64 i⟩)], [], 0⟩)
    (fun i => i ≤ l.length ∧ (l.take i).all (fun o => !(opText o == [])) = true) (fun i => l.length - i) 0 ?_ ⟨by omega, rfl⟩ ?_
  · (refine ⟨?_, ?_, rfl⟩ <;> repeat' (first | exact rfl | exact trivial | refine ⟨?_, ?_⟩ | fail) <;> (conv => whnf))
    all_goals simp
  rintro i ⟨hi, hI⟩
  have hll := lines_len hs i
  (conv => whnf); refine ⟨fun h2 => ?_, fun h2 => ?_⟩
  · have h2 : i < l.length := by simpa using h2
    obtain ⟨o, ho⟩ := get_lt h2
    have hso := hs.2 o (List.mem_of_getElem? ho)
    have hle := opText_len o
    have s1 := hso.1
    have s2 := hso.2.1
    repeat ((conv => whnf); first | refine ⟨fun h => h, ?_⟩ | refine ⟨(by kernel_rfl : drawOk _ _ = true), ?_⟩ | refine ⟨fun (h : gtrue _) => by first | assumption | exact absurd (Eq.trans (Eq.symm h) (by assumption) : true = false) Bool.noConfusion, ?_⟩ | refine ⟨fun h => (absurd (Eq.trans (Eq.symm h) (by assumption) : true = false) Bool.noConfusion : False), ?_⟩ | refine ⟨_, w64 (by (show (_ : Prop)); first | omega | ((try dsimp only at *); (try simp only [lns] at *); omega)), ?_⟩ | refine ⟨fun _ => ⟨by (show (_ : Prop)); first | omega | ((try dsimp only at *); (try simp only [lns] at *); omega), by (show (_ : Prop)); first | omega | ((try dsimp only at *); (try simp only [lns] at *); omega), by (show (_ : Prop)); first | omega | ((try dsimp only at *); (try simp only [lns] at *); omega)⟩, ?_⟩ | refine ⟨by (show (_ : Prop)); first | omega | ((try dsimp only at *); (try simp only [lns] at *); omega), ?_⟩ | refine ⟨fun h => ⟨by (show (_ : Prop)); first | omega | ((try dsimp only at *); (try simp only [lns] at *); omega), by (show (_ : Prop)); first | omega | ((try dsimp only at *); (try simp only [lns] at *); omega)⟩, ?_⟩ | refine ⟨fun (r : List AV) hr c hc => by simp [encS] at hr; (try subst hr); simp at hc; (try subst hc); rfl, ?_⟩ | refine ⟨noOwn (by rfl), ?_⟩ | refine ⟨encO o, fun _ => ⟨by omega, get_map ho⟩, ?_⟩)
    refine ⟨o, rfl, fun _ => hso, ?_⟩
    (conv => whnf); refine ⟨fun h3 => ?_, fun h3 => ?_⟩
    · have h3 : (opText o == []) = true := h3
      conv => whnf
      exact ⟨trivial, eqS (by rw [opsText, if_neg]; rw [all_no ho (by simp [h3])]; simp)⟩
    have h3 : (opText o == []) = false := h3
    repeat ((conv => whnf); first | refine ⟨fun h => h, ?_⟩ | refine ⟨(by kernel_rfl : drawOk _ _ = true), ?_⟩ | refine ⟨fun (h : gtrue _) => by first | assumption | exact absurd (Eq.trans (Eq.symm h) (by assumption) : true = false) Bool.noConfusion, ?_⟩ | refine ⟨fun h => (absurd (Eq.trans (Eq.symm h) (by assumption) : true = false) Bool.noConfusion : False), ?_⟩ | refine ⟨_, w64 (by (show (_ : Prop)); first | omega | ((try dsimp only at *); (try simp only [lns] at *); omega)), ?_⟩ | refine ⟨fun _ => ⟨by (show (_ : Prop)); first | omega | ((try dsimp only at *); (try simp only [lns] at *); omega), by (show (_ : Prop)); first | omega | ((try dsimp only at *); (try simp only [lns] at *); omega), by (show (_ : Prop)); first | omega | ((try dsimp only at *); (try simp only [lns] at *); omega)⟩, ?_⟩ | refine ⟨by (show (_ : Prop)); first | omega | ((try dsimp only at *); (try simp only [lns] at *); omega), ?_⟩ | refine ⟨fun h => ⟨by (show (_ : Prop)); first | omega | ((try dsimp only at *); (try simp only [lns] at *); omega), by (show (_ : Prop)); first | omega | ((try dsimp only at *); (try simp only [lns] at *); omega)⟩, ?_⟩ | refine ⟨fun (r : List AV) hr c hc => by simp [encS] at hr; (try subst hr); simp at hc; (try subst hc); rfl, ?_⟩ | refine ⟨noOwn (by rfl), ?_⟩ | refine ⟨(by (show (_ : Prop)); simp only [List.length_append] at *; omega), ?_⟩)
    refine again (i + 1) ?_ ⟨h2, all_take_succ hI ho (by simp [h3])⟩ (by first | omega | (simp; done) | (simp; omega))
    (refine ⟨?_, ?_, rfl⟩ <;> repeat' (first | exact rfl | exact trivial | refine ⟨?_, ?_⟩ | fail) <;> (conv => whnf))
    all_goals (rw [take_flat ho]; simp [opLine])
  · have h2 : i = l.length := by
      have : ¬ i < l.length := by simpa using h2
      omega
    subst h2
    rw [List.take_length] at hI hll ⊢
    conv => whnf
    exact ⟨trivial, eqS (by rw [opsText, if_pos hI])⟩
theorem ok_impl_OpsText : ConOk Tryd.prog 15 c_impl_OpsText := meets_ok (tabT _ _) (FOk.cons ok_impl_OpText FOk.nil) mixed Tryd.func15 rfl Tryd.call15 (by decide) (by kernel_rfl) m_impl_OpsText (by intro _ (y : (List OpR)) _; exact ⟨by simp [c_impl_OpsText, con, conG, conW, AV.noRd, noRdCells, noRdRows, noRdRows_map', encS, encO], by simp [c_impl_OpsText, con, conG, conW, AV.noRd, noRdCells, noRdRows, noRdRows_map', encS, encO]⟩) (by intro (y : (List OpR)) _; first | (simp [c_impl_OpsText, con, conG, conW, conP, AV.free, freeCells, freeRows, freeRows_map, encS, encO]; done) | (obtain ⟨_, _⟩ := y; simp [c_impl_OpsText, con, conG, conW, conP, AV.free, freeCells, freeRows, freeRows_map, encS, encO]; done) | (obtain ⟨_, _, _⟩ := y; simp [c_impl_OpsText, con, conG, conW, conP, AV.free, freeCells, freeRows, freeRows_map, encS, encO]; done))
noncomputable def c_laws_szOpS : PCon := con [mS 6, mC] true (List OpR × Int) (fun x => [.rd 6 (x.1.map encO), .int .i64 x.2]) (fun x => 0 ≤ x.2 ∧ x.2 ≤ 4194304 ∧ x.1.length ≤ 9223372036854775807 ∧ ∀ y, y ∈ x.1 → bigO y) (fun x => .int .i64 (szR x.2 (szOL x.1)))
noncomputable def E_laws_szOpS : Env := ⟨lookup tyTab, lookup [(8, c_laws_szOp)], [0, 1, 4, 5, 11, 15, 25]⟩
set_option maxRecDepth 100000 in
set_option maxHeartbeats 4000000 in
theorem m_laws_szOpS : Meets E_laws_szOpS (codeOf Tryd.f12) Tryd.f12.results.toList c_laws_szOpS := by
  rintro ⟨t, left⟩ hs
  obtain ⟨h1, h2, h3, h4⟩ : 0 ≤ left ∧ left ≤ 4194304 ∧ t.length ≤ 9223372036854775807 ∧ ∀ y, y ∈ t → bigO y := hs
  refine ⟨trivial, ?_⟩
  repeat ((conv => whnf); first | refine ⟨fun h => h, ?_⟩ | refine ⟨(by kernel_rfl : drawOk _ _ = true), ?_⟩ | refine ⟨fun (h : gtrue _) => by first | assumption | exact absurd (Eq.trans (Eq.symm h) (by assumption) : true = false) Bool.noConfusion, ?_⟩ | refine ⟨fun h => (absurd (Eq.trans (Eq.symm h) (by assumption) : true = false) Bool.noConfusion : False), ?_⟩ | refine ⟨_, w64 (by (show (_ : Prop)); first | omega | ((try dsimp only at *); (try simp only [lns] at *); omega)), ?_⟩ | refine ⟨fun _ => ⟨by (show (_ : Prop)); first | omega | ((try dsimp only at *); (try simp only [lns] at *); omega), by (show (_ : Prop)); first | omega | ((try dsimp only at *); (try simp only [lns] at *); omega), by (show (_ : Prop)); first | omega | ((try dsimp only at *); (try simp only [lns] at *); omega)⟩, ?_⟩ | refine ⟨by (show (_ : Prop)); first | omega | ((try dsimp only at *); (try simp only [lns] at *); omega), ?_⟩ | refine ⟨fun h => ⟨by (show (_ : Prop)); first | omega | ((try dsimp only at *); (try simp only [lns] at *); omega), by (show (_ : Prop)); first | omega | ((try dsimp only at *); (try simp only [lns] at *); omega)⟩, ?_⟩ | refine ⟨fun (r : List AV) hr c hc => by simp [encS] at hr; (try subst hr); simp at hc; (try subst hc); rfl, ?_⟩ | refine ⟨noOwn (by rfl), ?_⟩)
  (conv => whnf); refine ⟨fun h5 => ?_, fun h5 => ?_⟩
  · have h5 : left - t.length < 0 := by simpa using h5
    conv => whnf
    exact ⟨trivial, eqN' (by unfold szR szOL; dsimp only; rw [if_pos (by omega)])⟩
  have h5 : ¬ left - t.length < 0 := by simpa using h5
  repeat ((conv => whnf); first | refine ⟨fun h => h, ?_⟩ | refine ⟨(by kernel_rfl : drawOk _ _ = true), ?_⟩ | refine ⟨fun (h : gtrue _) => by first | assumption | exact absurd (Eq.trans (Eq.symm h) (by assumption) : true = false) Bool.noConfusion, ?_⟩ | refine ⟨fun h => (absurd (Eq.trans (Eq.symm h) (by assumption) : true = false) Bool.noConfusion : False), ?_⟩ | refine ⟨_, w64 (by (show (_ : Prop)); first | omega | ((try dsimp only at *); (try simp only [lns] at *); omega)), ?_⟩ | refine ⟨fun _ => ⟨by (show (_ : Prop)); first | omega | ((try dsimp only at *); (try simp only [lns] at *); omega), by (show (_ : Prop)); first | omega | ((try dsimp only at *); (try simp only [lns] at *); omega), by (show (_ : Prop)); first | omega | ((try dsimp only at *); (try simp only [lns] at *); omega)⟩, ?_⟩ | refine ⟨by (show (_ : Prop)); first | omega | ((try dsimp only at *); (try simp only [lns] at *); omega), ?_⟩ | refine ⟨fun h => ⟨by (show (_ : Prop)); first | omega | ((try dsimp only at *); (try simp only [lns] at *); omega), by (show (_ : Prop)); first | omega | ((try dsimp only at *); (try simp only [lns] at *); omega)⟩, ?_⟩ | refine ⟨fun (r : List AV) hr c hc => by simp [encS] at hr; (try subst hr); simp at hc; (try subst hc); rfl, ?_⟩ | refine ⟨noOwn (by rfl), ?_⟩)
  refine loop_rule (fun i : Nat => ⟨[(0, ⟨none, .rd 6 (t.map encO)⟩), (1, ⟨none, .int .i64 (left - t.length - ((t.take i).map szO).sum)⟩), (5, ⟨none, .int .i64 i⟩)], [], 0⟩)
    (fun i => i ≤ t.length ∧ 0 ≤ left - t.length - ((t.take i).map szO).sum) (fun i => t.length - i) 0 ?_ ⟨by omega, by simp; omega⟩ ?_
  · (refine ⟨?_, ?_, rfl⟩ <;> repeat' (first | exact rfl | exact trivial | refine ⟨?_, ?_⟩ | fail) <;> (conv => whnf))
    all_goals simp
  rintro i ⟨hi, hI⟩
  (conv => whnf); refine ⟨fun h6 => ?_, fun h6 => ?_⟩
  · have h6 : i < t.length := by simpa using h6
    obtain ⟨b, hb⟩ := get_lt h6
    have hbs := h4 b (List.mem_of_getElem? hb)
    have hsu := sum_take' (f := szO) hb
    have hle := sum_take_le (f := szO) (l := t) (i := i + 1)
    repeat ((conv => whnf); first | refine ⟨fun h => h, ?_⟩ | refine ⟨(by kernel_rfl : drawOk _ _ = true), ?_⟩ | refine ⟨fun (h : gtrue _) => by first | assumption | exact absurd (Eq.trans (Eq.symm h) (by assumption) : true = false) Bool.noConfusion, ?_⟩ | refine ⟨fun h => (absurd (Eq.trans (Eq.symm h) (by assumption) : true = false) Bool.noConfusion : False), ?_⟩ | refine ⟨_, w64 (by (show (_ : Prop)); first | omega | ((try dsimp only at *); (try simp only [lns] at *); omega)), ?_⟩ | refine ⟨fun _ => ⟨by (show (_ : Prop)); first | omega | ((try dsimp only at *); (try simp only [lns] at *); omega), by (show (_ : Prop)); first | omega | ((try dsimp only at *); (try simp only [lns] at *); omega), by (show (_ : Prop)); first | omega | ((try dsimp only at *); (try simp only [lns] at *); omega)⟩, ?_⟩ | refine ⟨by (show (_ : Prop)); first | omega | ((try dsimp only at *); (try simp only [lns] at *); omega), ?_⟩ | refine ⟨fun h => ⟨by (show (_ : Prop)); first | omega | ((try dsimp only at *); (try simp only [lns] at *); omega), by (show (_ : Prop)); first | omega | ((try dsimp only at *); (try simp only [lns] at *); omega)⟩, ?_⟩ | refine ⟨fun (r : List AV) hr c hc => by simp [encS] at hr; (try subst hr); simp at hc; (try subst hc); rfl, ?_⟩ | refine ⟨noOwn (by rfl), ?_⟩ | refine ⟨encO b, fun _ => ⟨by omega, by simp [hb]⟩, ?_⟩)
    conv => whnf
    refine ⟨(b, left - t.length - ((t.take i).map szO).sum), rfl, fun _ => ⟨hI, by show _ ≤ _; omega, hbs⟩, ?_⟩
    (conv => whnf); refine ⟨fun h7 => ?_, fun h7 => ?_⟩
    · have h7 : szR (left - t.length - ((t.take i).map szO).sum) (szO b) < 0 := by simpa using h7
      have h7 : left - t.length - ((t.take i).map szO).sum - szO b < 0 := by
        unfold szR at h7; split at h7 <;> omega
      conv => whnf
      exact ⟨trivial, eqN' (by unfold szR szOL; dsimp only; rw [if_pos (by omega)])⟩
    · have h7 : ¬ szR (left - t.length - ((t.take i).map szO).sum) (szO b) < 0 := by simpa using h7
      have h8 := szR_ok h7
      have h9 : szR (left - t.length - ((t.take i).map szO).sum) (szO b) = left - t.length - ((t.take (i + 1)).map szO).sum := by
        unfold szR; rw [if_neg (by omega)]; omega
      repeat ((conv => whnf); first | refine ⟨fun h => h, ?_⟩ | refine ⟨(by kernel_rfl : drawOk _ _ = true), ?_⟩ | refine ⟨fun (h : gtrue _) => by first | assumption | exact absurd (Eq.trans (Eq.symm h) (by assumption) : true = false) Bool.noConfusion, ?_⟩ | refine ⟨fun h => (absurd (Eq.trans (Eq.symm h) (by assumption) : true = false) Bool.noConfusion : False), ?_⟩ | refine ⟨_, w64 (by (show (_ : Prop)); first | omega | ((try dsimp only at *); (try simp only [lns] at *); omega)), ?_⟩ | refine ⟨fun _ => ⟨by (show (_ : Prop)); first | omega | ((try dsimp only at *); (try simp only [lns] at *); omega), by (show (_ : Prop)); first | omega | ((try dsimp only at *); (try simp only [lns] at *); omega), by (show (_ : Prop)); first | omega | ((try dsimp only at *); (try simp only [lns] at *); omega)⟩, ?_⟩ | refine ⟨by (show (_ : Prop)); first | omega | ((try dsimp only at *); (try simp only [lns] at *); omega), ?_⟩ | refine ⟨fun h => ⟨by (show (_ : Prop)); first | omega | ((try dsimp only at *); (try simp only [lns] at *); omega), by (show (_ : Prop)); first | omega | ((try dsimp only at *); (try simp only [lns] at *); omega)⟩, ?_⟩ | refine ⟨fun (r : List AV) hr c hc => by simp [encS] at hr; (try subst hr); simp at hc; (try subst hc); rfl, ?_⟩ | refine ⟨noOwn (by rfl), ?_⟩)
      refine again (i + 1) ?_ ⟨h6, by omega⟩ (by first | omega | (simp; done) | (simp; omega))
      (refine ⟨?_, ?_, rfl⟩ <;> repeat' (first | exact rfl | exact trivial | refine ⟨?_, ?_⟩ | fail) <;> (conv => whnf))
      exact h9
  · have h6 : i = t.length := by
      have : ¬ i < t.length := by simpa using h6
      omega
    subst h6
    rw [List.take_length] at hI ⊢
    conv => whnf
    exact ⟨trivial, eqN' (by unfold szR szOL; dsimp only; rw [if_neg (by omega)]; omega)⟩
theorem ok_laws_szOpS : ConOk Tryd.prog 12 c_laws_szOpS := meets_ok (tabT _ _) (FOk.cons ok_laws_szOp FOk.nil) mixed Tryd.func12 rfl Tryd.call12 (by decide) (by kernel_rfl) m_laws_szOpS (by intro _ (y : (List OpR × Int)) _; exact ⟨by simp [c_laws_szOpS, con, conG, conW, AV.noRd, noRdCells, noRdRows, noRdRows_map', encS, encO], by simp [c_laws_szOpS, con, conG, conW, AV.noRd, noRdCells, noRdRows, noRdRows_map', encS, encO]⟩) (by intro (y : (List OpR × Int)) _; first | (simp [c_laws_szOpS, con, conG, conW, conP, AV.free, freeCells, freeRows, freeRows_map, encS, encO]; done) | (obtain ⟨_, _⟩ := y; simp [c_laws_szOpS, con, conG, conW, conP, AV.free, freeCells, freeRows, freeRows_map, encS, encO]; done) | (obtain ⟨_, _, _⟩ := y; simp [c_laws_szOpS, con, conG, conW, conP, AV.free, freeCells, freeRows, freeRows_map, encS, encO]; done))
noncomputable def c_laws_toOpS : PCon := con [mS 6] false (List OpR) (fun t => [.rd 6 (t.map encO)]) smOL (fun t => .own 6 (t.map encO))
noncomputable def E_laws_toOpS : Env := ⟨lookup tyTab, lookup [(10, c_laws_toOp)], [0, 2, 3, 4, 11]⟩
set_option maxRecDepth 100000 in
set_option maxHeartbeats 4000000 in
theorem m_laws_toOpS : Meets E_laws_toOpS (codeOf Tryd.f14) Tryd.f14.results.toList c_laws_toOpS := by
  intro (t : List OpR) hs
  obtain ⟨hs1, hs2⟩ : smOL t := hs
  refine ⟨trivial, ?_⟩
  repeat ((conv => whnf); first | refine ⟨fun h => h, ?_⟩ | refine ⟨(by kernel_rfl : drawOk _ _ = true), ?_⟩ | refine ⟨fun (h : gtrue _) => by first | assumption | exact absurd (Eq.trans (Eq.symm h) (by assumption) : true = false) Bool.noConfusion, ?_⟩ | refine ⟨fun h => (absurd (Eq.trans (Eq.symm h) (by assumption) : true = false) Bool.noConfusion : False), ?_⟩ | refine ⟨_, w64 (by (show (_ : Prop)); first | omega | ((try dsimp only at *); (try simp only [lns] at *); omega)), ?_⟩ | refine ⟨fun _ => ⟨by (show (_ : Prop)); first | omega | ((try dsimp only at *); (try simp only [lns] at *); omega), by (show (_ : Prop)); first | omega | ((try dsimp only at *); (try simp only [lns] at *); omega), by (show (_ : Prop)); first | omega | ((try dsimp only at *); (try simp only [lns] at *); omega)⟩, ?_⟩ | refine ⟨by (show (_ : Prop)); first | omega | ((try dsimp only at *); (try simp only [lns] at *); omega), ?_⟩ | refine ⟨fun h => ⟨by (show (_ : Prop)); first | omega | ((try dsimp only at *); (try simp only [lns] at *); omega), by (show (_ : Prop)); first | omega | ((try dsimp only at *); (try simp only [lns] at *); omega)⟩, ?_⟩ | refine ⟨fun (r : List AV) hr c hc => by simp [encS] at hr; (try subst hr); simp at hc; (try subst hc); rfl, ?_⟩ | refine ⟨noOwn (by rfl), ?_⟩)
  refine loop_rule (fun i : Nat => ⟨[(0, ⟨none, .rd 6 (t.map encO)⟩), (3, ⟨none, .view 0 [] 0 t.length⟩), (4, ⟨none, .int .i64 i⟩)], [(0, .own 6 (filled encO (encO OpR.zero) t i))], 1⟩)
    (fun i => i ≤ t.length) (fun i => t.length - i) 0 ?_ (by omega) ?_
  · (refine ⟨?_, ?_, rfl⟩ <;> repeat' (first | exact rfl | exact trivial | refine ⟨?_, ?_⟩ | fail) <;> (conv => whnf))
    all_goals simp
    exact filled_zero.symm
  intro i hi
  have hi : i ≤ t.length := hi
  (conv => whnf); refine ⟨fun h6 => ?_, fun h6 => ?_⟩
  · have h6 : i < t.length := by simpa using h6
    obtain ⟨b, hb⟩ := get_lt h6
    repeat ((conv => whnf); first | refine ⟨fun h => h, ?_⟩ | refine ⟨(by kernel_rfl : drawOk _ _ = true), ?_⟩ | refine ⟨fun (h : gtrue _) => by first | assumption | exact absurd (Eq.trans (Eq.symm h) (by assumption) : true = false) Bool.noConfusion, ?_⟩ | refine ⟨fun h => (absurd (Eq.trans (Eq.symm h) (by assumption) : true = false) Bool.noConfusion : False), ?_⟩ | refine ⟨_, w64 (by (show (_ : Prop)); first | omega | ((try dsimp only at *); (try simp only [lns] at *); omega)), ?_⟩ | refine ⟨fun _ => ⟨by (show (_ : Prop)); first | omega | ((try dsimp only at *); (try simp only [lns] at *); omega), by (show (_ : Prop)); first | omega | ((try dsimp only at *); (try simp only [lns] at *); omega), by (show (_ : Prop)); first | omega | ((try dsimp only at *); (try simp only [lns] at *); omega)⟩, ?_⟩ | refine ⟨by (show (_ : Prop)); first | omega | ((try dsimp only at *); (try simp only [lns] at *); omega), ?_⟩ | refine ⟨fun h => ⟨by (show (_ : Prop)); first | omega | ((try dsimp only at *); (try simp only [lns] at *); omega), by (show (_ : Prop)); first | omega | ((try dsimp only at *); (try simp only [lns] at *); omega)⟩, ?_⟩ | refine ⟨fun (r : List AV) hr c hc => by simp [encS] at hr; (try subst hr); simp at hc; (try subst hc); rfl, ?_⟩ | refine ⟨noOwn (by rfl), ?_⟩ | refine ⟨encO b, fun _ => ⟨by omega, by simp [hb]⟩, ?_⟩ | refine ⟨b, rfl, fun _ => trivial, ?_⟩ | refine ⟨encO OpR.zero, by simp [filled_get h6], ?_⟩)
    refine again (i + 1) ?_ h6 (by first | omega | (simp; done) | (simp; omega))
    (refine ⟨?_, ?_, rfl⟩ <;> repeat' (first | exact rfl | exact trivial | refine ⟨?_, ?_⟩ | fail) <;> (conv => whnf))
    simp only [Nat.zero_add, Int.toNat_natCast]
    exact filled_set hb
  · have h6 : i = t.length := by
      have : ¬ i < t.length := by simpa using h6
      omega
    subst h6
    conv => whnf
    exact ⟨trivial, eqOwn (by rw [filled_all]; (try simp only [List.drop_zero, List.take_length, take_app]) <;> simp)⟩
theorem ok_laws_toOpS : ConOk Tryd.prog 14 c_laws_toOpS := meets_ok (tabT _ _) (FOk.cons ok_laws_toOp FOk.nil) mixed Tryd.func14 rfl Tryd.call14 (by decide) (by kernel_rfl) m_laws_toOpS (by intro _ (y : (List OpR)) _; exact ⟨by simp [c_laws_toOpS, con, conG, conW, AV.noRd, noRdCells, noRdRows, noRdRows_map', encS, encO], by simp [c_laws_toOpS, con, conG, conW, AV.noRd, noRdCells, noRdRows, noRdRows_map', encS, encO]⟩) (by intro (y : (List OpR)) _; first | (simp [c_laws_toOpS, con, conG, conW, conP, AV.free, freeCells, freeRows, freeRows_map, encS, encO]; done) | (obtain ⟨_, _⟩ := y; simp [c_laws_toOpS, con, conG, conW, conP, AV.free, freeCells, freeRows, freeRows_map, encS, encO]; done) | (obtain ⟨_, _, _⟩ := y; simp [c_laws_toOpS, con, conG, conW, conP, AV.free, freeCells, freeRows, freeRows_map, encS, encO]; done))
noncomputable def c_laws_eqOp : PCon := con [.rd [none, none, none, none, none, none], .rd [none, none, none, none, none, none]] true OpR (fun x => [.agg (encO x), .agg (encO x)]) (fun _ => True) (fun _ => .bool true)
noncomputable def E_laws_eqOp : Env := ⟨lookup tyTab, lookup [], [0, 1, 2, 3, 4, 9, 14, 19, 24, 29, 34]⟩
set_option maxRecDepth 100000 in
set_option maxHeartbeats 4000000 in
theorem m_laws_eqOp : Meets E_laws_eqOp (codeOf Tryd.f19) Tryd.f19.results.toList c_laws_eqOp := by
  intro (x : OpR) hs
  refine ⟨trivial, ?_⟩
  conv => whnf
  refine ⟨fun h => ?_, fun _ => ?_⟩
  · exfalso; simp at h
  conv => whnf
  refine ⟨fun h => ?_, fun _ => ?_⟩
  · exfalso; simp at h
  conv => whnf
  refine ⟨fun h => ?_, fun _ => ?_⟩
  · exfalso; simp at h
  conv => whnf
  refine ⟨fun h => ?_, fun _ => ?_⟩
  · exfalso; simp at h
  conv => whnf
  refine ⟨fun h => ?_, fun _ => ?_⟩
  · exfalso; simp at h
  conv => whnf
  refine ⟨fun h => ?_, fun _ => ?_⟩
  · exfalso; simp at h
  conv => whnf
  exact ⟨trivial, rfl⟩
theorem ok_laws_eqOp : ConOk Tryd.prog 19 c_laws_eqOp := meets_ok (tabT _ _) FOk.nil mixed Tryd.func19 rfl Tryd.call19 (by decide) (by kernel_rfl) m_laws_eqOp (by intro _ (y : OpR) _; exact ⟨by simp [c_laws_eqOp, con, conG, conW, AV.noRd, noRdCells, noRdRows, noRdRows_map', encS, encO], by simp [c_laws_eqOp, con, conG, conW, AV.noRd, noRdCells, noRdRows, noRdRows_map', encS, encO]⟩) (by intro (y : OpR) _; first | (simp [c_laws_eqOp, con, conG, conW, conP, AV.free, freeCells, freeRows, freeRows_map, encS, encO]; done) | (obtain ⟨_, _⟩ := y; simp [c_laws_eqOp, con, conG, conW, conP, AV.free, freeCells, freeRows, freeRows_map, encS, encO]; done) | (obtain ⟨_, _, _⟩ := y; simp [c_laws_eqOp, con, conG, conW, conP, AV.free, freeCells, freeRows, freeRows_map, encS, encO]; done))
noncomputable def c_laws_eqOpS : PCon := con [mS 6, mS 6] true (List OpR) (fun t => [.rd 6 (t.map encO), .rd 6 (t.map encO)]) (fun t => t.length ≤ 4194304) (fun _ => .bool true)
noncomputable def E_laws_eqOpS : Env := ⟨lookup tyTab, lookup [(19, c_laws_eqOp)], [0, 1, 4, 5, 10, 14, 26]⟩
set_option maxRecDepth 100000 in
set_option maxHeartbeats 4000000 in
theorem m_laws_eqOpS : Meets E_laws_eqOpS (codeOf Tryd.f16) Tryd.f16.results.toList c_laws_eqOpS := by
  intro (t : List OpR) (hs1 : t.length ≤ 4194304)
  refine ⟨trivial, ?_⟩
  conv => whnf
  refine ⟨fun h => ?_, fun _ => ?_⟩
  · simp at h
  repeat ((conv => whnf); first | refine ⟨fun h => h, ?_⟩ | refine ⟨(by kernel_rfl : drawOk _ _ = true), ?_⟩ | refine ⟨fun (h : gtrue _) => by first | assumption | exact absurd (Eq.trans (Eq.symm h) (by assumption) : true = false) Bool.noConfusion, ?_⟩ | refine ⟨fun h => (absurd (Eq.trans (Eq.symm h) (by assumption) : true = false) Bool.noConfusion : False), ?_⟩ | refine ⟨_, w64 (by (show (_ : Prop)); first | omega | ((try dsimp only at *); (try simp only [lns] at *); omega)), ?_⟩ | refine ⟨fun _ => ⟨by (show (_ : Prop)); first | omega | ((try dsimp only at *); (try simp only [lns] at *); omega), by (show (_ : Prop)); first | omega | ((try dsimp only at *); (try simp only [lns] at *); omega), by (show (_ : Prop)); first | omega | ((try dsimp only at *); (try simp only [lns] at *); omega)⟩, ?_⟩ | refine ⟨by (show (_ : Prop)); first | omega | ((try dsimp only at *); (try simp only [lns] at *); omega), ?_⟩ | refine ⟨fun h => ⟨by (show (_ : Prop)); first | omega | ((try dsimp only at *); (try simp only [lns] at *); omega), by (show (_ : Prop)); first | omega | ((try dsimp only at *); (try simp only [lns] at *); omega)⟩, ?_⟩ | refine ⟨fun (r : List AV) hr c hc => by simp [encS] at hr; (try subst hr); simp at hc; (try subst hc); rfl, ?_⟩ | refine ⟨noOwn (by rfl), ?_⟩)
  refine loop_rule (fun i : Nat => ⟨[(0, ⟨none, .rd 6 (t.map encO)⟩), (1, ⟨none, .rd 6 (t.map encO)⟩), (5, ⟨none, .int .i64 i⟩)], [], 0⟩)
    (fun i => i ≤ t.length) (fun i => t.length - i) 0 ?_ (by omega) ?_
  · (refine ⟨?_, ?_, rfl⟩ <;> repeat' (first | exact rfl | exact trivial | refine ⟨?_, ?_⟩ | fail) <;> (conv => whnf))
  intro i hi
  have hi : i ≤ t.length := hi
  (conv => whnf); refine ⟨fun h6 => ?_, fun h6 => ?_⟩
  · have h6 : i < t.length := by simpa using h6
    obtain ⟨b, hb⟩ := get_lt h6
    repeat ((conv => whnf); first | refine ⟨fun h => h, ?_⟩ | refine ⟨(by kernel_rfl : drawOk _ _ = true), ?_⟩ | refine ⟨fun (h : gtrue _) => by first | assumption | exact absurd (Eq.trans (Eq.symm h) (by assumption) : true = false) Bool.noConfusion, ?_⟩ | refine ⟨fun h => (absurd (Eq.trans (Eq.symm h) (by assumption) : true = false) Bool.noConfusion : False), ?_⟩ | refine ⟨_, w64 (by (show (_ : Prop)); first | omega | ((try dsimp only at *); (try simp only [lns] at *); omega)), ?_⟩ | refine ⟨fun _ => ⟨by (show (_ : Prop)); first | omega | ((try dsimp only at *); (try simp only [lns] at *); omega), by (show (_ : Prop)); first | omega | ((try dsimp only at *); (try simp only [lns] at *); omega), by (show (_ : Prop)); first | omega | ((try dsimp only at *); (try simp only [lns] at *); omega)⟩, ?_⟩ | refine ⟨by (show (_ : Prop)); first | omega | ((try dsimp only at *); (try simp only [lns] at *); omega), ?_⟩ | refine ⟨fun h => ⟨by (show (_ : Prop)); first | omega | ((try dsimp only at *); (try simp only [lns] at *); omega), by (show (_ : Prop)); first | omega | ((try dsimp only at *); (try simp only [lns] at *); omega)⟩, ?_⟩ | refine ⟨fun (r : List AV) hr c hc => by simp [encS] at hr; (try subst hr); simp at hc; (try subst hc); rfl, ?_⟩ | refine ⟨noOwn (by rfl), ?_⟩ | refine ⟨encO b, fun _ => ⟨by omega, get_map hb⟩, ?_⟩ | refine ⟨b, rfl, fun _ => trivial, ?_⟩)
    conv => whnf
    refine ⟨fun h => absurd h (by decide), fun _ => ?_⟩
    repeat ((conv => whnf); first | refine ⟨fun h => h, ?_⟩ | refine ⟨(by kernel_rfl : drawOk _ _ = true), ?_⟩ | refine ⟨fun (h : gtrue _) => by first | assumption | exact absurd (Eq.trans (Eq.symm h) (by assumption) : true = false) Bool.noConfusion, ?_⟩ | refine ⟨fun h => (absurd (Eq.trans (Eq.symm h) (by assumption) : true = false) Bool.noConfusion : False), ?_⟩ | refine ⟨_, w64 (by (show (_ : Prop)); first | omega | ((try dsimp only at *); (try simp only [lns] at *); omega)), ?_⟩ | refine ⟨fun _ => ⟨by (show (_ : Prop)); first | omega | ((try dsimp only at *); (try simp only [lns] at *); omega), by (show (_ : Prop)); first | omega | ((try dsimp only at *); (try simp only [lns] at *); omega), by (show (_ : Prop)); first | omega | ((try dsimp only at *); (try simp only [lns] at *); omega)⟩, ?_⟩ | refine ⟨by (show (_ : Prop)); first | omega | ((try dsimp only at *); (try simp only [lns] at *); omega), ?_⟩ | refine ⟨fun h => ⟨by (show (_ : Prop)); first | omega | ((try dsimp only at *); (try simp only [lns] at *); omega), by (show (_ : Prop)); first | omega | ((try dsimp only at *); (try simp only [lns] at *); omega)⟩, ?_⟩ | refine ⟨fun (r : List AV) hr c hc => by simp [encS] at hr; (try subst hr); simp at hc; (try subst hc); rfl, ?_⟩ | refine ⟨noOwn (by rfl), ?_⟩)
    refine again (i + 1) ?_ h6 (by first | omega | (simp; done) | (simp; omega))
    (refine ⟨?_, ?_, rfl⟩ <;> repeat' (first | exact rfl | exact trivial | refine ⟨?_, ?_⟩ | fail) <;> (conv => whnf))
  · conv => whnf
    exact ⟨trivial, rfl⟩
theorem ok_laws_eqOpS : ConOk Tryd.prog 16 c_laws_eqOpS := meets_ok (tabT _ _) (FOk.cons ok_laws_eqOp FOk.nil) mixed Tryd.func16 rfl Tryd.call16 (by decide) (by kernel_rfl) m_laws_eqOpS (by intro _ (y : (List OpR)) _; exact ⟨by simp [c_laws_eqOpS, con, conG, conW, AV.noRd, noRdCells, noRdRows, noRdRows_map', encS, encO], by simp [c_laws_eqOpS, con, conG, conW, AV.noRd, noRdCells, noRdRows, noRdRows_map', encS, encO]⟩) (by intro (y : (List OpR)) _; first | (simp [c_laws_eqOpS, con, conG, conW, conP, AV.free, freeCells, freeRows, freeRows_map, encS, encO]; done) | (obtain ⟨_, _⟩ := y; simp [c_laws_eqOpS, con, conG, conW, conP, AV.free, freeCells, freeRows, freeRows_map, encS, encO]; done) | (obtain ⟨_, _, _⟩ := y; simp [c_laws_eqOpS, con, conG, conW, conP, AV.free, freeCells, freeRows, freeRows_map, encS, encO]; done))
noncomputable def c_laws_FnExactOpsText : PCon := conG gwTab [mS 6] true (List OpR) (fun t => [.rd 6 (t.map encO)]) (fun t => t.length ≤ 9223372036854775807 ∧ ∀ y, y ∈ t → bigO y) (fun _ => .bool true)
noncomputable def E_laws_FnExactOpsText : Env := ⟨lookup tyTab, lookup [(12, c_laws_szOpS), (13, c_spec_OpsText), (14, c_laws_toOpS), (15, c_impl_OpsText), (16, c_laws_eqOpS)], [0, 2, 3, 4, 5, 6, 11, 21, 26]⟩
set_option maxRecDepth 100000 in
set_option maxHeartbeats 4000000 in
theorem m_laws_FnExactOpsText : Meets E_laws_FnExactOpsText (codeOf Tryd.f4) Tryd.f4.results.toList c_laws_FnExactOpsText := by
  intro (t : List OpR) hs
  refine ⟨trivial, ?_⟩
  conv => whnf
  refine ⟨(t, 1048576), rfl, fun _ => ⟨by show (0:Int) ≤ 1048576; decide, by show (1048576:Int) ≤ 4194304; decide, hs⟩, ?_⟩
  (conv => whnf); refine ⟨fun h1 => ?_, fun h1 => ?_⟩
  · conv => whnf
    exact ⟨trivial, rfl⟩
  have h1 : ¬ szR 1048576 (szOL t) < 0 := by simpa using h1
  have hsm : smOL t := szOL_sm (n := 1048576) (by have := szR_ok h1; omega) (by omega)
  have hlen : t.length ≤ 4194304 := by have := hsm.1; omega
  conv => whnf
  refine ⟨t, rfl, fun _ => hsm, ?_⟩
  conv => whnf
  refine ⟨t, by refine argP1 ?_; simp [rdO], fun _ => hsm, ?_⟩
  conv => whnf
  refine ⟨t, rfl, fun _ => hsm, ?_⟩
  conv => whnf
  refine ⟨t, by refine argP1 ?_; simp [rdO], fun _ => hsm, ?_⟩
  conv => whnf
  refine ⟨fun h => ?_, fun _ => ?_⟩
  · have h : (!(opsText t == opsText t)) = true := h
    simp at h
  conv => whnf
  refine ⟨t, rfl, fun _ => hsm, ?_⟩
  repeat ((conv => whnf); first | refine ⟨fun h => h, ?_⟩ | refine ⟨(by kernel_rfl : drawOk _ _ = true), ?_⟩ | refine ⟨fun (h : gtrue _) => by first | assumption | exact absurd (Eq.trans (Eq.symm h) (by assumption) : true = false) Bool.noConfusion, ?_⟩ | refine ⟨fun h => (absurd (Eq.trans (Eq.symm h) (by assumption) : true = false) Bool.noConfusion : False), ?_⟩ | refine ⟨_, w64 (by (show (_ : Prop)); first | omega | ((try dsimp only at *); (try simp only [lns] at *); omega)), ?_⟩ | refine ⟨fun _ => ⟨by (show (_ : Prop)); first | omega | ((try dsimp only at *); (try simp only [lns] at *); omega), by (show (_ : Prop)); first | omega | ((try dsimp only at *); (try simp only [lns] at *); omega), by (show (_ : Prop)); first | omega | ((try dsimp only at *); (try simp only [lns] at *); omega)⟩, ?_⟩ | refine ⟨by (show (_ : Prop)); first | omega | ((try dsimp only at *); (try simp only [lns] at *); omega), ?_⟩ | refine ⟨fun h => ⟨by (show (_ : Prop)); first | omega | ((try dsimp only at *); (try simp only [lns] at *); omega), by (show (_ : Prop)); first | omega | ((try dsimp only at *); (try simp only [lns] at *); omega)⟩, ?_⟩ | refine ⟨fun (r : List AV) hr c hc => by simp [encS] at hr; (try subst hr); simp at hc; (try subst hc); rfl, ?_⟩ | refine ⟨noOwn (by rfl), ?_⟩)
  refine ⟨t, by refine argPP ?_ ?_ <;> simp [rdO], fun _ => hlen, ?_⟩
  repeat ((conv => whnf); first | refine ⟨fun h => h, ?_⟩ | refine ⟨(by kernel_rfl : drawOk _ _ = true), ?_⟩ | refine ⟨fun (h : gtrue _) => by first | assumption | exact absurd (Eq.trans (Eq.symm h) (by assumption) : true = false) Bool.noConfusion, ?_⟩ | refine ⟨fun h => (absurd (Eq.trans (Eq.symm h) (by assumption) : true = false) Bool.noConfusion : False), ?_⟩ | refine ⟨_, w64 (by (show (_ : Prop)); first | omega | ((try dsimp only at *); (try simp only [lns] at *); omega)), ?_⟩ | refine ⟨fun _ => ⟨by (show (_ : Prop)); first | omega | ((try dsimp only at *); (try simp only [lns] at *); omega), by (show (_ : Prop)); first | omega | ((try dsimp only at *); (try simp only [lns] at *); omega), by (show (_ : Prop)); first | omega | ((try dsimp only at *); (try simp only [lns] at *); omega)⟩, ?_⟩ | refine ⟨by (show (_ : Prop)); first | omega | ((try dsimp only at *); (try simp only [lns] at *); omega), ?_⟩ | refine ⟨fun h => ⟨by (show (_ : Prop)); first | omega | ((try dsimp only at *); (try simp only [lns] at *); omega), by (show (_ : Prop)); first | omega | ((try dsimp only at *); (try simp only [lns] at *); omega)⟩, ?_⟩ | refine ⟨fun (r : List AV) hr c hc => by simp [encS] at hr; (try subst hr); simp at hc; (try subst hc); rfl, ?_⟩ | refine ⟨noOwn (by rfl), ?_⟩)
  conv => whnf
  refine ⟨fun h => absurd h (by decide), fun _ => ?_⟩
  conv => whnf
  exact ⟨trivial, rfl⟩
theorem ok_laws_FnExactOpsText : ConOk Tryd.prog 4 c_laws_FnExactOpsText := meets_ok (tabT _ _) (FOk.cons ok_laws_szOpS (FOk.cons ok_spec_OpsText (FOk.cons ok_laws_toOpS (FOk.cons ok_impl_OpsText (FOk.cons ok_laws_eqOpS FOk.nil))))) mixed Tryd.func4 rfl Tryd.call4 (by decide) (by kernel_rfl) m_laws_FnExactOpsText (by intro _ (y : (List OpR)) _; exact ⟨by simp [c_laws_FnExactOpsText, con, conG, conW, AV.noRd, noRdCells, noRdRows, noRdRows_map', encS, encO], by simp [c_laws_FnExactOpsText, con, conG, conW, AV.noRd, noRdCells, noRdRows, noRdRows_map', encS, encO]⟩) (by intro (y : (List OpR)) _; first | (simp [c_laws_FnExactOpsText, con, conG, conW, conP, AV.free, freeCells, freeRows, freeRows_map, encS, encO]; done) | (obtain ⟨_, _⟩ := y; simp [c_laws_FnExactOpsText, con, conG, conW, conP, AV.free, freeCells, freeRows, freeRows_map, encS, encO]; done) | (obtain ⟨_, _, _⟩ := y; simp [c_laws_FnExactOpsText, con, conG, conW, conP, AV.free, freeCells, freeRows, freeRows_map, encS, encO]; done))
end Go.GH

