import Derived.Test.YtijkfhkjnhceoaaDoorSA
import Derived.Test.YtijkfhkjnhceoaaDoorTie
import Derived.Test.YtijkfhkjnhceoaaDoorCards
import Derived.WalkKit
import Derived.ProofKit
import Derived.OpenShut
import Derived.ChangeOld
import Derived.Below
import Derived.SizedLaws
import Derived.LaidMore
import Derived.Stop.Joined
import Derived.Stop.LaidErr
import Derived.SevenTiedAt
import Derived.Lib.AtoiAll
import Derived.Lib.Bytealg
import Derived.Shelf.Small.Strs
import Derived.Shelf.LaysC
import Derived.Shelf.Strconv.AtoiAll
import Derived.Shelf.Strings.Search1
import Derived.Test.YtijkfhkjnhceoaaDoorChecked
set_option linter.unusedVariables false
set_option linter.unusedSimpArgs false
set_option linter.unusedSimpArgs false
namespace Go.GH
open Go Go.Proofs
noncomputable def c_laws_szOp : PCon := con [.rd [none, none, none, none, none, none], mC] true (OpR × Int) (fun x => [.agg (encO x.1), .int .i64 x.2]) (fun x => 0 ≤ x.2 ∧ x.2 ≤ 4194304 ∧ bigO x.1) (fun x => .int .i64 (szR x.2 (szO x.1)))
noncomputable def E_laws_szOp : Env := ⟨lookup tyTab, lookup [], [0, 1, 2, 4, 11, 18, 25]⟩
set_option maxRecDepth 100000 in
set_option maxHeartbeats 4000000 in
theorem m_laws_szOp : Meets E_laws_szOp (codeOf Tryd.f8) Tryd.f8.results.toList c_laws_szOp := by
  rintro ⟨x, left⟩ hs
  obtain ⟨h1, h2, h3, h4, h4'⟩ : 0 ≤ left ∧ left ≤ 4194304 ∧ x.path.length ≤ 9223372036854775807 ∧ x.to.length ≤ 9223372036854775807 ∧ x.data.length ≤ 9223372036854775807 := hs
  refine ⟨trivial, ?_⟩
  repeat ((conv => whnf); first | refine ⟨fun h => h, ?_⟩ | refine ⟨(by kernel_rfl : drawOk _ _ = true), ?_⟩ | refine ⟨fun (h : gtrue _) => by first | assumption | exact absurd (Eq.trans (Eq.symm h) (by assumption) : true = false) Bool.noConfusion, ?_⟩ | refine ⟨fun h => (absurd (Eq.trans (Eq.symm h) (by assumption) : true = false) Bool.noConfusion : False), ?_⟩ | refine ⟨_, w64 (by (show (_ : Prop)); first | omega | ((try dsimp only at *); (try simp only [lns] at *); omega)), ?_⟩ | refine ⟨fun _ => ⟨by (show (_ : Prop)); first | omega | ((try dsimp only at *); (try simp only [lns] at *); omega), by (show (_ : Prop)); first | omega | ((try dsimp only at *); (try simp only [lns] at *); omega), by (show (_ : Prop)); first | omega | ((try dsimp only at *); (try simp only [lns] at *); omega)⟩, ?_⟩ | refine ⟨by (show (_ : Prop)); first | omega | ((try dsimp only at *); (try simp only [lns] at *); omega), ?_⟩ | refine ⟨fun h => ⟨by (show (_ : Prop)); first | omega | ((try dsimp only at *); (try simp only [lns] at *); omega), by (show (_ : Prop)); first | omega | ((try dsimp only at *); (try simp only [lns] at *); omega)⟩, ?_⟩ | refine ⟨fun (r : List AV) hr c hc => by simp [encS] at hr; (try subst hr); simp at hc; (try subst hc); rfl, ?_⟩ | refine ⟨noOwn (by rfl), ?_⟩)
  (conv => whnf); refine ⟨fun h5 => ?_, fun h5 => ?_⟩
  · have h5 : left - x.path.length < 0 := by simpa using h5
    conv => whnf
    exact ⟨trivial, eqN' (by unfold szR szO; dsimp only; rw [if_pos (by omega)])⟩
  have h5 : ¬ left - x.path.length < 0 := by simpa using h5
  repeat ((conv => whnf); first | refine ⟨fun h => h, ?_⟩ | refine ⟨(by kernel_rfl : drawOk _ _ = true), ?_⟩ | refine ⟨fun (h : gtrue _) => by first | assumption | exact absurd (Eq.trans (Eq.symm h) (by assumption) : true = false) Bool.noConfusion, ?_⟩ | refine ⟨fun h => (absurd (Eq.trans (Eq.symm h) (by assumption) : true = false) Bool.noConfusion : False), ?_⟩ | refine ⟨_, w64 (by (show (_ : Prop)); first | omega | ((try dsimp only at *); (try simp only [lns] at *); omega)), ?_⟩ | refine ⟨fun _ => ⟨by (show (_ : Prop)); first | omega | ((try dsimp only at *); (try simp only [lns] at *); omega), by (show (_ : Prop)); first | omega | ((try dsimp only at *); (try simp only [lns] at *); omega), by (show (_ : Prop)); first | omega | ((try dsimp only at *); (try simp only [lns] at *); omega)⟩, ?_⟩ | refine ⟨by (show (_ : Prop)); first | omega | ((try dsimp only at *); (try simp only [lns] at *); omega), ?_⟩ | refine ⟨fun h => ⟨by (show (_ : Prop)); first | omega | ((try dsimp only at *); (try simp only [lns] at *); omega), by (show (_ : Prop)); first | omega | ((try dsimp only at *); (try simp only [lns] at *); omega)⟩, ?_⟩ | refine ⟨fun (r : List AV) hr c hc => by simp [encS] at hr; (try subst hr); simp at hc; (try subst hc); rfl, ?_⟩ | refine ⟨noOwn (by rfl), ?_⟩)
  (conv => whnf); refine ⟨fun h6 => ?_, fun h6 => ?_⟩
  · have h6 : left - x.path.length - x.to.length < 0 := by simpa using h6
    conv => whnf
    exact ⟨trivial, eqN' (by unfold szR szO; dsimp only; rw [if_pos (by omega)])⟩
  have h6 : ¬ left - x.path.length - x.to.length < 0 := by simpa using h6
  repeat ((conv => whnf); first | refine ⟨fun h => h, ?_⟩ | refine ⟨(by kernel_rfl : drawOk _ _ = true), ?_⟩ | refine ⟨fun (h : gtrue _) => by first | assumption | exact absurd (Eq.trans (Eq.symm h) (by assumption) : true = false) Bool.noConfusion, ?_⟩ | refine ⟨fun h => (absurd (Eq.trans (Eq.symm h) (by assumption) : true = false) Bool.noConfusion : False), ?_⟩ | refine ⟨_, w64 (by (show (_ : Prop)); first | omega | ((try dsimp only at *); (try simp only [lns] at *); omega)), ?_⟩ | refine ⟨fun _ => ⟨by (show (_ : Prop)); first | omega | ((try dsimp only at *); (try simp only [lns] at *); omega), by (show (_ : Prop)); first | omega | ((try dsimp only at *); (try simp only [lns] at *); omega), by (show (_ : Prop)); first | omega | ((try dsimp only at *); (try simp only [lns] at *); omega)⟩, ?_⟩ | refine ⟨by (show (_ : Prop)); first | omega | ((try dsimp only at *); (try simp only [lns] at *); omega), ?_⟩ | refine ⟨fun h => ⟨by (show (_ : Prop)); first | omega | ((try dsimp only at *); (try simp only [lns] at *); omega), by (show (_ : Prop)); first | omega | ((try dsimp only at *); (try simp only [lns] at *); omega)⟩, ?_⟩ | refine ⟨fun (r : List AV) hr c hc => by simp [encS] at hr; (try subst hr); simp at hc; (try subst hc); rfl, ?_⟩ | refine ⟨noOwn (by rfl), ?_⟩)
  (conv => whnf); refine ⟨fun h7 => ?_, fun h7 => ?_⟩
  · have h7 : left - x.path.length - x.to.length - x.data.length < 0 := by simpa using h7
    conv => whnf
    exact ⟨trivial, eqN' (by unfold szR szO; dsimp only; rw [if_pos (by omega)])⟩
  have h7 : ¬ left - x.path.length - x.to.length - x.data.length < 0 := by simpa using h7
  conv => whnf
  exact ⟨trivial, eqN' (by unfold szR szO; dsimp only; rw [if_neg (by omega)]; omega)⟩
theorem ok_laws_szOp : ConOk Tryd.prog 8 c_laws_szOp := meets_ok (tabT _ _) FOk.nil mixed Tryd.func8 rfl Tryd.call8 (by decide) (by kernel_rfl) m_laws_szOp (by intro _ (y : (OpR × Int)) _; exact ⟨by simp [c_laws_szOp, con, conG, conW, AV.noRd, noRdCells, noRdRows, noRdRows_map', encS, encO], by simp [c_laws_szOp, con, conG, conW, AV.noRd, noRdCells, noRdRows, noRdRows_map', encS, encO]⟩) (by intro (y : (OpR × Int)) _; first | (simp [c_laws_szOp, con, conG, conW, conP, AV.free, freeCells, freeRows, freeRows_map, encS, encO]; done) | (obtain ⟨_, _⟩ := y; simp [c_laws_szOp, con, conG, conW, conP, AV.free, freeCells, freeRows, freeRows_map, encS, encO]; done) | (obtain ⟨_, _, _⟩ := y; simp [c_laws_szOp, con, conG, conW, conP, AV.free, freeCells, freeRows, freeRows_map, encS, encO]; done))
noncomputable def c_laws_toOp : PCon := con [.rd [none, none, none, none, none, none]] true OpR (fun x => [.agg (encO x)]) (fun _ => True) (fun x => .agg (encO x))
noncomputable def E_laws_toOp : Env := ⟨lookup tyTab, lookup [], [0, 1, 2, 3]⟩
set_option maxRecDepth 100000 in
set_option maxHeartbeats 4000000 in
theorem m_laws_toOp : Meets E_laws_toOp (codeOf Tryd.f10) Tryd.f10.results.toList c_laws_toOp := by
  intro (x : OpR) hs
  refine ⟨trivial, ?_⟩
  conv => whnf
  exact ⟨trivial, rfl, rfl, rfl, rfl, rfl, rfl, trivial⟩
theorem ok_laws_toOp : ConOk Tryd.prog 10 c_laws_toOp := meets_ok (tabT _ _) FOk.nil mixed Tryd.func10 rfl Tryd.call10 (by decide) (by kernel_rfl) m_laws_toOp (by intro _ (y : OpR) _; exact ⟨by simp [c_laws_toOp, con, conG, conW, AV.noRd, noRdCells, noRdRows, noRdRows_map', encS, encO], by simp [c_laws_toOp, con, conG, conW, AV.noRd, noRdCells, noRdRows, noRdRows_map', encS, encO]⟩) (by intro (y : OpR) _; first | (simp [c_laws_toOp, con, conG, conW, conP, AV.free, freeCells, freeRows, freeRows_map, encS, encO]; done) | (obtain ⟨_, _⟩ := y; simp [c_laws_toOp, con, conG, conW, conP, AV.free, freeCells, freeRows, freeRows_map, encS, encO]; done) | (obtain ⟨_, _, _⟩ := y; simp [c_laws_toOp, con, conG, conW, conP, AV.free, freeCells, freeRows, freeRows_map, encS, encO]; done))
noncomputable def c_laws_FnExactOpText : PCon := conG gwTab [.rd [none, none, none, none, none, none]] true OpR (fun x => [.agg (encO x)]) bigO (fun _ => .bool true)
noncomputable def E_laws_FnExactOpText : Env := ⟨lookup tyTab, lookup [(8, c_laws_szOp), (9, c_spec_OpText), (10, c_laws_toOp), (11, c_impl_OpText)], [0, 1, 2, 3, 4, 5, 10, 19]⟩
set_option maxRecDepth 100000 in
set_option maxHeartbeats 4000000 in
theorem m_laws_FnExactOpText : Meets E_laws_FnExactOpText (codeOf Tryd.f3) Tryd.f3.results.toList c_laws_FnExactOpText := by
  intro (o : OpR) hs
  have hs : bigO o := hs
  refine ⟨trivial, ?_⟩
  conv => whnf
  refine ⟨(o, 1048576), rfl, fun _ => ⟨by show (0:Int) ≤ 1048576; decide, by show (1048576:Int) ≤ 4194304; decide, hs⟩, ?_⟩
  (conv => whnf); refine ⟨fun h1 => ?_, fun h1 => ?_⟩
  · conv => whnf
    exact ⟨trivial, rfl⟩
  have h1 : ¬ szR 1048576 (szO o) < 0 := by simpa using h1
  have hsm := szO_sm h1 (by omega)
  conv => whnf
  refine ⟨o, rfl, fun _ => trivial, ?_⟩
  conv => whnf
  refine ⟨o, rfl, fun _ => hsm, ?_⟩
  conv => whnf
  refine ⟨o, rfl, fun _ => trivial, ?_⟩
  conv => whnf
  refine ⟨o, rfl, fun _ => hsm, ?_⟩
  conv => whnf
  refine ⟨fun h => ?_, fun _ => ?_⟩
  · have h : (!(opText o == opText o)) = true := h
    simp at h
  conv => whnf
  exact ⟨trivial, rfl⟩
theorem ok_laws_FnExactOpText : ConOk Tryd.prog 3 c_laws_FnExactOpText := meets_ok (tabT _ _) (FOk.cons ok_laws_szOp (FOk.cons ok_spec_OpText (FOk.cons ok_laws_toOp (FOk.cons ok_impl_OpText FOk.nil)))) mixed Tryd.func3 rfl Tryd.call3 (by decide) (by kernel_rfl) m_laws_FnExactOpText (by intro _ (y : OpR) _; exact ⟨by simp [c_laws_FnExactOpText, con, conG, conW, AV.noRd, noRdCells, noRdRows, noRdRows_map', encS, encO], by simp [c_laws_FnExactOpText, con, conG, conW, AV.noRd, noRdCells, noRdRows, noRdRows_map', encS, encO]⟩) (by intro (y : OpR) _; first | (simp [c_laws_FnExactOpText, con, conG, conW, conP, AV.free, freeCells, freeRows, freeRows_map, encS, encO]; done) | (obtain ⟨_, _⟩ := y; simp [c_laws_FnExactOpText, con, conG, conW, conP, AV.free, freeCells, freeRows, freeRows_map, encS, encO]; done) | (obtain ⟨_, _, _⟩ := y; simp [c_laws_FnExactOpText, con, conG, conW, conP, AV.free, freeCells, freeRows, freeRows_map, encS, encO]; done))
end Go.GH

set_option linter.unusedVariables false
set_option linter.unusedSimpArgs false
namespace Go.GH
open Go Go.Proofs
open Go.ChangeShapes Go.WideShapes Go.ChangeAt Go.RowKit
set_option maxRecDepth 100000 in
theorem sh_Op : shTy Tryd.prog 12 23 = some [.int .i64, .str, .str, .int .i64, .str, .int .i64] := by kernel_rfl
set_option maxRecDepth 100000 in
theorem arg_Op {a : AV} (h : ArgOk Tryd.prog 12 23 a) : ∃ o : OpR, a = .agg (encO o) ∧ bigO o := by
  obtain ⟨sh, avs, h1, h2, h3⟩ := h
  rw [sh_Op] at h1
  obtain rfl := Option.some.inj h1
  rw [Tryd.underlying23] at h3
  obtain ⟨c0, r0, rfl, ⟨n0, rfl, _⟩, c1, r1, rfl, ⟨s1, rfl, b1⟩, c2, r2, rfl, ⟨s2, rfl, b2⟩, c3, r3, rfl, ⟨n3, rfl, _⟩, c4, r4, rfl, ⟨s4, rfl, b4⟩, c5, r5, rfl, ⟨n5, rfl, _⟩, e⟩ := h2
  have e : r5 = [] := e
  subst e
  exact ⟨⟨n0, s1, s2, n3, s4, n5⟩, h3, b1, b2, b4⟩
theorem var_congr {P : Program} {w w' : World} {n : String} {g : Nat} (hg : P.globalNamed n = some g) (h : w'.heap[g]? = w.heap[g]?) : w'.var? P n = w.var? P n := by
  simp only [World.var?, hg, Option.bind_some, h]
theorem var_lt {P : Program} {w : World} {n : String} {g : Nat} {cs : Array Value} (hg : P.globalNamed n = some g) (h : w.var? P n = some cs) : g < w.heap.size := by
  rcases Nat.lt_or_ge g w.heap.size with hl | hl
  · exact hl
  · simp only [World.var?, hg, Option.bind_some] at h
    rw [Array.getElem?_eq_none hl] at h
    cases h
theorem gTab : Tryd.prog.globalNamed "internal/strconv.uint64pow10" = some 3 := by kernel_rfl
set_option maxRecDepth 100000 in
theorem gwTab_laid {W : World} {x y : String × DataW Unit} {rest : List (String × DataW Unit)} (h : laidMet Tryd.prog (x :: y :: ("internal/strconv.uint64pow10", Go.Proofs.YtijkfhkjnhceoaaDoor.Rows.laid_internal_strconv_uint64pow10) :: rest) W) : gwTab W := by
  have h2 := h.tail.tail
  have e : (Go.Proofs.YtijkfhkjnhceoaaDoor.Rows.laid_internal_strconv_uint64pow10 : DataW Unit) = Lib.tabData .u64 Lib.pow10Tab := by kernel_rfl
  rw [e] at h2
  exact Lib.tabIs_of_head gTab (by kernel_rfl) Tryd.underlying120 Tryd.underlying106 (by kernel_rfl) (by kernel_rfl) h2
theorem gokTab {W : World} (h : gwTab W) : GOk gwTab W fun _ => False :=
  ⟨fun b => b = 3, fun b hb => ⟨by subst hb; exact var_lt gTab h, fun h => h⟩, fun w' hw => (var_congr gTab (hw 3 rfl)).trans h⟩
set_option maxRecDepth 100000 in
theorem sh_OpS : shTy Tryd.prog 12 29 = some [.slice 6 [.int .i64, .str, .str, .int .i64, .str, .int .i64]] := by kernel_rfl
theorem ops_of {xs : List (List AV)} (h : ∀ r, r ∈ xs → ofL [.int .i64, .str, .str, .int .i64, .str, .int .i64] r) : ∃ t : List OpR, xs = t.map encO ∧ ∀ y, y ∈ t → bigO y := by
  induction xs with
  | nil => exact ⟨[], rfl, by simp⟩
  | cons r xs ih =>
    obtain ⟨t, rfl, ht⟩ := ih fun r hr => h r (by simp [hr])
    obtain ⟨c0, r0, rfl, ⟨n0, rfl, _⟩, c1, r1, rfl, ⟨s1, rfl, b1⟩, c2, r2, rfl, ⟨s2, rfl, b2⟩, c3, r3, rfl, ⟨n3, rfl, _⟩, c4, r4, rfl, ⟨s4, rfl, b4⟩, c5, r5, rfl, ⟨n5, rfl, _⟩, e⟩ := h r (by simp)
    have e : r5 = [] := e
    subst e
    refine ⟨⟨n0, s1, s2, n3, s4, n5⟩ :: t, rfl, fun y hy => ?_⟩
    rcases List.mem_cons.1 hy with rfl | hy
    · exact ⟨b1, b2, b4⟩
    · exact ht y hy
set_option maxRecDepth 100000 in
theorem arg_OpS {a : AV} (h : ArgOk Tryd.prog 12 29 a) : ∃ t : List OpR, a = .rd 6 (t.map encO) ∧ t.length ≤ 9223372036854775807 ∧ ∀ y, y ∈ t → bigO y := by
  obtain ⟨sh, avs, h1, h2, h3⟩ := h
  rw [sh_OpS] at h1
  obtain rfl := Option.some.inj h1
  rw [Tryd.underlying29] at h3
  obtain ⟨c, r, rfl, ⟨xs, rfl, hl, hx⟩, e⟩ := h2
  have e : r = [] := e
  subst e
  obtain ⟨t, rfl, ht⟩ := ops_of hx
  have h3 : [AV.rd 6 (t.map encO)] = [a] := h3
  exact ⟨t, (List.cons.inj h3).1.symm, by simpa using hl, ht⟩
end Go.GH

set_option linter.unusedVariables false
set_option linter.unusedSimpArgs false
namespace Go.GH
open Go
def isDg (b : UInt8) : Bool := decide (48 ≤ b.toNat) && decide (b.toNat ≤ 57)
def valF (a : Nat) (s : Str) : Nat := s.foldl (fun a b => 10 * a + (b.toNat - 48)) a
def numV (s : Str) : Nat := valF 0 s
def numOk (s : Str) : Bool := decide (1 ≤ s.length) && decide (s.length ≤ 6) && s.all isDg && (dig (numV s) == s)
def num (s : Str) : Option Nat := if numOk s then some (numV s) else none
theorem valF_app (a : Nat) (s : Str) (b : UInt8) : valF a (s ++ [b]) = 10 * valF a s + (b.toNat - 48) := by simp [valF]
theorem numV_succ {s : Str} {i : Nat} {b : UInt8} (h : s[i]? = some b) : numV (s.take (i + 1)) = 10 * numV (s.take i) + (b.toNat - 48) := by
  rw [take_succ' h]; exact valF_app _ _ _
theorem isDg_le {b : UInt8} (h : isDg b = true) : 48 ≤ b.toNat ∧ b.toNat ≤ 57 := by simpa [isDg] using h
theorem valF_lt : ∀ {s : Str} {a k : Nat}, s.all isDg = true → a < 10 ^ k → valF a s < 10 ^ (k + s.length)
  | [], a, k, _, ha => ha
  | b :: s, a, k, h, ha => by
    simp only [List.all_cons, Bool.and_eq_true] at h
    have h1 := isDg_le h.1
    have := valF_lt (s := s) (a := 10 * a + (b.toNat - 48)) (k := k + 1) h.2 (by rw [Nat.pow_succ]; omega)
    rw [show k + 1 + s.length = k + (s.length + 1) by omega] at this
    exact this
theorem numV_lt {s : Str} {n : Nat} (h : s.all isDg = true) (hl : s.length ≤ n) : numV s < 10 ^ n := by
  have := valF_lt (a := 0) (k := 0) h (by decide)
  rw [Nat.zero_add] at this
  exact Nat.lt_of_lt_of_le this (Nat.pow_le_pow_right (by decide) hl)
theorem dec_all : ∀ (n : Nat), (Lib.decDigits n).all isDg = true ∧ numV (Lib.decDigits n) = n ∧ 1 ≤ (Lib.decDigits n).length ∧ ∀ k, n < 10 ^ (k + 1) → (Lib.decDigits n).length ≤ k + 1 := by
  intro n
  induction n using Nat.strongRecOn with
  | _ n ih =>
    rw [Lib.decDigits.eq_1 n]
    have dg : ∀ m, m < 10 → isDg (UInt8.ofNat (48 + m)) = true ∧ (UInt8.ofNat (48 + m)).toNat - 48 = m := by
      intro m hm
      have e : (UInt8.ofNat (48 + m)).toNat = 48 + m := by rw [UInt8.toNat_ofNat']; omega
      exact ⟨by simp [isDg, e]; omega, by rw [e]; omega⟩
    by_cases h : n < 10
    · rw [dif_pos h]
      obtain ⟨h1, h2⟩ := dg n h
      exact ⟨by simp only [List.all_cons, List.all_nil, h1, Bool.and_true], by simp only [numV, valF, List.foldl]; omega, by simp, fun k hk => by simp⟩
    · rw [dif_neg h]
      obtain ⟨h1, h2⟩ := dg (n % 10) (Nat.mod_lt _ (by decide))
      obtain ⟨i1, i2, i3, i4⟩ := ih (n / 10) (by omega)
      refine ⟨by rw [List.all_append, i1]; simp only [List.all_cons, List.all_nil, h1, Bool.and_true], ?_, by simp, fun k hk => ?_⟩
      · rw [show numV (Lib.decDigits (n / 10) ++ [UInt8.ofNat (48 + n % 10)]) = _ from valF_app 0 _ _]
        rw [show valF 0 (Lib.decDigits (n / 10)) = n / 10 from i2, h2]
        omega
      · cases k with
        | zero => simp at hk; omega
        | succ k =>
          have := i4 k (by rw [Nat.pow_succ] at hk; omega)
          simp; omega
theorem dig_dec {n : Nat} (h : n < 2 ^ 64) : dig n = Lib.decDigits n := by
  rw [← itoa_dig h]
  unfold Lib.itoa
  rw [if_neg (by omega), Int.toNat_natCast]
theorem numOk_dig {n : Nat} (h : n ≤ 999999) : numOk (dig n) = true ∧ numV (dig n) = n := by
  have e := dig_dec (n := n) (by omega)
  obtain ⟨h1, h2, h3, h4⟩ := dec_all n
  have h5 := h4 5 (by omega)
  rw [← e] at h1 h2 h3 h5
  refine ⟨?_, h2⟩
  unfold numOk
  rw [h2]
  simp only [h1, Bool.and_eq_true, decide_eq_true_eq, beq_self_eq_true, and_true]
  omega
theorem parse_ok : ∀ {s : Str} {a k : Nat}, s.all isDg = true → a < 10 ^ k → k + s.length ≤ 12 → Lib.parseUint10 a s = .ok (valF a s)
  | [], a, k, _, _, _ => rfl
  | b :: s, a, k, h, ha, hk => by
    simp only [List.all_cons, Bool.and_eq_true] at h
    have h1 := isDg_le h.1
    have h2 : 10 ^ k ≤ 10 ^ 12 := Nat.pow_le_pow_right (by decide) (by simp at hk; omega)
    simp only [Lib.parseUint10]
    rw [if_pos h1, if_neg (by omega), if_neg (by omega)]
    have e : a * 10 + (b.toNat - 48) = 10 * a + (b.toNat - 48) := by omega
    rw [e]
    exact parse_ok (k := k + 1) h.2 (by rw [Nat.pow_succ]; omega) (by simp at hk; omega)
theorem atoi_num {s : Str} (h : numOk s = true) : Lib.atoiAll s = .ok (numV s) := by
  simp only [numOk, Bool.and_eq_true, decide_eq_true_eq] at h
  obtain ⟨⟨⟨h1, h2⟩, h3⟩, h4⟩ := h
  cases s with
  | nil => simp at h1
  | cons c r =>
    have hc : 48 ≤ c.toNat ∧ c.toNat ≤ 57 := isDg_le (by simp only [List.all_cons, Bool.and_eq_true] at h3; exact h3.1)
    have hv : numV (c :: r) < 10 ^ 6 := numV_lt h3 h2
    have hp : Lib.parseMag (c :: r) = .ok (numV (c :: r)) := by
      unfold Lib.parseMag
      rw [if_neg (by simp)]
      exact parse_ok (k := 0) h3 (by decide) (by simp at h2 ⊢; omega)
    unfold Lib.atoiAll
    simp only
    rw [if_neg (by omega), hp]
    simp only
    rw [if_neg (by omega), if_neg (by omega), if_neg (by omega)]
theorem num_atoi {s : Str} {v : Int} (h : Lib.atoiAll s = .ok v) : num s = if inB v 0 999999 && (dig v.toNat == s) then some v.toNat else none := by
  unfold num
  by_cases hn : numOk s = true
  · rw [if_pos hn]
    have e := atoi_num hn
    rw [h] at e
    obtain rfl : v = (numV s : Int) := by injection e
    have hn2 := hn
    simp only [numOk, Bool.and_eq_true, decide_eq_true_eq] at hn2
    have hv : numV s < 10 ^ 6 := numV_lt hn2.1.2 hn2.1.1.2
    rw [Int.toNat_natCast, hn2.2]
    have : inB (numV s : Int) 0 999999 = true := by rw [inB_iff]; omega
    rw [this]; rfl
  · rw [if_neg hn]
    by_cases hv : inB v 0 999999 = true
    · by_cases hd : (dig v.toNat == s) = true
      · exfalso
        have e : dig v.toNat = s := by simpa using hd
        rw [inB_iff] at hv
        have := (numOk_dig (n := v.toNat) (by omega)).1
        rw [e] at this
        exact hn this
      · simp [hd]
    · simp [hv]
theorem num_fail {s : Str} (h : ∀ v, Lib.atoiAll s ≠ .ok v) : num s = none := by
  unfold num
  rw [if_neg]
  intro hn
  exact h _ (atoi_num hn)
theorem num_lt {s : Str} {n : Nat} (h : num s = some n) : n ≤ 999999 := by
  unfold num at h
  split at h
  · rename_i hn
    simp only [numOk, Bool.and_eq_true, decide_eq_true_eq] at hn
    have hv : numV s < 10 ^ 6 := numV_lt hn.1.2 hn.1.1.2
    simp at h; omega
  · cases h
end Go.GH

set_option linter.unusedVariables false
set_option linter.unusedSimpArgs false
namespace Go.GH
open Go
def hexV (c : UInt8) : Int := fnd (fun b => b == c) hexD
theorem fnd_cons {α : Type} {p : α → Bool} {b : α} {l : List α} : fnd p (b :: l) = if p b then 0 else if fnd p l = -1 then -1 else fnd p l + 1 := by
  unfold fnd
  cases hb : p b
  · simp only [List.any_cons, hb, Bool.false_or, List.findIdx_cons, Bool.false_eq_true, if_false, cond_false]
    split
    · rw [if_neg (by omega)]; rfl
    · rfl
  · simp [List.findIdx_cons, hb]
theorem indexByte_fnd (c : UInt8) : ∀ (l : List UInt8), Lib.indexByte l c = fnd (fun b => b == c) l
  | [] => rfl
  | b :: l => by
    rw [Lib.indexByte, fnd_cons, indexByte_fnd c l]
    split
    · rfl
    · simp only [beq_iff_eq]
theorem indexByte_hex (c : UInt8) : Lib.indexByte hexD c = hexV c := indexByte_fnd c hexD
theorem hexV_range (c : UInt8) : -1 ≤ hexV c ∧ hexV c ≤ 15 := by
  refine ⟨fnd_ge.1, ?_⟩
  by_cases h : hexD.any (fun b => b == c) = true
  · obtain ⟨x, hx, _⟩ := fnd_get h
    have := lt_of_get hx
    have e : hexD.length = 16 := rfl
    unfold hexV
    omega
  · have : hexV c = -1 := fnd_none (Bool.eq_false_iff.2 h)
    omega
def hexB (a b : UInt8) : UInt8 := UInt8.ofNat (16 * (hexV a).toNat + (hexV b).toNat)
def unhex : Str → Option Str
  | [] => some []
  | [_] => none
  | a :: b :: r => if (decide (hexV a < 0) || decide (hexV b < 0)) = true then none else (unhex r).map (hexB a b :: ·)
theorem unhex_odd : ∀ (s : Str), s.length % 2 = 1 → unhex s = none
  | [], h => by simp at h
  | [_], _ => rfl
  | a :: b :: r, h => by
    rw [unhex, unhex_odd r (by simp at h; omega)]
    split <;> rfl
theorem unhex_len : ∀ (s d : Str), unhex s = some d → 2 * d.length = s.length
  | [], d, h => by simp [unhex] at h; subst h; rfl
  | [_], d, h => by simp [unhex] at h
  | a :: b :: r, d, h => by
    rw [unhex] at h
    split at h
    · cases h
    · cases hr : unhex r with
      | none => rw [hr] at h; cases h
      | some e =>
        rw [hr] at h
        simp only [Option.map_some, Option.some.injEq] at h
        subst h
        have := unhex_len r e hr
        simp; omega
theorem drop_two {s : Str} {i : Nat} {a b : UInt8} (ha : s[i]? = some a) (hb : s[i + 1]? = some b) : s.drop i = a :: b :: s.drop (i + 2) := by
  have h1 := lt_of_get ha
  have h2 := lt_of_get hb
  rw [List.drop_eq_getElem_cons h1, List.drop_eq_getElem_cons h2]
  rw [List.getElem?_eq_getElem h1] at ha
  rw [List.getElem?_eq_getElem h2] at hb
  simp only [Option.some.injEq] at ha hb
  rw [ha, hb]
def HexInv (s : Str) (i : Nat) (out : Str) : Prop := i ≤ s.length ∧ i % 2 = 0 ∧ out.length ≤ i ∧ unhex s = (unhex (s.drop i)).map (out ++ ·)
theorem HexInv.zero (s : Str) : HexInv s 0 [] := ⟨by omega, rfl, by simp, by rw [List.drop_zero]; cases unhex s <;> simp⟩
theorem HexInv.bad {s : Str} {i : Nat} {out : Str} (h : HexInv s i out) {a b : UInt8} (ha : s[i]? = some a) (hb : s[i + 1]? = some b) (hn : (decide (hexV a < 0) || decide (hexV b < 0)) = true) : unhex s = none := by
  rw [h.2.2.2, drop_two ha hb, unhex, if_pos hn]; rfl
theorem HexInv.next {s : Str} {i : Nat} {out : Str} (h : HexInv s i out) {a b : UInt8} (ha : s[i]? = some a) (hb : s[i + 1]? = some b) (hn : (decide (hexV a < 0) || decide (hexV b < 0)) = false) : HexInv s (i + 2) (out ++ [hexB a b]) := by
  obtain ⟨h1, h2, h3, h4⟩ := h
  have := lt_of_get hb
  refine ⟨by omega, by omega, by simp; omega, ?_⟩
  rw [h4, drop_two ha hb, unhex, if_neg (by simp [hn])]
  cases unhex (s.drop (i + 2)) <;> simp
theorem HexInv.fin {s out : Str} (h : HexInv s s.length out) : unhex s = some out := by
  rw [h.2.2.2, List.drop_length]; simp [unhex]
theorem or16' : ∀ x y : Fin 16, (BitVec.ofNat 64 (x.val * 16) ||| BitVec.ofNat 64 y.val).toNat = 16 * x.val + y.val := by decide
theorem or16 {x y : Int} (hx : 0 ≤ x ∧ x ≤ 15) (hy : 0 ≤ y ∧ y ≤ 15) : IntKind.i64.wrap (((BitVec.ofInt 64 (x * 16) ||| BitVec.ofInt 64 y).toNat : Nat) : Int) = 16 * x + y := by
  obtain ⟨a, rfl⟩ : ∃ a : Nat, x = a := ⟨x.toNat, by omega⟩
  obtain ⟨b, rfl⟩ : ∃ b : Nat, y = b := ⟨y.toNat, by omega⟩
  have h := or16' ⟨a, by omega⟩ ⟨b, by omega⟩
  simp only at h
  have e1 : BitVec.ofInt 64 ((a : Int) * 16) = BitVec.ofNat 64 (a * 16) := by
    rw [← BitVec.ofInt_natCast]; congr 1
  have e2 : BitVec.ofInt 64 (b : Int) = BitVec.ofNat 64 b := BitVec.ofInt_natCast 64 b
  rw [e1, e2, h]
  exact w64 (a := ((16 * a + b : Nat) : Int)) (by omega)
theorem hexB_val {a b : UInt8} (hx : 0 ≤ hexV a ∧ hexV a ≤ 15) (hy : 0 ≤ hexV b ∧ hexV b ≤ 15) : IntKind.u8.wrap (16 * hexV a + hexV b) = ((hexB a b).toNat : Int) := by
  unfold hexB
  obtain ⟨x, hx'⟩ : ∃ x : Nat, hexV a = x := ⟨(hexV a).toNat, by omega⟩
  obtain ⟨y, hy'⟩ : ∃ y : Nat, hexV b = y := ⟨(hexV b).toNat, by omega⟩
  rw [hx', hy', Int.toNat_natCast, Int.toNat_natCast, UInt8.toNat_ofNat']
  rfl
def opRaw (w : List Str) : OpR := ⟨((num (w.getD 0 [])).getD 0 : Nat), w.getD 1 [], w.getD 2 [], ((num (w.getD 3 [])).getD 0 : Nat), (unhex (w.getD 5 [])).getD [], ((num (w.getD 4 [])).getD 0 : Nat)⟩
def opGood (s : Str) (w : List Str) : Bool := decide (w.length = 6) && (num (w.getD 0 [])).isSome && (num (w.getD 3 [])).isSome && (num (w.getD 4 [])).isSome && (unhex (w.getD 5 [])).isSome && (opText (opRaw w) == s)
def opOf (s : Str) : Option OpR := if opGood s (splitBy 32 s) then some (opRaw (splitBy 32 s)) else none
theorem six {l : List Str} (h : l.length = 6) : ∃ a b c d e f, l = [a, b, c, d, e, f] := by
  match l, h with
  | [a, b, c, d, e, f], _ => exact ⟨a, b, c, d, e, f, rfl⟩
theorem opOf_no {s : Str} (h : opGood s (splitBy 32 s) = false) : opOf s = none := by rw [opOf, if_neg]; simp [h]
theorem opOf_yes {s : Str} (h : opGood s (splitBy 32 s) = true) : opOf s = some (opRaw (splitBy 32 s)) := by rw [opOf, if_pos h]
theorem opOf_text {s : Str} {o : OpR} (h : opOf s = some o) : opText o = s := by
  unfold opOf at h
  split at h
  · rename_i hg
    simp only [Option.some.injEq] at h
    subst h
    simp only [opGood, Bool.and_eq_true, beq_iff_eq] at hg
    exact hg.2
  · cases h
end Go.GH

namespace Go.Proofs
open Go.Shelf
def Tryd.lays137_ren : Go.Shelf.Ren := ⟨fun | 137 => 60 | 217 => 75 | 266 => 88 | n => n, fun | 9 => 9 | 5 => 5 | 3 => 3 | n => n, fun | n => n⟩
theorem Tryd.lays137 : Go.Proofs.Lays.n137 Tryd.prog Tryd.lays137_ren := {
  mixed := by kernel_rfl
  f137 := Tryd.func60.trans (congrArg some (by kernel_rfl))
  f217 := Tryd.func75.trans (congrArg some (by kernel_rfl))
  f266 := Tryd.func88.trans (congrArg some (by kernel_rfl))
  t3 := Tryd.underlying3
  a3 := Tryd.isAgg3
  z3 := Tryd.sizeOf3
  v3 := Tryd.zeroValue3
  t5 := Tryd.underlying5
  a5 := Tryd.isAgg5
  z5 := Tryd.sizeOf5
  v5 := Tryd.zeroValue5
  t9 := Tryd.underlying9
  a9 := Tryd.isAgg9
  z9 := Tryd.sizeOf9
  v9 := Tryd.zeroValue9 }
open Go.RowKit in
theorem Tryd.strings_IndexByte (s : ByteArray) (c : Int) (w : World) :
    Calls Tryd.prog 60 #[.string s, .int .u8 c] w fun e w' => e = .returned (.int .i64 (Lib.indexByte s.data.toList c.toNat.toUInt8)) ∧ w' = w := Any.strings_IndexByte Tryd.lays137 s c w
def Tryd.laysC172_ren : Go.Shelf.Ren := ⟨fun | 172 => 59 | 244 => 73 | 245 => 74 | 247 => 83 | 279 => 84 | 280 => 85 | 281 => 86 | 282 => 87 | 287 => 97 | 316 => 98 | 171 => 58 | 205 => 99 | 321 => 106 | 322 => 107 | 243 => 72 | 246 => 82 | 283 => 93 | 284 => 94 | 285 => 95 | 286 => 96 | 129 => 102 | 317 => 101 | 318 => 103 | 319 => 104 | 320 => 105 | 337 => 108 | 338 => 109 | n => n, fun | 9 => 9 | 3 => 3 | 75 => 78 | 76 => 79 | 4 => 4 | 5 => 5 | 167 => 97 | 37 => 43 | 0 => 0 | 85 => 98 | 2 => 2 | 168 => 100 | 53 => 106 | 175 => 111 | 46 => 81 | 210 => 114 | 127 => 88 | 145 => 127 | 143 => 125 | 21 => 21 | 171 => 105 | 173 => 109 | 212 => 120 | 51 => 116 | 20 => 20 | 213 => 121 | 232 => 129 | 233 => 130 | 80 => 50 | n => n, fun | 15 => 1 | 16 => 2 | 17 => 3 | 18 => 4 | 19 => 5 | n => n⟩
theorem Tryd.laysC172 : Go.Proofs.LaysC.n172 Tryd.prog Tryd.laysC172_ren := {
  mixed := by kernel_rfl
  f129 := Tryd.func102.trans (congrArg some (by kernel_rfl))
  f171 := Tryd.func58.trans (congrArg some (by kernel_rfl))
  f172 := Tryd.func59.trans (congrArg some (by kernel_rfl))
  f205 := Tryd.func99.trans (congrArg some (by kernel_rfl))
  f243 := Tryd.func72.trans (congrArg some (by kernel_rfl))
  f244 := Tryd.func73.trans (congrArg some (by kernel_rfl))
  f245 := Tryd.func74.trans (congrArg some (by kernel_rfl))
  f246 := Tryd.func82.trans (congrArg some (by kernel_rfl))
  f247 := Tryd.func83.trans (congrArg some (by kernel_rfl))
  f279 := Tryd.func84.trans (congrArg some (by kernel_rfl))
  f280 := Tryd.func85.trans (congrArg some (by kernel_rfl))
  f281 := Tryd.func86.trans (congrArg some (by kernel_rfl))
  f282 := Tryd.func87.trans (congrArg some (by kernel_rfl))
  f283 := Tryd.func93.trans (congrArg some (by kernel_rfl))
  f284 := Tryd.func94.trans (congrArg some (by kernel_rfl))
  f285 := Tryd.func95.trans (congrArg some (by kernel_rfl))
  f286 := Tryd.func96.trans (congrArg some (by kernel_rfl))
  f287 := Tryd.func97.trans (congrArg some (by kernel_rfl))
  f316 := Tryd.func98.trans (congrArg some (by kernel_rfl))
  f317 := Tryd.func101.trans (congrArg some (by kernel_rfl))
  f318 := Tryd.func103.trans (congrArg some (by kernel_rfl))
  f319 := Tryd.func104.trans (congrArg some (by kernel_rfl))
  f320 := Tryd.func105.trans (congrArg some (by kernel_rfl))
  f321 := Tryd.func106.trans (congrArg some (by kernel_rfl))
  f322 := Tryd.func107.trans (congrArg some (by kernel_rfl))
  f337 := Tryd.func108.trans (congrArg some (by kernel_rfl))
  f338 := Tryd.func109.trans (congrArg some (by kernel_rfl))
  t0 := Tryd.underlying0
  a0 := Tryd.isAgg0
  z0 := Tryd.sizeOf0
  v0 := Tryd.zeroValue0
  t2 := Tryd.underlying2
  a2 := Tryd.isAgg2
  z2 := Tryd.sizeOf2
  v2 := Tryd.zeroValue2
  t3 := Tryd.underlying3
  a3 := Tryd.isAgg3
  z3 := Tryd.sizeOf3
  v3 := Tryd.zeroValue3
  t4 := Tryd.underlying4
  a4 := Tryd.isAgg4
  z4 := Tryd.sizeOf4
  v4 := Tryd.zeroValue4
  t5 := Tryd.underlying5
  a5 := Tryd.isAgg5
  z5 := Tryd.sizeOf5
  v5 := Tryd.zeroValue5
  t9 := Tryd.underlying9
  a9 := Tryd.isAgg9
  z9 := Tryd.sizeOf9
  v9 := Tryd.zeroValue9
  t20 := Tryd.underlying20
  a20 := Tryd.isAgg20
  z20 := Tryd.sizeOf20
  v20 := Tryd.zeroValue20
  t21 := Tryd.underlying21
  a21 := Tryd.isAgg21
  z21 := Tryd.sizeOf21
  v21 := Tryd.zeroValue21
  t37 := Tryd.underlying43
  a37 := Tryd.isAgg43
  z37 := Tryd.sizeOf43
  v37 := Tryd.zeroValue43
  t46 := Tryd.underlying81
  a46 := Tryd.isAgg81
  z46 := Tryd.sizeOf81
  v46 := Tryd.zeroValue81
  t51 := Tryd.underlying116
  a51 := Tryd.isAgg116
  z51 := Tryd.sizeOf116
  v51 := Tryd.zeroValue116
  t53 := Tryd.underlying106
  a53 := Tryd.isAgg106
  z53 := Tryd.sizeOf106
  v53 := Tryd.zeroValue106
  t75 := Tryd.underlying78
  a75 := Tryd.isAgg78
  z75 := Tryd.sizeOf78
  v75 := Tryd.zeroValue78
  t76 := Tryd.underlying79
  a76 := Tryd.isAgg79
  z76 := Tryd.sizeOf79
  v76 := Tryd.zeroValue79
  t85 := Tryd.underlying98
  a85 := Tryd.isAgg98
  z85 := Tryd.sizeOf98
  v85 := Tryd.zeroValue98
  t127 := Tryd.underlying88
  a127 := Tryd.isAgg88
  z127 := Tryd.sizeOf88
  v127 := Tryd.zeroValue88
  t143 := Tryd.underlying125
  a143 := Tryd.isAgg125
  z143 := Tryd.sizeOf125
  v143 := Tryd.zeroValue125
  t145 := Tryd.underlying127
  a145 := Tryd.isAgg127
  z145 := Tryd.sizeOf127
  v145 := Tryd.zeroValue127
  t167 := Tryd.underlying97
  a167 := Tryd.isAgg97
  z167 := Tryd.sizeOf97
  v167 := Tryd.zeroValue97
  t168 := Tryd.underlying100
  a168 := Tryd.isAgg100
  z168 := Tryd.sizeOf100
  v168 := Tryd.zeroValue100
  t171 := Tryd.underlying105
  a171 := Tryd.isAgg105
  z171 := Tryd.sizeOf105
  v171 := Tryd.zeroValue105
  t173 := Tryd.underlying109
  a173 := Tryd.isAgg109
  z173 := Tryd.sizeOf109
  v173 := Tryd.zeroValue109
  t175 := Tryd.underlying111
  a175 := Tryd.isAgg111
  z175 := Tryd.sizeOf111
  v175 := Tryd.zeroValue111
  t210 := Tryd.underlying114
  a210 := Tryd.isAgg114
  z210 := Tryd.sizeOf114
  v210 := Tryd.zeroValue114
  t212 := Tryd.underlying120
  a212 := Tryd.isAgg120
  z212 := Tryd.sizeOf120
  v212 := Tryd.zeroValue120
  t213 := Tryd.underlying121
  a213 := Tryd.isAgg121
  z213 := Tryd.sizeOf121
  t232 := Tryd.underlying129
  a232 := Tryd.isAgg129
  z232 := Tryd.sizeOf129
  v232 := Tryd.zeroValue129
  t233 := Tryd.underlying130
  a233 := Tryd.isAgg130
  z233 := Tryd.sizeOf130
  v233 := Tryd.zeroValue130
  g15 := by kernel_rfl
  g16 := by kernel_rfl
  g17 := by kernel_rfl
  g18 := by kernel_rfl
  g19 := by kernel_rfl
  t80 := Tryd.underlying50
  a80 := Tryd.isAgg50
  z80 := Tryd.sizeOf50
  v80 := Tryd.zeroValue50
  i0 := by kernel_rfl
  i2 := by kernel_rfl
  i3 := by kernel_rfl
  i4 := by kernel_rfl
  i5 := by kernel_rfl
  i9 := by kernel_rfl
  i20 := by kernel_rfl
  i21 := by kernel_rfl
  i37 := by kernel_rfl
  i46 := by kernel_rfl
  i51 := by kernel_rfl
  i53 := by kernel_rfl
  i75 := by kernel_rfl
  i76 := by kernel_rfl
  i80 := by kernel_rfl
  i85 := by kernel_rfl
  i127 := by kernel_rfl
  i143 := by kernel_rfl
  i145 := by kernel_rfl
  i167 := by kernel_rfl
  i168 := by kernel_rfl
  i171 := by kernel_rfl
  i173 := by kernel_rfl
  i175 := by kernel_rfl
  i210 := by kernel_rfl
  i212 := by kernel_rfl
  i232 := by kernel_rfl
  i233 := by kernel_rfl
  m15 := by kernel_rfl
  m16 := by kernel_rfl
  m17 := by kernel_rfl
  m18 := by kernel_rfl
  m19 := by kernel_rfl
  c0 := by kernel_rfl
  c2 := by kernel_rfl
  c3 := by kernel_rfl
  c4 := by kernel_rfl
  c5 := by kernel_rfl
  c9 := by kernel_rfl
  c20 := by kernel_rfl
  c21 := by kernel_rfl
  c37 := by kernel_rfl
  c46 := by kernel_rfl
  c51 := by kernel_rfl
  c53 := by kernel_rfl
  c75 := by kernel_rfl
  c76 := by kernel_rfl
  c80 := by kernel_rfl
  c85 := by kernel_rfl
  c127 := by kernel_rfl
  c143 := by kernel_rfl
  c145 := by kernel_rfl
  c167 := by kernel_rfl
  c168 := by kernel_rfl
  c171 := by kernel_rfl
  c173 := by kernel_rfl
  c175 := by kernel_rfl
  c210 := by kernel_rfl
  c212 := by kernel_rfl
  c213 := by kernel_rfl
  c232 := by kernel_rfl
  c233 := by kernel_rfl }
open Go.RowKit in
theorem Tryd.strconv_Atoi_ok (s : ByteArray) (hmax : s.size ≤ 9223372036854775806) (v : Int) (h : Lib.atoiAll s.data.toList = .ok v) (w : World) :
    Calls Tryd.prog 59 #[.string s] w fun e w' => e = .returned (.tuple #[.int .i64 v, .nilIface]) ∧ (w' = w ∨ ∃ t, w' = Lib.bytesWorld w 5 t) := Any.strconv_Atoi_ok Tryd.laysC172 s hmax v h w
end Go.Proofs

set_option linter.unusedVariables false
set_option linter.unusedSimpArgs false
namespace Go.GH
open Go Go.Proofs
theorem toB_hex : (toB hexD).data.toList = hexD := rfl
def c_strings_IndexByte : PCon := con [mC, mC] true UInt8 (fun c => [.str hexD, .int .u8 c.toNat]) (fun _ => True) (fun c => .int .i64 (hexV c))
theorem ok_strings_IndexByte : ConOk Tryd.prog 60 c_strings_IndexByte := by
  refine con_of_calls rfl (fun _ => rfl) (fun _ => rfl) (fun _ => rfl) (fun x _ => ⟨trivial, trivial, trivial⟩) Tryd.call60 ?_
  intro (c : UInt8) hpre y w args ρ hw hR hsz hs
  have h0 := srep_str (hs 0 _ rfl)
  have h1 := srep_int (hs 1 _ rfl)
  have hsz : args.size = 2 := hsz
  have ha : args = #[.string (toB hexD), .int .u8 c.toNat] := by
    apply Array.ext
    · simp [hsz]
    · intro i hi1 hi2
      have : i = 0 ∨ i = 1 := by omega
      rcases this with rfl | rfl
      · rw [Array.getD_eq_getD_getElem?, Array.getElem?_eq_getElem hi1] at h0; simpa [bytesV, toB] using h0
      · rw [Array.getD_eq_getD_getElem?, Array.getElem?_eq_getElem hi1] at h1; simpa using h1
  rw [ha]
  refine (Tryd.strings_IndexByte (toB hexD) c.toNat w).mono ?_
  rintro e w' ⟨rfl, rfl⟩
  refine ⟨?_, RowKit.Below.refl _ _⟩
  rw [toB_hex, Int.toNat_natCast, show c.toNat.toUInt8 = c by simp, indexByte_hex]
  rfl
def gwErr (w : World) : Prop := gwTab w ∧ (∃ t a, w.cell? ⟨1, 0, none⟩ = some (.iface t a)) ∧ ∃ t a, w.cell? ⟨2, 0, none⟩ = some (.iface t a)
def atoiZ (s : Str) : Int := match Lib.atoiAll s with
  | .ok v => v
  | .range => Lib.atoiSat s
  | _ => 0
def atoiR (s : Str) (v : Option Int) : AV := match v with
  | some v => .tup [.int .i64 v, .nilI]
  | none => .tup [.int .i64 (atoiZ s), .someI]
def c_strconv_Atoi : PCon := conG gwErr [mC] true (Str × Option Int) (fun x => [.str x.1]) (fun x => x.1.length ≤ 16777216 ∧ ∀ v, (x.2 = some v ↔ Lib.atoiAll x.1 = .ok v)) (fun x => atoiR x.1 x.2)
theorem ok_strconv_Atoi : ConOk Tryd.prog 59 c_strconv_Atoi := by
  refine con_of_callsG rfl (fun _ => rfl) (fun x => by obtain ⟨s, v⟩ := x; cases v <;> rfl) (fun _ => rfl) (fun x _ => ⟨trivial, trivial⟩) Tryd.call59 ?_
  rintro ⟨s, v⟩ hpre y w args ρ hg hw hR hsz hs
  obtain ⟨hl, hv⟩ : s.length ≤ 16777216 ∧ ∀ u, (v = some u ↔ Lib.atoiAll s = .ok u) := hpre
  obtain ⟨_, ⟨t1, a1, g1⟩, t2, a2, g2⟩ : gwErr w := hg
  have h0 := srep_str (hs 0 _ rfl)
  have hsz : args.size = 1 := hsz
  have ha : args = #[.string (toB s)] := by
    apply Array.ext
    · simp [hsz]
    · intro i hi1 hi2
      have : i = 0 := by omega
      subst this
      rw [Array.getD_eq_getD_getElem?, Array.getElem?_eq_getElem hi1] at h0; simpa [bytesV, toB] using h0
  rw [ha]
  have hsize : (toB s).size = s.length := rfl
  cases hq : Lib.atoiAll s
  · rename_i u
    obtain rfl := (hv u).2 hq
    refine (Tryd.strconv_Atoi_ok (toB s) (by omega) u hq w).mono ?_
    rintro e w' ⟨rfl, hw'⟩
    refine ⟨_, rfl, fun _ _ _ _ => .tup rfl fun i c hi => ?_, ?_⟩
    · match i, hi with
      | 0, hi => obtain rfl := Option.some.inj hi; exact .cell .int
      | 1, hi => obtain rfl := Option.some.inj hi; exact .cell .nilI
    · rcases hw' with rfl | ⟨t, rfl⟩
      · exact RowKit.Below.refl _ _
      · exact Lib.bytesWorld_below _ _ _
  · obtain rfl : v = none := by
      cases v with
      | none => rfl
      | some u => have := (hv u).1 rfl; rw [hq] at this; cases this
    have hz : atoiZ s = 0 := by unfold atoiZ; rw [hq]
    refine (Any.strconv_Atoi_syntax Tryd.laysC172 (toB s) (by omega) hq (.iface t1 a1) w g1 (.inr ⟨_, _, rfl⟩)).mono ?_
    rintro e w' ⟨N, rfl, _, _, hb⟩
    refine ⟨_, rfl, fun _ _ _ _ => .tup rfl fun i c hi => ?_, hb⟩
    match i, hi with
    | 0, hi => obtain rfl := Option.some.inj hi; rw [hz]; exact .cell .int
    | 1, hi => obtain rfl := Option.some.inj hi; exact .someI
  · obtain rfl : v = none := by
      cases v with
      | none => rfl
      | some u => have := (hv u).1 rfl; rw [hq] at this; cases this
    have hz : atoiZ s = Lib.atoiSat s := by unfold atoiZ; rw [hq]
    refine (Any.strconv_Atoi_range Tryd.laysC172 (toB s) (by omega) hq (.iface t2 a2) w g2 (.inr ⟨_, _, rfl⟩)).mono ?_
    rintro e w' ⟨N, rfl, _, _, hb⟩
    refine ⟨_, rfl, fun _ _ _ _ => .tup rfl fun i c hi => ?_, hb⟩
    match i, hi with
    | 0, hi => obtain rfl := Option.some.inj hi; rw [hz]; exact .cell .int
    | 1, hi => obtain rfl := Option.some.inj hi; exact .someI
noncomputable def c_spec_l26Sign : PCon := con [mC] true UInt8 (fun c => [.int .u8 c.toNat]) (fun _ => True) (fun c => .int .i64 (hexV c))
noncomputable def E_spec_l26Sign : Env := ⟨lookup tyTab, lookup [(31, c_spec_l26Signs)], [0, 2, 3, 5, 12]⟩
set_option maxRecDepth 100000 in
set_option maxHeartbeats 4000000 in
theorem m_spec_l26Sign : Meets E_spec_l26Sign (codeOf Tryd.f39) Tryd.f39.results.toList c_spec_l26Sign := by
  intro (c : UInt8) _
  refine ⟨trivial, ?_⟩
  repeat ((conv => whnf); first | refine ⟨fun h => h, ?_⟩ | refine ⟨(by kernel_rfl : drawOk _ _ = true), ?_⟩ | refine ⟨fun (h : gtrue _) => by first | assumption | exact absurd (Eq.trans (Eq.symm h) (by assumption) : true = false) Bool.noConfusion, ?_⟩ | refine ⟨fun h => (absurd (Eq.trans (Eq.symm h) (by assumption) : true = false) Bool.noConfusion : False), ?_⟩ | refine ⟨_, w64 (by (show (_ : Prop)); first | omega | ((try dsimp only at *); (try simp only [lns] at *); omega)), ?_⟩ | refine ⟨fun _ => ⟨by (show (_ : Prop)); first | omega | ((try dsimp only at *); (try simp only [lns] at *); omega), by (show (_ : Prop)); first | omega | ((try dsimp only at *); (try simp only [lns] at *); omega), by (show (_ : Prop)); first | omega | ((try dsimp only at *); (try simp only [lns] at *); omega)⟩, ?_⟩ | refine ⟨by (show (_ : Prop)); first | omega | ((try dsimp only at *); (try simp only [lns] at *); omega), ?_⟩ | refine ⟨fun h => ⟨by (show (_ : Prop)); first | omega | ((try dsimp only at *); (try simp only [lns] at *); omega), by (show (_ : Prop)); first | omega | ((try dsimp only at *); (try simp only [lns] at *); omega)⟩, ?_⟩ | refine ⟨fun (r : List AV) hr c hc => by simp [encS] at hr; (try subst hr); simp at hc; (try subst hc); rfl, ?_⟩ | refine ⟨noOwn (by rfl), ?_⟩)
  refine loop_rule (fun i : Nat => ⟨[(0, ⟨none, .int .u8 c.toNat⟩), (3, ⟨none, .int .i64 i⟩)], [], 0⟩)
    (fun i => i ≤ 16 ∧ (hexD.take i).any (fun b => b == c) = false) (fun i => 16 - i) 0 ?_ ⟨by omega, rfl⟩ ?_
  · (refine ⟨?_, ?_, rfl⟩ <;> repeat' (first | exact rfl | exact trivial | refine ⟨?_, ?_⟩ | fail) <;> (conv => whnf))
  rintro i ⟨hi, hI⟩
  (conv => whnf); refine ⟨fun h2 => ?_, fun h2 => ?_⟩
  · have h2 : i < 16 := by
      have : (i : Int) < 16 := by simpa using h2
      omega
    have hb := hx_get h2
    repeat ((conv => whnf); first | refine ⟨fun h => h, ?_⟩ | refine ⟨(by kernel_rfl : drawOk _ _ = true), ?_⟩ | refine ⟨fun (h : gtrue _) => by first | assumption | exact absurd (Eq.trans (Eq.symm h) (by assumption) : true = false) Bool.noConfusion, ?_⟩ | refine ⟨fun h => (absurd (Eq.trans (Eq.symm h) (by assumption) : true = false) Bool.noConfusion : False), ?_⟩ | refine ⟨_, w64 (by (show (_ : Prop)); first | omega | ((try dsimp only at *); (try simp only [lns] at *); omega)), ?_⟩ | refine ⟨fun _ => ⟨by (show (_ : Prop)); first | omega | ((try dsimp only at *); (try simp only [lns] at *); omega), by (show (_ : Prop)); first | omega | ((try dsimp only at *); (try simp only [lns] at *); omega), by (show (_ : Prop)); first | omega | ((try dsimp only at *); (try simp only [lns] at *); omega)⟩, ?_⟩ | refine ⟨by (show (_ : Prop)); first | omega | ((try dsimp only at *); (try simp only [lns] at *); omega), ?_⟩ | refine ⟨fun h => ⟨by (show (_ : Prop)); first | omega | ((try dsimp only at *); (try simp only [lns] at *); omega), by (show (_ : Prop)); first | omega | ((try dsimp only at *); (try simp only [lns] at *); omega)⟩, ?_⟩ | refine ⟨fun (r : List AV) hr c hc => by simp [encS] at hr; (try subst hr); simp at hc; (try subst hc); rfl, ?_⟩ | refine ⟨noOwn (by rfl), ?_⟩)
    refine ⟨(), rfl, fun _ => trivial, ?_⟩
    repeat ((conv => whnf); first | refine ⟨fun h => h, ?_⟩ | refine ⟨(by kernel_rfl : drawOk _ _ = true), ?_⟩ | refine ⟨fun (h : gtrue _) => by first | assumption | exact absurd (Eq.trans (Eq.symm h) (by assumption) : true = false) Bool.noConfusion, ?_⟩ | refine ⟨fun h => (absurd (Eq.trans (Eq.symm h) (by assumption) : true = false) Bool.noConfusion : False), ?_⟩ | refine ⟨_, w64 (by (show (_ : Prop)); first | omega | ((try dsimp only at *); (try simp only [lns] at *); omega)), ?_⟩ | refine ⟨fun _ => ⟨by (show (_ : Prop)); first | omega | ((try dsimp only at *); (try simp only [lns] at *); omega), by (show (_ : Prop)); first | omega | ((try dsimp only at *); (try simp only [lns] at *); omega), by (show (_ : Prop)); first | omega | ((try dsimp only at *); (try simp only [lns] at *); omega)⟩, ?_⟩ | refine ⟨by (show (_ : Prop)); first | omega | ((try dsimp only at *); (try simp only [lns] at *); omega), ?_⟩ | refine ⟨fun h => ⟨by (show (_ : Prop)); first | omega | ((try dsimp only at *); (try simp only [lns] at *); omega), by (show (_ : Prop)); first | omega | ((try dsimp only at *); (try simp only [lns] at *); omega)⟩, ?_⟩ | refine ⟨fun (r : List AV) hr c hc => by simp [encS] at hr; (try subst hr); simp at hc; (try subst hc); rfl, ?_⟩ | refine ⟨noOwn (by rfl), ?_⟩)
    refine ⟨hx i, fun _ => ⟨Int.natCast_nonneg _, hb⟩, ?_⟩
    (conv => whnf); refine ⟨fun h3 => ?_, fun h3 => ?_⟩
    · have h3 : (hx i == c) = true := by simpa using byteEq.1 h3
      repeat ((conv => whnf); first | refine ⟨fun h => h, ?_⟩ | refine ⟨(by kernel_rfl : drawOk _ _ = true), ?_⟩ | refine ⟨fun (h : gtrue _) => by first | assumption | exact absurd (Eq.trans (Eq.symm h) (by assumption) : true = false) Bool.noConfusion, ?_⟩ | refine ⟨fun h => (absurd (Eq.trans (Eq.symm h) (by assumption) : true = false) Bool.noConfusion : False), ?_⟩ | refine ⟨_, w64 (by (show (_ : Prop)); first | omega | ((try dsimp only at *); (try simp only [lns] at *); omega)), ?_⟩ | refine ⟨fun _ => ⟨by (show (_ : Prop)); first | omega | ((try dsimp only at *); (try simp only [lns] at *); omega), by (show (_ : Prop)); first | omega | ((try dsimp only at *); (try simp only [lns] at *); omega), by (show (_ : Prop)); first | omega | ((try dsimp only at *); (try simp only [lns] at *); omega)⟩, ?_⟩ | refine ⟨by (show (_ : Prop)); first | omega | ((try dsimp only at *); (try simp only [lns] at *); omega), ?_⟩ | refine ⟨fun h => ⟨by (show (_ : Prop)); first | omega | ((try dsimp only at *); (try simp only [lns] at *); omega), by (show (_ : Prop)); first | omega | ((try dsimp only at *); (try simp only [lns] at *); omega)⟩, ?_⟩ | refine ⟨fun (r : List AV) hr c hc => by simp [encS] at hr; (try subst hr); simp at hc; (try subst hc); rfl, ?_⟩ | refine ⟨noOwn (by rfl), ?_⟩)
      exact ⟨trivial, eqN' (fnd_hit hI hb h3).symm⟩
    · have h3 : (hx i == c) = false := by
        rw [Bool.eq_false_iff]
        intro e
        have e : hx i = c := by simpa using e
        rw [byteEq.2 e] at h3
        cases h3
      repeat ((conv => whnf); first | refine ⟨fun h => h, ?_⟩ | refine ⟨(by kernel_rfl : drawOk _ _ = true), ?_⟩ | refine ⟨fun (h : gtrue _) => by first | assumption | exact absurd (Eq.trans (Eq.symm h) (by assumption) : true = false) Bool.noConfusion, ?_⟩ | refine ⟨fun h => (absurd (Eq.trans (Eq.symm h) (by assumption) : true = false) Bool.noConfusion : False), ?_⟩ | refine ⟨_, w64 (by (show (_ : Prop)); first | omega | ((try dsimp only at *); (try simp only [lns] at *); omega)), ?_⟩ | refine ⟨fun _ => ⟨by (show (_ : Prop)); first | omega | ((try dsimp only at *); (try simp only [lns] at *); omega), by (show (_ : Prop)); first | omega | ((try dsimp only at *); (try simp only [lns] at *); omega), by (show (_ : Prop)); first | omega | ((try dsimp only at *); (try simp only [lns] at *); omega)⟩, ?_⟩ | refine ⟨by (show (_ : Prop)); first | omega | ((try dsimp only at *); (try simp only [lns] at *); omega), ?_⟩ | refine ⟨fun h => ⟨by (show (_ : Prop)); first | omega | ((try dsimp only at *); (try simp only [lns] at *); omega), by (show (_ : Prop)); first | omega | ((try dsimp only at *); (try simp only [lns] at *); omega)⟩, ?_⟩ | refine ⟨fun (r : List AV) hr c hc => by simp [encS] at hr; (try subst hr); simp at hc; (try subst hc); rfl, ?_⟩ | refine ⟨noOwn (by rfl), ?_⟩)
      refine again (i + 1) ?_ ⟨h2, any_take_succ hI hb h3⟩ (by first | omega | (simp; done) | (simp; omega))
      (refine ⟨?_, ?_, rfl⟩ <;> repeat' (first | exact rfl | exact trivial | refine ⟨?_, ?_⟩ | fail) <;> (conv => whnf))
  · have h2 : i = 16 := by
      have : ¬ (i : Int) < 16 := by simpa using h2
      omega
    subst h2
    repeat ((conv => whnf); first | refine ⟨fun h => h, ?_⟩ | refine ⟨(by kernel_rfl : drawOk _ _ = true), ?_⟩ | refine ⟨fun (h : gtrue _) => by first | assumption | exact absurd (Eq.trans (Eq.symm h) (by assumption) : true = false) Bool.noConfusion, ?_⟩ | refine ⟨fun h => (absurd (Eq.trans (Eq.symm h) (by assumption) : true = false) Bool.noConfusion : False), ?_⟩ | refine ⟨_, w64 (by (show (_ : Prop)); first | omega | ((try dsimp only at *); (try simp only [lns] at *); omega)), ?_⟩ | refine ⟨fun _ => ⟨by (show (_ : Prop)); first | omega | ((try dsimp only at *); (try simp only [lns] at *); omega), by (show (_ : Prop)); first | omega | ((try dsimp only at *); (try simp only [lns] at *); omega), by (show (_ : Prop)); first | omega | ((try dsimp only at *); (try simp only [lns] at *); omega)⟩, ?_⟩ | refine ⟨by (show (_ : Prop)); first | omega | ((try dsimp only at *); (try simp only [lns] at *); omega), ?_⟩ | refine ⟨fun h => ⟨by (show (_ : Prop)); first | omega | ((try dsimp only at *); (try simp only [lns] at *); omega), by (show (_ : Prop)); first | omega | ((try dsimp only at *); (try simp only [lns] at *); omega)⟩, ?_⟩ | refine ⟨fun (r : List AV) hr c hc => by simp [encS] at hr; (try subst hr); simp at hc; (try subst hc); rfl, ?_⟩ | refine ⟨noOwn (by rfl), ?_⟩)
    exact ⟨trivial, eqN' (fnd_none (p := fun b => b == c) (l := hexD) hI).symm⟩
theorem ok_spec_l26Sign : ConOk Tryd.prog 39 c_spec_l26Sign := meets_ok (tabT _ _) (FOk.cons ok_spec_l26Signs FOk.nil) mixed Tryd.func39 rfl Tryd.call39 (by decide) (by kernel_rfl) m_spec_l26Sign (by intro _ (y : UInt8) _; exact ⟨by simp [c_spec_l26Sign, con, conG, conW, AV.noRd, noRdCells, noRdRows, noRdRows_map', encS, encO], by simp [c_spec_l26Sign, con, conG, conW, AV.noRd, noRdCells, noRdRows, noRdRows_map', encS, encO]⟩) (by intro (y : UInt8) _; first | (simp [c_spec_l26Sign, con, conG, conW, conP, AV.free, freeCells, freeRows, freeRows_map, encS, encO]; done) | (obtain ⟨_, _⟩ := y; simp [c_spec_l26Sign, con, conG, conW, conP, AV.free, freeCells, freeRows, freeRows_map, encS, encO]; done) | (obtain ⟨_, _, _⟩ := y; simp [c_spec_l26Sign, con, conG, conW, conP, AV.free, freeCells, freeRows, freeRows_map, encS, encO]; done))
noncomputable def c_spec_Number : PCon := con [mC] false Str encS (fun s => s.length ≤ 16777216) (fun s => .tup [.int .i64 ((num s).getD 0 : Nat), .bool (num s).isSome])
noncomputable def E_spec_Number : Env := ⟨lookup tyTab, lookup [(30, c_spec_Digits)], [0, 2, 3, 4, 5, 13, 17, 29, 41]⟩
set_option maxRecDepth 100000 in
set_option maxHeartbeats 4000000 in
theorem m_spec_Number : Meets E_spec_Number (codeOf Tryd.f38) Tryd.f38.results.toList c_spec_Number := by
  intro (s : Str) (hs : s.length ≤ 16777216)
  refine ⟨trivial, ?_⟩
  repeat ((conv => whnf); first | refine ⟨fun h => h, ?_⟩ | refine ⟨(by kernel_rfl : drawOk _ _ = true), ?_⟩ | refine ⟨fun (h : gtrue _) => by first | assumption | exact absurd (Eq.trans (Eq.symm h) (by assumption) : true = false) Bool.noConfusion, ?_⟩ | refine ⟨fun h => (absurd (Eq.trans (Eq.symm h) (by assumption) : true = false) Bool.noConfusion : False), ?_⟩ | refine ⟨_, w64 (by (show (_ : Prop)); first | omega | ((try dsimp only at *); (try simp only [lns] at *); omega)), ?_⟩ | refine ⟨fun _ => ⟨by (show (_ : Prop)); first | omega | ((try dsimp only at *); (try simp only [lns] at *); omega), by (show (_ : Prop)); first | omega | ((try dsimp only at *); (try simp only [lns] at *); omega), by (show (_ : Prop)); first | omega | ((try dsimp only at *); (try simp only [lns] at *); omega)⟩, ?_⟩ | refine ⟨by (show (_ : Prop)); first | omega | ((try dsimp only at *); (try simp only [lns] at *); omega), ?_⟩ | refine ⟨fun h => ⟨by (show (_ : Prop)); first | omega | ((try dsimp only at *); (try simp only [lns] at *); omega), by (show (_ : Prop)); first | omega | ((try dsimp only at *); (try simp only [lns] at *); omega)⟩, ?_⟩ | refine ⟨fun (r : List AV) hr c hc => by simp [encS] at hr; (try subst hr); simp at hc; (try subst hc); rfl, ?_⟩ | refine ⟨noOwn (by rfl), ?_⟩)
  (conv => whnf); refine ⟨fun h1 => ?_, fun h1 => ?_⟩
  · have hn : num s = none := by
      have h1 : (decide ((s.length : Int) < 1) || decide ((s.length : Int) > 6)) = true := h1
      unfold num
      rw [if_neg]
      unfold numOk
      simp at h1
      intro h
      simp only [Bool.and_eq_true, decide_eq_true_eq] at h
      omega
    repeat ((conv => whnf); first | refine ⟨fun h => h, ?_⟩ | refine ⟨(by kernel_rfl : drawOk _ _ = true), ?_⟩ | refine ⟨fun (h : gtrue _) => by first | assumption | exact absurd (Eq.trans (Eq.symm h) (by assumption) : true = false) Bool.noConfusion, ?_⟩ | refine ⟨fun h => (absurd (Eq.trans (Eq.symm h) (by assumption) : true = false) Bool.noConfusion : False), ?_⟩ | refine ⟨_, w64 (by (show (_ : Prop)); first | omega | ((try dsimp only at *); (try simp only [lns] at *); omega)), ?_⟩ | refine ⟨fun _ => ⟨by (show (_ : Prop)); first | omega | ((try dsimp only at *); (try simp only [lns] at *); omega), by (show (_ : Prop)); first | omega | ((try dsimp only at *); (try simp only [lns] at *); omega), by (show (_ : Prop)); first | omega | ((try dsimp only at *); (try simp only [lns] at *); omega)⟩, ?_⟩ | refine ⟨by (show (_ : Prop)); first | omega | ((try dsimp only at *); (try simp only [lns] at *); omega), ?_⟩ | refine ⟨fun h => ⟨by (show (_ : Prop)); first | omega | ((try dsimp only at *); (try simp only [lns] at *); omega), by (show (_ : Prop)); first | omega | ((try dsimp only at *); (try simp only [lns] at *); omega)⟩, ?_⟩ | refine ⟨fun (r : List AV) hr c hc => by simp [encS] at hr; (try subst hr); simp at hc; (try subst hc); rfl, ?_⟩ | refine ⟨noOwn (by rfl), ?_⟩)
    exact ⟨trivial, eqN' (by rw [hn]; rfl), eqB (by rw [hn]; rfl), trivial⟩
  have h1 : 1 ≤ s.length ∧ s.length ≤ 6 := by
    have h1 : (decide ((s.length : Int) < 1) || decide ((s.length : Int) > 6)) = false := h1
    simp at h1; omega
  repeat ((conv => whnf); first | refine ⟨fun h => h, ?_⟩ | refine ⟨(by kernel_rfl : drawOk _ _ = true), ?_⟩ | refine ⟨fun (h : gtrue _) => by first | assumption | exact absurd (Eq.trans (Eq.symm h) (by assumption) : true = false) Bool.noConfusion, ?_⟩ | refine ⟨fun h => (absurd (Eq.trans (Eq.symm h) (by assumption) : true = false) Bool.noConfusion : False), ?_⟩ | refine ⟨_, w64 (by (show (_ : Prop)); first | omega | ((try dsimp only at *); (try simp only [lns] at *); omega)), ?_⟩ | refine ⟨fun _ => ⟨by (show (_ : Prop)); first | omega | ((try dsimp only at *); (try simp only [lns] at *); omega), by (show (_ : Prop)); first | omega | ((try dsimp only at *); (try simp only [lns] at *); omega), by (show (_ : Prop)); first | omega | ((try dsimp only at *); (try simp only [lns] at *); omega)⟩, ?_⟩ | refine ⟨by (show (_ : Prop)); first | omega | ((try dsimp only at *); (try simp only [lns] at *); omega), ?_⟩ | refine ⟨fun h => ⟨by (show (_ : Prop)); first | omega | ((try dsimp only at *); (try simp only [lns] at *); omega), by (show (_ : Prop)); first | omega | ((try dsimp only at *); (try simp only [lns] at *); omega)⟩, ?_⟩ | refine ⟨fun (r : List AV) hr c hc => by simp [encS] at hr; (try subst hr); simp at hc; (try subst hc); rfl, ?_⟩ | refine ⟨noOwn (by rfl), ?_⟩)
  refine loop_rule (fun i : Nat => ⟨[(0, ⟨none, .str s⟩), (4, ⟨none, .int .i64 (numV (s.take i))⟩), (5, ⟨none, .int .i64 i⟩)], [], 0⟩)
    (fun i => i ≤ s.length ∧ (s.take i).all isDg = true) (fun i => s.length - i) 0 ?_ ⟨by omega, rfl⟩ ?_
  · (refine ⟨?_, ?_, rfl⟩ <;> repeat' (first | exact rfl | exact trivial | refine ⟨?_, ?_⟩ | fail) <;> (conv => whnf))
  rintro i ⟨hi, hI⟩
  have hv : numV (s.take i) < 10 ^ 6 := numV_lt hI (by rw [List.length_take]; omega)
  (conv => whnf); refine ⟨fun h2 => ?_, fun h2 => ?_⟩
  · have h2 : i < s.length := by simpa using h2
    obtain ⟨b, hb⟩ := get_lt h2
    repeat ((conv => whnf); first | refine ⟨fun h => h, ?_⟩ | refine ⟨(by kernel_rfl : drawOk _ _ = true), ?_⟩ | refine ⟨fun (h : gtrue _) => by first | assumption | exact absurd (Eq.trans (Eq.symm h) (by assumption) : true = false) Bool.noConfusion, ?_⟩ | refine ⟨fun h => (absurd (Eq.trans (Eq.symm h) (by assumption) : true = false) Bool.noConfusion : False), ?_⟩ | refine ⟨_, w64 (by (show (_ : Prop)); first | omega | ((try dsimp only at *); (try simp only [lns] at *); omega)), ?_⟩ | refine ⟨fun _ => ⟨by (show (_ : Prop)); first | omega | ((try dsimp only at *); (try simp only [lns] at *); omega), by (show (_ : Prop)); first | omega | ((try dsimp only at *); (try simp only [lns] at *); omega), by (show (_ : Prop)); first | omega | ((try dsimp only at *); (try simp only [lns] at *); omega)⟩, ?_⟩ | refine ⟨by (show (_ : Prop)); first | omega | ((try dsimp only at *); (try simp only [lns] at *); omega), ?_⟩ | refine ⟨fun h => ⟨by (show (_ : Prop)); first | omega | ((try dsimp only at *); (try simp only [lns] at *); omega), by (show (_ : Prop)); first | omega | ((try dsimp only at *); (try simp only [lns] at *); omega)⟩, ?_⟩ | refine ⟨fun (r : List AV) hr c hc => by simp [encS] at hr; (try subst hr); simp at hc; (try subst hc); rfl, ?_⟩ | refine ⟨noOwn (by rfl), ?_⟩)
    refine ⟨b, fun _ => ⟨Int.natCast_nonneg _, hb⟩, ?_⟩
    repeat ((conv => whnf); first | refine ⟨fun h => h, ?_⟩ | refine ⟨(by kernel_rfl : drawOk _ _ = true), ?_⟩ | refine ⟨fun (h : gtrue _) => by first | assumption | exact absurd (Eq.trans (Eq.symm h) (by assumption) : true = false) Bool.noConfusion, ?_⟩ | refine ⟨fun h => (absurd (Eq.trans (Eq.symm h) (by assumption) : true = false) Bool.noConfusion : False), ?_⟩ | refine ⟨_, w64 (by (show (_ : Prop)); first | omega | ((try dsimp only at *); (try simp only [lns] at *); omega)), ?_⟩ | refine ⟨fun _ => ⟨by (show (_ : Prop)); first | omega | ((try dsimp only at *); (try simp only [lns] at *); omega), by (show (_ : Prop)); first | omega | ((try dsimp only at *); (try simp only [lns] at *); omega), by (show (_ : Prop)); first | omega | ((try dsimp only at *); (try simp only [lns] at *); omega)⟩, ?_⟩ | refine ⟨by (show (_ : Prop)); first | omega | ((try dsimp only at *); (try simp only [lns] at *); omega), ?_⟩ | refine ⟨fun h => ⟨by (show (_ : Prop)); first | omega | ((try dsimp only at *); (try simp only [lns] at *); omega), by (show (_ : Prop)); first | omega | ((try dsimp only at *); (try simp only [lns] at *); omega)⟩, ?_⟩ | refine ⟨fun (r : List AV) hr c hc => by simp [encS] at hr; (try subst hr); simp at hc; (try subst hc); rfl, ?_⟩ | refine ⟨noOwn (by rfl), ?_⟩)
    refine ⟨b, fun _ => ⟨Int.natCast_nonneg _, hb⟩, ?_⟩
    repeat ((conv => whnf); first | refine ⟨fun h => h, ?_⟩ | refine ⟨(by kernel_rfl : drawOk _ _ = true), ?_⟩ | refine ⟨fun (h : gtrue _) => by first | assumption | exact absurd (Eq.trans (Eq.symm h) (by assumption) : true = false) Bool.noConfusion, ?_⟩ | refine ⟨fun h => (absurd (Eq.trans (Eq.symm h) (by assumption) : true = false) Bool.noConfusion : False), ?_⟩ | refine ⟨_, w64 (by (show (_ : Prop)); first | omega | ((try dsimp only at *); (try simp only [lns] at *); omega)), ?_⟩ | refine ⟨fun _ => ⟨by (show (_ : Prop)); first | omega | ((try dsimp only at *); (try simp only [lns] at *); omega), by (show (_ : Prop)); first | omega | ((try dsimp only at *); (try simp only [lns] at *); omega), by (show (_ : Prop)); first | omega | ((try dsimp only at *); (try simp only [lns] at *); omega)⟩, ?_⟩ | refine ⟨by (show (_ : Prop)); first | omega | ((try dsimp only at *); (try simp only [lns] at *); omega), ?_⟩ | refine ⟨fun h => ⟨by (show (_ : Prop)); first | omega | ((try dsimp only at *); (try simp only [lns] at *); omega), by (show (_ : Prop)); first | omega | ((try dsimp only at *); (try simp only [lns] at *); omega)⟩, ?_⟩ | refine ⟨fun (r : List AV) hr c hc => by simp [encS] at hr; (try subst hr); simp at hc; (try subst hc); rfl, ?_⟩ | refine ⟨noOwn (by rfl), ?_⟩)
    (conv => whnf); refine ⟨fun h3 => ?_, fun h3 => ?_⟩
    · have h3 : (decide ((b.toNat : Int) < 48) || decide ((b.toNat : Int) > 57)) = true := h3
      have hd : isDg b = false := by
        unfold isDg
        simp at h3 ⊢
        omega
      have hn : num s = none := by
        unfold num
        rw [if_neg]
        unfold numOk
        rw [all_no hb hd]
        simp
      repeat ((conv => whnf); first | refine ⟨fun h => h, ?_⟩ | refine ⟨(by kernel_rfl : drawOk _ _ = true), ?_⟩ | refine ⟨fun (h : gtrue _) => by first | assumption | exact absurd (Eq.trans (Eq.symm h) (by assumption) : true = false) Bool.noConfusion, ?_⟩ | refine ⟨fun h => (absurd (Eq.trans (Eq.symm h) (by assumption) : true = false) Bool.noConfusion : False), ?_⟩ | refine ⟨_, w64 (by (show (_ : Prop)); first | omega | ((try dsimp only at *); (try simp only [lns] at *); omega)), ?_⟩ | refine ⟨fun _ => ⟨by (show (_ : Prop)); first | omega | ((try dsimp only at *); (try simp only [lns] at *); omega), by (show (_ : Prop)); first | omega | ((try dsimp only at *); (try simp only [lns] at *); omega), by (show (_ : Prop)); first | omega | ((try dsimp only at *); (try simp only [lns] at *); omega)⟩, ?_⟩ | refine ⟨by (show (_ : Prop)); first | omega | ((try dsimp only at *); (try simp only [lns] at *); omega), ?_⟩ | refine ⟨fun h => ⟨by (show (_ : Prop)); first | omega | ((try dsimp only at *); (try simp only [lns] at *); omega), by (show (_ : Prop)); first | omega | ((try dsimp only at *); (try simp only [lns] at *); omega)⟩, ?_⟩ | refine ⟨fun (r : List AV) hr c hc => by simp [encS] at hr; (try subst hr); simp at hc; (try subst hc); rfl, ?_⟩ | refine ⟨noOwn (by rfl), ?_⟩)
      exact ⟨trivial, eqN' (by rw [hn]; rfl), eqB (by rw [hn]; rfl), trivial⟩
    · have h3 : (decide ((b.toNat : Int) < 48) || decide ((b.toNat : Int) > 57)) = false := h3
      have hd : isDg b = true := by
        unfold isDg
        simp at h3 ⊢
        omega
      have hd2 := isDg_le hd
      have hsu := numV_succ hb
      repeat ((conv => whnf); first | refine ⟨fun h => h, ?_⟩ | refine ⟨(by kernel_rfl : drawOk _ _ = true), ?_⟩ | refine ⟨fun (h : gtrue _) => by first | assumption | exact absurd (Eq.trans (Eq.symm h) (by assumption) : true = false) Bool.noConfusion, ?_⟩ | refine ⟨fun h => (absurd (Eq.trans (Eq.symm h) (by assumption) : true = false) Bool.noConfusion : False), ?_⟩ | refine ⟨_, w64 (by (show (_ : Prop)); first | omega | ((try dsimp only at *); (try simp only [lns] at *); omega)), ?_⟩ | refine ⟨fun _ => ⟨by (show (_ : Prop)); first | omega | ((try dsimp only at *); (try simp only [lns] at *); omega), by (show (_ : Prop)); first | omega | ((try dsimp only at *); (try simp only [lns] at *); omega), by (show (_ : Prop)); first | omega | ((try dsimp only at *); (try simp only [lns] at *); omega)⟩, ?_⟩ | refine ⟨by (show (_ : Prop)); first | omega | ((try dsimp only at *); (try simp only [lns] at *); omega), ?_⟩ | refine ⟨fun h => ⟨by (show (_ : Prop)); first | omega | ((try dsimp only at *); (try simp only [lns] at *); omega), by (show (_ : Prop)); first | omega | ((try dsimp only at *); (try simp only [lns] at *); omega)⟩, ?_⟩ | refine ⟨fun (r : List AV) hr c hc => by simp [encS] at hr; (try subst hr); simp at hc; (try subst hc); rfl, ?_⟩ | refine ⟨noOwn (by rfl), ?_⟩)
      refine ⟨b, fun _ => ⟨Int.natCast_nonneg _, hb⟩, ?_⟩
      repeat ((conv => whnf); first | refine ⟨fun h => h, ?_⟩ | refine ⟨(by kernel_rfl : drawOk _ _ = true), ?_⟩ | refine ⟨fun (h : gtrue _) => by first | assumption | exact absurd (Eq.trans (Eq.symm h) (by assumption) : true = false) Bool.noConfusion, ?_⟩ | refine ⟨fun h => (absurd (Eq.trans (Eq.symm h) (by assumption) : true = false) Bool.noConfusion : False), ?_⟩ | refine ⟨_, w64 (by (show (_ : Prop)); first | omega | ((try dsimp only at *); (try simp only [lns] at *); omega)), ?_⟩ | refine ⟨fun _ => ⟨by (show (_ : Prop)); first | omega | ((try dsimp only at *); (try simp only [lns] at *); omega), by (show (_ : Prop)); first | omega | ((try dsimp only at *); (try simp only [lns] at *); omega), by (show (_ : Prop)); first | omega | ((try dsimp only at *); (try simp only [lns] at *); omega)⟩, ?_⟩ | refine ⟨by (show (_ : Prop)); first | omega | ((try dsimp only at *); (try simp only [lns] at *); omega), ?_⟩ | refine ⟨fun h => ⟨by (show (_ : Prop)); first | omega | ((try dsimp only at *); (try simp only [lns] at *); omega), by (show (_ : Prop)); first | omega | ((try dsimp only at *); (try simp only [lns] at *); omega)⟩, ?_⟩ | refine ⟨fun (r : List AV) hr c hc => by simp [encS] at hr; (try subst hr); simp at hc; (try subst hc); rfl, ?_⟩ | refine ⟨noOwn (by rfl), ?_⟩)
      refine again (i + 1) ?_ ⟨h2, all_take_succ hI hb hd⟩ (by first | omega | (simp; done) | (simp; omega))
      (refine ⟨?_, ?_, rfl⟩ <;> repeat' (first | exact rfl | exact trivial | refine ⟨?_, ?_⟩ | fail) <;> (conv => whnf))
      omega
  · have h2 : i = s.length := by
      have : ¬ i < s.length := by simpa using h2
      omega
    subst h2
    rw [List.take_length] at hI hv ⊢
    conv => whnf
    refine ⟨((numV s : Nat) : Int), rfl, fun _ => (show 0 ≤ (numV s : Int) ∧ (numV s : Int) ≤ 1000000000 by omega), ?_⟩
    have hn0 : numOk s = (dig (numV s) == s) := by
      unfold numOk
      rw [hI]
      simp [h1.1, h1.2]
    (conv => whnf); refine ⟨fun h3 => ?_, fun h3 => ?_⟩
    · have h3 : (!(dig (numV s) == s)) = true := h3
      have hn : num s = none := by
        unfold num
        rw [if_neg]
        rw [hn0]
        simpa using h3
      repeat ((conv => whnf); first | refine ⟨fun h => h, ?_⟩ | refine ⟨(by kernel_rfl : drawOk _ _ = true), ?_⟩ | refine ⟨fun (h : gtrue _) => by first | assumption | exact absurd (Eq.trans (Eq.symm h) (by assumption) : true = false) Bool.noConfusion, ?_⟩ | refine ⟨fun h => (absurd (Eq.trans (Eq.symm h) (by assumption) : true = false) Bool.noConfusion : False), ?_⟩ | refine ⟨_, w64 (by (show (_ : Prop)); first | omega | ((try dsimp only at *); (try simp only [lns] at *); omega)), ?_⟩ | refine ⟨fun _ => ⟨by (show (_ : Prop)); first | omega | ((try dsimp only at *); (try simp only [lns] at *); omega), by (show (_ : Prop)); first | omega | ((try dsimp only at *); (try simp only [lns] at *); omega), by (show (_ : Prop)); first | omega | ((try dsimp only at *); (try simp only [lns] at *); omega)⟩, ?_⟩ | refine ⟨by (show (_ : Prop)); first | omega | ((try dsimp only at *); (try simp only [lns] at *); omega), ?_⟩ | refine ⟨fun h => ⟨by (show (_ : Prop)); first | omega | ((try dsimp only at *); (try simp only [lns] at *); omega), by (show (_ : Prop)); first | omega | ((try dsimp only at *); (try simp only [lns] at *); omega)⟩, ?_⟩ | refine ⟨fun (r : List AV) hr c hc => by simp [encS] at hr; (try subst hr); simp at hc; (try subst hc); rfl, ?_⟩ | refine ⟨noOwn (by rfl), ?_⟩)
      exact ⟨trivial, eqN' (by rw [hn]; rfl), eqB (by rw [hn]; rfl), trivial⟩
    · have h3 : (!(dig (numV s) == s)) = false := h3
      have hn : num s = some (numV s) := by
        unfold num
        rw [if_pos]
        rw [hn0]
        simpa using h3
      repeat ((conv => whnf); first | refine ⟨fun h => h, ?_⟩ | refine ⟨(by kernel_rfl : drawOk _ _ = true), ?_⟩ | refine ⟨fun (h : gtrue _) => by first | assumption | exact absurd (Eq.trans (Eq.symm h) (by assumption) : true = false) Bool.noConfusion, ?_⟩ | refine ⟨fun h => (absurd (Eq.trans (Eq.symm h) (by assumption) : true = false) Bool.noConfusion : False), ?_⟩ | refine ⟨_, w64 (by (show (_ : Prop)); first | omega | ((try dsimp only at *); (try simp only [lns] at *); omega)), ?_⟩ | refine ⟨fun _ => ⟨by (show (_ : Prop)); first | omega | ((try dsimp only at *); (try simp only [lns] at *); omega), by (show (_ : Prop)); first | omega | ((try dsimp only at *); (try simp only [lns] at *); omega), by (show (_ : Prop)); first | omega | ((try dsimp only at *); (try simp only [lns] at *); omega)⟩, ?_⟩ | refine ⟨by (show (_ : Prop)); first | omega | ((try dsimp only at *); (try simp only [lns] at *); omega), ?_⟩ | refine ⟨fun h => ⟨by (show (_ : Prop)); first | omega | ((try dsimp only at *); (try simp only [lns] at *); omega), by (show (_ : Prop)); first | omega | ((try dsimp only at *); (try simp only [lns] at *); omega)⟩, ?_⟩ | refine ⟨fun (r : List AV) hr c hc => by simp [encS] at hr; (try subst hr); simp at hc; (try subst hc); rfl, ?_⟩ | refine ⟨noOwn (by rfl), ?_⟩)
      exact ⟨trivial, eqN' (by rw [hn]; rfl), eqB (by rw [hn]; rfl), trivial⟩
theorem ok_spec_Number : ConOk Tryd.prog 38 c_spec_Number := meets_ok (tabT _ _) (FOk.cons ok_spec_Digits FOk.nil) mixed Tryd.func38 rfl Tryd.call38 (by decide) (by kernel_rfl) m_spec_Number (by intro _ (y : Str) _; exact ⟨by simp [c_spec_Number, con, conG, conW, AV.noRd, noRdCells, noRdRows, noRdRows_map', encS, encO], by simp [c_spec_Number, con, conG, conW, AV.noRd, noRdCells, noRdRows, noRdRows_map', encS, encO]⟩) (by intro (y : Str) _; first | (simp [c_spec_Number, con, conG, conW, conP, AV.free, freeCells, freeRows, freeRows_map, encS, encO]; done) | (obtain ⟨_, _⟩ := y; simp [c_spec_Number, con, conG, conW, conP, AV.free, freeCells, freeRows, freeRows_map, encS, encO]; done) | (obtain ⟨_, _, _⟩ := y; simp [c_spec_Number, con, conG, conW, conP, AV.free, freeCells, freeRows, freeRows_map, encS, encO]; done))
noncomputable def c_impl_Number : PCon := conG gwErr [mC] false Str encS (fun s => s.length ≤ 16777216) (fun s => .tup [.int .i64 ((num s).getD 0 : Nat), .bool (num s).isSome])
noncomputable def E_impl_Number : Env := ⟨lookup tyTab, lookup [(35, c_impl_Digits), (53, c_impl_within), (59, c_strconv_Atoi)], [0, 2, 3, 4, 5, 23]⟩
set_option maxRecDepth 100000 in
set_option maxHeartbeats 4000000 in
theorem m_impl_Number : Meets E_impl_Number (codeOf Tryd.f41) Tryd.f41.results.toList c_impl_Number := by
  intro (s : Str) (hs : s.length ≤ 16777216)
  refine ⟨trivial, ?_⟩
  by_cases hq : ∃ v, Lib.atoiAll s = .ok v
  · obtain ⟨v, hq⟩ := hq
    have hn := num_atoi hq
    conv => whnf
    refine ⟨(s, some v), rfl, fun _ => ⟨hs, fun u => by rw [hq]; exact ⟨fun e => by rw [Option.some.inj e], fun e => by injection e with e; rw [e]⟩⟩, ?_⟩
    repeat ((conv => whnf); first | refine ⟨fun h => h, ?_⟩ | refine ⟨(by kernel_rfl : drawOk _ _ = true), ?_⟩ | refine ⟨fun (h : gtrue _) => by first | assumption | exact absurd (Eq.trans (Eq.symm h) (by assumption) : true = false) Bool.noConfusion, ?_⟩ | refine ⟨fun h => (absurd (Eq.trans (Eq.symm h) (by assumption) : true = false) Bool.noConfusion : False), ?_⟩ | refine ⟨_, w64 (by (show (_ : Prop)); first | omega | ((try dsimp only at *); (try simp only [lns] at *); omega)), ?_⟩ | refine ⟨fun _ => ⟨by (show (_ : Prop)); first | omega | ((try dsimp only at *); (try simp only [lns] at *); omega), by (show (_ : Prop)); first | omega | ((try dsimp only at *); (try simp only [lns] at *); omega), by (show (_ : Prop)); first | omega | ((try dsimp only at *); (try simp only [lns] at *); omega)⟩, ?_⟩ | refine ⟨by (show (_ : Prop)); first | omega | ((try dsimp only at *); (try simp only [lns] at *); omega), ?_⟩ | refine ⟨fun h => ⟨by (show (_ : Prop)); first | omega | ((try dsimp only at *); (try simp only [lns] at *); omega), by (show (_ : Prop)); first | omega | ((try dsimp only at *); (try simp only [lns] at *); omega)⟩, ?_⟩ | refine ⟨fun (r : List AV) hr c hc => by simp [encS] at hr; (try subst hr); simp at hc; (try subst hc); rfl, ?_⟩ | refine ⟨noOwn (by rfl), ?_⟩)
    refine ⟨(v, 0, 999999), rfl, fun _ => trivial, ?_⟩
    repeat ((conv => whnf); first | refine ⟨fun h => h, ?_⟩ | refine ⟨(by kernel_rfl : drawOk _ _ = true), ?_⟩ | refine ⟨fun (h : gtrue _) => by first | assumption | exact absurd (Eq.trans (Eq.symm h) (by assumption) : true = false) Bool.noConfusion, ?_⟩ | refine ⟨fun h => (absurd (Eq.trans (Eq.symm h) (by assumption) : true = false) Bool.noConfusion : False), ?_⟩ | refine ⟨_, w64 (by (show (_ : Prop)); first | omega | ((try dsimp only at *); (try simp only [lns] at *); omega)), ?_⟩ | refine ⟨fun _ => ⟨by (show (_ : Prop)); first | omega | ((try dsimp only at *); (try simp only [lns] at *); omega), by (show (_ : Prop)); first | omega | ((try dsimp only at *); (try simp only [lns] at *); omega), by (show (_ : Prop)); first | omega | ((try dsimp only at *); (try simp only [lns] at *); omega)⟩, ?_⟩ | refine ⟨by (show (_ : Prop)); first | omega | ((try dsimp only at *); (try simp only [lns] at *); omega), ?_⟩ | refine ⟨fun h => ⟨by (show (_ : Prop)); first | omega | ((try dsimp only at *); (try simp only [lns] at *); omega), by (show (_ : Prop)); first | omega | ((try dsimp only at *); (try simp only [lns] at *); omega)⟩, ?_⟩ | refine ⟨fun (r : List AV) hr c hc => by simp [encS] at hr; (try subst hr); simp at hc; (try subst hc); rfl, ?_⟩ | refine ⟨noOwn (by rfl), ?_⟩)
    refine ⟨v, rfl, fun h => ?_, ?_⟩
    · have h : (!inB v 0 999999) = false := by revert h; cases inB v 0 999999 <;> simp [gtrue]
      have h : inB v 0 999999 = true := by simpa using h
      rw [inB_iff] at h
      show 0 ≤ v ∧ v ≤ 1000000000
      omega
    repeat ((conv => whnf); first | refine ⟨fun h => h, ?_⟩ | refine ⟨(by kernel_rfl : drawOk _ _ = true), ?_⟩ | refine ⟨fun (h : gtrue _) => by first | assumption | exact absurd (Eq.trans (Eq.symm h) (by assumption) : true = false) Bool.noConfusion, ?_⟩ | refine ⟨fun h => (absurd (Eq.trans (Eq.symm h) (by assumption) : true = false) Bool.noConfusion : False), ?_⟩ | refine ⟨_, w64 (by (show (_ : Prop)); first | omega | ((try dsimp only at *); (try simp only [lns] at *); omega)), ?_⟩ | refine ⟨fun _ => ⟨by (show (_ : Prop)); first | omega | ((try dsimp only at *); (try simp only [lns] at *); omega), by (show (_ : Prop)); first | omega | ((try dsimp only at *); (try simp only [lns] at *); omega), by (show (_ : Prop)); first | omega | ((try dsimp only at *); (try simp only [lns] at *); omega)⟩, ?_⟩ | refine ⟨by (show (_ : Prop)); first | omega | ((try dsimp only at *); (try simp only [lns] at *); omega), ?_⟩ | refine ⟨fun h => ⟨by (show (_ : Prop)); first | omega | ((try dsimp only at *); (try simp only [lns] at *); omega), by (show (_ : Prop)); first | omega | ((try dsimp only at *); (try simp only [lns] at *); omega)⟩, ?_⟩ | refine ⟨fun (r : List AV) hr c hc => by simp [encS] at hr; (try subst hr); simp at hc; (try subst hc); rfl, ?_⟩ | refine ⟨noOwn (by rfl), ?_⟩)
    (conv => whnf); refine ⟨fun h3 => ?_, fun h3 => ?_⟩
    · have h3 : (!inB v 0 999999 || !(dig v.toNat == s)) = true := h3
      have hn : num s = none := by rw [hn, if_neg]; revert h3; cases inB v 0 999999 <;> cases (dig v.toNat == s) <;> simp
      repeat ((conv => whnf); first | refine ⟨fun h => h, ?_⟩ | refine ⟨(by kernel_rfl : drawOk _ _ = true), ?_⟩ | refine ⟨fun (h : gtrue _) => by first | assumption | exact absurd (Eq.trans (Eq.symm h) (by assumption) : true = false) Bool.noConfusion, ?_⟩ | refine ⟨fun h => (absurd (Eq.trans (Eq.symm h) (by assumption) : true = false) Bool.noConfusion : False), ?_⟩ | refine ⟨_, w64 (by (show (_ : Prop)); first | omega | ((try dsimp only at *); (try simp only [lns] at *); omega)), ?_⟩ | refine ⟨fun _ => ⟨by (show (_ : Prop)); first | omega | ((try dsimp only at *); (try simp only [lns] at *); omega), by (show (_ : Prop)); first | omega | ((try dsimp only at *); (try simp only [lns] at *); omega), by (show (_ : Prop)); first | omega | ((try dsimp only at *); (try simp only [lns] at *); omega)⟩, ?_⟩ | refine ⟨by (show (_ : Prop)); first | omega | ((try dsimp only at *); (try simp only [lns] at *); omega), ?_⟩ | refine ⟨fun h => ⟨by (show (_ : Prop)); first | omega | ((try dsimp only at *); (try simp only [lns] at *); omega), by (show (_ : Prop)); first | omega | ((try dsimp only at *); (try simp only [lns] at *); omega)⟩, ?_⟩ | refine ⟨fun (r : List AV) hr c hc => by simp [encS] at hr; (try subst hr); simp at hc; (try subst hc); rfl, ?_⟩ | refine ⟨noOwn (by rfl), ?_⟩)
      exact ⟨trivial, eqN' (by rw [hn]; rfl), eqB (by rw [hn]; rfl), trivial⟩
    · have h3 : (!inB v 0 999999 || !(dig v.toNat == s)) = false := h3
      have hb : inB v 0 999999 = true := by revert h3; cases inB v 0 999999 <;> simp
      have hn : num s = some v.toNat := by rw [hn, if_pos]; revert h3; cases inB v 0 999999 <;> cases (dig v.toNat == s) <;> simp
      rw [inB_iff] at hb
      repeat ((conv => whnf); first | refine ⟨fun h => h, ?_⟩ | refine ⟨(by kernel_rfl : drawOk _ _ = true), ?_⟩ | refine ⟨fun (h : gtrue _) => by first | assumption | exact absurd (Eq.trans (Eq.symm h) (by assumption) : true = false) Bool.noConfusion, ?_⟩ | refine ⟨fun h => (absurd (Eq.trans (Eq.symm h) (by assumption) : true = false) Bool.noConfusion : False), ?_⟩ | refine ⟨_, w64 (by (show (_ : Prop)); first | omega | ((try dsimp only at *); (try simp only [lns] at *); omega)), ?_⟩ | refine ⟨fun _ => ⟨by (show (_ : Prop)); first | omega | ((try dsimp only at *); (try simp only [lns] at *); omega), by (show (_ : Prop)); first | omega | ((try dsimp only at *); (try simp only [lns] at *); omega), by (show (_ : Prop)); first | omega | ((try dsimp only at *); (try simp only [lns] at *); omega)⟩, ?_⟩ | refine ⟨by (show (_ : Prop)); first | omega | ((try dsimp only at *); (try simp only [lns] at *); omega), ?_⟩ | refine ⟨fun h => ⟨by (show (_ : Prop)); first | omega | ((try dsimp only at *); (try simp only [lns] at *); omega), by (show (_ : Prop)); first | omega | ((try dsimp only at *); (try simp only [lns] at *); omega)⟩, ?_⟩ | refine ⟨fun (r : List AV) hr c hc => by simp [encS] at hr; (try subst hr); simp at hc; (try subst hc); rfl, ?_⟩ | refine ⟨noOwn (by rfl), ?_⟩)
      exact ⟨trivial, eqN' (by rw [hn]; show v = ((v.toNat : Nat) : Int); omega), eqB (by rw [hn]; rfl), trivial⟩
  · have hn : num s = none := num_fail fun v hv => hq ⟨v, hv⟩
    conv => whnf
    refine ⟨(s, none), rfl, fun _ => ⟨hs, fun u => ⟨fun e => absurd e (by simp), fun e => absurd ⟨u, e⟩ hq⟩⟩, ?_⟩
    repeat ((conv => whnf); first | refine ⟨fun h => h, ?_⟩ | refine ⟨(by kernel_rfl : drawOk _ _ = true), ?_⟩ | refine ⟨fun (h : gtrue _) => by first | assumption | exact absurd (Eq.trans (Eq.symm h) (by assumption) : true = false) Bool.noConfusion, ?_⟩ | refine ⟨fun h => (absurd (Eq.trans (Eq.symm h) (by assumption) : true = false) Bool.noConfusion : False), ?_⟩ | refine ⟨_, w64 (by (show (_ : Prop)); first | omega | ((try dsimp only at *); (try simp only [lns] at *); omega)), ?_⟩ | refine ⟨fun _ => ⟨by (show (_ : Prop)); first | omega | ((try dsimp only at *); (try simp only [lns] at *); omega), by (show (_ : Prop)); first | omega | ((try dsimp only at *); (try simp only [lns] at *); omega), by (show (_ : Prop)); first | omega | ((try dsimp only at *); (try simp only [lns] at *); omega)⟩, ?_⟩ | refine ⟨by (show (_ : Prop)); first | omega | ((try dsimp only at *); (try simp only [lns] at *); omega), ?_⟩ | refine ⟨fun h => ⟨by (show (_ : Prop)); first | omega | ((try dsimp only at *); (try simp only [lns] at *); omega), by (show (_ : Prop)); first | omega | ((try dsimp only at *); (try simp only [lns] at *); omega)⟩, ?_⟩ | refine ⟨fun (r : List AV) hr c hc => by simp [encS] at hr; (try subst hr); simp at hc; (try subst hc); rfl, ?_⟩ | refine ⟨noOwn (by rfl), ?_⟩)
    refine ⟨(atoiZ s, 0, 999999), rfl, fun _ => trivial, ?_⟩
    repeat ((conv => whnf); first | refine ⟨fun h => h, ?_⟩ | refine ⟨(by kernel_rfl : drawOk _ _ = true), ?_⟩ | refine ⟨fun (h : gtrue _) => by first | assumption | exact absurd (Eq.trans (Eq.symm h) (by assumption) : true = false) Bool.noConfusion, ?_⟩ | refine ⟨fun h => (absurd (Eq.trans (Eq.symm h) (by assumption) : true = false) Bool.noConfusion : False), ?_⟩ | refine ⟨_, w64 (by (show (_ : Prop)); first | omega | ((try dsimp only at *); (try simp only [lns] at *); omega)), ?_⟩ | refine ⟨fun _ => ⟨by (show (_ : Prop)); first | omega | ((try dsimp only at *); (try simp only [lns] at *); omega), by (show (_ : Prop)); first | omega | ((try dsimp only at *); (try simp only [lns] at *); omega), by (show (_ : Prop)); first | omega | ((try dsimp only at *); (try simp only [lns] at *); omega)⟩, ?_⟩ | refine ⟨by (show (_ : Prop)); first | omega | ((try dsimp only at *); (try simp only [lns] at *); omega), ?_⟩ | refine ⟨fun h => ⟨by (show (_ : Prop)); first | omega | ((try dsimp only at *); (try simp only [lns] at *); omega), by (show (_ : Prop)); first | omega | ((try dsimp only at *); (try simp only [lns] at *); omega)⟩, ?_⟩ | refine ⟨fun (r : List AV) hr c hc => by simp [encS] at hr; (try subst hr); simp at hc; (try subst hc); rfl, ?_⟩ | refine ⟨noOwn (by rfl), ?_⟩)
    refine ⟨atoiZ s, rfl, fun h => absurd h (by simp [gtrue]), ?_⟩
    repeat ((conv => whnf); first | refine ⟨fun h => h, ?_⟩ | refine ⟨(by kernel_rfl : drawOk _ _ = true), ?_⟩ | refine ⟨fun (h : gtrue _) => by first | assumption | exact absurd (Eq.trans (Eq.symm h) (by assumption) : true = false) Bool.noConfusion, ?_⟩ | refine ⟨fun h => (absurd (Eq.trans (Eq.symm h) (by assumption) : true = false) Bool.noConfusion : False), ?_⟩ | refine ⟨_, w64 (by (show (_ : Prop)); first | omega | ((try dsimp only at *); (try simp only [lns] at *); omega)), ?_⟩ | refine ⟨fun _ => ⟨by (show (_ : Prop)); first | omega | ((try dsimp only at *); (try simp only [lns] at *); omega), by (show (_ : Prop)); first | omega | ((try dsimp only at *); (try simp only [lns] at *); omega), by (show (_ : Prop)); first | omega | ((try dsimp only at *); (try simp only [lns] at *); omega)⟩, ?_⟩ | refine ⟨by (show (_ : Prop)); first | omega | ((try dsimp only at *); (try simp only [lns] at *); omega), ?_⟩ | refine ⟨fun h => ⟨by (show (_ : Prop)); first | omega | ((try dsimp only at *); (try simp only [lns] at *); omega), by (show (_ : Prop)); first | omega | ((try dsimp only at *); (try simp only [lns] at *); omega)⟩, ?_⟩ | refine ⟨fun (r : List AV) hr c hc => by simp [encS] at hr; (try subst hr); simp at hc; (try subst hc); rfl, ?_⟩ | refine ⟨noOwn (by rfl), ?_⟩)
    (conv => whnf); refine ⟨fun h3 => ?_, fun h3 => ?_⟩
    · repeat ((conv => whnf); first | refine ⟨fun h => h, ?_⟩ | refine ⟨(by kernel_rfl : drawOk _ _ = true), ?_⟩ | refine ⟨fun (h : gtrue _) => by first | assumption | exact absurd (Eq.trans (Eq.symm h) (by assumption) : true = false) Bool.noConfusion, ?_⟩ | refine ⟨fun h => (absurd (Eq.trans (Eq.symm h) (by assumption) : true = false) Bool.noConfusion : False), ?_⟩ | refine ⟨_, w64 (by (show (_ : Prop)); first | omega | ((try dsimp only at *); (try simp only [lns] at *); omega)), ?_⟩ | refine ⟨fun _ => ⟨by (show (_ : Prop)); first | omega | ((try dsimp only at *); (try simp only [lns] at *); omega), by (show (_ : Prop)); first | omega | ((try dsimp only at *); (try simp only [lns] at *); omega), by (show (_ : Prop)); first | omega | ((try dsimp only at *); (try simp only [lns] at *); omega)⟩, ?_⟩ | refine ⟨by (show (_ : Prop)); first | omega | ((try dsimp only at *); (try simp only [lns] at *); omega), ?_⟩ | refine ⟨fun h => ⟨by (show (_ : Prop)); first | omega | ((try dsimp only at *); (try simp only [lns] at *); omega), by (show (_ : Prop)); first | omega | ((try dsimp only at *); (try simp only [lns] at *); omega)⟩, ?_⟩ | refine ⟨fun (r : List AV) hr c hc => by simp [encS] at hr; (try subst hr); simp at hc; (try subst hc); rfl, ?_⟩ | refine ⟨noOwn (by rfl), ?_⟩)
      exact ⟨trivial, eqN' (by rw [hn]; rfl), eqB (by rw [hn]; rfl), trivial⟩
    · cases h3
theorem ok_impl_Number : ConOk Tryd.prog 41 c_impl_Number := meets_ok (tabT _ _) (FOk.cons ok_impl_Digits (FOk.cons ok_impl_within (FOk.cons ok_strconv_Atoi FOk.nil))) mixed Tryd.func41 rfl Tryd.call41 (by decide) (by kernel_rfl) m_impl_Number (by intro _ (y : Str) _; exact ⟨by simp [c_impl_Number, con, conG, conW, AV.noRd, noRdCells, noRdRows, noRdRows_map', encS, encO], by simp [c_impl_Number, con, conG, conW, AV.noRd, noRdCells, noRdRows, noRdRows_map', encS, encO]⟩) (by intro (y : Str) _; first | (simp [c_impl_Number, con, conG, conW, conP, AV.free, freeCells, freeRows, freeRows_map, encS, encO]; done) | (obtain ⟨_, _⟩ := y; simp [c_impl_Number, con, conG, conW, conP, AV.free, freeCells, freeRows, freeRows_map, encS, encO]; done) | (obtain ⟨_, _, _⟩ := y; simp [c_impl_Number, con, conG, conW, conP, AV.free, freeCells, freeRows, freeRows_map, encS, encO]; done))
end Go.GH

set_option linter.unusedVariables false
set_option linter.unusedSimpArgs false
namespace Go.GH
open Go Go.Proofs
noncomputable def c_impl_hexBytes : PCon := con [mC] false Str encS (fun s => s.length ≤ 16777216) (fun s => .tup [.str ((unhex s).getD []), .bool (unhex s).isSome])
noncomputable def E_impl_hexBytes : Env := ⟨lookup tyTab, lookup [(60, c_strings_IndexByte)], [0, 2, 3, 4, 5, 6, 7, 11, 16, 33]⟩
set_option maxRecDepth 100000 in
set_option maxHeartbeats 4000000 in
theorem m_impl_hexBytes : Meets E_impl_hexBytes (codeOf Tryd.f42) Tryd.f42.results.toList c_impl_hexBytes := by
  intro (s : Str) (hs : s.length ≤ 16777216)
  refine ⟨trivial, ?_⟩
  repeat ((conv => whnf); first | refine ⟨fun h => h, ?_⟩ | refine ⟨(by kernel_rfl : drawOk _ _ = true), ?_⟩ | refine ⟨fun (h : gtrue _) => by first | assumption | exact absurd (Eq.trans (Eq.symm h) (by assumption) : true = false) Bool.noConfusion, ?_⟩ | refine ⟨fun h => (absurd (Eq.trans (Eq.symm h) (by assumption) : true = false) Bool.noConfusion : False), ?_⟩ | refine ⟨_, w64 (by (show (_ : Prop)); first | omega | ((try dsimp only at *); (try simp only [lns] at *); omega)), ?_⟩ | refine ⟨fun _ => ⟨by (show (_ : Prop)); first | omega | ((try dsimp only at *); (try simp only [lns] at *); omega), by (show (_ : Prop)); first | omega | ((try dsimp only at *); (try simp only [lns] at *); omega), by (show (_ : Prop)); first | omega | ((try dsimp only at *); (try simp only [lns] at *); omega)⟩, ?_⟩ | refine ⟨by (show (_ : Prop)); first | omega | ((try dsimp only at *); (try simp only [lns] at *); omega), ?_⟩ | refine ⟨fun h => ⟨by (show (_ : Prop)); first | omega | ((try dsimp only at *); (try simp only [lns] at *); omega), by (show (_ : Prop)); first | omega | ((try dsimp only at *); (try simp only [lns] at *); omega)⟩, ?_⟩ | refine ⟨fun (r : List AV) hr c hc => by simp [encS] at hr; (try subst hr); simp at hc; (try subst hc); rfl, ?_⟩ | refine ⟨noOwn (by rfl), ?_⟩)
  refine ⟨((s.length % 2 : Nat) : Int), rfl, ?_⟩
  (conv => whnf); refine ⟨fun h1 => ?_, fun h1 => ?_⟩
  · have h1 : s.length % 2 = 1 := by simp at h1; omega
    have hn := unhex_odd s h1
    repeat ((conv => whnf); first | refine ⟨fun h => h, ?_⟩ | refine ⟨(by kernel_rfl : drawOk _ _ = true), ?_⟩ | refine ⟨fun (h : gtrue _) => by first | assumption | exact absurd (Eq.trans (Eq.symm h) (by assumption) : true = false) Bool.noConfusion, ?_⟩ | refine ⟨fun h => (absurd (Eq.trans (Eq.symm h) (by assumption) : true = false) Bool.noConfusion : False), ?_⟩ | refine ⟨_, w64 (by (show (_ : Prop)); first | omega | ((try dsimp only at *); (try simp only [lns] at *); omega)), ?_⟩ | refine ⟨fun _ => ⟨by (show (_ : Prop)); first | omega | ((try dsimp only at *); (try simp only [lns] at *); omega), by (show (_ : Prop)); first | omega | ((try dsimp only at *); (try simp only [lns] at *); omega), by (show (_ : Prop)); first | omega | ((try dsimp only at *); (try simp only [lns] at *); omega)⟩, ?_⟩ | refine ⟨by (show (_ : Prop)); first | omega | ((try dsimp only at *); (try simp only [lns] at *); omega), ?_⟩ | refine ⟨fun h => ⟨by (show (_ : Prop)); first | omega | ((try dsimp only at *); (try simp only [lns] at *); omega), by (show (_ : Prop)); first | omega | ((try dsimp only at *); (try simp only [lns] at *); omega)⟩, ?_⟩ | refine ⟨fun (r : List AV) hr c hc => by simp [encS] at hr; (try subst hr); simp at hc; (try subst hc); rfl, ?_⟩ | refine ⟨noOwn (by rfl), ?_⟩)
    exact ⟨trivial, eqS (by rw [hn]; rfl), eqB (by rw [hn]; rfl), trivial⟩
  have h1 : s.length % 2 = 0 := by simp at h1; omega
  repeat ((conv => whnf); first | refine ⟨fun h => h, ?_⟩ | refine ⟨(by kernel_rfl : drawOk _ _ = true), ?_⟩ | refine ⟨fun (h : gtrue _) => by first | assumption | exact absurd (Eq.trans (Eq.symm h) (by assumption) : true = false) Bool.noConfusion, ?_⟩ | refine ⟨fun h => (absurd (Eq.trans (Eq.symm h) (by assumption) : true = false) Bool.noConfusion : False), ?_⟩ | refine ⟨_, w64 (by (show (_ : Prop)); first | omega | ((try dsimp only at *); (try simp only [lns] at *); omega)), ?_⟩ | refine ⟨fun _ => ⟨by (show (_ : Prop)); first | omega | ((try dsimp only at *); (try simp only [lns] at *); omega), by (show (_ : Prop)); first | omega | ((try dsimp only at *); (try simp only [lns] at *); omega), by (show (_ : Prop)); first | omega | ((try dsimp only at *); (try simp only [lns] at *); omega)⟩, ?_⟩ | refine ⟨by (show (_ : Prop)); first | omega | ((try dsimp only at *); (try simp only [lns] at *); omega), ?_⟩ | refine ⟨fun h => ⟨by (show (_ : Prop)); first | omega | ((try dsimp only at *); (try simp only [lns] at *); omega), by (show (_ : Prop)); first | omega | ((try dsimp only at *); (try simp only [lns] at *); omega)⟩, ?_⟩ | refine ⟨fun (r : List AV) hr c hc => by simp [encS] at hr; (try subst hr); simp at hc; (try subst hc); rfl, ?_⟩ | refine ⟨noOwn (by rfl), ?_⟩)
  refine loop_rule (fun ((i, out) : Nat × Str) => ⟨[(0, ⟨none, .str s⟩), (4, ⟨none, .view 0 [] 0 out.length⟩), (5, ⟨none, .int .i64 i⟩)], [(0, .own 1 (out.map fun b => [.int .u8 b.toNat]))], 1⟩)
    (fun (i, out) => HexInv s i out) (fun x => s.length - x.1) (0, []) ?_ (HexInv.zero s) ?_
  · (refine ⟨?_, ?_, rfl⟩ <;> repeat' (first | exact rfl | exact trivial | refine ⟨?_, ?_⟩ | fail) <;> (conv => whnf))
  rintro ⟨i, out⟩ hI
  have hI : HexInv s i out := hI
  have hi := hI.1
  have hi2 := hI.2.1
  have hol := hI.2.2.1
  (conv => whnf); refine ⟨fun h2 => ?_, fun h2 => ?_⟩
  · have h2 : i < s.length := by simpa using h2
    obtain ⟨a, ha⟩ := get_lt h2
    obtain ⟨b, hb⟩ := get_lt (l := s) (i := i + 1) (by omega)
    have ra := hexV_range a
    have rb := hexV_range b
    repeat ((conv => whnf); first | refine ⟨fun h => h, ?_⟩ | refine ⟨(by kernel_rfl : drawOk _ _ = true), ?_⟩ | refine ⟨fun (h : gtrue _) => by first | assumption | exact absurd (Eq.trans (Eq.symm h) (by assumption) : true = false) Bool.noConfusion, ?_⟩ | refine ⟨fun h => (absurd (Eq.trans (Eq.symm h) (by assumption) : true = false) Bool.noConfusion : False), ?_⟩ | refine ⟨_, w64 (by (show (_ : Prop)); first | omega | ((try dsimp only at *); (try simp only [lns] at *); omega)), ?_⟩ | refine ⟨fun _ => ⟨by (show (_ : Prop)); first | omega | ((try dsimp only at *); (try simp only [lns] at *); omega), by (show (_ : Prop)); first | omega | ((try dsimp only at *); (try simp only [lns] at *); omega), by (show (_ : Prop)); first | omega | ((try dsimp only at *); (try simp only [lns] at *); omega)⟩, ?_⟩ | refine ⟨by (show (_ : Prop)); first | omega | ((try dsimp only at *); (try simp only [lns] at *); omega), ?_⟩ | refine ⟨fun h => ⟨by (show (_ : Prop)); first | omega | ((try dsimp only at *); (try simp only [lns] at *); omega), by (show (_ : Prop)); first | omega | ((try dsimp only at *); (try simp only [lns] at *); omega)⟩, ?_⟩ | refine ⟨fun (r : List AV) hr c hc => by simp [encS] at hr; (try subst hr); simp at hc; (try subst hc); rfl, ?_⟩ | refine ⟨noOwn (by rfl), ?_⟩)
    refine ⟨a, fun _ => ⟨Int.natCast_nonneg _, ha⟩, ?_⟩
    repeat ((conv => whnf); first | refine ⟨fun h => h, ?_⟩ | refine ⟨(by kernel_rfl : drawOk _ _ = true), ?_⟩ | refine ⟨fun (h : gtrue _) => by first | assumption | exact absurd (Eq.trans (Eq.symm h) (by assumption) : true = false) Bool.noConfusion, ?_⟩ | refine ⟨fun h => (absurd (Eq.trans (Eq.symm h) (by assumption) : true = false) Bool.noConfusion : False), ?_⟩ | refine ⟨_, w64 (by (show (_ : Prop)); first | omega | ((try dsimp only at *); (try simp only [lns] at *); omega)), ?_⟩ | refine ⟨fun _ => ⟨by (show (_ : Prop)); first | omega | ((try dsimp only at *); (try simp only [lns] at *); omega), by (show (_ : Prop)); first | omega | ((try dsimp only at *); (try simp only [lns] at *); omega), by (show (_ : Prop)); first | omega | ((try dsimp only at *); (try simp only [lns] at *); omega)⟩, ?_⟩ | refine ⟨by (show (_ : Prop)); first | omega | ((try dsimp only at *); (try simp only [lns] at *); omega), ?_⟩ | refine ⟨fun h => ⟨by (show (_ : Prop)); first | omega | ((try dsimp only at *); (try simp only [lns] at *); omega), by (show (_ : Prop)); first | omega | ((try dsimp only at *); (try simp only [lns] at *); omega)⟩, ?_⟩ | refine ⟨fun (r : List AV) hr c hc => by simp [encS] at hr; (try subst hr); simp at hc; (try subst hc); rfl, ?_⟩ | refine ⟨noOwn (by rfl), ?_⟩)
    refine ⟨a, rfl, fun _ => trivial, ?_⟩
    repeat ((conv => whnf); first | refine ⟨fun h => h, ?_⟩ | refine ⟨(by kernel_rfl : drawOk _ _ = true), ?_⟩ | refine ⟨fun (h : gtrue _) => by first | assumption | exact absurd (Eq.trans (Eq.symm h) (by assumption) : true = false) Bool.noConfusion, ?_⟩ | refine ⟨fun h => (absurd (Eq.trans (Eq.symm h) (by assumption) : true = false) Bool.noConfusion : False), ?_⟩ | refine ⟨_, w64 (by (show (_ : Prop)); first | omega | ((try dsimp only at *); (try simp only [lns] at *); omega)), ?_⟩ | refine ⟨fun _ => ⟨by (show (_ : Prop)); first | omega | ((try dsimp only at *); (try simp only [lns] at *); omega), by (show (_ : Prop)); first | omega | ((try dsimp only at *); (try simp only [lns] at *); omega), by (show (_ : Prop)); first | omega | ((try dsimp only at *); (try simp only [lns] at *); omega)⟩, ?_⟩ | refine ⟨by (show (_ : Prop)); first | omega | ((try dsimp only at *); (try simp only [lns] at *); omega), ?_⟩ | refine ⟨fun h => ⟨by (show (_ : Prop)); first | omega | ((try dsimp only at *); (try simp only [lns] at *); omega), by (show (_ : Prop)); first | omega | ((try dsimp only at *); (try simp only [lns] at *); omega)⟩, ?_⟩ | refine ⟨fun (r : List AV) hr c hc => by simp [encS] at hr; (try subst hr); simp at hc; (try subst hc); rfl, ?_⟩ | refine ⟨noOwn (by rfl), ?_⟩)
    refine ⟨b, fun _ => ⟨by omega, hb⟩, ?_⟩
    repeat ((conv => whnf); first | refine ⟨fun h => h, ?_⟩ | refine ⟨(by kernel_rfl : drawOk _ _ = true), ?_⟩ | refine ⟨fun (h : gtrue _) => by first | assumption | exact absurd (Eq.trans (Eq.symm h) (by assumption) : true = false) Bool.noConfusion, ?_⟩ | refine ⟨fun h => (absurd (Eq.trans (Eq.symm h) (by assumption) : true = false) Bool.noConfusion : False), ?_⟩ | refine ⟨_, w64 (by (show (_ : Prop)); first | omega | ((try dsimp only at *); (try simp only [lns] at *); omega)), ?_⟩ | refine ⟨fun _ => ⟨by (show (_ : Prop)); first | omega | ((try dsimp only at *); (try simp only [lns] at *); omega), by (show (_ : Prop)); first | omega | ((try dsimp only at *); (try simp only [lns] at *); omega), by (show (_ : Prop)); first | omega | ((try dsimp only at *); (try simp only [lns] at *); omega)⟩, ?_⟩ | refine ⟨by (show (_ : Prop)); first | omega | ((try dsimp only at *); (try simp only [lns] at *); omega), ?_⟩ | refine ⟨fun h => ⟨by (show (_ : Prop)); first | omega | ((try dsimp only at *); (try simp only [lns] at *); omega), by (show (_ : Prop)); first | omega | ((try dsimp only at *); (try simp only [lns] at *); omega)⟩, ?_⟩ | refine ⟨fun (r : List AV) hr c hc => by simp [encS] at hr; (try subst hr); simp at hc; (try subst hc); rfl, ?_⟩ | refine ⟨noOwn (by rfl), ?_⟩)
    refine ⟨b, rfl, fun _ => trivial, ?_⟩
    repeat ((conv => whnf); first | refine ⟨fun h => h, ?_⟩ | refine ⟨(by kernel_rfl : drawOk _ _ = true), ?_⟩ | refine ⟨fun (h : gtrue _) => by first | assumption | exact absurd (Eq.trans (Eq.symm h) (by assumption) : true = false) Bool.noConfusion, ?_⟩ | refine ⟨fun h => (absurd (Eq.trans (Eq.symm h) (by assumption) : true = false) Bool.noConfusion : False), ?_⟩ | refine ⟨_, w64 (by (show (_ : Prop)); first | omega | ((try dsimp only at *); (try simp only [lns] at *); omega)), ?_⟩ | refine ⟨fun _ => ⟨by (show (_ : Prop)); first | omega | ((try dsimp only at *); (try simp only [lns] at *); omega), by (show (_ : Prop)); first | omega | ((try dsimp only at *); (try simp only [lns] at *); omega), by (show (_ : Prop)); first | omega | ((try dsimp only at *); (try simp only [lns] at *); omega)⟩, ?_⟩ | refine ⟨by (show (_ : Prop)); first | omega | ((try dsimp only at *); (try simp only [lns] at *); omega), ?_⟩ | refine ⟨fun h => ⟨by (show (_ : Prop)); first | omega | ((try dsimp only at *); (try simp only [lns] at *); omega), by (show (_ : Prop)); first | omega | ((try dsimp only at *); (try simp only [lns] at *); omega)⟩, ?_⟩ | refine ⟨fun (r : List AV) hr c hc => by simp [encS] at hr; (try subst hr); simp at hc; (try subst hc); rfl, ?_⟩ | refine ⟨noOwn (by rfl), ?_⟩)
    (conv => whnf); refine ⟨fun h3 => ?_, fun h3 => ?_⟩
    · have h3 : (decide (hexV a < 0) || decide (hexV b < 0)) = true := h3
      have hn := hI.bad ha hb h3
      repeat ((conv => whnf); first | refine ⟨fun h => h, ?_⟩ | refine ⟨(by kernel_rfl : drawOk _ _ = true), ?_⟩ | refine ⟨fun (h : gtrue _) => by first | assumption | exact absurd (Eq.trans (Eq.symm h) (by assumption) : true = false) Bool.noConfusion, ?_⟩ | refine ⟨fun h => (absurd (Eq.trans (Eq.symm h) (by assumption) : true = false) Bool.noConfusion : False), ?_⟩ | refine ⟨_, w64 (by (show (_ : Prop)); first | omega | ((try dsimp only at *); (try simp only [lns] at *); omega)), ?_⟩ | refine ⟨fun _ => ⟨by (show (_ : Prop)); first | omega | ((try dsimp only at *); (try simp only [lns] at *); omega), by (show (_ : Prop)); first | omega | ((try dsimp only at *); (try simp only [lns] at *); omega), by (show (_ : Prop)); first | omega | ((try dsimp only at *); (try simp only [lns] at *); omega)⟩, ?_⟩ | refine ⟨by (show (_ : Prop)); first | omega | ((try dsimp only at *); (try simp only [lns] at *); omega), ?_⟩ | refine ⟨fun h => ⟨by (show (_ : Prop)); first | omega | ((try dsimp only at *); (try simp only [lns] at *); omega), by (show (_ : Prop)); first | omega | ((try dsimp only at *); (try simp only [lns] at *); omega)⟩, ?_⟩ | refine ⟨fun (r : List AV) hr c hc => by simp [encS] at hr; (try subst hr); simp at hc; (try subst hc); rfl, ?_⟩ | refine ⟨noOwn (by rfl), ?_⟩)
      exact ⟨trivial, eqS (by rw [hn]; rfl), eqB (by rw [hn]; rfl), trivial⟩
    · have h3 : (decide (hexV a < 0) || decide (hexV b < 0)) = false := h3
      have hne := hI.next ha hb h3
      have h4 : 0 ≤ hexV a ∧ 0 ≤ hexV b := by simp at h3; omega
      repeat ((conv => whnf); first | refine ⟨fun h => h, ?_⟩ | refine ⟨(by kernel_rfl : drawOk _ _ = true), ?_⟩ | refine ⟨fun (h : gtrue _) => by first | assumption | exact absurd (Eq.trans (Eq.symm h) (by assumption) : true = false) Bool.noConfusion, ?_⟩ | refine ⟨fun h => (absurd (Eq.trans (Eq.symm h) (by assumption) : true = false) Bool.noConfusion : False), ?_⟩ | refine ⟨_, w64 (by (show (_ : Prop)); first | omega | ((try dsimp only at *); (try simp only [lns] at *); omega)), ?_⟩ | refine ⟨fun _ => ⟨by (show (_ : Prop)); first | omega | ((try dsimp only at *); (try simp only [lns] at *); omega), by (show (_ : Prop)); first | omega | ((try dsimp only at *); (try simp only [lns] at *); omega), by (show (_ : Prop)); first | omega | ((try dsimp only at *); (try simp only [lns] at *); omega)⟩, ?_⟩ | refine ⟨by (show (_ : Prop)); first | omega | ((try dsimp only at *); (try simp only [lns] at *); omega), ?_⟩ | refine ⟨fun h => ⟨by (show (_ : Prop)); first | omega | ((try dsimp only at *); (try simp only [lns] at *); omega), by (show (_ : Prop)); first | omega | ((try dsimp only at *); (try simp only [lns] at *); omega)⟩, ?_⟩ | refine ⟨fun (r : List AV) hr c hc => by simp [encS] at hr; (try subst hr); simp at hc; (try subst hc); rfl, ?_⟩ | refine ⟨noOwn (by rfl), ?_⟩)
      refine ⟨hexV a * 16, w64 (a := hexV a * 16) (by omega), ?_⟩
      repeat ((conv => whnf); first | refine ⟨fun h => h, ?_⟩ | refine ⟨(by kernel_rfl : drawOk _ _ = true), ?_⟩ | refine ⟨fun (h : gtrue _) => by first | assumption | exact absurd (Eq.trans (Eq.symm h) (by assumption) : true = false) Bool.noConfusion, ?_⟩ | refine ⟨fun h => (absurd (Eq.trans (Eq.symm h) (by assumption) : true = false) Bool.noConfusion : False), ?_⟩ | refine ⟨_, w64 (by (show (_ : Prop)); first | omega | ((try dsimp only at *); (try simp only [lns] at *); omega)), ?_⟩ | refine ⟨fun _ => ⟨by (show (_ : Prop)); first | omega | ((try dsimp only at *); (try simp only [lns] at *); omega), by (show (_ : Prop)); first | omega | ((try dsimp only at *); (try simp only [lns] at *); omega), by (show (_ : Prop)); first | omega | ((try dsimp only at *); (try simp only [lns] at *); omega)⟩, ?_⟩ | refine ⟨by (show (_ : Prop)); first | omega | ((try dsimp only at *); (try simp only [lns] at *); omega), ?_⟩ | refine ⟨fun h => ⟨by (show (_ : Prop)); first | omega | ((try dsimp only at *); (try simp only [lns] at *); omega), by (show (_ : Prop)); first | omega | ((try dsimp only at *); (try simp only [lns] at *); omega)⟩, ?_⟩ | refine ⟨fun (r : List AV) hr c hc => by simp [encS] at hr; (try subst hr); simp at hc; (try subst hc); rfl, ?_⟩ | refine ⟨noOwn (by rfl), ?_⟩)
      refine ⟨16 * hexV a + hexV b, or16 ⟨h4.1, ra.2⟩ ⟨h4.2, rb.2⟩, ?_⟩
      repeat ((conv => whnf); first | refine ⟨fun h => h, ?_⟩ | refine ⟨(by kernel_rfl : drawOk _ _ = true), ?_⟩ | refine ⟨fun (h : gtrue _) => by first | assumption | exact absurd (Eq.trans (Eq.symm h) (by assumption) : true = false) Bool.noConfusion, ?_⟩ | refine ⟨fun h => (absurd (Eq.trans (Eq.symm h) (by assumption) : true = false) Bool.noConfusion : False), ?_⟩ | refine ⟨_, w64 (by (show (_ : Prop)); first | omega | ((try dsimp only at *); (try simp only [lns] at *); omega)), ?_⟩ | refine ⟨fun _ => ⟨by (show (_ : Prop)); first | omega | ((try dsimp only at *); (try simp only [lns] at *); omega), by (show (_ : Prop)); first | omega | ((try dsimp only at *); (try simp only [lns] at *); omega), by (show (_ : Prop)); first | omega | ((try dsimp only at *); (try simp only [lns] at *); omega)⟩, ?_⟩ | refine ⟨by (show (_ : Prop)); first | omega | ((try dsimp only at *); (try simp only [lns] at *); omega), ?_⟩ | refine ⟨fun h => ⟨by (show (_ : Prop)); first | omega | ((try dsimp only at *); (try simp only [lns] at *); omega), by (show (_ : Prop)); first | omega | ((try dsimp only at *); (try simp only [lns] at *); omega)⟩, ?_⟩ | refine ⟨fun (r : List AV) hr c hc => by simp [encS] at hr; (try subst hr); simp at hc; (try subst hc); rfl, ?_⟩ | refine ⟨noOwn (by rfl), ?_⟩)
      refine ⟨((hexB a b).toNat : Int), hexB_val ⟨h4.1, ra.2⟩ ⟨h4.2, rb.2⟩, ?_⟩
      repeat ((conv => whnf); first | refine ⟨fun h => h, ?_⟩ | refine ⟨(by kernel_rfl : drawOk _ _ = true), ?_⟩ | refine ⟨fun (h : gtrue _) => by first | assumption | exact absurd (Eq.trans (Eq.symm h) (by assumption) : true = false) Bool.noConfusion, ?_⟩ | refine ⟨fun h => (absurd (Eq.trans (Eq.symm h) (by assumption) : true = false) Bool.noConfusion : False), ?_⟩ | refine ⟨_, w64 (by (show (_ : Prop)); first | omega | ((try dsimp only at *); (try simp only [lns] at *); omega)), ?_⟩ | refine ⟨fun _ => ⟨by (show (_ : Prop)); first | omega | ((try dsimp only at *); (try simp only [lns] at *); omega), by (show (_ : Prop)); first | omega | ((try dsimp only at *); (try simp only [lns] at *); omega), by (show (_ : Prop)); first | omega | ((try dsimp only at *); (try simp only [lns] at *); omega)⟩, ?_⟩ | refine ⟨by (show (_ : Prop)); first | omega | ((try dsimp only at *); (try simp only [lns] at *); omega), ?_⟩ | refine ⟨fun h => ⟨by (show (_ : Prop)); first | omega | ((try dsimp only at *); (try simp only [lns] at *); omega), by (show (_ : Prop)); first | omega | ((try dsimp only at *); (try simp only [lns] at *); omega)⟩, ?_⟩ | refine ⟨fun (r : List AV) hr c hc => by simp [encS] at hr; (try subst hr); simp at hc; (try subst hc); rfl, ?_⟩ | refine ⟨noOwn (by rfl), ?_⟩)
      refine again (i + 2, out ++ [hexB a b]) ?_ hne (by show s.length - (i + 2) < s.length - i; omega)
      (refine ⟨?_, ?_, rfl⟩ <;> repeat' (first | exact rfl | exact trivial | refine ⟨?_, ?_⟩ | fail) <;> (conv => whnf))
      all_goals simp
  · have h2 : i = s.length := by
      have : ¬ i < s.length := by simpa using h2
      omega
    subst h2
    have hn := hI.fin
    repeat ((conv => whnf); first | refine ⟨fun h => h, ?_⟩ | refine ⟨(by kernel_rfl : drawOk _ _ = true), ?_⟩ | refine ⟨fun (h : gtrue _) => by first | assumption | exact absurd (Eq.trans (Eq.symm h) (by assumption) : true = false) Bool.noConfusion, ?_⟩ | refine ⟨fun h => (absurd (Eq.trans (Eq.symm h) (by assumption) : true = false) Bool.noConfusion : False), ?_⟩ | refine ⟨_, w64 (by (show (_ : Prop)); first | omega | ((try dsimp only at *); (try simp only [lns] at *); omega)), ?_⟩ | refine ⟨fun _ => ⟨by (show (_ : Prop)); first | omega | ((try dsimp only at *); (try simp only [lns] at *); omega), by (show (_ : Prop)); first | omega | ((try dsimp only at *); (try simp only [lns] at *); omega), by (show (_ : Prop)); first | omega | ((try dsimp only at *); (try simp only [lns] at *); omega)⟩, ?_⟩ | refine ⟨by (show (_ : Prop)); first | omega | ((try dsimp only at *); (try simp only [lns] at *); omega), ?_⟩ | refine ⟨fun h => ⟨by (show (_ : Prop)); first | omega | ((try dsimp only at *); (try simp only [lns] at *); omega), by (show (_ : Prop)); first | omega | ((try dsimp only at *); (try simp only [lns] at *); omega)⟩, ?_⟩ | refine ⟨fun (r : List AV) hr c hc => by simp [encS] at hr; (try subst hr); simp at hc; (try subst hc); rfl, ?_⟩ | refine ⟨noOwn (by rfl), ?_⟩)
    refine ⟨out, by rw [List.drop_zero, List.take_of_length_le (by simp)], ?_⟩
    repeat ((conv => whnf); first | refine ⟨fun h => h, ?_⟩ | refine ⟨(by kernel_rfl : drawOk _ _ = true), ?_⟩ | refine ⟨fun (h : gtrue _) => by first | assumption | exact absurd (Eq.trans (Eq.symm h) (by assumption) : true = false) Bool.noConfusion, ?_⟩ | refine ⟨fun h => (absurd (Eq.trans (Eq.symm h) (by assumption) : true = false) Bool.noConfusion : False), ?_⟩ | refine ⟨_, w64 (by (show (_ : Prop)); first | omega | ((try dsimp only at *); (try simp only [lns] at *); omega)), ?_⟩ | refine ⟨fun _ => ⟨by (show (_ : Prop)); first | omega | ((try dsimp only at *); (try simp only [lns] at *); omega), by (show (_ : Prop)); first | omega | ((try dsimp only at *); (try simp only [lns] at *); omega), by (show (_ : Prop)); first | omega | ((try dsimp only at *); (try simp only [lns] at *); omega)⟩, ?_⟩ | refine ⟨by (show (_ : Prop)); first | omega | ((try dsimp only at *); (try simp only [lns] at *); omega), ?_⟩ | refine ⟨fun h => ⟨by (show (_ : Prop)); first | omega | ((try dsimp only at *); (try simp only [lns] at *); omega), by (show (_ : Prop)); first | omega | ((try dsimp only at *); (try simp only [lns] at *); omega)⟩, ?_⟩ | refine ⟨fun (r : List AV) hr c hc => by simp [encS] at hr; (try subst hr); simp at hc; (try subst hc); rfl, ?_⟩ | refine ⟨noOwn (by rfl), ?_⟩)
    exact ⟨trivial, eqS (by rw [hn]; rfl), eqB (by rw [hn]; rfl), trivial⟩
theorem ok_impl_hexBytes : ConOk Tryd.prog 42 c_impl_hexBytes := meets_ok (tabT _ _) (FOk.cons ok_strings_IndexByte FOk.nil) mixed Tryd.func42 rfl Tryd.call42 (by decide) (by kernel_rfl) m_impl_hexBytes (by intro _ (y : Str) _; exact ⟨by simp [c_impl_hexBytes, con, conG, conW, AV.noRd, noRdCells, noRdRows, noRdRows_map', encS, encO], by simp [c_impl_hexBytes, con, conG, conW, AV.noRd, noRdCells, noRdRows, noRdRows_map', encS, encO]⟩) (by intro (y : Str) _; first | (simp [c_impl_hexBytes, con, conG, conW, conP, AV.free, freeCells, freeRows, freeRows_map, encS, encO]; done) | (obtain ⟨_, _⟩ := y; simp [c_impl_hexBytes, con, conG, conW, conP, AV.free, freeCells, freeRows, freeRows_map, encS, encO]; done) | (obtain ⟨_, _, _⟩ := y; simp [c_impl_hexBytes, con, conG, conW, conP, AV.free, freeCells, freeRows, freeRows_map, encS, encO]; done))
end Go.GH

set_option linter.unusedVariables false
set_option linter.unusedSimpArgs false
namespace Go.GH
open Go Go.Proofs
noncomputable def c_spec_OpsText : PCon := con [mS 6] true (List OpR) (fun l => [.rd 6 (l.map encO)]) smOL (fun l => .str (opsText l))
noncomputable def E_spec_OpsText : Env := ⟨lookup tyTab, lookup [(9, c_spec_OpText)], [0, 2, 3, 4, 5, 9, 18]⟩
set_option maxRecDepth 100000 in
set_option maxHeartbeats 4000000 in
theorem m_spec_OpsText : Meets E_spec_OpsText (codeOf Tryd.f13) Tryd.f13.results.toList c_spec_OpsText := by
  intro (l : List OpR) hs
  have hs : smOL l := hs
  have hl1 := hs.1
  refine ⟨trivial, ?_⟩
  repeat ((conv => whnf); first | refine ⟨fun h => h, ?_⟩ | refine ⟨(by kernel_rfl : drawOk _ _ = true), ?_⟩ | refine ⟨fun (h : gtrue _) => by first | assumption | exact absurd (Eq.trans (Eq.symm h) (by assumption) : true = false) Bool.noConfusion, ?_⟩ | refine ⟨fun h => (absurd (Eq.trans (Eq.symm h) (by assumption) : true = false) Bool.noConfusion : False), ?_⟩ | refine ⟨_, w64 (by (show (_ : Prop)); first | omega | ((try dsimp only at *); (try simp only [lns] at *); omega)), ?_⟩ | refine ⟨fun _ => ⟨by (show (_ : Prop)); first | omega | ((try dsimp only at *); (try simp only [lns] at *); omega), by (show (_ : Prop)); first | omega | ((try dsimp only at *); (try simp only [lns] at *); omega), by (show (_ : Prop)); first | omega | ((try dsimp only at *); (try simp only [lns] at *); omega)⟩, ?_⟩ | refine ⟨by (show (_ : Prop)); first | omega | ((try dsimp only at *); (try simp only [lns] at *); omega), ?_⟩ | refine ⟨fun h => ⟨by (show (_ : Prop)); first | omega | ((try dsimp only at *); (try simp only [lns] at *); omega), by (show (_ : Prop)); first | omega | ((try dsimp only at *); (try simp only [lns] at *); omega)⟩, ?_⟩ | refine ⟨fun (r : List AV) hr c hc => by simp [encS] at hr; (try subst hr); simp at hc; (try subst hc); rfl, ?_⟩ | refine ⟨noOwn (by rfl), ?_⟩)
  refine loop_rule (fun i : Nat => ⟨[(0, ⟨none, .rd 6 (l.map encO)⟩), (3, ⟨none, .str ((l.take i).flatMap opLine)⟩), (4, ⟨none, .int .i64 i⟩)], [], 0⟩)
    (fun i => i ≤ l.length ∧ (l.take i).all (fun o => !(opText o == [])) = true) (fun i => l.length - i) 0 ?_ ⟨by omega, rfl⟩ ?_
  · (refine ⟨?_, ?_, rfl⟩ <;> repeat' (first | exact rfl | exact trivial | refine ⟨?_, ?_⟩ | fail) <;> (conv => whnf))
    all_goals simp
  rintro i ⟨hi, hI⟩
  have hll := lines_len hs i
  (conv => whnf); refine ⟨fun h2 => ?_, fun h2 => ?_⟩
  · have h2 : i < l.length := by simpa using h2
    obtain ⟨o, ho⟩ := get_lt h2
    have hso := hs.2 o (List.mem_of_getElem? ho)
    have hle := opText_len o
    have s1 := hso.1
    have s2 := hso.2.1
    repeat ((conv => whnf); first | refine ⟨fun h => h, ?_⟩ | refine ⟨(by kernel_rfl : drawOk _ _ = true), ?_⟩ | refine ⟨fun (h : gtrue _) => by first | assumption | exact absurd (Eq.trans (Eq.symm h) (by assumption) : true = false) Bool.noConfusion, ?_⟩ | refine ⟨fun h => (absurd (Eq.trans (Eq.symm h) (by assumption) : true = false) Bool.noConfusion : False), ?_⟩ | refine ⟨_, w64 (by (show (_ : Prop)); first | omega | ((try dsimp only at *); (try simp only [lns] at *); omega)), ?_⟩ | refine ⟨fun _ => ⟨by (show (_ : Prop)); first | omega | ((try dsimp only at *); (try simp only [lns] at *); omega), by (show (_ : Prop)); first | omega | ((try dsimp only at *); (try simp only [lns] at *); omega), by (show (_ : Prop)); first | omega | ((try dsimp only at *); (try simp only [lns] at *); omega)⟩, ?_⟩ | refine ⟨by (show (_ : Prop)); first | omega | ((try dsimp only at *); (try simp only [lns] at *); omega), ?_⟩ | refine ⟨fun h => ⟨by (show (_ : Prop)); first | omega | ((try dsimp only at *); (try simp only [lns] at *); omega), by (show (_ : Prop)); first | omega | ((try dsimp only at *); (try simp only [lns] at *); omega)⟩, ?_⟩ | refine ⟨fun (r : List AV) hr c hc => by simp [encS] at hr; (try subst hr); simp at hc; (try subst hc); rfl, ?_⟩ | refine ⟨noOwn (by rfl), ?_⟩ | refine ⟨encO o, fun _ => ⟨by omega, get_map ho⟩, ?_⟩)
    refine ⟨o, rfl, fun _ => hso, ?_⟩
    (conv => whnf); refine ⟨fun h3 => ?_, fun h3 => ?_⟩
    · have h3 : (opText o == []) = true := h3
      conv => whnf
      exact ⟨trivial, eqS (by rw [opsText, if_neg]; rw [all_no ho (by simp [h3])]; simp)⟩
    have h3 : (opText o == []) = false := h3
    repeat ((conv => whnf); first | refine ⟨fun h => h, ?_⟩ | refine ⟨(by kernel_rfl : drawOk _ _ = true), ?_⟩ | refine ⟨fun (h : gtrue _) => by first | assumption | exact absurd (Eq.trans (Eq.symm h) (by assumption) : true = false) Bool.noConfusion, ?_⟩ | refine ⟨fun h => (absurd (Eq.trans (Eq.symm h) (by assumption) : true = false) Bool.noConfusion : False), ?_⟩ | refine ⟨_, w64 (by (show (_ : Prop)); first | omega | ((try dsimp only at *); (try simp only [lns] at *); omega)), ?_⟩ | refine ⟨fun _ => ⟨by (show (_ : Prop)); first | omega | ((try dsimp only at *); (try simp only [lns] at *); omega), by (show (_ : Prop)); first | omega | ((try dsimp only at *); (try simp only [lns] at *); omega), by (show (_ : Prop)); first | omega | ((try dsimp only at *); (try simp only [lns] at *); omega)⟩, ?_⟩ | refine ⟨by (show (_ : Prop)); first | omega | ((try dsimp only at *); (try simp only [lns] at *); omega), ?_⟩ | refine ⟨fun h => ⟨by (show (_ : Prop)); first | omega | ((try dsimp only at *); (try simp only [lns] at *); omega), by (show (_ : Prop)); first | omega | ((try dsimp only at *); (try simp only [lns] at *); omega)⟩, ?_⟩ | refine ⟨fun (r : List AV) hr c hc => by simp [encS] at hr; (try subst hr); simp at hc; (try subst hc); rfl, ?_⟩ | refine ⟨noOwn (by rfl), ?_⟩ | refine ⟨(by (show (_ : Prop)); simp only [List.length_append] at *; omega), ?_⟩)
    refine again (i + 1) ?_ ⟨h2, all_take_succ hI ho (by simp [h3])⟩ (by first | omega | (simp; done) | (simp; omega))
    (refine ⟨?_, ?_, rfl⟩ <;> repeat' (first | exact rfl | exact trivial | refine ⟨?_, ?_⟩ | fail) <;> (conv => whnf))
    all_goals (rw [take_flat ho]; simp [opLine])
  · have h2 : i = l.length := by
      have : ¬ i < l.length := by simpa using h2
      omega
    subst h2
    rw [List.take_length] at hI hll ⊢
    conv => whnf
    exact ⟨trivial, eqS (by rw [opsText, if_pos hI])⟩
theorem ok_spec_OpsText : ConOk Tryd.prog 13 c_spec_OpsText := meets_ok (tabT _ _) (FOk.cons ok_spec_OpText FOk.nil) mixed Tryd.func13 rfl Tryd.call13 (by decide) (by kernel_rfl) m_spec_OpsText (by intro _ (y : (List OpR)) _; exact ⟨by simp [c_spec_OpsText, con, conG, conW, AV.noRd, noRdCells, noRdRows, noRdRows_map', encS, encO], by simp [c_spec_OpsText, con, conG, conW, AV.noRd, noRdCells, noRdRows, noRdRows_map', encS, encO]⟩) (by intro (y : (List OpR)) _; first | (simp [c_spec_OpsText, con, conG, conW, conP, AV.free, freeCells, freeRows, freeRows_map, encS, encO]; done) | (obtain ⟨_, _⟩ := y; simp [c_spec_OpsText, con, conG, conW, conP, AV.free, freeCells, freeRows, freeRows_map, encS, encO]; done) | (obtain ⟨_, _, _⟩ := y; simp [c_spec_OpsText, con, conG, conW, conP, AV.free, freeCells, freeRows, freeRows_map, encS, encO]; done))
noncomputable def c_impl_OpsText : PCon := conG gwTab [mS 6] true (List OpR) (fun l => [.rd 6 (l.map encO)]) smOL (fun l => .str (opsText l))
noncomputable def E_impl_OpsText : Env := ⟨lookup tyTab, lookup [(11, c_impl_OpText)], [0, 2, 3, 5, 6, 7, 8, 9, 10, 16]⟩
set_option maxRecDepth 100000 in
set_option maxHeartbeats 4000000 in
theorem m_impl_OpsText : Meets E_impl_OpsText (codeOf Tryd.f15) Tryd.f15.results.toList c_impl_OpsText := by
  intro (l : List OpR) hs
  have hs : smOL l := hs
  have hl1 := hs.1
  refine ⟨trivial, ?_⟩
  repeat ((conv => whnf); first | refine ⟨fun h => h, ?_⟩ | refine ⟨(by kernel_rfl : drawOk _ _ = true), ?_⟩ | refine ⟨fun (h : gtrue _) => by first | assumption | exact absurd (Eq.trans (Eq.symm h) (by assumption) : true = false) Bool.noConfusion, ?_⟩ | refine ⟨fun h => (absurd (Eq.trans (Eq.symm h) (by assumption) : true = false) Bool.noConfusion : False), ?_⟩ | refine ⟨_, w64 (by (show (_ : Prop)); first | omega | ((try dsimp only at *); (try simp only [lns] at *); omega)), ?_⟩ | refine ⟨fun _ => ⟨by (show (_ : Prop)); first | omega | ((try dsimp only at *); (try simp only [lns] at *); omega), by (show (_ : Prop)); first | omega | ((try dsimp only at *); (try simp only [lns] at *); omega), by (show (_ : Prop)); first | omega | ((try dsimp only at *); (try simp only [lns] at *); omega)⟩, ?_⟩ | refine ⟨by (show (_ : Prop)); first | omega | ((try dsimp only at *); (try simp only [lns] at *); omega), ?_⟩ | refine ⟨fun h => ⟨by (show (_ : Prop)); first | omega | ((try dsimp only at *); (try simp only [lns] at *); omega), by (show (_ : Prop)); first | omega | ((try dsimp only at *); (try simp only [lns] at *); omega)⟩, ?_⟩ | refine ⟨fun (r : List AV) hr c hc => by simp [encS] at hr; (try subst hr); simp at hc; (try subst hc); rfl, ?_⟩ | refine ⟨noOwn (by rfl), ?_⟩)
  refine loop_rule (fun i : Nat => ⟨[(3, ⟨none, .str ((l.take i).flatMap opLine)⟩), (7, ⟨none, .rd 6 (l.map encO)⟩), (8, ⟨none, .int .i64 l.length⟩), (9, ⟨none, .int .i64 i⟩)], [], 0⟩)
    (fun i => i ≤ l.length ∧ (l.take i).all (fun o => !(opText o == [])) = true) (fun i => l.length - i) 0 ?_ ⟨by omega, rfl⟩ ?_
  · (refine ⟨?_, ?_, rfl⟩ <;> repeat' (first | exact rfl | exact trivial | refine ⟨?_, ?_⟩ | fail) <;> (conv => whnf))
    all_goals simp
  rintro i ⟨hi, hI⟩
  have hll := lines_len hs i
  (conv => whnf); refine ⟨fun h2 => ?_, fun h2 => ?_⟩
  · have h2 : i < l.length := by simpa using h2
    obtain ⟨o, ho⟩ := get_lt h2
    have hso := hs.2 o (List.mem_of_getElem? ho)
    have hle := opText_len o
    have s1 := hso.1
    have s2 := hso.2.1
    repeat ((conv => whnf); first | refine ⟨fun h => h, ?_⟩ | refine ⟨(by kernel_rfl : drawOk _ _ = true), ?_⟩ | refine ⟨fun (h : gtrue _) => by first | assumption | exact absurd (Eq.trans (Eq.symm h) (by assumption) : true = false) Bool.noConfusion, ?_⟩ | refine ⟨fun h => (absurd (Eq.trans (Eq.symm h) (by assumption) : true = false) Bool.noConfusion : False), ?_⟩ | refine ⟨_, w64 (by (show (_ : Prop)); first | omega | ((try dsimp only at *); (try simp only [lns] at *); omega)), ?_⟩ | refine ⟨fun _ => ⟨by (show (_ : Prop)); first | omega | ((try dsimp only at *); (try simp only [lns] at *); omega), by (show (_ : Prop)); first | omega | ((try dsimp only at *); (try simp only [lns] at *); omega), by (show (_ : Prop)); first | omega | ((try dsimp only at *); (try simp only [lns] at *); omega)⟩, ?_⟩ | refine ⟨by (show (_ : Prop)); first | omega | ((try dsimp only at *); (try simp only [lns] at *); omega), ?_⟩ | refine ⟨fun h => ⟨by (show (_ : Prop)); first | omega | ((try dsimp only at *); (try simp only [lns] at *); omega), by (show (_ : Prop)); first | omega | ((try dsimp only at *); (try simp only [lns] at *); omega)⟩, ?_⟩ | refine ⟨fun (r : List AV) hr c hc => by simp [encS] at hr; (try subst hr); simp at hc; (try subst hc); rfl, ?_⟩ | refine ⟨noOwn (by rfl), ?_⟩ | refine ⟨encO o, fun _ => ⟨by omega, get_map ho⟩, ?_⟩)
    refine ⟨o, rfl, fun _ => hso, ?_⟩
    (conv => whnf); refine ⟨fun h3 => ?_, fun h3 => ?_⟩
    · have h3 : (opText o == []) = true := h3
      conv => whnf
      exact ⟨trivial, eqS (by rw [opsText, if_neg]; rw [all_no ho (by simp [h3])]; simp)⟩
    have h3 : (opText o == []) = false := h3
    repeat ((conv => whnf); first | refine ⟨fun h => h, ?_⟩ | refine ⟨(by kernel_rfl : drawOk _ _ = true), ?_⟩ | refine ⟨fun (h : gtrue _) => by first | assumption | exact absurd (Eq.trans (Eq.symm h) (by assumption) : true = false) Bool.noConfusion, ?_⟩ | refine ⟨fun h => (absurd (Eq.trans (Eq.symm h) (by assumption) : true = false) Bool.noConfusion : False), ?_⟩ | refine ⟨_, w64 (by (show (_ : Prop)); first | omega | ((try dsimp only at *); (try simp only [lns] at *); omega)), ?_⟩ | refine ⟨fun _ => ⟨by (show (_ : Prop)); first | omega | ((try dsimp only at *); (try simp only [lns] at *); omega), by (show (_ : Prop)); first | omega | ((try dsimp only at *); (try simp only [lns] at *); omega), by (show (_ : Prop)); first | omega | ((try dsimp only at *); (try simp only [lns] at *); omega)⟩, ?_⟩ | refine ⟨by (show (_ : Prop)); first | omega | ((try dsimp only at *); (try simp only [lns] at *); omega), ?_⟩ | refine ⟨fun h => ⟨by (show (_ : Prop)); first | omega | ((try dsimp only at *); (try simp only [lns] at *); omega), by (show (_ : Prop)); first | omega | ((try dsimp only at *); (try simp only [lns] at *); omega)⟩, ?_⟩ | refine ⟨fun (r : List AV) hr c hc => by simp [encS] at hr; (try subst hr); simp at hc; (try subst hc); rfl, ?_⟩ | refine ⟨noOwn (by rfl), ?_⟩ | refine ⟨(by (show (_ : Prop)); simp only [List.length_append] at *; omega), ?_⟩)
    refine again (i + 1) ?_ ⟨h2, all_take_succ hI ho (by simp [h3])⟩ (by first | omega | (simp; done) | (simp; omega))
    (refine ⟨?_, ?_, rfl⟩ <;> repeat' (first | exact rfl | exact trivial | refine ⟨?_, ?_⟩ | fail) <;> (conv => whnf))
    all_goals (rw [take_flat ho]; simp [opLine])
  · have h2 : i = l.length := by
      have : ¬ i < l.length := by simpa using h2
      omega
    subst h2
    rw [List.take_length] at hI hll ⊢
    conv => whnf
    exact ⟨trivial, eqS (by rw [opsText, if_pos hI])⟩
theorem ok_impl_OpsText : ConOk Tryd.prog 15 c_impl_OpsText := meets_ok (tabT _ _) (FOk.cons ok_impl_OpText FOk.nil) mixed Tryd.func15 rfl Tryd.call15 (by decide) (by kernel_rfl) m_impl_OpsText (by intro _ (y : (List OpR)) _; exact ⟨by simp [c_impl_OpsText, con, conG, conW, AV.noRd, noRdCells, noRdRows, noRdRows_map', encS, encO], by simp [c_impl_OpsText, con, conG, conW, AV.noRd, noRdCells, noRdRows, noRdRows_map', encS, encO]⟩) (by intro (y : (List OpR)) _; first | (simp [c_impl_OpsText, con, conG, conW, conP, AV.free, freeCells, freeRows, freeRows_map, encS, encO]; done) | (obtain ⟨_, _⟩ := y; simp [c_impl_OpsText, con, conG, conW, conP, AV.free, freeCells, freeRows, freeRows_map, encS, encO]; done) | (obtain ⟨_, _, _⟩ := y; simp [c_impl_OpsText, con, conG, conW, conP, AV.free, freeCells, freeRows, freeRows_map, encS, encO]; done))
noncomputable def c_laws_szOpS : PCon := con [mS 6, mC] true (List OpR × Int) (fun x => [.rd 6 (x.1.map encO), .int .i64 x.2]) (fun x => 0 ≤ x.2 ∧ x.2 ≤ 4194304 ∧ x.1.length ≤ 9223372036854775807 ∧ ∀ y, y ∈ x.1 → bigO y) (fun x => .int .i64 (szR x.2 (szOL x.1)))
noncomputable def E_laws_szOpS : Env := ⟨lookup tyTab, lookup [(8, c_laws_szOp)], [0, 1, 4, 5, 11, 15, 25]⟩
set_option maxRecDepth 100000 in
set_option maxHeartbeats 4000000 in
theorem m_laws_szOpS : Meets E_laws_szOpS (codeOf Tryd.f12) Tryd.f12.results.toList c_laws_szOpS := by
  rintro ⟨t, left⟩ hs
  obtain ⟨h1, h2, h3, h4⟩ : 0 ≤ left ∧ left ≤ 4194304 ∧ t.length ≤ 9223372036854775807 ∧ ∀ y, y ∈ t → bigO y := hs
  refine ⟨trivial, ?_⟩
  repeat ((conv => whnf); first | refine ⟨fun h => h, ?_⟩ | refine ⟨(by kernel_rfl : drawOk _ _ = true), ?_⟩ | refine ⟨fun (h : gtrue _) => by first | assumption | exact absurd (Eq.trans (Eq.symm h) (by assumption) : true = false) Bool.noConfusion, ?_⟩ | refine ⟨fun h => (absurd (Eq.trans (Eq.symm h) (by assumption) : true = false) Bool.noConfusion : False), ?_⟩ | refine ⟨_, w64 (by (show (_ : Prop)); first | omega | ((try dsimp only at *); (try simp only [lns] at *); omega)), ?_⟩ | refine ⟨fun _ => ⟨by (show (_ : Prop)); first | omega | ((try dsimp only at *); (try simp only [lns] at *); omega), by (show (_ : Prop)); first | omega | ((try dsimp only at *); (try simp only [lns] at *); omega), by (show (_ : Prop)); first | omega | ((try dsimp only at *); (try simp only [lns] at *); omega)⟩, ?_⟩ | refine ⟨by (show (_ : Prop)); first | omega | ((try dsimp only at *); (try simp only [lns] at *); omega), ?_⟩ | refine ⟨fun h => ⟨by (show (_ : Prop)); first | omega | ((try dsimp only at *); (try simp only [lns] at *); omega), by (show (_ : Prop)); first | omega | ((try dsimp only at *); (try simp only [lns] at *); omega)⟩, ?_⟩ | refine ⟨fun (r : List AV) hr c hc => by simp [encS] at hr; (try subst hr); simp at hc; (try subst hc); rfl, ?_⟩ | refine ⟨noOwn (by rfl), ?_⟩)
  (conv => whnf); refine ⟨fun h5 => ?_, fun h5 => ?_⟩
  · have h5 : left - t.length < 0 := by simpa using h5
    conv => whnf
    exact ⟨trivial, eqN' (by unfold szR szOL; dsimp only; rw [if_pos (by omega)])⟩
  have h5 : ¬ left - t.length < 0 := by simpa using h5
  repeat ((conv => whnf); first | refine ⟨fun h => h, ?_⟩ | refine ⟨(by kernel_rfl : drawOk _ _ = true), ?_⟩ | refine ⟨fun (h : gtrue _) => by first | assumption | exact absurd (Eq.trans (Eq.symm h) (by assumption) : true = false) Bool.noConfusion, ?_⟩ | refine ⟨fun h => (absurd (Eq.trans (Eq.symm h) (by assumption) : true = false) Bool.noConfusion : False), ?_⟩ | refine ⟨_, w64 (by (show (_ : Prop)); first | omega | ((try dsimp only at *); (try simp only [lns] at *); omega)), ?_⟩ | refine ⟨fun _ => ⟨by (show (_ : Prop)); first | omega | ((try dsimp only at *); (try simp only [lns] at *); omega), by (show (_ : Prop)); first | omega | ((try dsimp only at *); (try simp only [lns] at *); omega), by (show (_ : Prop)); first | omega | ((try dsimp only at *); (try simp only [lns] at *); omega)⟩, ?_⟩ | refine ⟨by (show (_ : Prop)); first | omega | ((try dsimp only at *); (try simp only [lns] at *); omega), ?_⟩ | refine ⟨fun h => ⟨by (show (_ : Prop)); first | omega | ((try dsimp only at *); (try simp only [lns] at *); omega), by (show (_ : Prop)); first | omega | ((try dsimp only at *); (try simp only [lns] at *); omega)⟩, ?_⟩ | refine ⟨fun (r : List AV) hr c hc => by simp [encS] at hr; (try subst hr); simp at hc; (try subst hc); rfl, ?_⟩ | refine ⟨noOwn (by rfl), ?_⟩)
  refine loop_rule (fun i : Nat => ⟨[(0, ⟨none, .rd 6 (t.map encO)⟩), (1, ⟨none, .int .i64 (left - t.length - ((t.take i).map szO).sum)⟩), (5, ⟨none, .int .i64 i⟩)], [], 0⟩)
    (fun i => i ≤ t.length ∧ 0 ≤ left - t.length - ((t.take i).map szO).sum) (fun i => t.length - i) 0 ?_ ⟨by omega, by simp; omega⟩ ?_
  · (refine ⟨?_, ?_, rfl⟩ <;> repeat' (first | exact rfl | exact trivial | refine ⟨?_, ?_⟩ | fail) <;> (conv => whnf))
    all_goals simp
  rintro i ⟨hi, hI⟩
  (conv => whnf); refine ⟨fun h6 => ?_, fun h6 => ?_⟩
  · have h6 : i < t.length := by simpa using h6
    obtain ⟨b, hb⟩ := get_lt h6
    have hbs := h4 b (List.mem_of_getElem? hb)
    have hsu := sum_take' (f := szO) hb
    have hle := sum_take_le (f := szO) (l := t) (i := i + 1)
    repeat ((conv => whnf); first | refine ⟨fun h => h, ?_⟩ | refine ⟨(by kernel_rfl : drawOk _ _ = true), ?_⟩ | refine ⟨fun (h : gtrue _) => by first | assumption | exact absurd (Eq.trans (Eq.symm h) (by assumption) : true = false) Bool.noConfusion, ?_⟩ | refine ⟨fun h => (absurd (Eq.trans (Eq.symm h) (by assumption) : true = false) Bool.noConfusion : False), ?_⟩ | refine ⟨_, w64 (by (show (_ : Prop)); first | omega | ((try dsimp only at *); (try simp only [lns] at *); omega)), ?_⟩ | refine ⟨fun _ => ⟨by (show (_ : Prop)); first | omega | ((try dsimp only at *); (try simp only [lns] at *); omega), by (show (_ : Prop)); first | omega | ((try dsimp only at *); (try simp only [lns] at *); omega), by (show (_ : Prop)); first | omega | ((try dsimp only at *); (try simp only [lns] at *); omega)⟩, ?_⟩ | refine ⟨by (show (_ : Prop)); first | omega | ((try dsimp only at *); (try simp only [lns] at *); omega), ?_⟩ | refine ⟨fun h => ⟨by (show (_ : Prop)); first | omega | ((try dsimp only at *); (try simp only [lns] at *); omega), by (show (_ : Prop)); first | omega | ((try dsimp only at *); (try simp only [lns] at *); omega)⟩, ?_⟩ | refine ⟨fun (r : List AV) hr c hc => by simp [encS] at hr; (try subst hr); simp at hc; (try subst hc); rfl, ?_⟩ | refine ⟨noOwn (by rfl), ?_⟩ | refine ⟨encO b, fun _ => ⟨by omega, by simp [hb]⟩, ?_⟩)
    conv => whnf
    refine ⟨(b, left - t.length - ((t.take i).map szO).sum), rfl, fun _ => ⟨hI, by show _ ≤ _; omega, hbs⟩, ?_⟩
    (conv => whnf); refine ⟨fun h7 => ?_, fun h7 => ?_⟩
    · have h7 : szR (left - t.length - ((t.take i).map szO).sum) (szO b) < 0 := by simpa using h7
      have h7 : left - t.length - ((t.take i).map szO).sum - szO b < 0 := by
        unfold szR at h7; split at h7 <;> omega
      conv => whnf
      exact ⟨trivial, eqN' (by unfold szR szOL; dsimp only; rw [if_pos (by omega)])⟩
    · have h7 : ¬ szR (left - t.length - ((t.take i).map szO).sum) (szO b) < 0 := by simpa using h7
      have h8 := szR_ok h7
      have h9 : szR (left - t.length - ((t.take i).map szO).sum) (szO b) = left - t.length - ((t.take (i + 1)).map szO).sum := by
        unfold szR; rw [if_neg (by omega)]; omega
      repeat ((conv => whnf); first | refine ⟨fun h => h, ?_⟩ | refine ⟨(by kernel_rfl : drawOk _ _ = true), ?_⟩ | refine ⟨fun (h : gtrue _) => by first | assumption | exact absurd (Eq.trans (Eq.symm h) (by assumption) : true = false) Bool.noConfusion, ?_⟩ | refine ⟨fun h => (absurd (Eq.trans (Eq.symm h) (by assumption) : true = false) Bool.noConfusion : False), ?_⟩ | refine ⟨_, w64 (by (show (_ : Prop)); first | omega | ((try dsimp only at *); (try simp only [lns] at *); omega)), ?_⟩ | refine ⟨fun _ => ⟨by (show (_ : Prop)); first | omega | ((try dsimp only at *); (try simp only [lns] at *); omega), by (show (_ : Prop)); first | omega | ((try dsimp only at *); (try simp only [lns] at *); omega), by (show (_ : Prop)); first | omega | ((try dsimp only at *); (try simp only [lns] at *); omega)⟩, ?_⟩ | refine ⟨by (show (_ : Prop)); first | omega | ((try dsimp only at *); (try simp only [lns] at *); omega), ?_⟩ | refine ⟨fun h => ⟨by (show (_ : Prop)); first | omega | ((try dsimp only at *); (try simp only [lns] at *); omega), by (show (_ : Prop)); first | omega | ((try dsimp only at *); (try simp only [lns] at *); omega)⟩, ?_⟩ | refine ⟨fun (r : List AV) hr c hc => by simp [encS] at hr; (try subst hr); simp at hc; (try subst hc); rfl, ?_⟩ | refine ⟨noOwn (by rfl), ?_⟩)
      refine again (i + 1) ?_ ⟨h6, by omega⟩ (by first | omega | (simp; done) | (simp; omega))
      (refine ⟨?_, ?_, rfl⟩ <;> repeat' (first | exact rfl | exact trivial | refine ⟨?_, ?_⟩ | fail) <;> (conv => whnf))
      exact h9
  · have h6 : i = t.length := by
      have : ¬ i < t.length := by simpa using h6
      omega
    subst h6
    rw [List.take_length] at hI ⊢
    conv => whnf
    exact ⟨trivial, eqN' (by unfold szR szOL; dsimp only; rw [if_neg (by omega)]; omega)⟩
theorem ok_laws_szOpS : ConOk Tryd.prog 12 c_laws_szOpS := meets_ok (tabT _ _) (FOk.cons ok_laws_szOp FOk.nil) mixed Tryd.func12 rfl Tryd.call12 (by decide) (by kernel_rfl) m_laws_szOpS (by intro _ (y : (List OpR × Int)) _; exact ⟨by simp [c_laws_szOpS, con, conG, conW, AV.noRd, noRdCells, noRdRows, noRdRows_map', encS, encO], by simp [c_laws_szOpS, con, conG, conW, AV.noRd, noRdCells, noRdRows, noRdRows_map', encS, encO]⟩) (by intro (y : (List OpR × Int)) _; first | (simp [c_laws_szOpS, con, conG, conW, conP, AV.free, freeCells, freeRows, freeRows_map, encS, encO]; done) | (obtain ⟨_, _⟩ := y; simp [c_laws_szOpS, con, conG, conW, conP, AV.free, freeCells, freeRows, freeRows_map, encS, encO]; done) | (obtain ⟨_, _, _⟩ := y; simp [c_laws_szOpS, con, conG, conW, conP, AV.free, freeCells, freeRows, freeRows_map, encS, encO]; done))
noncomputable def c_laws_toOpS : PCon := con [mS 6] false (List OpR) (fun t => [.rd 6 (t.map encO)]) smOL (fun t => .own 6 (t.map encO))
noncomputable def E_laws_toOpS : Env := ⟨lookup tyTab, lookup [(10, c_laws_toOp)], [0, 2, 3, 4, 11]⟩
set_option maxRecDepth 100000 in
set_option maxHeartbeats 4000000 in
theorem m_laws_toOpS : Meets E_laws_toOpS (codeOf Tryd.f14) Tryd.f14.results.toList c_laws_toOpS := by
  intro (t : List OpR) hs
  obtain ⟨hs1, hs2⟩ : smOL t := hs
  refine ⟨trivial, ?_⟩
  repeat ((conv => whnf); first | refine ⟨fun h => h, ?_⟩ | refine ⟨(by kernel_rfl : drawOk _ _ = true), ?_⟩ | refine ⟨fun (h : gtrue _) => by first | assumption | exact absurd (Eq.trans (Eq.symm h) (by assumption) : true = false) Bool.noConfusion, ?_⟩ | refine ⟨fun h => (absurd (Eq.trans (Eq.symm h) (by assumption) : true = false) Bool.noConfusion : False), ?_⟩ | refine ⟨_, w64 (by (show (_ : Prop)); first | omega | ((try dsimp only at *); (try simp only [lns] at *); omega)), ?_⟩ | refine ⟨fun _ => ⟨by (show (_ : Prop)); first | omega | ((try dsimp only at *); (try simp only [lns] at *); omega), by (show (_ : Prop)); first | omega | ((try dsimp only at *); (try simp only [lns] at *); omega), by (show (_ : Prop)); first | omega | ((try dsimp only at *); (try simp only [lns] at *); omega)⟩, ?_⟩ | refine ⟨by (show (_ : Prop)); first | omega | ((try dsimp only at *); (try simp only [lns] at *); omega), ?_⟩ | refine ⟨fun h => ⟨by (show (_ : Prop)); first | omega | ((try dsimp only at *); (try simp only [lns] at *); omega), by (show (_ : Prop)); first | omega | ((try dsimp only at *); (try simp only [lns] at *); omega)⟩, ?_⟩ | refine ⟨fun (r : List AV) hr c hc => by simp [encS] at hr; (try subst hr); simp at hc; (try subst hc); rfl, ?_⟩ | refine ⟨noOwn (by rfl), ?_⟩)
  refine loop_rule (fun i : Nat => ⟨[(0, ⟨none, .rd 6 (t.map encO)⟩), (3, ⟨none, .view 0 [] 0 t.length⟩), (4, ⟨none, .int .i64 i⟩)], [(0, .own 6 (filled encO (encO OpR.zero) t i))], 1⟩)
    (fun i => i ≤ t.length) (fun i => t.length - i) 0 ?_ (by omega) ?_
  · (refine ⟨?_, ?_, rfl⟩ <;> repeat' (first | exact rfl | exact trivial | refine ⟨?_, ?_⟩ | fail) <;> (conv => whnf))
    all_goals simp
    exact filled_zero.symm
  intro i hi
  have hi : i ≤ t.length := hi
  (conv => whnf); refine ⟨fun h6 => ?_, fun h6 => ?_⟩
  · have h6 : i < t.length := by simpa using h6
    obtain ⟨b, hb⟩ := get_lt h6
    repeat ((conv => whnf); first | refine ⟨fun h => h, ?_⟩ | refine ⟨(by kernel_rfl : drawOk _ _ = true), ?_⟩ | refine ⟨fun (h : gtrue _) => by first | assumption | exact absurd (Eq.trans (Eq.symm h) (by assumption) : true = false) Bool.noConfusion, ?_⟩ | refine ⟨fun h => (absurd (Eq.trans (Eq.symm h) (by assumption) : true = false) Bool.noConfusion : False), ?_⟩ | refine ⟨_, w64 (by (show (_ : Prop)); first | omega | ((try dsimp only at *); (try simp only [lns] at *); omega)), ?_⟩ | refine ⟨fun _ => ⟨by (show (_ : Prop)); first | omega | ((try dsimp only at *); (try simp only [lns] at *); omega), by (show (_ : Prop)); first | omega | ((try dsimp only at *); (try simp only [lns] at *); omega), by (show (_ : Prop)); first | omega | ((try dsimp only at *); (try simp only [lns] at *); omega)⟩, ?_⟩ | refine ⟨by (show (_ : Prop)); first | omega | ((try dsimp only at *); (try simp only [lns] at *); omega), ?_⟩ | refine ⟨fun h => ⟨by (show (_ : Prop)); first | omega | ((try dsimp only at *); (try simp only [lns] at *); omega), by (show (_ : Prop)); first | omega | ((try dsimp only at *); (try simp only [lns] at *); omega)⟩, ?_⟩ | refine ⟨fun (r : List AV) hr c hc => by simp [encS] at hr; (try subst hr); simp at hc; (try subst hc); rfl, ?_⟩ | refine ⟨noOwn (by rfl), ?_⟩ | refine ⟨encO b, fun _ => ⟨by omega, by simp [hb]⟩, ?_⟩ | refine ⟨b, rfl, fun _ => trivial, ?_⟩ | refine ⟨encO OpR.zero, by simp [filled_get h6], ?_⟩)
    refine again (i + 1) ?_ h6 (by first | omega | (simp; done) | (simp; omega))
    (refine ⟨?_, ?_, rfl⟩ <;> repeat' (first | exact rfl | exact trivial | refine ⟨?_, ?_⟩ | fail) <;> (conv => whnf))
    simp only [Nat.zero_add, Int.toNat_natCast]
    exact filled_set hb
  · have h6 : i = t.length := by
      have : ¬ i < t.length := by simpa using h6
      omega
    subst h6
    conv => whnf
    exact ⟨trivial, eqOwn (by rw [filled_all]; (try simp only [List.drop_zero, List.take_length, take_app]) <;> simp)⟩
theorem ok_laws_toOpS : ConOk Tryd.prog 14 c_laws_toOpS := meets_ok (tabT _ _) (FOk.cons ok_laws_toOp FOk.nil) mixed Tryd.func14 rfl Tryd.call14 (by decide) (by kernel_rfl) m_laws_toOpS (by intro _ (y : (List OpR)) _; exact ⟨by simp [c_laws_toOpS, con, conG, conW, AV.noRd, noRdCells, noRdRows, noRdRows_map', encS, encO], by simp [c_laws_toOpS, con, conG, conW, AV.noRd, noRdCells, noRdRows, noRdRows_map', encS, encO]⟩) (by intro (y : (List OpR)) _; first | (simp [c_laws_toOpS, con, conG, conW, conP, AV.free, freeCells, freeRows, freeRows_map, encS, encO]; done) | (obtain ⟨_, _⟩ := y; simp [c_laws_toOpS, con, conG, conW, conP, AV.free, freeCells, freeRows, freeRows_map, encS, encO]; done) | (obtain ⟨_, _, _⟩ := y; simp [c_laws_toOpS, con, conG, conW, conP, AV.free, freeCells, freeRows, freeRows_map, encS, encO]; done))
noncomputable def c_laws_eqOp : PCon := con [.rd [none, none, none, none, none, none], .rd [none, none, none, none, none, none]] true OpR (fun x => [.agg (encO x), .agg (encO x)]) (fun _ => True) (fun _ => .bool true)
noncomputable def E_laws_eqOp : Env := ⟨lookup tyTab, lookup [], [0, 1, 2, 3, 4, 9, 14, 19, 24, 29, 34]⟩
set_option maxRecDepth 100000 in
set_option maxHeartbeats 4000000 in
theorem m_laws_eqOp : Meets E_laws_eqOp (codeOf Tryd.f19) Tryd.f19.results.toList c_laws_eqOp := by
  intro (x : OpR) hs
  refine ⟨trivial, ?_⟩
  conv => whnf
  refine ⟨fun h => ?_, fun _ => ?_⟩
  · exfalso; simp at h
  conv => whnf
  refine ⟨fun h => ?_, fun _ => ?_⟩
  · exfalso; simp at h
  conv => whnf
  refine ⟨fun h => ?_, fun _ => ?_⟩
  · exfalso; simp at h
  conv => whnf
  refine ⟨fun h => ?_, fun _ => ?_⟩
  · exfalso; simp at h
  conv => whnf
  refine ⟨fun h => ?_, fun _ => ?_⟩
  · exfalso; simp at h
  conv => whnf
  refine ⟨fun h => ?_, fun _ => ?_⟩
  · exfalso; simp at h
  conv => whnf
  exact ⟨trivial, rfl⟩
theorem ok_laws_eqOp : ConOk Tryd.prog 19 c_laws_eqOp := meets_ok (tabT _ _) FOk.nil mixed Tryd.func19 rfl Tryd.call19 (by decide) (by kernel_rfl) m_laws_eqOp (by intro _ (y : OpR) _; exact ⟨by simp [c_laws_eqOp, con, conG, conW, AV.noRd, noRdCells, noRdRows, noRdRows_map', encS, encO], by simp [c_laws_eqOp, con, conG, conW, AV.noRd, noRdCells, noRdRows, noRdRows_map', encS, encO]⟩) (by intro (y : OpR) _; first | (simp [c_laws_eqOp, con, conG, conW, conP, AV.free, freeCells, freeRows, freeRows_map, encS, encO]; done) | (obtain ⟨_, _⟩ := y; simp [c_laws_eqOp, con, conG, conW, conP, AV.free, freeCells, freeRows, freeRows_map, encS, encO]; done) | (obtain ⟨_, _, _⟩ := y; simp [c_laws_eqOp, con, conG, conW, conP, AV.free, freeCells, freeRows, freeRows_map, encS, encO]; done))
noncomputable def c_laws_eqOpS : PCon := con [mS 6, mS 6] true (List OpR) (fun t => [.rd 6 (t.map encO), .rd 6 (t.map encO)]) (fun t => t.length ≤ 4194304) (fun _ => .bool true)
noncomputable def E_laws_eqOpS : Env := ⟨lookup tyTab, lookup [(19, c_laws_eqOp)], [0, 1, 4, 5, 10, 14, 26]⟩
set_option maxRecDepth 100000 in
set_option maxHeartbeats 4000000 in
theorem m_laws_eqOpS : Meets E_laws_eqOpS (codeOf Tryd.f16) Tryd.f16.results.toList c_laws_eqOpS := by
  intro (t : List OpR) (hs1 : t.length ≤ 4194304)
  refine ⟨trivial, ?_⟩
  conv => whnf
  refine ⟨fun h => ?_, fun _ => ?_⟩
  · simp at h
  repeat ((conv => whnf); first | refine ⟨fun h => h, ?_⟩ | refine ⟨(by kernel_rfl : drawOk _ _ = true), ?_⟩ | refine ⟨fun (h : gtrue _) => by first | assumption | exact absurd (Eq.trans (Eq.symm h) (by assumption) : true = false) Bool.noConfusion, ?_⟩ | refine ⟨fun h => (absurd (Eq.trans (Eq.symm h) (by assumption) : true = false) Bool.noConfusion : False), ?_⟩ | refine ⟨_, w64 (by (show (_ : Prop)); first | omega | ((try dsimp only at *); (try simp only [lns] at *); omega)), ?_⟩ | refine ⟨fun _ => ⟨by (show (_ : Prop)); first | omega | ((try dsimp only at *); (try simp only [lns] at *); omega), by (show (_ : Prop)); first | omega | ((try dsimp only at *); (try simp only [lns] at *); omega), by (show (_ : Prop)); first | omega | ((try dsimp only at *); (try simp only [lns] at *); omega)⟩, ?_⟩ | refine ⟨by (show (_ : Prop)); first | omega | ((try dsimp only at *); (try simp only [lns] at *); omega), ?_⟩ | refine ⟨fun h => ⟨by (show (_ : Prop)); first | omega | ((try dsimp only at *); (try simp only [lns] at *); omega), by (show (_ : Prop)); first | omega | ((try dsimp only at *); (try simp only [lns] at *); omega)⟩, ?_⟩ | refine ⟨fun (r : List AV) hr c hc => by simp [encS] at hr; (try subst hr); simp at hc; (try subst hc); rfl, ?_⟩ | refine ⟨noOwn (by rfl), ?_⟩)
  refine loop_rule (fun i : Nat => ⟨[(0, ⟨none, .rd 6 (t.map encO)⟩), (1, ⟨none, .rd 6 (t.map encO)⟩), (5, ⟨none, .int .i64 i⟩)], [], 0⟩)
    (fun i => i ≤ t.length) (fun i => t.length - i) 0 ?_ (by omega) ?_
  · (refine ⟨?_, ?_, rfl⟩ <;> repeat' (first | exact rfl | exact trivial | refine ⟨?_, ?_⟩ | fail) <;> (conv => whnf))
  intro i hi
  have hi : i ≤ t.length := hi
  (conv => whnf); refine ⟨fun h6 => ?_, fun h6 => ?_⟩
  · have h6 : i < t.length := by simpa using h6
    obtain ⟨b, hb⟩ := get_lt h6
    repeat ((conv => whnf); first | refine ⟨fun h => h, ?_⟩ | refine ⟨(by kernel_rfl : drawOk _ _ = true), ?_⟩ | refine ⟨fun (h : gtrue _) => by first | assumption | exact absurd (Eq.trans (Eq.symm h) (by assumption) : true = false) Bool.noConfusion, ?_⟩ | refine ⟨fun h => (absurd (Eq.trans (Eq.symm h) (by assumption) : true = false) Bool.noConfusion : False), ?_⟩ | refine ⟨_, w64 (by (show (_ : Prop)); first | omega | ((try dsimp only at *); (try simp only [lns] at *); omega)), ?_⟩ | refine ⟨fun _ => ⟨by (show (_ : Prop)); first | omega | ((try dsimp only at *); (try simp only [lns] at *); omega), by (show (_ : Prop)); first | omega | ((try dsimp only at *); (try simp only [lns] at *); omega), by (show (_ : Prop)); first | omega | ((try dsimp only at *); (try simp only [lns] at *); omega)⟩, ?_⟩ | refine ⟨by (show (_ : Prop)); first | omega | ((try dsimp only at *); (try simp only [lns] at *); omega), ?_⟩ | refine ⟨fun h => ⟨by (show (_ : Prop)); first | omega | ((try dsimp only at *); (try simp only [lns] at *); omega), by (show (_ : Prop)); first | omega | ((try dsimp only at *); (try simp only [lns] at *); omega)⟩, ?_⟩ | refine ⟨fun (r : List AV) hr c hc => by simp [encS] at hr; (try subst hr); simp at hc; (try subst hc); rfl, ?_⟩ | refine ⟨noOwn (by rfl), ?_⟩ | refine ⟨encO b, fun _ => ⟨by omega, get_map hb⟩, ?_⟩ | refine ⟨b, rfl, fun _ => trivial, ?_⟩)
    conv => whnf
    refine ⟨fun h => absurd h (by decide), fun _ => ?_⟩
    repeat ((conv => whnf); first | refine ⟨fun h => h, ?_⟩ | refine ⟨(by kernel_rfl : drawOk _ _ = true), ?_⟩ | refine ⟨fun (h : gtrue _) => by first | assumption | exact absurd (Eq.trans (Eq.symm h) (by assumption) : true = false) Bool.noConfusion, ?_⟩ | refine ⟨fun h => (absurd (Eq.trans (Eq.symm h) (by assumption) : true = false) Bool.noConfusion : False), ?_⟩ | refine ⟨_, w64 (by (show (_ : Prop)); first | omega | ((try dsimp only at *); (try simp only [lns] at *); omega)), ?_⟩ | refine ⟨fun _ => ⟨by (show (_ : Prop)); first | omega | ((try dsimp only at *); (try simp only [lns] at *); omega), by (show (_ : Prop)); first | omega | ((try dsimp only at *); (try simp only [lns] at *); omega), by (show (_ : Prop)); first | omega | ((try dsimp only at *); (try simp only [lns] at *); omega)⟩, ?_⟩ | refine ⟨by (show (_ : Prop)); first | omega | ((try dsimp only at *); (try simp only [lns] at *); omega), ?_⟩ | refine ⟨fun h => ⟨by (show (_ : Prop)); first | omega | ((try dsimp only at *); (try simp only [lns] at *); omega), by (show (_ : Prop)); first | omega | ((try dsimp only at *); (try simp only [lns] at *); omega)⟩, ?_⟩ | refine ⟨fun (r : List AV) hr c hc => by simp [encS] at hr; (try subst hr); simp at hc; (try subst hc); rfl, ?_⟩ | refine ⟨noOwn (by rfl), ?_⟩)
    refine again (i + 1) ?_ h6 (by first | omega | (simp; done) | (simp; omega))
    (refine ⟨?_, ?_, rfl⟩ <;> repeat' (first | exact rfl | exact trivial | refine ⟨?_, ?_⟩ | fail) <;> (conv => whnf))
  · conv => whnf
    exact ⟨trivial, rfl⟩
theorem ok_laws_eqOpS : ConOk Tryd.prog 16 c_laws_eqOpS := meets_ok (tabT _ _) (FOk.cons ok_laws_eqOp FOk.nil) mixed Tryd.func16 rfl Tryd.call16 (by decide) (by kernel_rfl) m_laws_eqOpS (by intro _ (y : (List OpR)) _; exact ⟨by simp [c_laws_eqOpS, con, conG, conW, AV.noRd, noRdCells, noRdRows, noRdRows_map', encS, encO], by simp [c_laws_eqOpS, con, conG, conW, AV.noRd, noRdCells, noRdRows, noRdRows_map', encS, encO]⟩) (by intro (y : (List OpR)) _; first | (simp [c_laws_eqOpS, con, conG, conW, conP, AV.free, freeCells, freeRows, freeRows_map, encS, encO]; done) | (obtain ⟨_, _⟩ := y; simp [c_laws_eqOpS, con, conG, conW, conP, AV.free, freeCells, freeRows, freeRows_map, encS, encO]; done) | (obtain ⟨_, _, _⟩ := y; simp [c_laws_eqOpS, con, conG, conW, conP, AV.free, freeCells, freeRows, freeRows_map, encS, encO]; done))
noncomputable def c_laws_FnExactOpsText : PCon := conG gwTab [mS 6] true (List OpR) (fun t => [.rd 6 (t.map encO)]) (fun t => t.length ≤ 9223372036854775807 ∧ ∀ y, y ∈ t → bigO y) (fun _ => .bool true)
noncomputable def E_laws_FnExactOpsText : Env := ⟨lookup tyTab, lookup [(12, c_laws_szOpS), (13, c_spec_OpsText), (14, c_laws_toOpS), (15, c_impl_OpsText), (16, c_laws_eqOpS)], [0, 2, 3, 4, 5, 6, 11, 21, 26]⟩
set_option maxRecDepth 100000 in
set_option maxHeartbeats 4000000 in
theorem m_laws_FnExactOpsText : Meets E_laws_FnExactOpsText (codeOf Tryd.f4) Tryd.f4.results.toList c_laws_FnExactOpsText := by
  intro (t : List OpR) hs
  refine ⟨trivial, ?_⟩
  conv => whnf
  refine ⟨(t, 1048576), rfl, fun _ => ⟨by show (0:Int) ≤ 1048576; decide, by show (1048576:Int) ≤ 4194304; decide, hs⟩, ?_⟩
  (conv => whnf); refine ⟨fun h1 => ?_, fun h1 => ?_⟩
  · conv => whnf
    exact ⟨trivial, rfl⟩
  have h1 : ¬ szR 1048576 (szOL t) < 0 := by simpa using h1
  have hsm : smOL t := szOL_sm (n := 1048576) (by have := szR_ok h1; omega) (by omega)
  have hlen : t.length ≤ 4194304 := by have := hsm.1; omega
  conv => whnf
  refine ⟨t, rfl, fun _ => hsm, ?_⟩
  conv => whnf
  refine ⟨t, by refine argP1 ?_; simp [rdO], fun _ => hsm, ?_⟩
  conv => whnf
  refine ⟨t, rfl, fun _ => hsm, ?_⟩
  conv => whnf
  refine ⟨t, by refine argP1 ?_; simp [rdO], fun _ => hsm, ?_⟩
  conv => whnf
  refine ⟨fun h => ?_, fun _ => ?_⟩
  · have h : (!(opsText t == opsText t)) = true := h
    simp at h
  conv => whnf
  refine ⟨t, rfl, fun _ => hsm, ?_⟩
  repeat ((conv => whnf); first | refine ⟨fun h => h, ?_⟩ | refine ⟨(by kernel_rfl : drawOk _ _ = true), ?_⟩ | refine ⟨fun (h : gtrue _) => by first | assumption | exact absurd (Eq.trans (Eq.symm h) (by assumption) : true = false) Bool.noConfusion, ?_⟩ | refine ⟨fun h => (absurd (Eq.trans (Eq.symm h) (by assumption) : true = false) Bool.noConfusion : False), ?_⟩ | refine ⟨_, w64 (by (show (_ : Prop)); first | omega | ((try dsimp only at *); (try simp only [lns] at *); omega)), ?_⟩ | refine ⟨fun _ => ⟨by (show (_ : Prop)); first | omega | ((try dsimp only at *); (try simp only [lns] at *); omega), by (show (_ : Prop)); first | omega | ((try dsimp only at *); (try simp only [lns] at *); omega), by (show (_ : Prop)); first | omega | ((try dsimp only at *); (try simp only [lns] at *); omega)⟩, ?_⟩ | refine ⟨by (show (_ : Prop)); first | omega | ((try dsimp only at *); (try simp only [lns] at *); omega), ?_⟩ | refine ⟨fun h => ⟨by (show (_ : Prop)); first | omega | ((try dsimp only at *); (try simp only [lns] at *); omega), by (show (_ : Prop)); first | omega | ((try dsimp only at *); (try simp only [lns] at *); omega)⟩, ?_⟩ | refine ⟨fun (r : List AV) hr c hc => by simp [encS] at hr; (try subst hr); simp at hc; (try subst hc); rfl, ?_⟩ | refine ⟨noOwn (by rfl), ?_⟩)
  refine ⟨t, by refine argPP ?_ ?_ <;> simp [rdO], fun _ => hlen, ?_⟩
  repeat ((conv => whnf); first | refine ⟨fun h => h, ?_⟩ | refine ⟨(by kernel_rfl : drawOk _ _ = true), ?_⟩ | refine ⟨fun (h : gtrue _) => by first | assumption | exact absurd (Eq.trans (Eq.symm h) (by assumption) : true = false) Bool.noConfusion, ?_⟩ | refine ⟨fun h => (absurd (Eq.trans (Eq.symm h) (by assumption) : true = false) Bool.noConfusion : False), ?_⟩ | refine ⟨_, w64 (by (show (_ : Prop)); first | omega | ((try dsimp only at *); (try simp only [lns] at *); omega)), ?_⟩ | refine ⟨fun _ => ⟨by (show (_ : Prop)); first | omega | ((try dsimp only at *); (try simp only [lns] at *); omega), by (show (_ : Prop)); first | omega | ((try dsimp only at *); (try simp only [lns] at *); omega), by (show (_ : Prop)); first | omega | ((try dsimp only at *); (try simp only [lns] at *); omega)⟩, ?_⟩ | refine ⟨by (show (_ : Prop)); first | omega | ((try dsimp only at *); (try simp only [lns] at *); omega), ?_⟩ | refine ⟨fun h => ⟨by (show (_ : Prop)); first | omega | ((try dsimp only at *); (try simp only [lns] at *); omega), by (show (_ : Prop)); first | omega | ((try dsimp only at *); (try simp only [lns] at *); omega)⟩, ?_⟩ | refine ⟨fun (r : List AV) hr c hc => by simp [encS] at hr; (try subst hr); simp at hc; (try subst hc); rfl, ?_⟩ | refine ⟨noOwn (by rfl), ?_⟩)
  conv => whnf
  refine ⟨fun h => absurd h (by decide), fun _ => ?_⟩
  conv => whnf
  exact ⟨trivial, rfl⟩
theorem ok_laws_FnExactOpsText : ConOk Tryd.prog 4 c_laws_FnExactOpsText := meets_ok (tabT _ _) (FOk.cons ok_laws_szOpS (FOk.cons ok_spec_OpsText (FOk.cons ok_laws_toOpS (FOk.cons ok_impl_OpsText (FOk.cons ok_laws_eqOpS FOk.nil))))) mixed Tryd.func4 rfl Tryd.call4 (by decide) (by kernel_rfl) m_laws_FnExactOpsText (by intro _ (y : (List OpR)) _; exact ⟨by simp [c_laws_FnExactOpsText, con, conG, conW, AV.noRd, noRdCells, noRdRows, noRdRows_map', encS, encO], by simp [c_laws_FnExactOpsText, con, conG, conW, AV.noRd, noRdCells, noRdRows, noRdRows_map', encS, encO]⟩) (by intro (y : (List OpR)) _; first | (simp [c_laws_FnExactOpsText, con, conG, conW, conP, AV.free, freeCells, freeRows, freeRows_map, encS, encO]; done) | (obtain ⟨_, _⟩ := y; simp [c_laws_FnExactOpsText, con, conG, conW, conP, AV.free, freeCells, freeRows, freeRows_map, encS, encO]; done) | (obtain ⟨_, _, _⟩ := y; simp [c_laws_FnExactOpsText, con, conG, conW, conP, AV.free, freeCells, freeRows, freeRows_map, encS, encO]; done))
end Go.GH

set_option linter.unusedVariables false
set_option linter.unusedSimpArgs false
namespace Go.GH
open Go Go.Proofs
noncomputable def c_spec_OpOf : PCon := con [mC] false Str encS (fun s => s.length ≤ 1048576) (fun s => .tup [.agg (encO ((opOf s).getD OpR.zero)), .bool (opOf s).isSome])
noncomputable def E_spec_OpOf : Env := ⟨lookup tyTab, lookup [(9, c_spec_OpText), (37, c_spec_Parts), (38, c_spec_Number), (39, c_spec_l26Sign)], [0, 2, 3, 4, 5, 6, 7, 8, 9, 10, 11, 12, 13, 14, 15, 28, 57, 78, 115]⟩
set_option maxRecDepth 100000 in
set_option maxHeartbeats 4000000 in
theorem m_spec_OpOf : Meets E_spec_OpOf (codeOf Tryd.f17) Tryd.f17.results.toList c_spec_OpOf := by
  intro (s : Str) (hs : s.length ≤ 1048576)
  refine ⟨trivial, ?_⟩
  conv => whnf
  refine ⟨(s, 32), rfl, fun _ => (show s.length ≤ 4194304 by omega), ?_⟩
  have hop : opOf s = if opGood s (splitBy 32 s) then some (opRaw (splitBy 32 s)) else none := rfl
  have hme := fun w hw => splitBy_mem (c := 32) s w hw
  conv => whnf
  generalize splitBy 32 s = ws at hop hme ⊢
  by_cases h6 : ws.length = 6
  · obtain ⟨w0, w1, w2, w3, w4, w5, rfl⟩ := six h6
    have m0 := hme w0 (by simp)
    have m1 := hme w1 (by simp)
    have m2 := hme w2 (by simp)
    have m3 := hme w3 (by simp)
    have m4 := hme w4 (by simp)
    have m5 := hme w5 (by simp)
    have hg : opGood s [w0, w1, w2, w3, w4, w5] = ((num w0).isSome && (num w3).isSome && (num w4).isSome && (unhex w5).isSome && (opText (opRaw [w0, w1, w2, w3, w4, w5]) == s)) := by simp [opGood]
    repeat ((conv => whnf); first | refine ⟨fun h => h, ?_⟩ | refine ⟨(by kernel_rfl : drawOk _ _ = true), ?_⟩ | refine ⟨fun (h : gtrue _) => by first | assumption | exact absurd (Eq.trans (Eq.symm h) (by assumption) : true = false) Bool.noConfusion, ?_⟩ | refine ⟨fun h => (absurd (Eq.trans (Eq.symm h) (by assumption) : true = false) Bool.noConfusion : False), ?_⟩ | refine ⟨_, w64 (by (show (_ : Prop)); first | omega | ((try dsimp only at *); (try simp only [lns] at *); omega)), ?_⟩ | refine ⟨fun _ => ⟨by (show (_ : Prop)); first | omega | ((try dsimp only at *); (try simp only [lns] at *); omega), by (show (_ : Prop)); first | omega | ((try dsimp only at *); (try simp only [lns] at *); omega), by (show (_ : Prop)); first | omega | ((try dsimp only at *); (try simp only [lns] at *); omega)⟩, ?_⟩ | refine ⟨by (show (_ : Prop)); first | omega | ((try dsimp only at *); (try simp only [lns] at *); omega), ?_⟩ | refine ⟨fun h => ⟨by (show (_ : Prop)); first | omega | ((try dsimp only at *); (try simp only [lns] at *); omega), by (show (_ : Prop)); first | omega | ((try dsimp only at *); (try simp only [lns] at *); omega)⟩, ?_⟩ | refine ⟨fun (r : List AV) hr c hc => by simp [encS] at hr; (try subst hr); simp at hc; (try subst hc); rfl, ?_⟩ | refine ⟨noOwn (by rfl), ?_⟩)
    refine ⟨encS w5, fun _ => rfl, ?_⟩
    repeat ((conv => whnf); first | refine ⟨fun h => h, ?_⟩ | refine ⟨(by kernel_rfl : drawOk _ _ = true), ?_⟩ | refine ⟨fun (h : gtrue _) => by first | assumption | exact absurd (Eq.trans (Eq.symm h) (by assumption) : true = false) Bool.noConfusion, ?_⟩ | refine ⟨fun h => (absurd (Eq.trans (Eq.symm h) (by assumption) : true = false) Bool.noConfusion : False), ?_⟩ | refine ⟨_, w64 (by (show (_ : Prop)); first | omega | ((try dsimp only at *); (try simp only [lns] at *); omega)), ?_⟩ | refine ⟨fun _ => ⟨by (show (_ : Prop)); first | omega | ((try dsimp only at *); (try simp only [lns] at *); omega), by (show (_ : Prop)); first | omega | ((try dsimp only at *); (try simp only [lns] at *); omega), by (show (_ : Prop)); first | omega | ((try dsimp only at *); (try simp only [lns] at *); omega)⟩, ?_⟩ | refine ⟨by (show (_ : Prop)); first | omega | ((try dsimp only at *); (try simp only [lns] at *); omega), ?_⟩ | refine ⟨fun h => ⟨by (show (_ : Prop)); first | omega | ((try dsimp only at *); (try simp only [lns] at *); omega), by (show (_ : Prop)); first | omega | ((try dsimp only at *); (try simp only [lns] at *); omega)⟩, ?_⟩ | refine ⟨fun (r : List AV) hr c hc => by simp [encS] at hr; (try subst hr); simp at hc; (try subst hc); rfl, ?_⟩ | refine ⟨noOwn (by rfl), ?_⟩)
    refine ⟨((w5.length % 2 : Nat) : Int), rfl, ?_⟩
    repeat ((conv => whnf); first | refine ⟨fun h => h, ?_⟩ | refine ⟨(by kernel_rfl : drawOk _ _ = true), ?_⟩ | refine ⟨fun (h : gtrue _) => by first | assumption | exact absurd (Eq.trans (Eq.symm h) (by assumption) : true = false) Bool.noConfusion, ?_⟩ | refine ⟨fun h => (absurd (Eq.trans (Eq.symm h) (by assumption) : true = false) Bool.noConfusion : False), ?_⟩ | refine ⟨_, w64 (by (show (_ : Prop)); first | omega | ((try dsimp only at *); (try simp only [lns] at *); omega)), ?_⟩ | refine ⟨fun _ => ⟨by (show (_ : Prop)); first | omega | ((try dsimp only at *); (try simp only [lns] at *); omega), by (show (_ : Prop)); first | omega | ((try dsimp only at *); (try simp only [lns] at *); omega), by (show (_ : Prop)); first | omega | ((try dsimp only at *); (try simp only [lns] at *); omega)⟩, ?_⟩ | refine ⟨by (show (_ : Prop)); first | omega | ((try dsimp only at *); (try simp only [lns] at *); omega), ?_⟩ | refine ⟨fun h => ⟨by (show (_ : Prop)); first | omega | ((try dsimp only at *); (try simp only [lns] at *); omega), by (show (_ : Prop)); first | omega | ((try dsimp only at *); (try simp only [lns] at *); omega)⟩, ?_⟩ | refine ⟨fun (r : List AV) hr c hc => by simp [encS] at hr; (try subst hr); simp at hc; (try subst hc); rfl, ?_⟩ | refine ⟨noOwn (by rfl), ?_⟩)
    (conv => whnf); refine ⟨fun h1 => ?_, fun h1 => ?_⟩
    · have h1 : w5.length % 2 = 1 := by
        have h1 : (((6 : Nat) : Int) != 6 || ((w5.length % 2 : Nat) : Int) != 0) = true := h1
        simp at h1; omega
      have hu := unhex_odd w5 h1
      have hno : opOf s = none := by rw [hop, hg, hu, if_neg]; simp
      repeat ((conv => whnf); first | refine ⟨fun h => h, ?_⟩ | refine ⟨(by kernel_rfl : drawOk _ _ = true), ?_⟩ | refine ⟨fun (h : gtrue _) => by first | assumption | exact absurd (Eq.trans (Eq.symm h) (by assumption) : true = false) Bool.noConfusion, ?_⟩ | refine ⟨fun h => (absurd (Eq.trans (Eq.symm h) (by assumption) : true = false) Bool.noConfusion : False), ?_⟩ | refine ⟨_, w64 (by (show (_ : Prop)); first | omega | ((try dsimp only at *); (try simp only [lns] at *); omega)), ?_⟩ | refine ⟨fun _ => ⟨by (show (_ : Prop)); first | omega | ((try dsimp only at *); (try simp only [lns] at *); omega), by (show (_ : Prop)); first | omega | ((try dsimp only at *); (try simp only [lns] at *); omega), by (show (_ : Prop)); first | omega | ((try dsimp only at *); (try simp only [lns] at *); omega)⟩, ?_⟩ | refine ⟨by (show (_ : Prop)); first | omega | ((try dsimp only at *); (try simp only [lns] at *); omega), ?_⟩ | refine ⟨fun h => ⟨by (show (_ : Prop)); first | omega | ((try dsimp only at *); (try simp only [lns] at *); omega), by (show (_ : Prop)); first | omega | ((try dsimp only at *); (try simp only [lns] at *); omega)⟩, ?_⟩ | refine ⟨fun (r : List AV) hr c hc => by simp [encS] at hr; (try subst hr); simp at hc; (try subst hc); rfl, ?_⟩ | refine ⟨noOwn (by rfl), ?_⟩)
      exact ⟨trivial, by rw [hno]; exact ⟨rfl, rfl, rfl, rfl, rfl, rfl, trivial⟩, eqB (by rw [hno]; rfl), trivial⟩
    have h1 : w5.length % 2 = 0 := by
      have h1 : (((6 : Nat) : Int) != 6 || ((w5.length % 2 : Nat) : Int) != 0) = false := h1
      simp at h1; omega
    repeat ((conv => whnf); first | refine ⟨fun h => h, ?_⟩ | refine ⟨(by kernel_rfl : drawOk _ _ = true), ?_⟩ | refine ⟨fun (h : gtrue _) => by first | assumption | exact absurd (Eq.trans (Eq.symm h) (by assumption) : true = false) Bool.noConfusion, ?_⟩ | refine ⟨fun h => (absurd (Eq.trans (Eq.symm h) (by assumption) : true = false) Bool.noConfusion : False), ?_⟩ | refine ⟨_, w64 (by (show (_ : Prop)); first | omega | ((try dsimp only at *); (try simp only [lns] at *); omega)), ?_⟩ | refine ⟨fun _ => ⟨by (show (_ : Prop)); first | omega | ((try dsimp only at *); (try simp only [lns] at *); omega), by (show (_ : Prop)); first | omega | ((try dsimp only at *); (try simp only [lns] at *); omega), by (show (_ : Prop)); first | omega | ((try dsimp only at *); (try simp only [lns] at *); omega)⟩, ?_⟩ | refine ⟨by (show (_ : Prop)); first | omega | ((try dsimp only at *); (try simp only [lns] at *); omega), ?_⟩ | refine ⟨fun h => ⟨by (show (_ : Prop)); first | omega | ((try dsimp only at *); (try simp only [lns] at *); omega), by (show (_ : Prop)); first | omega | ((try dsimp only at *); (try simp only [lns] at *); omega)⟩, ?_⟩ | refine ⟨fun (r : List AV) hr c hc => by simp [encS] at hr; (try subst hr); simp at hc; (try subst hc); rfl, ?_⟩ | refine ⟨noOwn (by rfl), ?_⟩ | refine ⟨fun _ => ⟨by decide, by decide⟩, ?_⟩ | refine ⟨encS _, fun _ => rfl, ?_⟩)
    refine ⟨w0, rfl, fun _ => (show w0.length ≤ 16777216 by omega), ?_⟩
    repeat ((conv => whnf); first | refine ⟨fun h => h, ?_⟩ | refine ⟨(by kernel_rfl : drawOk _ _ = true), ?_⟩ | refine ⟨fun (h : gtrue _) => by first | assumption | exact absurd (Eq.trans (Eq.symm h) (by assumption) : true = false) Bool.noConfusion, ?_⟩ | refine ⟨fun h => (absurd (Eq.trans (Eq.symm h) (by assumption) : true = false) Bool.noConfusion : False), ?_⟩ | refine ⟨_, w64 (by (show (_ : Prop)); first | omega | ((try dsimp only at *); (try simp only [lns] at *); omega)), ?_⟩ | refine ⟨fun _ => ⟨by (show (_ : Prop)); first | omega | ((try dsimp only at *); (try simp only [lns] at *); omega), by (show (_ : Prop)); first | omega | ((try dsimp only at *); (try simp only [lns] at *); omega), by (show (_ : Prop)); first | omega | ((try dsimp only at *); (try simp only [lns] at *); omega)⟩, ?_⟩ | refine ⟨by (show (_ : Prop)); first | omega | ((try dsimp only at *); (try simp only [lns] at *); omega), ?_⟩ | refine ⟨fun h => ⟨by (show (_ : Prop)); first | omega | ((try dsimp only at *); (try simp only [lns] at *); omega), by (show (_ : Prop)); first | omega | ((try dsimp only at *); (try simp only [lns] at *); omega)⟩, ?_⟩ | refine ⟨fun (r : List AV) hr c hc => by simp [encS] at hr; (try subst hr); simp at hc; (try subst hc); rfl, ?_⟩ | refine ⟨noOwn (by rfl), ?_⟩ | refine ⟨fun _ => ⟨by decide, by decide⟩, ?_⟩ | refine ⟨encS _, fun _ => rfl, ?_⟩)
    refine ⟨w3, rfl, fun _ => (show w3.length ≤ 16777216 by omega), ?_⟩
    repeat ((conv => whnf); first | refine ⟨fun h => h, ?_⟩ | refine ⟨(by kernel_rfl : drawOk _ _ = true), ?_⟩ | refine ⟨fun (h : gtrue _) => by first | assumption | exact absurd (Eq.trans (Eq.symm h) (by assumption) : true = false) Bool.noConfusion, ?_⟩ | refine ⟨fun h => (absurd (Eq.trans (Eq.symm h) (by assumption) : true = false) Bool.noConfusion : False), ?_⟩ | refine ⟨_, w64 (by (show (_ : Prop)); first | omega | ((try dsimp only at *); (try simp only [lns] at *); omega)), ?_⟩ | refine ⟨fun _ => ⟨by (show (_ : Prop)); first | omega | ((try dsimp only at *); (try simp only [lns] at *); omega), by (show (_ : Prop)); first | omega | ((try dsimp only at *); (try simp only [lns] at *); omega), by (show (_ : Prop)); first | omega | ((try dsimp only at *); (try simp only [lns] at *); omega)⟩, ?_⟩ | refine ⟨by (show (_ : Prop)); first | omega | ((try dsimp only at *); (try simp only [lns] at *); omega), ?_⟩ | refine ⟨fun h => ⟨by (show (_ : Prop)); first | omega | ((try dsimp only at *); (try simp only [lns] at *); omega), by (show (_ : Prop)); first | omega | ((try dsimp only at *); (try simp only [lns] at *); omega)⟩, ?_⟩ | refine ⟨fun (r : List AV) hr c hc => by simp [encS] at hr; (try subst hr); simp at hc; (try subst hc); rfl, ?_⟩ | refine ⟨noOwn (by rfl), ?_⟩ | refine ⟨fun _ => ⟨by decide, by decide⟩, ?_⟩ | refine ⟨encS _, fun _ => rfl, ?_⟩)
    refine ⟨w4, rfl, fun _ => (show w4.length ≤ 16777216 by omega), ?_⟩
    repeat ((conv => whnf); first | refine ⟨fun h => h, ?_⟩ | refine ⟨(by kernel_rfl : drawOk _ _ = true), ?_⟩ | refine ⟨fun (h : gtrue _) => by first | assumption | exact absurd (Eq.trans (Eq.symm h) (by assumption) : true = false) Bool.noConfusion, ?_⟩ | refine ⟨fun h => (absurd (Eq.trans (Eq.symm h) (by assumption) : true = false) Bool.noConfusion : False), ?_⟩ | refine ⟨_, w64 (by (show (_ : Prop)); first | omega | ((try dsimp only at *); (try simp only [lns] at *); omega)), ?_⟩ | refine ⟨fun _ => ⟨by (show (_ : Prop)); first | omega | ((try dsimp only at *); (try simp only [lns] at *); omega), by (show (_ : Prop)); first | omega | ((try dsimp only at *); (try simp only [lns] at *); omega), by (show (_ : Prop)); first | omega | ((try dsimp only at *); (try simp only [lns] at *); omega)⟩, ?_⟩ | refine ⟨by (show (_ : Prop)); first | omega | ((try dsimp only at *); (try simp only [lns] at *); omega), ?_⟩ | refine ⟨fun h => ⟨by (show (_ : Prop)); first | omega | ((try dsimp only at *); (try simp only [lns] at *); omega), by (show (_ : Prop)); first | omega | ((try dsimp only at *); (try simp only [lns] at *); omega)⟩, ?_⟩ | refine ⟨fun (r : List AV) hr c hc => by simp [encS] at hr; (try subst hr); simp at hc; (try subst hc); rfl, ?_⟩ | refine ⟨noOwn (by rfl), ?_⟩ | refine ⟨fun _ => ⟨by decide, by decide⟩, ?_⟩ | refine ⟨encS _, fun _ => rfl, ?_⟩)
    refine loop_rule (fun ((i, out) : Nat × Str) => ⟨[(0, ⟨none, .str s⟩), (2, ⟨none, .bx 0 0⟩), (4, ⟨none, .view 1 [] 0 6⟩), (5, ⟨none, .int .i64 ((num w0).getD 0 : Nat)⟩), (6, ⟨none, .bool (num w0).isSome⟩), (7, ⟨none, .int .i64 ((num w3).getD 0 : Nat)⟩), (8, ⟨none, .bool (num w3).isSome⟩), (9, ⟨none, .int .i64 ((num w4).getD 0 : Nat)⟩), (10, ⟨none, .bool (num w4).isSome⟩), (11, ⟨none, .view 2 [] 0 out.length⟩), (12, ⟨none, .int .i64 i⟩)], [(0, .own 6 [encO OpR.zero]), (1, .own 1 ([w0, w1, w2, w3, w4, w5].map encS)), (2, .own 1 (out.map fun b => [.int .u8 b.toNat]))], 3⟩)
      (fun (i, out) => HexInv w5 i out) (fun x => w5.length - x.1) (0, []) ?_ (HexInv.zero w5) ?_
    · (refine ⟨?_, ?_, rfl⟩ <;> repeat' (first | exact rfl | exact trivial | refine ⟨?_, ?_⟩ | fail) <;> (conv => whnf))
    rintro ⟨i, out⟩ hI
    have hI : HexInv w5 i out := hI
    have hi := hI.1
    have hi2 := hI.2.1
    have hol := hI.2.2.1
    repeat ((conv => whnf); first | refine ⟨fun h => h, ?_⟩ | refine ⟨(by kernel_rfl : drawOk _ _ = true), ?_⟩ | refine ⟨fun (h : gtrue _) => by first | assumption | exact absurd (Eq.trans (Eq.symm h) (by assumption) : true = false) Bool.noConfusion, ?_⟩ | refine ⟨fun h => (absurd (Eq.trans (Eq.symm h) (by assumption) : true = false) Bool.noConfusion : False), ?_⟩ | refine ⟨_, w64 (by (show (_ : Prop)); first | omega | ((try dsimp only at *); (try simp only [lns] at *); omega)), ?_⟩ | refine ⟨fun _ => ⟨by (show (_ : Prop)); first | omega | ((try dsimp only at *); (try simp only [lns] at *); omega), by (show (_ : Prop)); first | omega | ((try dsimp only at *); (try simp only [lns] at *); omega), by (show (_ : Prop)); first | omega | ((try dsimp only at *); (try simp only [lns] at *); omega)⟩, ?_⟩ | refine ⟨by (show (_ : Prop)); first | omega | ((try dsimp only at *); (try simp only [lns] at *); omega), ?_⟩ | refine ⟨fun h => ⟨by (show (_ : Prop)); first | omega | ((try dsimp only at *); (try simp only [lns] at *); omega), by (show (_ : Prop)); first | omega | ((try dsimp only at *); (try simp only [lns] at *); omega)⟩, ?_⟩ | refine ⟨fun (r : List AV) hr c hc => by simp [encS] at hr; (try subst hr); simp at hc; (try subst hc); rfl, ?_⟩ | refine ⟨noOwn (by rfl), ?_⟩ | refine ⟨fun _ => ⟨by decide, by decide⟩, ?_⟩ | refine ⟨encS _, fun _ => rfl, ?_⟩)
    (conv => whnf); refine ⟨fun h2 => ?_, fun h2 => ?_⟩
    · have h2 : i < w5.length := by simpa using h2
      obtain ⟨a, ha⟩ := get_lt h2
      obtain ⟨b, hb⟩ := get_lt (l := w5) (i := i + 1) (by omega)
      have ra := hexV_range a
      have rb := hexV_range b
      repeat ((conv => whnf); first | refine ⟨fun h => h, ?_⟩ | refine ⟨(by kernel_rfl : drawOk _ _ = true), ?_⟩ | refine ⟨fun (h : gtrue _) => by first | assumption | exact absurd (Eq.trans (Eq.symm h) (by assumption) : true = false) Bool.noConfusion, ?_⟩ | refine ⟨fun h => (absurd (Eq.trans (Eq.symm h) (by assumption) : true = false) Bool.noConfusion : False), ?_⟩ | refine ⟨_, w64 (by (show (_ : Prop)); first | omega | ((try dsimp only at *); (try simp only [lns] at *); omega)), ?_⟩ | refine ⟨fun _ => ⟨by (show (_ : Prop)); first | omega | ((try dsimp only at *); (try simp only [lns] at *); omega), by (show (_ : Prop)); first | omega | ((try dsimp only at *); (try simp only [lns] at *); omega), by (show (_ : Prop)); first | omega | ((try dsimp only at *); (try simp only [lns] at *); omega)⟩, ?_⟩ | refine ⟨by (show (_ : Prop)); first | omega | ((try dsimp only at *); (try simp only [lns] at *); omega), ?_⟩ | refine ⟨fun h => ⟨by (show (_ : Prop)); first | omega | ((try dsimp only at *); (try simp only [lns] at *); omega), by (show (_ : Prop)); first | omega | ((try dsimp only at *); (try simp only [lns] at *); omega)⟩, ?_⟩ | refine ⟨fun (r : List AV) hr c hc => by simp [encS] at hr; (try subst hr); simp at hc; (try subst hc); rfl, ?_⟩ | refine ⟨noOwn (by rfl), ?_⟩ | refine ⟨fun _ => ⟨by decide, by decide⟩, ?_⟩ | refine ⟨encS _, fun _ => rfl, ?_⟩)
      refine ⟨a, fun _ => ⟨Int.natCast_nonneg _, ha⟩, ?_⟩
      repeat ((conv => whnf); first | refine ⟨fun h => h, ?_⟩ | refine ⟨(by kernel_rfl : drawOk _ _ = true), ?_⟩ | refine ⟨fun (h : gtrue _) => by first | assumption | exact absurd (Eq.trans (Eq.symm h) (by assumption) : true = false) Bool.noConfusion, ?_⟩ | refine ⟨fun h => (absurd (Eq.trans (Eq.symm h) (by assumption) : true = false) Bool.noConfusion : False), ?_⟩ | refine ⟨_, w64 (by (show (_ : Prop)); first | omega | ((try dsimp only at *); (try simp only [lns] at *); omega)), ?_⟩ | refine ⟨fun _ => ⟨by (show (_ : Prop)); first | omega | ((try dsimp only at *); (try simp only [lns] at *); omega), by (show (_ : Prop)); first | omega | ((try dsimp only at *); (try simp only [lns] at *); omega), by (show (_ : Prop)); first | omega | ((try dsimp only at *); (try simp only [lns] at *); omega)⟩, ?_⟩ | refine ⟨by (show (_ : Prop)); first | omega | ((try dsimp only at *); (try simp only [lns] at *); omega), ?_⟩ | refine ⟨fun h => ⟨by (show (_ : Prop)); first | omega | ((try dsimp only at *); (try simp only [lns] at *); omega), by (show (_ : Prop)); first | omega | ((try dsimp only at *); (try simp only [lns] at *); omega)⟩, ?_⟩ | refine ⟨fun (r : List AV) hr c hc => by simp [encS] at hr; (try subst hr); simp at hc; (try subst hc); rfl, ?_⟩ | refine ⟨noOwn (by rfl), ?_⟩ | refine ⟨fun _ => ⟨by decide, by decide⟩, ?_⟩ | refine ⟨encS _, fun _ => rfl, ?_⟩)
      refine ⟨a, rfl, fun _ => trivial, ?_⟩
      repeat ((conv => whnf); first | refine ⟨fun h => h, ?_⟩ | refine ⟨(by kernel_rfl : drawOk _ _ = true), ?_⟩ | refine ⟨fun (h : gtrue _) => by first | assumption | exact absurd (Eq.trans (Eq.symm h) (by assumption) : true = false) Bool.noConfusion, ?_⟩ | refine ⟨fun h => (absurd (Eq.trans (Eq.symm h) (by assumption) : true = false) Bool.noConfusion : False), ?_⟩ | refine ⟨_, w64 (by (show (_ : Prop)); first | omega | ((try dsimp only at *); (try simp only [lns] at *); omega)), ?_⟩ | refine ⟨fun _ => ⟨by (show (_ : Prop)); first | omega | ((try dsimp only at *); (try simp only [lns] at *); omega), by (show (_ : Prop)); first | omega | ((try dsimp only at *); (try simp only [lns] at *); omega), by (show (_ : Prop)); first | omega | ((try dsimp only at *); (try simp only [lns] at *); omega)⟩, ?_⟩ | refine ⟨by (show (_ : Prop)); first | omega | ((try dsimp only at *); (try simp only [lns] at *); omega), ?_⟩ | refine ⟨fun h => ⟨by (show (_ : Prop)); first | omega | ((try dsimp only at *); (try simp only [lns] at *); omega), by (show (_ : Prop)); first | omega | ((try dsimp only at *); (try simp only [lns] at *); omega)⟩, ?_⟩ | refine ⟨fun (r : List AV) hr c hc => by simp [encS] at hr; (try subst hr); simp at hc; (try subst hc); rfl, ?_⟩ | refine ⟨noOwn (by rfl), ?_⟩ | refine ⟨fun _ => ⟨by decide, by decide⟩, ?_⟩ | refine ⟨encS _, fun _ => rfl, ?_⟩)
      refine ⟨b, fun _ => ⟨by omega, hb⟩, ?_⟩
      repeat ((conv => whnf); first | refine ⟨fun h => h, ?_⟩ | refine ⟨(by kernel_rfl : drawOk _ _ = true), ?_⟩ | refine ⟨fun (h : gtrue _) => by first | assumption | exact absurd (Eq.trans (Eq.symm h) (by assumption) : true = false) Bool.noConfusion, ?_⟩ | refine ⟨fun h => (absurd (Eq.trans (Eq.symm h) (by assumption) : true = false) Bool.noConfusion : False), ?_⟩ | refine ⟨_, w64 (by (show (_ : Prop)); first | omega | ((try dsimp only at *); (try simp only [lns] at *); omega)), ?_⟩ | refine ⟨fun _ => ⟨by (show (_ : Prop)); first | omega | ((try dsimp only at *); (try simp only [lns] at *); omega), by (show (_ : Prop)); first | omega | ((try dsimp only at *); (try simp only [lns] at *); omega), by (show (_ : Prop)); first | omega | ((try dsimp only at *); (try simp only [lns] at *); omega)⟩, ?_⟩ | refine ⟨by (show (_ : Prop)); first | omega | ((try dsimp only at *); (try simp only [lns] at *); omega), ?_⟩ | refine ⟨fun h => ⟨by (show (_ : Prop)); first | omega | ((try dsimp only at *); (try simp only [lns] at *); omega), by (show (_ : Prop)); first | omega | ((try dsimp only at *); (try simp only [lns] at *); omega)⟩, ?_⟩ | refine ⟨fun (r : List AV) hr c hc => by simp [encS] at hr; (try subst hr); simp at hc; (try subst hc); rfl, ?_⟩ | refine ⟨noOwn (by rfl), ?_⟩ | refine ⟨fun _ => ⟨by decide, by decide⟩, ?_⟩ | refine ⟨encS _, fun _ => rfl, ?_⟩)
      refine ⟨b, rfl, fun _ => trivial, ?_⟩
      repeat ((conv => whnf); first | refine ⟨fun h => h, ?_⟩ | refine ⟨(by kernel_rfl : drawOk _ _ = true), ?_⟩ | refine ⟨fun (h : gtrue _) => by first | assumption | exact absurd (Eq.trans (Eq.symm h) (by assumption) : true = false) Bool.noConfusion, ?_⟩ | refine ⟨fun h => (absurd (Eq.trans (Eq.symm h) (by assumption) : true = false) Bool.noConfusion : False), ?_⟩ | refine ⟨_, w64 (by (show (_ : Prop)); first | omega | ((try dsimp only at *); (try simp only [lns] at *); omega)), ?_⟩ | refine ⟨fun _ => ⟨by (show (_ : Prop)); first | omega | ((try dsimp only at *); (try simp only [lns] at *); omega), by (show (_ : Prop)); first | omega | ((try dsimp only at *); (try simp only [lns] at *); omega), by (show (_ : Prop)); first | omega | ((try dsimp only at *); (try simp only [lns] at *); omega)⟩, ?_⟩ | refine ⟨by (show (_ : Prop)); first | omega | ((try dsimp only at *); (try simp only [lns] at *); omega), ?_⟩ | refine ⟨fun h => ⟨by (show (_ : Prop)); first | omega | ((try dsimp only at *); (try simp only [lns] at *); omega), by (show (_ : Prop)); first | omega | ((try dsimp only at *); (try simp only [lns] at *); omega)⟩, ?_⟩ | refine ⟨fun (r : List AV) hr c hc => by simp [encS] at hr; (try subst hr); simp at hc; (try subst hc); rfl, ?_⟩ | refine ⟨noOwn (by rfl), ?_⟩ | refine ⟨fun _ => ⟨by decide, by decide⟩, ?_⟩ | refine ⟨encS _, fun _ => rfl, ?_⟩)
      (conv => whnf); refine ⟨fun h3 => ?_, fun h3 => ?_⟩
      · have h3 : (decide (hexV a < 0) || decide (hexV b < 0)) = true := h3
        have hu := hI.bad ha hb h3
        have hno : opOf s = none := by rw [hop, hg, hu, if_neg]; simp
        repeat ((conv => whnf); first | refine ⟨fun h => h, ?_⟩ | refine ⟨(by kernel_rfl : drawOk _ _ = true), ?_⟩ | refine ⟨fun (h : gtrue _) => by first | assumption | exact absurd (Eq.trans (Eq.symm h) (by assumption) : true = false) Bool.noConfusion, ?_⟩ | refine ⟨fun h => (absurd (Eq.trans (Eq.symm h) (by assumption) : true = false) Bool.noConfusion : False), ?_⟩ | refine ⟨_, w64 (by (show (_ : Prop)); first | omega | ((try dsimp only at *); (try simp only [lns] at *); omega)), ?_⟩ | refine ⟨fun _ => ⟨by (show (_ : Prop)); first | omega | ((try dsimp only at *); (try simp only [lns] at *); omega), by (show (_ : Prop)); first | omega | ((try dsimp only at *); (try simp only [lns] at *); omega), by (show (_ : Prop)); first | omega | ((try dsimp only at *); (try simp only [lns] at *); omega)⟩, ?_⟩ | refine ⟨by (show (_ : Prop)); first | omega | ((try dsimp only at *); (try simp only [lns] at *); omega), ?_⟩ | refine ⟨fun h => ⟨by (show (_ : Prop)); first | omega | ((try dsimp only at *); (try simp only [lns] at *); omega), by (show (_ : Prop)); first | omega | ((try dsimp only at *); (try simp only [lns] at *); omega)⟩, ?_⟩ | refine ⟨fun (r : List AV) hr c hc => by simp [encS] at hr; (try subst hr); simp at hc; (try subst hc); rfl, ?_⟩ | refine ⟨noOwn (by rfl), ?_⟩)
        exact ⟨trivial, by rw [hno]; exact ⟨rfl, rfl, rfl, rfl, rfl, rfl, trivial⟩, eqB (by rw [hno]; rfl), trivial⟩
      · have h3 : (decide (hexV a < 0) || decide (hexV b < 0)) = false := h3
        have hne := hI.next ha hb h3
        have h4 : 0 ≤ hexV a ∧ 0 ≤ hexV b := by simp at h3; omega
        repeat ((conv => whnf); first | refine ⟨fun h => h, ?_⟩ | refine ⟨(by kernel_rfl : drawOk _ _ = true), ?_⟩ | refine ⟨fun (h : gtrue _) => by first | assumption | exact absurd (Eq.trans (Eq.symm h) (by assumption) : true = false) Bool.noConfusion, ?_⟩ | refine ⟨fun h => (absurd (Eq.trans (Eq.symm h) (by assumption) : true = false) Bool.noConfusion : False), ?_⟩ | refine ⟨_, w64 (by (show (_ : Prop)); first | omega | ((try dsimp only at *); (try simp only [lns] at *); omega)), ?_⟩ | refine ⟨fun _ => ⟨by (show (_ : Prop)); first | omega | ((try dsimp only at *); (try simp only [lns] at *); omega), by (show (_ : Prop)); first | omega | ((try dsimp only at *); (try simp only [lns] at *); omega), by (show (_ : Prop)); first | omega | ((try dsimp only at *); (try simp only [lns] at *); omega)⟩, ?_⟩ | refine ⟨by (show (_ : Prop)); first | omega | ((try dsimp only at *); (try simp only [lns] at *); omega), ?_⟩ | refine ⟨fun h => ⟨by (show (_ : Prop)); first | omega | ((try dsimp only at *); (try simp only [lns] at *); omega), by (show (_ : Prop)); first | omega | ((try dsimp only at *); (try simp only [lns] at *); omega)⟩, ?_⟩ | refine ⟨fun (r : List AV) hr c hc => by simp [encS] at hr; (try subst hr); simp at hc; (try subst hc); rfl, ?_⟩ | refine ⟨noOwn (by rfl), ?_⟩ | refine ⟨fun _ => ⟨by decide, by decide⟩, ?_⟩ | refine ⟨encS _, fun _ => rfl, ?_⟩)
        refine ⟨((hexB a b).toNat : Int), hexB_val ⟨h4.1, ra.2⟩ ⟨h4.2, rb.2⟩, ?_⟩
        repeat ((conv => whnf); first | refine ⟨fun h => h, ?_⟩ | refine ⟨(by kernel_rfl : drawOk _ _ = true), ?_⟩ | refine ⟨fun (h : gtrue _) => by first | assumption | exact absurd (Eq.trans (Eq.symm h) (by assumption) : true = false) Bool.noConfusion, ?_⟩ | refine ⟨fun h => (absurd (Eq.trans (Eq.symm h) (by assumption) : true = false) Bool.noConfusion : False), ?_⟩ | refine ⟨_, w64 (by (show (_ : Prop)); first | omega | ((try dsimp only at *); (try simp only [lns] at *); omega)), ?_⟩ | refine ⟨fun _ => ⟨by (show (_ : Prop)); first | omega | ((try dsimp only at *); (try simp only [lns] at *); omega), by (show (_ : Prop)); first | omega | ((try dsimp only at *); (try simp only [lns] at *); omega), by (show (_ : Prop)); first | omega | ((try dsimp only at *); (try simp only [lns] at *); omega)⟩, ?_⟩ | refine ⟨by (show (_ : Prop)); first | omega | ((try dsimp only at *); (try simp only [lns] at *); omega), ?_⟩ | refine ⟨fun h => ⟨by (show (_ : Prop)); first | omega | ((try dsimp only at *); (try simp only [lns] at *); omega), by (show (_ : Prop)); first | omega | ((try dsimp only at *); (try simp only [lns] at *); omega)⟩, ?_⟩ | refine ⟨fun (r : List AV) hr c hc => by simp [encS] at hr; (try subst hr); simp at hc; (try subst hc); rfl, ?_⟩ | refine ⟨noOwn (by rfl), ?_⟩ | refine ⟨fun _ => ⟨by decide, by decide⟩, ?_⟩ | refine ⟨encS _, fun _ => rfl, ?_⟩)
        refine again (i + 2, out ++ [hexB a b]) ?_ hne (by show w5.length - (i + 2) < w5.length - i; omega)
        (refine ⟨?_, ?_, rfl⟩ <;> repeat' (first | exact rfl | exact trivial | refine ⟨?_, ?_⟩ | fail) <;> (conv => whnf))
        all_goals simp
    · have h2 : i = w5.length := by
        have : ¬ i < w5.length := by simpa using h2
        omega
      subst h2
      have hu := hI.fin
      have ho : opRaw [w0, w1, w2, w3, w4, w5] = ⟨((num w0).getD 0 : Nat), w1, w2, ((num w3).getD 0 : Nat), out, ((num w4).getD 0 : Nat)⟩ := by simp [opRaw, hu]
      have hsm : smO (opRaw [w0, w1, w2, w3, w4, w5]) := by rw [ho]; exact ⟨by show w1.length ≤ _; omega, by show w2.length ≤ _; omega, by show out.length ≤ _; omega⟩
      repeat ((conv => whnf); first | refine ⟨fun h => h, ?_⟩ | refine ⟨(by kernel_rfl : drawOk _ _ = true), ?_⟩ | refine ⟨fun (h : gtrue _) => by first | assumption | exact absurd (Eq.trans (Eq.symm h) (by assumption) : true = false) Bool.noConfusion, ?_⟩ | refine ⟨fun h => (absurd (Eq.trans (Eq.symm h) (by assumption) : true = false) Bool.noConfusion : False), ?_⟩ | refine ⟨_, w64 (by (show (_ : Prop)); first | omega | ((try dsimp only at *); (try simp only [lns] at *); omega)), ?_⟩ | refine ⟨fun _ => ⟨by (show (_ : Prop)); first | omega | ((try dsimp only at *); (try simp only [lns] at *); omega), by (show (_ : Prop)); first | omega | ((try dsimp only at *); (try simp only [lns] at *); omega), by (show (_ : Prop)); first | omega | ((try dsimp only at *); (try simp only [lns] at *); omega)⟩, ?_⟩ | refine ⟨by (show (_ : Prop)); first | omega | ((try dsimp only at *); (try simp only [lns] at *); omega), ?_⟩ | refine ⟨fun h => ⟨by (show (_ : Prop)); first | omega | ((try dsimp only at *); (try simp only [lns] at *); omega), by (show (_ : Prop)); first | omega | ((try dsimp only at *); (try simp only [lns] at *); omega)⟩, ?_⟩ | refine ⟨fun (r : List AV) hr c hc => by simp [encS] at hr; (try subst hr); simp at hc; (try subst hc); rfl, ?_⟩ | refine ⟨noOwn (by rfl), ?_⟩ | refine ⟨fun _ => ⟨by decide, by decide⟩, ?_⟩ | refine ⟨encS _, fun _ => rfl, ?_⟩)
      refine ⟨out, by rw [List.drop_zero, List.take_of_length_le (by simp)], ?_⟩
      repeat ((conv => whnf); first | refine ⟨fun h => h, ?_⟩ | refine ⟨(by kernel_rfl : drawOk _ _ = true), ?_⟩ | refine ⟨fun (h : gtrue _) => by first | assumption | exact absurd (Eq.trans (Eq.symm h) (by assumption) : true = false) Bool.noConfusion, ?_⟩ | refine ⟨fun h => (absurd (Eq.trans (Eq.symm h) (by assumption) : true = false) Bool.noConfusion : False), ?_⟩ | refine ⟨_, w64 (by (show (_ : Prop)); first | omega | ((try dsimp only at *); (try simp only [lns] at *); omega)), ?_⟩ | refine ⟨fun _ => ⟨by (show (_ : Prop)); first | omega | ((try dsimp only at *); (try simp only [lns] at *); omega), by (show (_ : Prop)); first | omega | ((try dsimp only at *); (try simp only [lns] at *); omega), by (show (_ : Prop)); first | omega | ((try dsimp only at *); (try simp only [lns] at *); omega)⟩, ?_⟩ | refine ⟨by (show (_ : Prop)); first | omega | ((try dsimp only at *); (try simp only [lns] at *); omega), ?_⟩ | refine ⟨fun h => ⟨by (show (_ : Prop)); first | omega | ((try dsimp only at *); (try simp only [lns] at *); omega), by (show (_ : Prop)); first | omega | ((try dsimp only at *); (try simp only [lns] at *); omega)⟩, ?_⟩ | refine ⟨fun (r : List AV) hr c hc => by simp [encS] at hr; (try subst hr); simp at hc; (try subst hc); rfl, ?_⟩ | refine ⟨noOwn (by rfl), ?_⟩ | refine ⟨fun _ => ⟨by decide, by decide⟩, ?_⟩ | refine ⟨encS _, fun _ => rfl, ?_⟩)
      refine ⟨opRaw [w0, w1, w2, w3, w4, w5], by rw [ho]; rfl, fun _ => hsm, ?_⟩
      repeat ((conv => whnf); first | refine ⟨fun h => h, ?_⟩ | refine ⟨(by kernel_rfl : drawOk _ _ = true), ?_⟩ | refine ⟨fun (h : gtrue _) => by first | assumption | exact absurd (Eq.trans (Eq.symm h) (by assumption) : true = false) Bool.noConfusion, ?_⟩ | refine ⟨fun h => (absurd (Eq.trans (Eq.symm h) (by assumption) : true = false) Bool.noConfusion : False), ?_⟩ | refine ⟨_, w64 (by (show (_ : Prop)); first | omega | ((try dsimp only at *); (try simp only [lns] at *); omega)), ?_⟩ | refine ⟨fun _ => ⟨by (show (_ : Prop)); first | omega | ((try dsimp only at *); (try simp only [lns] at *); omega), by (show (_ : Prop)); first | omega | ((try dsimp only at *); (try simp only [lns] at *); omega), by (show (_ : Prop)); first | omega | ((try dsimp only at *); (try simp only [lns] at *); omega)⟩, ?_⟩ | refine ⟨by (show (_ : Prop)); first | omega | ((try dsimp only at *); (try simp only [lns] at *); omega), ?_⟩ | refine ⟨fun h => ⟨by (show (_ : Prop)); first | omega | ((try dsimp only at *); (try simp only [lns] at *); omega), by (show (_ : Prop)); first | omega | ((try dsimp only at *); (try simp only [lns] at *); omega)⟩, ?_⟩ | refine ⟨fun (r : List AV) hr c hc => by simp [encS] at hr; (try subst hr); simp at hc; (try subst hc); rfl, ?_⟩ | refine ⟨noOwn (by rfl), ?_⟩ | refine ⟨fun _ => ⟨by decide, by decide⟩, ?_⟩ | refine ⟨encS _, fun _ => rfl, ?_⟩)
      (conv => whnf); refine ⟨fun h3 => ?_, fun h3 => ?_⟩
      · have h3 : (!(num w0).isSome || !(num w3).isSome || !(num w4).isSome || !(opText (opRaw [w0, w1, w2, w3, w4, w5]) == s)) = true := h3
        have hno : opOf s = none := by
          rw [hop, hg, hu, if_neg]
          revert h3
          cases (num w0).isSome <;> cases (num w3).isSome <;> cases (num w4).isSome <;> cases (opText (opRaw [w0, w1, w2, w3, w4, w5]) == s) <;> simp
        repeat ((conv => whnf); first | refine ⟨fun h => h, ?_⟩ | refine ⟨(by kernel_rfl : drawOk _ _ = true), ?_⟩ | refine ⟨fun (h : gtrue _) => by first | assumption | exact absurd (Eq.trans (Eq.symm h) (by assumption) : true = false) Bool.noConfusion, ?_⟩ | refine ⟨fun h => (absurd (Eq.trans (Eq.symm h) (by assumption) : true = false) Bool.noConfusion : False), ?_⟩ | refine ⟨_, w64 (by (show (_ : Prop)); first | omega | ((try dsimp only at *); (try simp only [lns] at *); omega)), ?_⟩ | refine ⟨fun _ => ⟨by (show (_ : Prop)); first | omega | ((try dsimp only at *); (try simp only [lns] at *); omega), by (show (_ : Prop)); first | omega | ((try dsimp only at *); (try simp only [lns] at *); omega), by (show (_ : Prop)); first | omega | ((try dsimp only at *); (try simp only [lns] at *); omega)⟩, ?_⟩ | refine ⟨by (show (_ : Prop)); first | omega | ((try dsimp only at *); (try simp only [lns] at *); omega), ?_⟩ | refine ⟨fun h => ⟨by (show (_ : Prop)); first | omega | ((try dsimp only at *); (try simp only [lns] at *); omega), by (show (_ : Prop)); first | omega | ((try dsimp only at *); (try simp only [lns] at *); omega)⟩, ?_⟩ | refine ⟨fun (r : List AV) hr c hc => by simp [encS] at hr; (try subst hr); simp at hc; (try subst hc); rfl, ?_⟩ | refine ⟨noOwn (by rfl), ?_⟩)
        exact ⟨trivial, by rw [hno]; exact ⟨rfl, rfl, rfl, rfl, rfl, rfl, trivial⟩, eqB (by rw [hno]; rfl), trivial⟩
      · have h3 : (!(num w0).isSome || !(num w3).isSome || !(num w4).isSome || !(opText (opRaw [w0, w1, w2, w3, w4, w5]) == s)) = false := h3
        have hyes : opOf s = some (opRaw [w0, w1, w2, w3, w4, w5]) := by
          rw [hop, hg, hu, if_pos]
          revert h3
          cases (num w0).isSome <;> cases (num w3).isSome <;> cases (num w4).isSome <;> cases (opText (opRaw [w0, w1, w2, w3, w4, w5]) == s) <;> simp
        repeat ((conv => whnf); first | refine ⟨fun h => h, ?_⟩ | refine ⟨(by kernel_rfl : drawOk _ _ = true), ?_⟩ | refine ⟨fun (h : gtrue _) => by first | assumption | exact absurd (Eq.trans (Eq.symm h) (by assumption) : true = false) Bool.noConfusion, ?_⟩ | refine ⟨fun h => (absurd (Eq.trans (Eq.symm h) (by assumption) : true = false) Bool.noConfusion : False), ?_⟩ | refine ⟨_, w64 (by (show (_ : Prop)); first | omega | ((try dsimp only at *); (try simp only [lns] at *); omega)), ?_⟩ | refine ⟨fun _ => ⟨by (show (_ : Prop)); first | omega | ((try dsimp only at *); (try simp only [lns] at *); omega), by (show (_ : Prop)); first | omega | ((try dsimp only at *); (try simp only [lns] at *); omega), by (show (_ : Prop)); first | omega | ((try dsimp only at *); (try simp only [lns] at *); omega)⟩, ?_⟩ | refine ⟨by (show (_ : Prop)); first | omega | ((try dsimp only at *); (try simp only [lns] at *); omega), ?_⟩ | refine ⟨fun h => ⟨by (show (_ : Prop)); first | omega | ((try dsimp only at *); (try simp only [lns] at *); omega), by (show (_ : Prop)); first | omega | ((try dsimp only at *); (try simp only [lns] at *); omega)⟩, ?_⟩ | refine ⟨fun (r : List AV) hr c hc => by simp [encS] at hr; (try subst hr); simp at hc; (try subst hc); rfl, ?_⟩ | refine ⟨noOwn (by rfl), ?_⟩)
        exact ⟨trivial, by rw [hyes, ho]; exact ⟨rfl, rfl, rfl, rfl, rfl, rfl, trivial⟩, eqB (by rw [hyes]; rfl), trivial⟩
  · have hno : opOf s = none := by rw [hop, if_neg]; simp [opGood, h6]
    have h6' : ((ws.map encS).length : Int) ≠ 6 := by simp; omega
    have hb : (!(((ws.map encS).length : Int) != 6)) = false := by
      have : (((ws.map encS).length : Int) == 6) = false := by rw [beq_eq_false_iff_ne]; exact h6'
      simp only [bne, this]; rfl
    repeat ((conv => whnf); first | refine ⟨fun h => h, ?_⟩ | refine ⟨(by kernel_rfl : drawOk _ _ = true), ?_⟩ | refine ⟨fun (h : gtrue _) => by first | assumption | exact absurd (Eq.trans (Eq.symm h) (by assumption) : true = false) Bool.noConfusion, ?_⟩ | refine ⟨fun h => (absurd (Eq.trans (Eq.symm h) (by assumption) : true = false) Bool.noConfusion : False), ?_⟩ | refine ⟨_, w64 (by (show (_ : Prop)); first | omega | ((try dsimp only at *); (try simp only [lns] at *); omega)), ?_⟩ | refine ⟨fun _ => ⟨by (show (_ : Prop)); first | omega | ((try dsimp only at *); (try simp only [lns] at *); omega), by (show (_ : Prop)); first | omega | ((try dsimp only at *); (try simp only [lns] at *); omega), by (show (_ : Prop)); first | omega | ((try dsimp only at *); (try simp only [lns] at *); omega)⟩, ?_⟩ | refine ⟨by (show (_ : Prop)); first | omega | ((try dsimp only at *); (try simp only [lns] at *); omega), ?_⟩ | refine ⟨fun h => ⟨by (show (_ : Prop)); first | omega | ((try dsimp only at *); (try simp only [lns] at *); omega), by (show (_ : Prop)); first | omega | ((try dsimp only at *); (try simp only [lns] at *); omega)⟩, ?_⟩ | refine ⟨fun (r : List AV) hr c hc => by simp [encS] at hr; (try subst hr); simp at hc; (try subst hc); rfl, ?_⟩ | refine ⟨noOwn (by rfl), ?_⟩)
    refine ⟨encS [], fun (h : gtrue _) => absurd (Eq.trans (Eq.symm h) hb : true = false) Bool.noConfusion, ?_⟩
    repeat ((conv => whnf); first | refine ⟨fun h => h, ?_⟩ | refine ⟨(by kernel_rfl : drawOk _ _ = true), ?_⟩ | refine ⟨fun (h : gtrue _) => by first | assumption | exact absurd (Eq.trans (Eq.symm h) (by assumption) : true = false) Bool.noConfusion, ?_⟩ | refine ⟨fun h => (absurd (Eq.trans (Eq.symm h) (by assumption) : true = false) Bool.noConfusion : False), ?_⟩ | refine ⟨_, w64 (by (show (_ : Prop)); first | omega | ((try dsimp only at *); (try simp only [lns] at *); omega)), ?_⟩ | refine ⟨fun _ => ⟨by (show (_ : Prop)); first | omega | ((try dsimp only at *); (try simp only [lns] at *); omega), by (show (_ : Prop)); first | omega | ((try dsimp only at *); (try simp only [lns] at *); omega), by (show (_ : Prop)); first | omega | ((try dsimp only at *); (try simp only [lns] at *); omega)⟩, ?_⟩ | refine ⟨by (show (_ : Prop)); first | omega | ((try dsimp only at *); (try simp only [lns] at *); omega), ?_⟩ | refine ⟨fun h => ⟨by (show (_ : Prop)); first | omega | ((try dsimp only at *); (try simp only [lns] at *); omega), by (show (_ : Prop)); first | omega | ((try dsimp only at *); (try simp only [lns] at *); omega)⟩, ?_⟩ | refine ⟨fun (r : List AV) hr c hc => by simp [encS] at hr; (try subst hr); simp at hc; (try subst hc); rfl, ?_⟩ | refine ⟨noOwn (by rfl), ?_⟩)
    refine ⟨0, rfl, ?_⟩
    repeat ((conv => whnf); first | refine ⟨fun h => h, ?_⟩ | refine ⟨(by kernel_rfl : drawOk _ _ = true), ?_⟩ | refine ⟨fun (h : gtrue _) => by first | assumption | exact absurd (Eq.trans (Eq.symm h) (by assumption) : true = false) Bool.noConfusion, ?_⟩ | refine ⟨fun h => (absurd (Eq.trans (Eq.symm h) (by assumption) : true = false) Bool.noConfusion : False), ?_⟩ | refine ⟨_, w64 (by (show (_ : Prop)); first | omega | ((try dsimp only at *); (try simp only [lns] at *); omega)), ?_⟩ | refine ⟨fun _ => ⟨by (show (_ : Prop)); first | omega | ((try dsimp only at *); (try simp only [lns] at *); omega), by (show (_ : Prop)); first | omega | ((try dsimp only at *); (try simp only [lns] at *); omega), by (show (_ : Prop)); first | omega | ((try dsimp only at *); (try simp only [lns] at *); omega)⟩, ?_⟩ | refine ⟨by (show (_ : Prop)); first | omega | ((try dsimp only at *); (try simp only [lns] at *); omega), ?_⟩ | refine ⟨fun h => ⟨by (show (_ : Prop)); first | omega | ((try dsimp only at *); (try simp only [lns] at *); omega), by (show (_ : Prop)); first | omega | ((try dsimp only at *); (try simp only [lns] at *); omega)⟩, ?_⟩ | refine ⟨fun (r : List AV) hr c hc => by simp [encS] at hr; (try subst hr); simp at hc; (try subst hc); rfl, ?_⟩ | refine ⟨noOwn (by rfl), ?_⟩)
    (conv => whnf); refine ⟨fun h1 => ?_, fun h1 => ?_⟩
    · repeat ((conv => whnf); first | refine ⟨fun h => h, ?_⟩ | refine ⟨(by kernel_rfl : drawOk _ _ = true), ?_⟩ | refine ⟨fun (h : gtrue _) => by first | assumption | exact absurd (Eq.trans (Eq.symm h) (by assumption) : true = false) Bool.noConfusion, ?_⟩ | refine ⟨fun h => (absurd (Eq.trans (Eq.symm h) (by assumption) : true = false) Bool.noConfusion : False), ?_⟩ | refine ⟨_, w64 (by (show (_ : Prop)); first | omega | ((try dsimp only at *); (try simp only [lns] at *); omega)), ?_⟩ | refine ⟨fun _ => ⟨by (show (_ : Prop)); first | omega | ((try dsimp only at *); (try simp only [lns] at *); omega), by (show (_ : Prop)); first | omega | ((try dsimp only at *); (try simp only [lns] at *); omega), by (show (_ : Prop)); first | omega | ((try dsimp only at *); (try simp only [lns] at *); omega)⟩, ?_⟩ | refine ⟨by (show (_ : Prop)); first | omega | ((try dsimp only at *); (try simp only [lns] at *); omega), ?_⟩ | refine ⟨fun h => ⟨by (show (_ : Prop)); first | omega | ((try dsimp only at *); (try simp only [lns] at *); omega), by (show (_ : Prop)); first | omega | ((try dsimp only at *); (try simp only [lns] at *); omega)⟩, ?_⟩ | refine ⟨fun (r : List AV) hr c hc => by simp [encS] at hr; (try subst hr); simp at hc; (try subst hc); rfl, ?_⟩ | refine ⟨noOwn (by rfl), ?_⟩)
      exact ⟨trivial, by rw [hno]; exact ⟨rfl, rfl, rfl, rfl, rfl, rfl, trivial⟩, eqB (by rw [hno]; rfl), trivial⟩
    · exfalso
      have h1 : (((ws.map encS).length : Int) != 6 || ((0 : Int) != 0)) = false := h1
      simp at h1; omega
theorem ok_spec_OpOf : ConOk Tryd.prog 17 c_spec_OpOf := meets_ok (tabT _ _) (FOk.cons ok_spec_OpText (FOk.cons ok_spec_Parts (FOk.cons ok_spec_Number (FOk.cons ok_spec_l26Sign FOk.nil)))) mixed Tryd.func17 rfl Tryd.call17 (by decide) (by kernel_rfl) m_spec_OpOf (by intro _ (y : Str) _; exact ⟨by simp [c_spec_OpOf, con, conG, conW, AV.noRd, noRdCells, noRdRows, noRdRows_map', encS, encO], by simp [c_spec_OpOf, con, conG, conW, AV.noRd, noRdCells, noRdRows, noRdRows_map', encS, encO]⟩) (by intro (y : Str) _; first | (simp [c_spec_OpOf, con, conG, conW, conP, AV.free, freeCells, freeRows, freeRows_map, encS, encO]; done) | (obtain ⟨_, _⟩ := y; simp [c_spec_OpOf, con, conG, conW, conP, AV.free, freeCells, freeRows, freeRows_map, encS, encO]; done) | (obtain ⟨_, _, _⟩ := y; simp [c_spec_OpOf, con, conG, conW, conP, AV.free, freeCells, freeRows, freeRows_map, encS, encO]; done))
noncomputable def c_impl_OpOf : PCon := conG gwErr [mC] false Str encS (fun s => s.length ≤ 1048576) (fun s => .tup [.agg (encO ((opOf s).getD OpR.zero)), .bool (opOf s).isSome])
noncomputable def E_impl_OpOf : Env := ⟨lookup tyTab, lookup [(11, c_impl_OpText), (40, c_impl_Parts), (41, c_impl_Number), (42, c_impl_hexBytes)], [0, 2, 3, 4, 5, 6, 7, 8, 9, 10, 11, 12, 13, 18, 78]⟩
set_option maxRecDepth 100000 in
set_option maxHeartbeats 4000000 in
theorem m_impl_OpOf : Meets E_impl_OpOf (codeOf Tryd.f18) Tryd.f18.results.toList c_impl_OpOf := by
  intro (s : Str) (hs : s.length ≤ 1048576)
  refine ⟨trivial, ?_⟩
  conv => whnf
  refine ⟨(s, 32), rfl, fun _ => (show s.length ≤ 4194304 by omega), ?_⟩
  have hop : opOf s = if opGood s (splitBy 32 s) then some (opRaw (splitBy 32 s)) else none := rfl
  have hme := fun w hw => splitBy_mem (c := 32) s w hw
  conv => whnf
  generalize splitBy 32 s = ws at hop hme ⊢
  by_cases h6 : ws.length = 6
  · obtain ⟨w0, w1, w2, w3, w4, w5, rfl⟩ := six h6
    have m0 := hme w0 (by simp)
    have m1 := hme w1 (by simp)
    have m2 := hme w2 (by simp)
    have m3 := hme w3 (by simp)
    have m4 := hme w4 (by simp)
    have m5 := hme w5 (by simp)
    have hg : opGood s [w0, w1, w2, w3, w4, w5] = ((num w0).isSome && (num w3).isSome && (num w4).isSome && (unhex w5).isSome && (opText (opRaw [w0, w1, w2, w3, w4, w5]) == s)) := by simp [opGood]
    have hul : ((unhex w5).getD []).length ≤ w5.length := by
      cases hu : unhex w5 with
      | none => simp
      | some d => have := unhex_len w5 d hu; simp; omega
    have ho : opRaw [w0, w1, w2, w3, w4, w5] = ⟨((num w0).getD 0 : Nat), w1, w2, ((num w3).getD 0 : Nat), (unhex w5).getD [], ((num w4).getD 0 : Nat)⟩ := rfl
    have hsm : smO (opRaw [w0, w1, w2, w3, w4, w5]) := by rw [ho]; exact ⟨by show w1.length ≤ _; omega, by show w2.length ≤ _; omega, by show ((unhex w5).getD []).length ≤ _; omega⟩
    conv => whnf
    refine ⟨fun h => absurd h (by simp), fun _ => ?_⟩
    repeat ((conv => whnf); first | refine ⟨fun h => h, ?_⟩ | refine ⟨(by kernel_rfl : drawOk _ _ = true), ?_⟩ | refine ⟨fun (h : gtrue _) => by first | assumption | exact absurd (Eq.trans (Eq.symm h) (by assumption) : true = false) Bool.noConfusion, ?_⟩ | refine ⟨fun h => (absurd (Eq.trans (Eq.symm h) (by assumption) : true = false) Bool.noConfusion : False), ?_⟩ | refine ⟨_, w64 (by (show (_ : Prop)); first | omega | ((try dsimp only at *); (try simp only [lns] at *); omega)), ?_⟩ | refine ⟨fun _ => ⟨by (show (_ : Prop)); first | omega | ((try dsimp only at *); (try simp only [lns] at *); omega), by (show (_ : Prop)); first | omega | ((try dsimp only at *); (try simp only [lns] at *); omega), by (show (_ : Prop)); first | omega | ((try dsimp only at *); (try simp only [lns] at *); omega)⟩, ?_⟩ | refine ⟨by (show (_ : Prop)); first | omega | ((try dsimp only at *); (try simp only [lns] at *); omega), ?_⟩ | refine ⟨fun h => ⟨by (show (_ : Prop)); first | omega | ((try dsimp only at *); (try simp only [lns] at *); omega), by (show (_ : Prop)); first | omega | ((try dsimp only at *); (try simp only [lns] at *); omega)⟩, ?_⟩ | refine ⟨fun (r : List AV) hr c hc => by simp [encS] at hr; (try subst hr); simp at hc; (try subst hc); rfl, ?_⟩ | refine ⟨noOwn (by rfl), ?_⟩ | refine ⟨fun _ => ⟨by decide, by decide⟩, ?_⟩ | refine ⟨encS _, fun _ => rfl, ?_⟩)
    refine ⟨w0, rfl, fun _ => (show w0.length ≤ 16777216 by omega), ?_⟩
    repeat ((conv => whnf); first | refine ⟨fun h => h, ?_⟩ | refine ⟨(by kernel_rfl : drawOk _ _ = true), ?_⟩ | refine ⟨fun (h : gtrue _) => by first | assumption | exact absurd (Eq.trans (Eq.symm h) (by assumption) : true = false) Bool.noConfusion, ?_⟩ | refine ⟨fun h => (absurd (Eq.trans (Eq.symm h) (by assumption) : true = false) Bool.noConfusion : False), ?_⟩ | refine ⟨_, w64 (by (show (_ : Prop)); first | omega | ((try dsimp only at *); (try simp only [lns] at *); omega)), ?_⟩ | refine ⟨fun _ => ⟨by (show (_ : Prop)); first | omega | ((try dsimp only at *); (try simp only [lns] at *); omega), by (show (_ : Prop)); first | omega | ((try dsimp only at *); (try simp only [lns] at *); omega), by (show (_ : Prop)); first | omega | ((try dsimp only at *); (try simp only [lns] at *); omega)⟩, ?_⟩ | refine ⟨by (show (_ : Prop)); first | omega | ((try dsimp only at *); (try simp only [lns] at *); omega), ?_⟩ | refine ⟨fun h => ⟨by (show (_ : Prop)); first | omega | ((try dsimp only at *); (try simp only [lns] at *); omega), by (show (_ : Prop)); first | omega | ((try dsimp only at *); (try simp only [lns] at *); omega)⟩, ?_⟩ | refine ⟨fun (r : List AV) hr c hc => by simp [encS] at hr; (try subst hr); simp at hc; (try subst hc); rfl, ?_⟩ | refine ⟨noOwn (by rfl), ?_⟩ | refine ⟨fun _ => ⟨by decide, by decide⟩, ?_⟩ | refine ⟨encS _, fun _ => rfl, ?_⟩)
    refine ⟨w3, rfl, fun _ => (show w3.length ≤ 16777216 by omega), ?_⟩
    repeat ((conv => whnf); first | refine ⟨fun h => h, ?_⟩ | refine ⟨(by kernel_rfl : drawOk _ _ = true), ?_⟩ | refine ⟨fun (h : gtrue _) => by first | assumption | exact absurd (Eq.trans (Eq.symm h) (by assumption) : true = false) Bool.noConfusion, ?_⟩ | refine ⟨fun h => (absurd (Eq.trans (Eq.symm h) (by assumption) : true = false) Bool.noConfusion : False), ?_⟩ | refine ⟨_, w64 (by (show (_ : Prop)); first | omega | ((try dsimp only at *); (try simp only [lns] at *); omega)), ?_⟩ | refine ⟨fun _ => ⟨by (show (_ : Prop)); first | omega | ((try dsimp only at *); (try simp only [lns] at *); omega), by (show (_ : Prop)); first | omega | ((try dsimp only at *); (try simp only [lns] at *); omega), by (show (_ : Prop)); first | omega | ((try dsimp only at *); (try simp only [lns] at *); omega)⟩, ?_⟩ | refine ⟨by (show (_ : Prop)); first | omega | ((try dsimp only at *); (try simp only [lns] at *); omega), ?_⟩ | refine ⟨fun h => ⟨by (show (_ : Prop)); first | omega | ((try dsimp only at *); (try simp only [lns] at *); omega), by (show (_ : Prop)); first | omega | ((try dsimp only at *); (try simp only [lns] at *); omega)⟩, ?_⟩ | refine ⟨fun (r : List AV) hr c hc => by simp [encS] at hr; (try subst hr); simp at hc; (try subst hc); rfl, ?_⟩ | refine ⟨noOwn (by rfl), ?_⟩ | refine ⟨fun _ => ⟨by decide, by decide⟩, ?_⟩ | refine ⟨encS _, fun _ => rfl, ?_⟩)
    refine ⟨w4, rfl, fun _ => (show w4.length ≤ 16777216 by omega), ?_⟩
    repeat ((conv => whnf); first | refine ⟨fun h => h, ?_⟩ | refine ⟨(by kernel_rfl : drawOk _ _ = true), ?_⟩ | refine ⟨fun (h : gtrue _) => by first | assumption | exact absurd (Eq.trans (Eq.symm h) (by assumption) : true = false) Bool.noConfusion, ?_⟩ | refine ⟨fun h => (absurd (Eq.trans (Eq.symm h) (by assumption) : true = false) Bool.noConfusion : False), ?_⟩ | refine ⟨_, w64 (by (show (_ : Prop)); first | omega | ((try dsimp only at *); (try simp only [lns] at *); omega)), ?_⟩ | refine ⟨fun _ => ⟨by (show (_ : Prop)); first | omega | ((try dsimp only at *); (try simp only [lns] at *); omega), by (show (_ : Prop)); first | omega | ((try dsimp only at *); (try simp only [lns] at *); omega), by (show (_ : Prop)); first | omega | ((try dsimp only at *); (try simp only [lns] at *); omega)⟩, ?_⟩ | refine ⟨by (show (_ : Prop)); first | omega | ((try dsimp only at *); (try simp only [lns] at *); omega), ?_⟩ | refine ⟨fun h => ⟨by (show (_ : Prop)); first | omega | ((try dsimp only at *); (try simp only [lns] at *); omega), by (show (_ : Prop)); first | omega | ((try dsimp only at *); (try simp only [lns] at *); omega)⟩, ?_⟩ | refine ⟨fun (r : List AV) hr c hc => by simp [encS] at hr; (try subst hr); simp at hc; (try subst hc); rfl, ?_⟩ | refine ⟨noOwn (by rfl), ?_⟩ | refine ⟨fun _ => ⟨by decide, by decide⟩, ?_⟩ | refine ⟨encS _, fun _ => rfl, ?_⟩)
    refine ⟨w5, rfl, fun _ => (show w5.length ≤ 16777216 by omega), ?_⟩
    repeat ((conv => whnf); first | refine ⟨fun h => h, ?_⟩ | refine ⟨(by kernel_rfl : drawOk _ _ = true), ?_⟩ | refine ⟨fun (h : gtrue _) => by first | assumption | exact absurd (Eq.trans (Eq.symm h) (by assumption) : true = false) Bool.noConfusion, ?_⟩ | refine ⟨fun h => (absurd (Eq.trans (Eq.symm h) (by assumption) : true = false) Bool.noConfusion : False), ?_⟩ | refine ⟨_, w64 (by (show (_ : Prop)); first | omega | ((try dsimp only at *); (try simp only [lns] at *); omega)), ?_⟩ | refine ⟨fun _ => ⟨by (show (_ : Prop)); first | omega | ((try dsimp only at *); (try simp only [lns] at *); omega), by (show (_ : Prop)); first | omega | ((try dsimp only at *); (try simp only [lns] at *); omega), by (show (_ : Prop)); first | omega | ((try dsimp only at *); (try simp only [lns] at *); omega)⟩, ?_⟩ | refine ⟨by (show (_ : Prop)); first | omega | ((try dsimp only at *); (try simp only [lns] at *); omega), ?_⟩ | refine ⟨fun h => ⟨by (show (_ : Prop)); first | omega | ((try dsimp only at *); (try simp only [lns] at *); omega), by (show (_ : Prop)); first | omega | ((try dsimp only at *); (try simp only [lns] at *); omega)⟩, ?_⟩ | refine ⟨fun (r : List AV) hr c hc => by simp [encS] at hr; (try subst hr); simp at hc; (try subst hc); rfl, ?_⟩ | refine ⟨noOwn (by rfl), ?_⟩ | refine ⟨fun _ => ⟨by decide, by decide⟩, ?_⟩ | refine ⟨encS _, fun _ => rfl, ?_⟩)
    refine ⟨opRaw [w0, w1, w2, w3, w4, w5], rfl, fun _ => hsm, ?_⟩
    repeat ((conv => whnf); first | refine ⟨fun h => h, ?_⟩ | refine ⟨(by kernel_rfl : drawOk _ _ = true), ?_⟩ | refine ⟨fun (h : gtrue _) => by first | assumption | exact absurd (Eq.trans (Eq.symm h) (by assumption) : true = false) Bool.noConfusion, ?_⟩ | refine ⟨fun h => (absurd (Eq.trans (Eq.symm h) (by assumption) : true = false) Bool.noConfusion : False), ?_⟩ | refine ⟨_, w64 (by (show (_ : Prop)); first | omega | ((try dsimp only at *); (try simp only [lns] at *); omega)), ?_⟩ | refine ⟨fun _ => ⟨by (show (_ : Prop)); first | omega | ((try dsimp only at *); (try simp only [lns] at *); omega), by (show (_ : Prop)); first | omega | ((try dsimp only at *); (try simp only [lns] at *); omega), by (show (_ : Prop)); first | omega | ((try dsimp only at *); (try simp only [lns] at *); omega)⟩, ?_⟩ | refine ⟨by (show (_ : Prop)); first | omega | ((try dsimp only at *); (try simp only [lns] at *); omega), ?_⟩ | refine ⟨fun h => ⟨by (show (_ : Prop)); first | omega | ((try dsimp only at *); (try simp only [lns] at *); omega), by (show (_ : Prop)); first | omega | ((try dsimp only at *); (try simp only [lns] at *); omega)⟩, ?_⟩ | refine ⟨fun (r : List AV) hr c hc => by simp [encS] at hr; (try subst hr); simp at hc; (try subst hc); rfl, ?_⟩ | refine ⟨noOwn (by rfl), ?_⟩ | refine ⟨fun _ => ⟨by decide, by decide⟩, ?_⟩ | refine ⟨encS _, fun _ => rfl, ?_⟩)
    (conv => whnf); refine ⟨fun h3 => ?_, fun h3 => ?_⟩
    · have h3 : (!(num w0).isSome || !(num w3).isSome || !(num w4).isSome || !(unhex w5).isSome || !(opText (opRaw [w0, w1, w2, w3, w4, w5]) == s)) = true := h3
      have hno : opOf s = none := by
        rw [hop, hg, if_neg]
        revert h3
        cases (num w0).isSome <;> cases (num w3).isSome <;> cases (num w4).isSome <;> cases (unhex w5).isSome <;> cases (opText (opRaw [w0, w1, w2, w3, w4, w5]) == s) <;> simp
      repeat ((conv => whnf); first | refine ⟨fun h => h, ?_⟩ | refine ⟨(by kernel_rfl : drawOk _ _ = true), ?_⟩ | refine ⟨fun (h : gtrue _) => by first | assumption | exact absurd (Eq.trans (Eq.symm h) (by assumption) : true = false) Bool.noConfusion, ?_⟩ | refine ⟨fun h => (absurd (Eq.trans (Eq.symm h) (by assumption) : true = false) Bool.noConfusion : False), ?_⟩ | refine ⟨_, w64 (by (show (_ : Prop)); first | omega | ((try dsimp only at *); (try simp only [lns] at *); omega)), ?_⟩ | refine ⟨fun _ => ⟨by (show (_ : Prop)); first | omega | ((try dsimp only at *); (try simp only [lns] at *); omega), by (show (_ : Prop)); first | omega | ((try dsimp only at *); (try simp only [lns] at *); omega), by (show (_ : Prop)); first | omega | ((try dsimp only at *); (try simp only [lns] at *); omega)⟩, ?_⟩ | refine ⟨by (show (_ : Prop)); first | omega | ((try dsimp only at *); (try simp only [lns] at *); omega), ?_⟩ | refine ⟨fun h => ⟨by (show (_ : Prop)); first | omega | ((try dsimp only at *); (try simp only [lns] at *); omega), by (show (_ : Prop)); first | omega | ((try dsimp only at *); (try simp only [lns] at *); omega)⟩, ?_⟩ | refine ⟨fun (r : List AV) hr c hc => by simp [encS] at hr; (try subst hr); simp at hc; (try subst hc); rfl, ?_⟩ | refine ⟨noOwn (by rfl), ?_⟩)
      exact ⟨trivial, by rw [hno]; exact ⟨rfl, rfl, rfl, rfl, rfl, rfl, trivial⟩, eqB (by rw [hno]; rfl), trivial⟩
    · have h3 : (!(num w0).isSome || !(num w3).isSome || !(num w4).isSome || !(unhex w5).isSome || !(opText (opRaw [w0, w1, w2, w3, w4, w5]) == s)) = false := h3
      have hyes : opOf s = some (opRaw [w0, w1, w2, w3, w4, w5]) := by
        rw [hop, hg, if_pos]
        revert h3
        cases (num w0).isSome <;> cases (num w3).isSome <;> cases (num w4).isSome <;> cases (unhex w5).isSome <;> cases (opText (opRaw [w0, w1, w2, w3, w4, w5]) == s) <;> simp
      repeat ((conv => whnf); first | refine ⟨fun h => h, ?_⟩ | refine ⟨(by kernel_rfl : drawOk _ _ = true), ?_⟩ | refine ⟨fun (h : gtrue _) => by first | assumption | exact absurd (Eq.trans (Eq.symm h) (by assumption) : true = false) Bool.noConfusion, ?_⟩ | refine ⟨fun h => (absurd (Eq.trans (Eq.symm h) (by assumption) : true = false) Bool.noConfusion : False), ?_⟩ | refine ⟨_, w64 (by (show (_ : Prop)); first | omega | ((try dsimp only at *); (try simp only [lns] at *); omega)), ?_⟩ | refine ⟨fun _ => ⟨by (show (_ : Prop)); first | omega | ((try dsimp only at *); (try simp only [lns] at *); omega), by (show (_ : Prop)); first | omega | ((try dsimp only at *); (try simp only [lns] at *); omega), by (show (_ : Prop)); first | omega | ((try dsimp only at *); (try simp only [lns] at *); omega)⟩, ?_⟩ | refine ⟨by (show (_ : Prop)); first | omega | ((try dsimp only at *); (try simp only [lns] at *); omega), ?_⟩ | refine ⟨fun h => ⟨by (show (_ : Prop)); first | omega | ((try dsimp only at *); (try simp only [lns] at *); omega), by (show (_ : Prop)); first | omega | ((try dsimp only at *); (try simp only [lns] at *); omega)⟩, ?_⟩ | refine ⟨fun (r : List AV) hr c hc => by simp [encS] at hr; (try subst hr); simp at hc; (try subst hc); rfl, ?_⟩ | refine ⟨noOwn (by rfl), ?_⟩)
      exact ⟨trivial, by rw [hyes]; exact ⟨rfl, rfl, rfl, rfl, rfl, rfl, trivial⟩, eqB (by rw [hyes]; rfl), trivial⟩
  · have hno : opOf s = none := by rw [hop, if_neg]; simp [opGood, h6]
    have h6' : ((ws.map encS).length : Int) ≠ 6 := by simp; omega
    (conv => whnf); refine ⟨fun h1 => ?_, fun h1 => ?_⟩
    · repeat ((conv => whnf); first | refine ⟨fun h => h, ?_⟩ | refine ⟨(by kernel_rfl : drawOk _ _ = true), ?_⟩ | refine ⟨fun (h : gtrue _) => by first | assumption | exact absurd (Eq.trans (Eq.symm h) (by assumption) : true = false) Bool.noConfusion, ?_⟩ | refine ⟨fun h => (absurd (Eq.trans (Eq.symm h) (by assumption) : true = false) Bool.noConfusion : False), ?_⟩ | refine ⟨_, w64 (by (show (_ : Prop)); first | omega | ((try dsimp only at *); (try simp only [lns] at *); omega)), ?_⟩ | refine ⟨fun _ => ⟨by (show (_ : Prop)); first | omega | ((try dsimp only at *); (try simp only [lns] at *); omega), by (show (_ : Prop)); first | omega | ((try dsimp only at *); (try simp only [lns] at *); omega), by (show (_ : Prop)); first | omega | ((try dsimp only at *); (try simp only [lns] at *); omega)⟩, ?_⟩ | refine ⟨by (show (_ : Prop)); first | omega | ((try dsimp only at *); (try simp only [lns] at *); omega), ?_⟩ | refine ⟨fun h => ⟨by (show (_ : Prop)); first | omega | ((try dsimp only at *); (try simp only [lns] at *); omega), by (show (_ : Prop)); first | omega | ((try dsimp only at *); (try simp only [lns] at *); omega)⟩, ?_⟩ | refine ⟨fun (r : List AV) hr c hc => by simp [encS] at hr; (try subst hr); simp at hc; (try subst hc); rfl, ?_⟩ | refine ⟨noOwn (by rfl), ?_⟩)
      exact ⟨trivial, by rw [hno]; exact ⟨rfl, rfl, rfl, rfl, rfl, rfl, trivial⟩, eqB (by rw [hno]; rfl), trivial⟩
    · exfalso
      have h1 : (((ws.map encS).length : Int) != 6) = false := h1
      simp at h1; omega
theorem ok_impl_OpOf : ConOk Tryd.prog 18 c_impl_OpOf := meets_ok (tabT _ _) (FOk.cons ok_impl_OpText (FOk.cons ok_impl_Parts (FOk.cons ok_impl_Number (FOk.cons ok_impl_hexBytes FOk.nil)))) mixed Tryd.func18 rfl Tryd.call18 (by decide) (by kernel_rfl) m_impl_OpOf (by intro _ (y : Str) _; exact ⟨by simp [c_impl_OpOf, con, conG, conW, AV.noRd, noRdCells, noRdRows, noRdRows_map', encS, encO], by simp [c_impl_OpOf, con, conG, conW, AV.noRd, noRdCells, noRdRows, noRdRows_map', encS, encO]⟩) (by intro (y : Str) _; first | (simp [c_impl_OpOf, con, conG, conW, conP, AV.free, freeCells, freeRows, freeRows_map, encS, encO]; done) | (obtain ⟨_, _⟩ := y; simp [c_impl_OpOf, con, conG, conW, conP, AV.free, freeCells, freeRows, freeRows_map, encS, encO]; done) | (obtain ⟨_, _, _⟩ := y; simp [c_impl_OpOf, con, conG, conW, conP, AV.free, freeCells, freeRows, freeRows_map, encS, encO]; done))
noncomputable def c_laws_FnExactOpOf : PCon := conG gwErr [mC] true Str encS (fun s => s.length ≤ 9223372036854775807) (fun _ => .bool true)
noncomputable def E_laws_FnExactOpOf : Env := ⟨lookup tyTab, lookup [(17, c_spec_OpOf), (18, c_impl_OpOf), (19, c_laws_eqOp)], [0, 2, 3, 4, 5, 6, 9, 28]⟩
set_option maxRecDepth 100000 in
set_option maxHeartbeats 4000000 in
theorem m_laws_FnExactOpOf : Meets E_laws_FnExactOpOf (codeOf Tryd.f5) Tryd.f5.results.toList c_laws_FnExactOpOf := by
  intro (s : Str) hs
  have hs : s.length ≤ 9223372036854775807 := hs
  refine ⟨trivial, ?_⟩
  repeat ((conv => whnf); first | refine ⟨fun h => h, ?_⟩ | refine ⟨(by kernel_rfl : drawOk _ _ = true), ?_⟩ | refine ⟨fun (h : gtrue _) => by first | assumption | exact absurd (Eq.trans (Eq.symm h) (by assumption) : true = false) Bool.noConfusion, ?_⟩ | refine ⟨fun h => (absurd (Eq.trans (Eq.symm h) (by assumption) : true = false) Bool.noConfusion : False), ?_⟩ | refine ⟨_, w64 (by (show (_ : Prop)); first | omega | ((try dsimp only at *); (try simp only [lns] at *); omega)), ?_⟩ | refine ⟨fun _ => ⟨by (show (_ : Prop)); first | omega | ((try dsimp only at *); (try simp only [lns] at *); omega), by (show (_ : Prop)); first | omega | ((try dsimp only at *); (try simp only [lns] at *); omega), by (show (_ : Prop)); first | omega | ((try dsimp only at *); (try simp only [lns] at *); omega)⟩, ?_⟩ | refine ⟨by (show (_ : Prop)); first | omega | ((try dsimp only at *); (try simp only [lns] at *); omega), ?_⟩ | refine ⟨fun h => ⟨by (show (_ : Prop)); first | omega | ((try dsimp only at *); (try simp only [lns] at *); omega), by (show (_ : Prop)); first | omega | ((try dsimp only at *); (try simp only [lns] at *); omega)⟩, ?_⟩ | refine ⟨fun (r : List AV) hr c hc => by simp [encS] at hr; (try subst hr); simp at hc; (try subst hc); rfl, ?_⟩ | refine ⟨noOwn (by rfl), ?_⟩)
  (conv => whnf); refine ⟨fun h1 => ?_, fun h1 => ?_⟩
  · conv => whnf
    exact ⟨trivial, rfl⟩
  have h1 : s.length ≤ 1048576 := by simp at h1; omega
  conv => whnf
  refine ⟨s, rfl, fun _ => h1, ?_⟩
  repeat ((conv => whnf); first | refine ⟨fun h => h, ?_⟩ | refine ⟨(by kernel_rfl : drawOk _ _ = true), ?_⟩ | refine ⟨fun (h : gtrue _) => by first | assumption | exact absurd (Eq.trans (Eq.symm h) (by assumption) : true = false) Bool.noConfusion, ?_⟩ | refine ⟨fun h => (absurd (Eq.trans (Eq.symm h) (by assumption) : true = false) Bool.noConfusion : False), ?_⟩ | refine ⟨_, w64 (by (show (_ : Prop)); first | omega | ((try dsimp only at *); (try simp only [lns] at *); omega)), ?_⟩ | refine ⟨fun _ => ⟨by (show (_ : Prop)); first | omega | ((try dsimp only at *); (try simp only [lns] at *); omega), by (show (_ : Prop)); first | omega | ((try dsimp only at *); (try simp only [lns] at *); omega), by (show (_ : Prop)); first | omega | ((try dsimp only at *); (try simp only [lns] at *); omega)⟩, ?_⟩ | refine ⟨by (show (_ : Prop)); first | omega | ((try dsimp only at *); (try simp only [lns] at *); omega), ?_⟩ | refine ⟨fun h => ⟨by (show (_ : Prop)); first | omega | ((try dsimp only at *); (try simp only [lns] at *); omega), by (show (_ : Prop)); first | omega | ((try dsimp only at *); (try simp only [lns] at *); omega)⟩, ?_⟩ | refine ⟨fun (r : List AV) hr c hc => by simp [encS] at hr; (try subst hr); simp at hc; (try subst hc); rfl, ?_⟩ | refine ⟨noOwn (by rfl), ?_⟩)
  refine ⟨s, rfl, fun _ => h1, ?_⟩
  repeat ((conv => whnf); first | refine ⟨fun h => h, ?_⟩ | refine ⟨(by kernel_rfl : drawOk _ _ = true), ?_⟩ | refine ⟨fun (h : gtrue _) => by first | assumption | exact absurd (Eq.trans (Eq.symm h) (by assumption) : true = false) Bool.noConfusion, ?_⟩ | refine ⟨fun h => (absurd (Eq.trans (Eq.symm h) (by assumption) : true = false) Bool.noConfusion : False), ?_⟩ | refine ⟨_, w64 (by (show (_ : Prop)); first | omega | ((try dsimp only at *); (try simp only [lns] at *); omega)), ?_⟩ | refine ⟨fun _ => ⟨by (show (_ : Prop)); first | omega | ((try dsimp only at *); (try simp only [lns] at *); omega), by (show (_ : Prop)); first | omega | ((try dsimp only at *); (try simp only [lns] at *); omega), by (show (_ : Prop)); first | omega | ((try dsimp only at *); (try simp only [lns] at *); omega)⟩, ?_⟩ | refine ⟨by (show (_ : Prop)); first | omega | ((try dsimp only at *); (try simp only [lns] at *); omega), ?_⟩ | refine ⟨fun h => ⟨by (show (_ : Prop)); first | omega | ((try dsimp only at *); (try simp only [lns] at *); omega), by (show (_ : Prop)); first | omega | ((try dsimp only at *); (try simp only [lns] at *); omega)⟩, ?_⟩ | refine ⟨fun (r : List AV) hr c hc => by simp [encS] at hr; (try subst hr); simp at hc; (try subst hc); rfl, ?_⟩ | refine ⟨noOwn (by rfl), ?_⟩)
  refine ⟨(opOf s).getD OpR.zero, rfl, fun _ => trivial, ?_⟩
  repeat ((conv => whnf); first | refine ⟨fun h => h, ?_⟩ | refine ⟨(by kernel_rfl : drawOk _ _ = true), ?_⟩ | refine ⟨fun (h : gtrue _) => by first | assumption | exact absurd (Eq.trans (Eq.symm h) (by assumption) : true = false) Bool.noConfusion, ?_⟩ | refine ⟨fun h => (absurd (Eq.trans (Eq.symm h) (by assumption) : true = false) Bool.noConfusion : False), ?_⟩ | refine ⟨_, w64 (by (show (_ : Prop)); first | omega | ((try dsimp only at *); (try simp only [lns] at *); omega)), ?_⟩ | refine ⟨fun _ => ⟨by (show (_ : Prop)); first | omega | ((try dsimp only at *); (try simp only [lns] at *); omega), by (show (_ : Prop)); first | omega | ((try dsimp only at *); (try simp only [lns] at *); omega), by (show (_ : Prop)); first | omega | ((try dsimp only at *); (try simp only [lns] at *); omega)⟩, ?_⟩ | refine ⟨by (show (_ : Prop)); first | omega | ((try dsimp only at *); (try simp only [lns] at *); omega), ?_⟩ | refine ⟨fun h => ⟨by (show (_ : Prop)); first | omega | ((try dsimp only at *); (try simp only [lns] at *); omega), by (show (_ : Prop)); first | omega | ((try dsimp only at *); (try simp only [lns] at *); omega)⟩, ?_⟩ | refine ⟨fun (r : List AV) hr c hc => by simp [encS] at hr; (try subst hr); simp at hc; (try subst hc); rfl, ?_⟩ | refine ⟨noOwn (by rfl), ?_⟩)
  (conv => whnf); refine ⟨fun h2 => ?_, fun h2 => ?_⟩
  · have h2 : (!true || !((opOf s).isSome == (opOf s).isSome)) = true := h2
    simp at h2
  conv => whnf
  exact ⟨trivial, rfl⟩
theorem ok_laws_FnExactOpOf : ConOk Tryd.prog 5 c_laws_FnExactOpOf := meets_ok (tabT _ _) (FOk.cons ok_spec_OpOf (FOk.cons ok_impl_OpOf (FOk.cons ok_laws_eqOp FOk.nil))) mixed Tryd.func5 rfl Tryd.call5 (by decide) (by kernel_rfl) m_laws_FnExactOpOf (by intro _ (y : Str) _; exact ⟨by simp [c_laws_FnExactOpOf, con, conG, conW, AV.noRd, noRdCells, noRdRows, noRdRows_map', encS, encO], by simp [c_laws_FnExactOpOf, con, conG, conW, AV.noRd, noRdCells, noRdRows, noRdRows_map', encS, encO]⟩) (by intro (y : Str) _; first | (simp [c_laws_FnExactOpOf, con, conG, conW, conP, AV.free, freeCells, freeRows, freeRows_map, encS, encO]; done) | (obtain ⟨_, _⟩ := y; simp [c_laws_FnExactOpOf, con, conG, conW, conP, AV.free, freeCells, freeRows, freeRows_map, encS, encO]; done) | (obtain ⟨_, _, _⟩ := y; simp [c_laws_FnExactOpOf, con, conG, conW, conP, AV.free, freeCells, freeRows, freeRows_map, encS, encO]; done))
end Go.GH

set_option linter.unusedVariables false
set_option linter.unusedSimpArgs false
namespace Go.GH
open Go Go.Proofs
open Go.ChangeShapes Go.WideShapes Go.ChangeAt Go.RowKit
set_option maxRecDepth 100000 in
theorem sh_Str : shTy Tryd.prog 12 9 = some [.str] := by kernel_rfl
set_option maxRecDepth 100000 in
theorem arg_Str {a : AV} (h : ArgOk Tryd.prog 12 9 a) : ∃ p : Str, a = .str p ∧ p.length ≤ 9223372036854775807 := by
  obtain ⟨sh, avs, h1, h2, h3⟩ := h
  rw [sh_Str] at h1
  obtain rfl := Option.some.inj h1
  rw [Tryd.underlying9] at h3
  obtain ⟨c, r, rfl, ⟨s, rfl, hl⟩, e⟩ := h2
  have e : r = [] := e
  subst e
  have h3 : [AV.str s] = [a] := h3
  exact ⟨s, (List.cons.inj h3).1.symm, hl⟩
theorem gSyn : Tryd.prog.globalNamed "strconv.ErrSyntax" = some 1 := by kernel_rfl
theorem gRng : Tryd.prog.globalNamed "strconv.ErrRange" = some 2 := by kernel_rfl
theorem starErr : "*" ++ "errors.errorString" = "*errors.errorString" := by decide
theorem rowErr (u : TypeId) (h : Tryd.prog.typeName? 3 u = some "*errors.errorString") : u = 125 :=
  typeName_ptr_named (nm := "errors.errorString") (by rw [starErr]; kernel_rfl) (by kernel_rfl) (by decide) u (by rw [starErr]; exact h)
set_option maxRecDepth 100000 in
theorem gwErr_laid {W : World} {x y z : String × DataW Unit} (h : laidMet Tryd.prog [x, y, z, ("strconv.ErrRange", Go.Proofs.YtijkfhkjnhceoaaDoor.Rows.laid_strconv_ErrRange), ("strconv.ErrSyntax", Go.Proofs.YtijkfhkjnhceoaaDoor.Rows.laid_strconv_ErrSyntax)] W) (ht : gwTab W) : gwErr W := by
  obtain ⟨a0, s0, hv0, _⟩ := laid_sentinel (text := [118, 97, 108, 117, 101, 32, 111, 117, 116, 32, 111, 102, 32, 114, 97, 110, 103, 101]) h.tail.tail.tail gRng (by kernel_rfl) Tryd.underlying78 rowErr Tryd.underlying125 Tryd.underlying127 rfl rfl Tryd.underlying9 (by kernel_rfl) (by kernel_rfl)
  obtain ⟨a1, s1, hv1, _⟩ := laid_sentinel (text := [105, 110, 118, 97, 108, 105, 100, 32, 115, 121, 110, 116, 97, 120]) h.tail.tail.tail.tail gSyn (by kernel_rfl) Tryd.underlying78 rowErr Tryd.underlying125 Tryd.underlying127 rfl rfl Tryd.underlying9 (by kernel_rfl) (by kernel_rfl)
  have c0 := World.var?_cell gRng hv0 0
  have c1 := World.var?_cell gSyn hv1 0
  exact ⟨ht, ⟨_, _, c1⟩, _, _, c0⟩
theorem gokErr {W : World} (h : gwErr W) : GOk gwErr W fun _ => False := by
  have h0 := h
  obtain ⟨ht, ⟨t1, a1, c1⟩, t2, a2, c2⟩ := h0
  refine ⟨fun b => b = 1 ∨ b = 2 ∨ b = 3, fun b hb => ⟨?_, fun h => h⟩, fun w' hw => ⟨(var_congr gTab (hw 3 (by simp))).trans ht, ⟨t1, a1, ?_⟩, t2, a2, ?_⟩⟩
  · rcases hb with rfl | rfl | rfl
    · exact (cell_lt c1).1
    · exact (cell_lt c2).1
    · exact var_lt gTab ht
  · rw [← c1]; exact World.cell?_of_block (hw 1 (by simp))
  · rw [← c2]; exact World.cell?_of_block (hw 2 (by simp))
end Go.GH

