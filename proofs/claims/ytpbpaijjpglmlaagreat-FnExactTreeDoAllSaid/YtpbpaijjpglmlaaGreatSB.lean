import Derived.Test.YtpbpaijjpglmlaaGreatSA
import Derived.Lib.AtoiAll
import Derived.Lib.Bytealg
import Derived.Test.YtpbpaijjpglmlaaGreatRows
import Derived.WalkKit
import Derived.ProofKit
import Derived.OpenShut
import Derived.ChangeOld
import Derived.Below
import Derived.SizedLaws
import Derived.Test.YtpbpaijjpglmlaaGreatChecked
import Derived.Shelf.RegionOpenPlain
import Derived.Deep.LoopGhost
import Derived.Lib.Walk
import Derived.Lib.SliceRun
import Derived.Sort.Grow
import Derived.Shelf.SlSortCmp.NoneTotal
import Derived.Shelf.SlicesG.Delete
import Derived.Deep.MidRow
set_option linter.unusedVariables false
set_option linter.unusedSimpArgs false
set_option linter.unusedSimpArgs false
namespace Go.GH
open Go Go.Proofs
noncomputable def c_laws_szItem : PCon := con [.rd [none, none, none, none], mC] true (It × Int) (fun x => [.agg (encI x.1), .int .i64 x.2]) (fun x => 0 ≤ x.2 ∧ x.2 ≤ 4194304 ∧ x.1.path.length ≤ 9223372036854775807 ∧ x.1.data.length ≤ 9223372036854775807) (fun x => .int .i64 (szR x.2 (szI x.1)))
noncomputable def E_laws_szItem : Env := ⟨lookup tyTab, lookup [], [0, 1, 2, 4, 11, 18]⟩
set_option maxRecDepth 100000 in
set_option maxHeartbeats 4000000 in
theorem m_laws_szItem : Meets E_laws_szItem (codeOf Tryz.f97) Tryz.f97.results.toList c_laws_szItem := by
  rintro ⟨x, left⟩ hs
  obtain ⟨h1, h2, h3, h4⟩ : 0 ≤ left ∧ left ≤ 4194304 ∧ x.path.length ≤ 9223372036854775807 ∧ x.data.length ≤ 9223372036854775807 := hs
  refine ⟨trivial, ?_⟩
  repeat ((conv => whnf); refine ⟨_, w64 (by (show (_ : Prop)); first | omega | ((try dsimp only at *); (try simp only [lns] at *); omega)), ?_⟩)
  (conv => whnf); refine ⟨fun h5 => ?_, fun h5 => ?_⟩
  · have h5 : left - x.path.length < 0 := by simpa using h5
    conv => whnf
    exact ⟨trivial, eqN' (by unfold szR szI; dsimp only; rw [if_pos (by omega)])⟩
  have h5 : ¬ left - x.path.length < 0 := by simpa using h5
  repeat ((conv => whnf); refine ⟨_, w64 (by (show (_ : Prop)); first | omega | ((try dsimp only at *); (try simp only [lns] at *); omega)), ?_⟩)
  (conv => whnf); refine ⟨fun h6 => ?_, fun h6 => ?_⟩
  · have h6 : left - x.path.length - x.data.length < 0 := by simpa using h6
    conv => whnf
    exact ⟨trivial, eqN' (by unfold szR szI; dsimp only; rw [if_pos (by omega)])⟩
  have h6 : ¬ left - x.path.length - x.data.length < 0 := by simpa using h6
  conv => whnf
  exact ⟨trivial, eqN' (by unfold szR szI; dsimp only; rw [if_neg (by omega)]; omega)⟩
theorem ok_laws_szItem : ConOk Tryz.prog 97 c_laws_szItem := meets_ok (tabT _ _) FOk.nil mixed Tryz.func97 rfl Tryz.call97 (by decide) (by kernel_rfl) m_laws_szItem (by intro _ (y : (It × Int)) _; exact ⟨by simp [c_laws_szItem, con, conG, conW, AV.noRd, noRdCells, noRdRows, noRdRows_map', encS, encI], by simp [c_laws_szItem, con, conG, conW, AV.noRd, noRdCells, noRdRows, noRdRows_map', encS, encI]⟩) (by intro (y : (It × Int)) _; first | (simp [c_laws_szItem, con, conG, conW, conP, AV.free, freeCells, freeRows, freeRows_map, encS, encI]; done) | (obtain ⟨_, _⟩ := y; simp [c_laws_szItem, con, conG, conW, conP, AV.free, freeCells, freeRows, freeRows_map, encS, encI]; done) | (obtain ⟨_, _, _⟩ := y; simp [c_laws_szItem, con, conG, conW, conP, AV.free, freeCells, freeRows, freeRows_map, encS, encI]; done))
noncomputable def c_laws_szItemS : PCon := con [mS 4, mC] true (Tr × Int) (fun x => [.rd 4 (x.1.map encI), .int .i64 x.2]) (fun x => 0 ≤ x.2 ∧ x.2 ≤ 4194304 ∧ x.1.length ≤ 9223372036854775807 ∧ ∀ y, y ∈ x.1 → y.path.length ≤ 9223372036854775807 ∧ y.data.length ≤ 9223372036854775807) (fun x => .int .i64 (szR x.2 (szT x.1)))
noncomputable def E_laws_szItemS : Env := ⟨lookup tyTab, lookup [(97, c_laws_szItem)], [0, 1, 4, 5, 11, 15, 25]⟩
set_option maxRecDepth 100000 in
set_option maxHeartbeats 4000000 in
theorem m_laws_szItemS : Meets E_laws_szItemS (codeOf Tryz.f52) Tryz.f52.results.toList c_laws_szItemS := by
  rintro ⟨t, left⟩ hs
  obtain ⟨h1, h2, h3, h4⟩ : 0 ≤ left ∧ left ≤ 4194304 ∧ t.length ≤ 9223372036854775807 ∧ ∀ y, y ∈ t → y.path.length ≤ 9223372036854775807 ∧ y.data.length ≤ 9223372036854775807 := hs
  refine ⟨trivial, ?_⟩
  repeat ((conv => whnf); refine ⟨_, w64 (by (show (_ : Prop)); first | omega | ((try dsimp only at *); (try simp only [lns] at *); omega)), ?_⟩)
  (conv => whnf); refine ⟨fun h5 => ?_, fun h5 => ?_⟩
  · have h5 : left - t.length < 0 := by simpa using h5
    conv => whnf
    exact ⟨trivial, eqN' (by unfold szR szT; dsimp only; rw [if_pos (by omega)])⟩
  have h5 : ¬ left - t.length < 0 := by simpa using h5
  skip
  refine loop_rule (fun i : Nat => ⟨[(0, ⟨none, .rd 4 (t.map encI)⟩), (1, ⟨none, .int .i64 (left - t.length - ((t.take i).map szI).sum)⟩), (5, ⟨none, .int .i64 i⟩)], [], 0⟩)
    (fun i => i ≤ t.length ∧ 0 ≤ left - t.length - ((t.take i).map szI).sum) (fun i => t.length - i) 0 ?_ ⟨by omega, by simp; omega⟩ ?_
  · (refine ⟨?_, ?_, rfl⟩ <;> repeat' (first | exact rfl | exact trivial | refine ⟨?_, ?_⟩ | fail) <;> (conv => whnf))
    all_goals simp
  rintro i ⟨hi, hI⟩
  (conv => whnf); refine ⟨fun h6 => ?_, fun h6 => ?_⟩
  · have h6 : i < t.length := by simpa using h6
    obtain ⟨b, hb⟩ := get_lt h6
    have hbs := h4 b (List.mem_of_getElem? hb)
    have hsu := sum_take' (f := szI) hb
    have hle := sum_take_le (f := szI) (l := t) (i := i + 1)
    repeat ((conv => whnf); refine ⟨encI b, fun _ => ⟨by omega, by simp [hb]⟩, ?_⟩)
    conv => whnf
    refine ⟨(b, left - t.length - ((t.take i).map szI).sum), rfl, fun _ => ⟨hI, by show _ ≤ _; omega, hbs⟩, ?_⟩
    (conv => whnf); refine ⟨fun h7 => ?_, fun h7 => ?_⟩
    · have h7 : szR (left - t.length - ((t.take i).map szI).sum) (szI b) < 0 := by simpa using h7
      have h7 : left - t.length - ((t.take i).map szI).sum - szI b < 0 := by
        unfold szR at h7; split at h7 <;> omega
      conv => whnf
      exact ⟨trivial, eqN' (by unfold szR szT; dsimp only; rw [if_pos (by omega)])⟩
    · have h7 : ¬ szR (left - t.length - ((t.take i).map szI).sum) (szI b) < 0 := by simpa using h7
      have h8 := szR_ok h7
      have h9 : szR (left - t.length - ((t.take i).map szI).sum) (szI b) = left - t.length - ((t.take (i + 1)).map szI).sum := by
        unfold szR; rw [if_neg (by omega)]; omega
      repeat ((conv => whnf); refine ⟨_, w64 (by (show (_ : Prop)); first | omega | ((try dsimp only at *); (try simp only [lns] at *); omega)), ?_⟩)
      refine again (i + 1) ?_ ⟨h6, by omega⟩ (by first | omega | (simp; done) | (simp; omega))
      (refine ⟨?_, ?_, rfl⟩ <;> repeat' (first | exact rfl | exact trivial | refine ⟨?_, ?_⟩ | fail) <;> (conv => whnf))
      exact h9
  · have h6 : i = t.length := by
      have : ¬ i < t.length := by simpa using h6
      omega
    subst h6
    rw [List.take_length] at hI ⊢
    conv => whnf
    exact ⟨trivial, eqN' (by unfold szR szT; dsimp only; rw [if_neg (by omega)]; omega)⟩
theorem ok_laws_szItemS : ConOk Tryz.prog 52 c_laws_szItemS := meets_ok (tabT _ _) (FOk.cons ok_laws_szItem FOk.nil) mixed Tryz.func52 rfl Tryz.call52 (by decide) (by kernel_rfl) m_laws_szItemS (by intro _ (y : (Tr × Int)) _; exact ⟨by simp [c_laws_szItemS, con, conG, conW, AV.noRd, noRdCells, noRdRows, noRdRows_map', encS, encI], by simp [c_laws_szItemS, con, conG, conW, AV.noRd, noRdCells, noRdRows, noRdRows_map', encS, encI]⟩) (by intro (y : (Tr × Int)) _; first | (simp [c_laws_szItemS, con, conG, conW, conP, AV.free, freeCells, freeRows, freeRows_map, encS, encI]; done) | (obtain ⟨_, _⟩ := y; simp [c_laws_szItemS, con, conG, conW, conP, AV.free, freeCells, freeRows, freeRows_map, encS, encI]; done) | (obtain ⟨_, _, _⟩ := y; simp [c_laws_szItemS, con, conG, conW, conP, AV.free, freeCells, freeRows, freeRows_map, encS, encI]; done))
noncomputable def c_laws_szTree : PCon := con [mS 4, mC] true (Tr × Int) (fun x => [rdT x.1, .int .i64 x.2]) (fun x => 0 ≤ x.2 ∧ x.2 ≤ 4194304 ∧ x.1.length ≤ 9223372036854775807 ∧ ∀ y, y ∈ x.1 → y.path.length ≤ 9223372036854775807 ∧ y.data.length ≤ 9223372036854775807) (fun x => .int .i64 (szR x.2 (szT x.1)))
noncomputable def E_laws_szTree : Env := ⟨lookup tyTab, lookup [(52, c_laws_szItemS)], [0, 1, 2, 4, 10]⟩
set_option maxRecDepth 100000 in
set_option maxHeartbeats 4000000 in
theorem m_laws_szTree : Meets E_laws_szTree (codeOf Tryz.f15) Tryz.f15.results.toList c_laws_szTree := by
  rintro ⟨t, left⟩ hs
  refine ⟨trivial, ?_⟩
  conv => whnf
  refine ⟨(t, left), rfl, fun _ => hs, ?_⟩
  (conv => whnf); refine ⟨fun h1 => ?_, fun h1 => ?_⟩
  · have h1 : szR left (szT t) < 0 := by simpa using h1
    conv => whnf
    exact ⟨trivial, eqN' (by
      show -1 = szR left (szT t)
      unfold szR at h1 ⊢; split at h1 <;> simp_all)⟩
  · conv => whnf
    exact ⟨trivial, rfl⟩
theorem ok_laws_szTree : ConOk Tryz.prog 15 c_laws_szTree := meets_ok (tabT _ _) (FOk.cons ok_laws_szItemS FOk.nil) mixed Tryz.func15 rfl Tryz.call15 (by decide) (by kernel_rfl) m_laws_szTree (by intro _ (y : (Tr × Int)) _; exact ⟨by simp [c_laws_szTree, con, conG, conW, AV.noRd, noRdCells, noRdRows, noRdRows_map', encS, encI], by simp [c_laws_szTree, con, conG, conW, AV.noRd, noRdCells, noRdRows, noRdRows_map', encS, encI]⟩) (by intro (y : (Tr × Int)) _; first | (simp [c_laws_szTree, con, conG, conW, conP, AV.free, freeCells, freeRows, freeRows_map, encS, rdT, encI]; done) | (obtain ⟨_, _⟩ := y; simp [c_laws_szTree, con, conG, conW, conP, AV.free, freeCells, freeRows, freeRows_map, encS, rdT, encI]; done) | (obtain ⟨_, _, _⟩ := y; simp [c_laws_szTree, con, conG, conW, conP, AV.free, freeCells, freeRows, freeRows_map, encS, rdT, encI]; done))
noncomputable def c_laws_toItem : PCon := con [.rd [none, none, none, none]] true It (fun x => [.agg (encI x)]) (fun _ => True) (fun x => .agg (encI x))
noncomputable def E_laws_toItem : Env := ⟨lookup tyTab, lookup [], [0, 1, 2, 3]⟩
set_option maxRecDepth 100000 in
set_option maxHeartbeats 4000000 in
theorem m_laws_toItem : Meets E_laws_toItem (codeOf Tryz.f103) Tryz.f103.results.toList c_laws_toItem := by
  intro (x : It) hs
  refine ⟨trivial, ?_⟩
  conv => whnf
  exact ⟨trivial, rfl, rfl, rfl, rfl, trivial⟩
theorem ok_laws_toItem : ConOk Tryz.prog 103 c_laws_toItem := meets_ok (tabT _ _) FOk.nil mixed Tryz.func103 rfl Tryz.call103 (by decide) (by kernel_rfl) m_laws_toItem (by intro _ (y : It) _; exact ⟨by simp [c_laws_toItem, con, conG, conW, AV.noRd, noRdCells, noRdRows, noRdRows_map', encS, encI], by simp [c_laws_toItem, con, conG, conW, AV.noRd, noRdCells, noRdRows, noRdRows_map', encS, encI]⟩) (by intro (y : It) _; first | (simp [c_laws_toItem, con, conG, conW, conP, AV.free, freeCells, freeRows, freeRows_map, encS, encI]; done) | (obtain ⟨_, _⟩ := y; simp [c_laws_toItem, con, conG, conW, conP, AV.free, freeCells, freeRows, freeRows_map, encS, encI]; done) | (obtain ⟨_, _, _⟩ := y; simp [c_laws_toItem, con, conG, conW, conP, AV.free, freeCells, freeRows, freeRows_map, encS, encI]; done))
noncomputable def c_laws_toItemS : PCon := con [mS 4] false Tr (fun t => [.rd 4 (t.map encI)]) smT (fun t => .own 4 (t.map encI))
noncomputable def E_laws_toItemS : Env := ⟨lookup tyTab, lookup [(103, c_laws_toItem)], [0, 2, 3, 4, 11]⟩
set_option maxRecDepth 100000 in
set_option maxHeartbeats 4000000 in
theorem m_laws_toItemS : Meets E_laws_toItemS (codeOf Tryz.f56) Tryz.f56.results.toList c_laws_toItemS := by
  intro (t : Tr) hs
  obtain ⟨hs1, hs2⟩ : smT t := hs
  refine ⟨trivial, ?_⟩
  repeat ((conv => whnf); refine ⟨by (show (_ : Prop)); first | omega | ((try dsimp only at *); (try simp only [lns] at *); omega), ?_⟩)
  refine loop_rule (fun i : Nat => ⟨[(0, ⟨none, .rd 4 (t.map encI)⟩), (3, ⟨none, .view 0 [] 0 t.length⟩), (4, ⟨none, .int .i64 i⟩)], [(0, .own 4 (filled encI (encI It.none) t i))], 1⟩)
    (fun i => i ≤ t.length) (fun i => t.length - i) 0 ?_ (by omega) ?_
  · (refine ⟨?_, ?_, rfl⟩ <;> repeat' (first | exact rfl | exact trivial | refine ⟨?_, ?_⟩ | fail) <;> (conv => whnf))
    all_goals simp
    exact filled_zero.symm
  intro i hi
  have hi : i ≤ t.length := hi
  (conv => whnf); refine ⟨fun h6 => ?_, fun h6 => ?_⟩
  · have h6 : i < t.length := by simpa using h6
    obtain ⟨b, hb⟩ := get_lt h6
    repeat ((conv => whnf); first | refine ⟨_, w64 (by (show (_ : Prop)); first | omega | ((try dsimp only at *); (try simp only [lns] at *); omega)), ?_⟩ | refine ⟨by (show (_ : Prop)); first | omega | ((try dsimp only at *); (try simp only [lns] at *); omega), ?_⟩ | refine ⟨encI b, fun _ => ⟨by omega, by simp [hb]⟩, ?_⟩ | refine ⟨b, rfl, fun _ => trivial, ?_⟩ | refine ⟨encI It.none, by simp [filled_get h6], ?_⟩)
    refine again (i + 1) ?_ h6 (by first | omega | (simp; done) | (simp; omega))
    (refine ⟨?_, ?_, rfl⟩ <;> repeat' (first | exact rfl | exact trivial | refine ⟨?_, ?_⟩ | fail) <;> (conv => whnf))
    simp only [Nat.zero_add, Int.toNat_natCast]
    exact filled_set hb
  · have h6 : i = t.length := by
      have : ¬ i < t.length := by simpa using h6
      omega
    subst h6
    conv => whnf
    exact ⟨trivial, eqOwn (by rw [filled_all]; (try simp only [List.drop_zero, List.take_length, take_app]) <;> simp)⟩
theorem ok_laws_toItemS : ConOk Tryz.prog 56 c_laws_toItemS := meets_ok (tabT _ _) (FOk.cons ok_laws_toItem FOk.nil) mixed Tryz.func56 rfl Tryz.call56 (by decide) (by kernel_rfl) m_laws_toItemS (by intro _ (y : Tr) _; exact ⟨by simp [c_laws_toItemS, con, conG, conW, AV.noRd, noRdCells, noRdRows, noRdRows_map', encS, encI], by simp [c_laws_toItemS, con, conG, conW, AV.noRd, noRdCells, noRdRows, noRdRows_map', encS, encI]⟩) (by intro (y : Tr) _; first | (simp [c_laws_toItemS, con, conG, conW, conP, AV.free, freeCells, freeRows, freeRows_map, encS, encI]; done) | (obtain ⟨_, _⟩ := y; simp [c_laws_toItemS, con, conG, conW, conP, AV.free, freeCells, freeRows, freeRows_map, encS, encI]; done) | (obtain ⟨_, _, _⟩ := y; simp [c_laws_toItemS, con, conG, conW, conP, AV.free, freeCells, freeRows, freeRows_map, encS, encI]; done))
noncomputable def c_laws_toTree : PCon := con [mS 4] false Tr (fun t => [rdT t]) smT (fun t => .agg [.own 4 (t.map encI)])
noncomputable def E_laws_toTree : Env := ⟨lookup tyTab, lookup [(56, c_laws_toItemS)], [0, 1, 2, 3]⟩
set_option maxRecDepth 100000 in
set_option maxHeartbeats 4000000 in
theorem m_laws_toTree : Meets E_laws_toTree (codeOf Tryz.f18) Tryz.f18.results.toList c_laws_toTree := by
  intro (t : Tr) hs
  refine ⟨trivial, ?_⟩
  conv => whnf
  refine ⟨t, rfl, fun _ => hs, ?_⟩
  conv => whnf
  refine ⟨trivial, ⟨rfl, ?_⟩, trivial⟩
  simp only [List.drop_zero, List.take_length]
theorem ok_laws_toTree : ConOk Tryz.prog 18 c_laws_toTree := meets_ok (tabT _ _) (FOk.cons ok_laws_toItemS FOk.nil) mixed Tryz.func18 rfl Tryz.call18 (by decide) (by kernel_rfl) m_laws_toTree (by intro _ (y : Tr) _; exact ⟨by simp [c_laws_toTree, con, conG, conW, AV.noRd, noRdCells, noRdRows, noRdRows_map', encS, encI], by simp [c_laws_toTree, con, conG, conW, AV.noRd, noRdCells, noRdRows, noRdRows_map', encS, encI]⟩) (by intro (y : Tr) _; first | (simp [c_laws_toTree, con, conG, conW, conP, AV.free, freeCells, freeRows, freeRows_map, encS, rdT, encI]; done) | (obtain ⟨_, _⟩ := y; simp [c_laws_toTree, con, conG, conW, conP, AV.free, freeCells, freeRows, freeRows_map, encS, rdT, encI]; done) | (obtain ⟨_, _, _⟩ := y; simp [c_laws_toTree, con, conG, conW, conP, AV.free, freeCells, freeRows, freeRows_map, encS, rdT, encI]; done))
noncomputable def c_laws_eqItem : PCon := con [.rd [none, none, none, none], .rd [none, none, none, none]] true It (fun x => [.agg (encI x), .agg (encI x)]) (fun _ => True) (fun _ => .bool true)
noncomputable def E_laws_eqItem : Env := ⟨lookup tyTab, lookup [], [0, 1, 2, 3, 4, 9, 14, 19, 24]⟩
set_option maxRecDepth 100000 in
set_option maxHeartbeats 4000000 in
theorem m_laws_eqItem : Meets E_laws_eqItem (codeOf Tryz.f111) Tryz.f111.results.toList c_laws_eqItem := by
  intro (x : It) hs
  refine ⟨trivial, ?_⟩
  conv => whnf
  refine ⟨fun h => ?_, fun _ => ?_⟩
  · have h : (!(x.path == x.path)) = true := h
    simp at h
  conv => whnf
  refine ⟨fun h => ?_, fun _ => ?_⟩
  · have h : (x.kind != x.kind) = true := h
    simp at h
  conv => whnf
  refine ⟨fun h => ?_, fun _ => ?_⟩
  · have h : (!(x.data == x.data)) = true := h
    simp at h
  conv => whnf
  refine ⟨fun h => ?_, fun _ => ?_⟩
  · have h : (x.time != x.time) = true := h
    simp at h
  conv => whnf
  exact ⟨trivial, rfl⟩
theorem ok_laws_eqItem : ConOk Tryz.prog 111 c_laws_eqItem := meets_ok (tabT _ _) FOk.nil mixed Tryz.func111 rfl Tryz.call111 (by decide) (by kernel_rfl) m_laws_eqItem (by intro _ (y : It) _; exact ⟨by simp [c_laws_eqItem, con, conG, conW, AV.noRd, noRdCells, noRdRows, noRdRows_map', encS, encI], by simp [c_laws_eqItem, con, conG, conW, AV.noRd, noRdCells, noRdRows, noRdRows_map', encS, encI]⟩) (by intro (y : It) _; first | (simp [c_laws_eqItem, con, conG, conW, conP, AV.free, freeCells, freeRows, freeRows_map, encS, encI]; done) | (obtain ⟨_, _⟩ := y; simp [c_laws_eqItem, con, conG, conW, conP, AV.free, freeCells, freeRows, freeRows_map, encS, encI]; done) | (obtain ⟨_, _, _⟩ := y; simp [c_laws_eqItem, con, conG, conW, conP, AV.free, freeCells, freeRows, freeRows_map, encS, encI]; done))
noncomputable def c_laws_eqItemS : PCon := con [mS 4, mS 4] true Tr (fun t => [.rd 4 (t.map encI), .rd 4 (t.map encI)]) smT (fun _ => .bool true)
noncomputable def E_laws_eqItemS : Env := ⟨lookup tyTab, lookup [(111, c_laws_eqItem)], [0, 1, 4, 5, 10, 14, 26]⟩
set_option maxRecDepth 100000 in
set_option maxHeartbeats 4000000 in
theorem m_laws_eqItemS : Meets E_laws_eqItemS (codeOf Tryz.f60) Tryz.f60.results.toList c_laws_eqItemS := by
  intro (t : Tr) hs
  obtain ⟨hs1, hs2⟩ : smT t := hs
  refine ⟨trivial, ?_⟩
  conv => whnf
  refine ⟨fun h => ?_, fun _ => ?_⟩
  · simp at h
  skip
  refine loop_rule (fun i : Nat => ⟨[(0, ⟨none, .rd 4 (t.map encI)⟩), (1, ⟨none, .rd 4 (t.map encI)⟩), (5, ⟨none, .int .i64 i⟩)], [], 0⟩)
    (fun i => i ≤ t.length) (fun i => t.length - i) 0 ?_ (by omega) ?_
  · (refine ⟨?_, ?_, rfl⟩ <;> repeat' (first | exact rfl | exact trivial | refine ⟨?_, ?_⟩ | fail) <;> (conv => whnf))
  intro i hi
  have hi : i ≤ t.length := hi
  (conv => whnf); refine ⟨fun h6 => ?_, fun h6 => ?_⟩
  · have h6 : i < t.length := by simpa using h6
    obtain ⟨b, hb⟩ := get_lt h6
    repeat ((conv => whnf); first | refine ⟨(by kernel_rfl : drawOk _ _ = true), ?_⟩ | refine ⟨encI b, fun _ => ⟨by omega, by simp [hb]⟩, ?_⟩ | refine ⟨b, rfl, fun _ => trivial, ?_⟩)
    conv => whnf
    refine ⟨fun h => absurd h (by decide), fun _ => ?_⟩
    repeat ((conv => whnf); refine ⟨_, w64 (by (show (_ : Prop)); first | omega | ((try dsimp only at *); (try simp only [lns] at *); omega)), ?_⟩)
    refine again (i + 1) ?_ h6 (by first | omega | (simp; done) | (simp; omega))
    (refine ⟨?_, ?_, rfl⟩ <;> repeat' (first | exact rfl | exact trivial | refine ⟨?_, ?_⟩ | fail) <;> (conv => whnf))
  · conv => whnf
    exact ⟨trivial, rfl⟩
theorem ok_laws_eqItemS : ConOk Tryz.prog 60 c_laws_eqItemS := meets_ok (tabT _ _) (FOk.cons ok_laws_eqItem FOk.nil) mixed Tryz.func60 rfl Tryz.call60 (by decide) (by kernel_rfl) m_laws_eqItemS (by intro _ (y : Tr) _; exact ⟨by simp [c_laws_eqItemS, con, conG, conW, AV.noRd, noRdCells, noRdRows, noRdRows_map', encS, encI], by simp [c_laws_eqItemS, con, conG, conW, AV.noRd, noRdCells, noRdRows, noRdRows_map', encS, encI]⟩) (by intro (y : Tr) _; first | (simp [c_laws_eqItemS, con, conG, conW, conP, AV.free, freeCells, freeRows, freeRows_map, encS, encI]; done) | (obtain ⟨_, _⟩ := y; simp [c_laws_eqItemS, con, conG, conW, conP, AV.free, freeCells, freeRows, freeRows_map, encS, encI]; done) | (obtain ⟨_, _, _⟩ := y; simp [c_laws_eqItemS, con, conG, conW, conP, AV.free, freeCells, freeRows, freeRows_map, encS, encI]; done))
noncomputable def c_laws_eqTree : PCon := con [mS 4, mS 4] true Tr (fun t => [rdT t, rdT t]) smT (fun _ => .bool true)
noncomputable def E_laws_eqTree : Env := ⟨lookup tyTab, lookup [(60, c_laws_eqItemS)], [0, 1, 2, 3, 4, 10]⟩
set_option maxRecDepth 100000 in
set_option maxHeartbeats 4000000 in
theorem m_laws_eqTree : Meets E_laws_eqTree (codeOf Tryz.f21) Tryz.f21.results.toList c_laws_eqTree := by
  intro (t : Tr) hs
  refine ⟨trivial, ?_⟩
  conv => whnf
  refine ⟨t, rfl, fun _ => hs, ?_⟩
  conv => whnf
  refine ⟨fun h => absurd h (by decide), fun _ => ?_⟩
  conv => whnf
  exact ⟨trivial, rfl⟩
theorem ok_laws_eqTree : ConOk Tryz.prog 21 c_laws_eqTree := meets_ok (tabT _ _) (FOk.cons ok_laws_eqItemS FOk.nil) mixed Tryz.func21 rfl Tryz.call21 (by decide) (by kernel_rfl) m_laws_eqTree (by intro _ (y : Tr) _; exact ⟨by simp [c_laws_eqTree, con, conG, conW, AV.noRd, noRdCells, noRdRows, noRdRows_map', encS, encI], by simp [c_laws_eqTree, con, conG, conW, AV.noRd, noRdCells, noRdRows, noRdRows_map', encS, encI]⟩) (by intro (y : Tr) _; first | (simp [c_laws_eqTree, con, conG, conW, conP, AV.free, freeCells, freeRows, freeRows_map, encS, rdT, encI]; done) | (obtain ⟨_, _⟩ := y; simp [c_laws_eqTree, con, conG, conW, conP, AV.free, freeCells, freeRows, freeRows_map, encS, rdT, encI]; done) | (obtain ⟨_, _, _⟩ := y; simp [c_laws_eqTree, con, conG, conW, conP, AV.free, freeCells, freeRows, freeRows_map, encS, rdT, encI]; done))
end Go.GH

set_option linter.unusedVariables false
set_option linter.unusedSimpArgs false
namespace Go.GH
open Go
def isDg (b : UInt8) : Bool := decide (48 ≤ b.toNat) && decide (b.toNat ≤ 57)
def valF (a : Nat) (s : Str) : Nat := s.foldl (fun a b => 10 * a + (b.toNat - 48)) a
def numV (s : Str) : Nat := valF 0 s
def numOk (s : Str) : Bool := decide (1 ≤ s.length) && decide (s.length ≤ 6) && s.all isDg && (dig (numV s) == s)
def num (s : Str) : Option Nat := if numOk s then some (numV s) else none
theorem valF_app (a : Nat) (s : Str) (b : UInt8) : valF a (s ++ [b]) = 10 * valF a s + (b.toNat - 48) := by simp [valF]
theorem numV_succ {s : Str} {i : Nat} {b : UInt8} (h : s[i]? = some b) : numV (s.take (i + 1)) = 10 * numV (s.take i) + (b.toNat - 48) := by
  rw [take_succ' h]; exact valF_app _ _ _
theorem isDg_le {b : UInt8} (h : isDg b = true) : 48 ≤ b.toNat ∧ b.toNat ≤ 57 := by simpa [isDg] using h
theorem valF_lt : ∀ {s : Str} {a k : Nat}, s.all isDg = true → a < 10 ^ k → valF a s < 10 ^ (k + s.length)
  | [], a, k, _, ha => ha
  | b :: s, a, k, h, ha => by
    simp only [List.all_cons, Bool.and_eq_true] at h
    have h1 := isDg_le h.1
    have := valF_lt (s := s) (a := 10 * a + (b.toNat - 48)) (k := k + 1) h.2 (by rw [Nat.pow_succ]; omega)
    rw [show k + 1 + s.length = k + (s.length + 1) by omega] at this
    exact this
theorem numV_lt {s : Str} {n : Nat} (h : s.all isDg = true) (hl : s.length ≤ n) : numV s < 10 ^ n := by
  have := valF_lt (a := 0) (k := 0) h (by decide)
  rw [Nat.zero_add] at this
  exact Nat.lt_of_lt_of_le this (Nat.pow_le_pow_right (by decide) hl)
theorem dec_all : ∀ (n : Nat), (Lib.decDigits n).all isDg = true ∧ numV (Lib.decDigits n) = n ∧ 1 ≤ (Lib.decDigits n).length ∧ ∀ k, n < 10 ^ (k + 1) → (Lib.decDigits n).length ≤ k + 1 := by
  intro n
  induction n using Nat.strongRecOn with
  | _ n ih =>
    rw [Lib.decDigits.eq_1 n]
    have dg : ∀ m, m < 10 → isDg (UInt8.ofNat (48 + m)) = true ∧ (UInt8.ofNat (48 + m)).toNat - 48 = m := by
      intro m hm
      have e : (UInt8.ofNat (48 + m)).toNat = 48 + m := by rw [UInt8.toNat_ofNat']; omega
      exact ⟨by simp [isDg, e]; omega, by rw [e]; omega⟩
    by_cases h : n < 10
    · rw [dif_pos h]
      obtain ⟨h1, h2⟩ := dg n h
      exact ⟨by simp only [List.all_cons, List.all_nil, h1, Bool.and_true], by simp only [numV, valF, List.foldl]; omega, by simp, fun k hk => by simp⟩
    · rw [dif_neg h]
      obtain ⟨h1, h2⟩ := dg (n % 10) (Nat.mod_lt _ (by decide))
      obtain ⟨i1, i2, i3, i4⟩ := ih (n / 10) (by omega)
      refine ⟨by rw [List.all_append, i1]; simp only [List.all_cons, List.all_nil, h1, Bool.and_true], ?_, by simp, fun k hk => ?_⟩
      · rw [show numV (Lib.decDigits (n / 10) ++ [UInt8.ofNat (48 + n % 10)]) = _ from valF_app 0 _ _]
        rw [show valF 0 (Lib.decDigits (n / 10)) = n / 10 from i2, h2]
        omega
      · cases k with
        | zero => simp at hk; omega
        | succ k =>
          have := i4 k (by rw [Nat.pow_succ] at hk; omega)
          simp; omega
theorem dig_dec {n : Nat} (h : n < 2 ^ 64) : dig n = Lib.decDigits n := by
  rw [← itoa_dig h]
  unfold Lib.itoa
  rw [if_neg (by omega), Int.toNat_natCast]
theorem numOk_dig {n : Nat} (h : n ≤ 999999) : numOk (dig n) = true ∧ numV (dig n) = n := by
  have e := dig_dec (n := n) (by omega)
  obtain ⟨h1, h2, h3, h4⟩ := dec_all n
  have h5 := h4 5 (by omega)
  rw [← e] at h1 h2 h3 h5
  refine ⟨?_, h2⟩
  unfold numOk
  rw [h2]
  simp only [h1, Bool.and_eq_true, decide_eq_true_eq, beq_self_eq_true, and_true]
  omega
theorem parse_ok : ∀ {s : Str} {a k : Nat}, s.all isDg = true → a < 10 ^ k → k + s.length ≤ 12 → Lib.parseUint10 a s = .ok (valF a s)
  | [], a, k, _, _, _ => rfl
  | b :: s, a, k, h, ha, hk => by
    simp only [List.all_cons, Bool.and_eq_true] at h
    have h1 := isDg_le h.1
    have h2 : 10 ^ k ≤ 10 ^ 12 := Nat.pow_le_pow_right (by decide) (by simp at hk; omega)
    simp only [Lib.parseUint10]
    rw [if_pos h1, if_neg (by omega), if_neg (by omega)]
    have e : a * 10 + (b.toNat - 48) = 10 * a + (b.toNat - 48) := by omega
    rw [e]
    exact parse_ok (k := k + 1) h.2 (by rw [Nat.pow_succ]; omega) (by simp at hk; omega)
theorem atoi_num {s : Str} (h : numOk s = true) : Lib.atoiAll s = .ok (numV s) := by
  simp only [numOk, Bool.and_eq_true, decide_eq_true_eq] at h
  obtain ⟨⟨⟨h1, h2⟩, h3⟩, h4⟩ := h
  cases s with
  | nil => simp at h1
  | cons c r =>
    have hc : 48 ≤ c.toNat ∧ c.toNat ≤ 57 := isDg_le (by simp only [List.all_cons, Bool.and_eq_true] at h3; exact h3.1)
    have hv : numV (c :: r) < 10 ^ 6 := numV_lt h3 h2
    have hp : Lib.parseMag (c :: r) = .ok (numV (c :: r)) := by
      unfold Lib.parseMag
      rw [if_neg (by simp)]
      exact parse_ok (k := 0) h3 (by decide) (by simp at h2 ⊢; omega)
    unfold Lib.atoiAll
    simp only
    rw [if_neg (by omega), hp]
    simp only
    rw [if_neg (by omega), if_neg (by omega), if_neg (by omega)]
theorem num_atoi {s : Str} {v : Int} (h : Lib.atoiAll s = .ok v) : num s = if inB v 0 999999 && (dig v.toNat == s) then some v.toNat else none := by
  unfold num
  by_cases hn : numOk s = true
  · rw [if_pos hn]
    have e := atoi_num hn
    rw [h] at e
    obtain rfl : v = (numV s : Int) := by injection e
    have hn2 := hn
    simp only [numOk, Bool.and_eq_true, decide_eq_true_eq] at hn2
    have hv : numV s < 10 ^ 6 := numV_lt hn2.1.2 hn2.1.1.2
    rw [Int.toNat_natCast, hn2.2]
    have : inB (numV s : Int) 0 999999 = true := by rw [inB_iff]; omega
    rw [this]; rfl
  · rw [if_neg hn]
    by_cases hv : inB v 0 999999 = true
    · by_cases hd : (dig v.toNat == s) = true
      · exfalso
        have e : dig v.toNat = s := by simpa using hd
        rw [inB_iff] at hv
        have := (numOk_dig (n := v.toNat) (by omega)).1
        rw [e] at this
        exact hn this
      · simp [hd]
    · simp [hv]
theorem num_fail {s : Str} (h : ∀ v, Lib.atoiAll s ≠ .ok v) : num s = none := by
  unfold num
  rw [if_neg]
  intro hn
  exact h _ (atoi_num hn)
theorem num_lt {s : Str} {n : Nat} (h : num s = some n) : n ≤ 999999 := by
  unfold num at h
  split at h
  · rename_i hn
    simp only [numOk, Bool.and_eq_true, decide_eq_true_eq] at hn
    have hv : numV s < 10 ^ 6 := numV_lt hn.1.2 hn.1.1.2
    simp at h; omega
  · cases h
end Go.GH

set_option linter.unusedVariables false
set_option linter.unusedSimpArgs false
namespace Go.GH
open Go
def hexV (c : UInt8) : Int := fnd (fun b => b == c) hexD
theorem fnd_cons {α : Type} {p : α → Bool} {b : α} {l : List α} : fnd p (b :: l) = if p b then 0 else if fnd p l = -1 then -1 else fnd p l + 1 := by
  unfold fnd
  cases hb : p b
  · simp only [List.any_cons, hb, Bool.false_or, List.findIdx_cons, Bool.false_eq_true, if_false, cond_false]
    split
    · rw [if_neg (by omega)]; rfl
    · rfl
  · simp [List.findIdx_cons, hb]
theorem indexByte_fnd (c : UInt8) : ∀ (l : List UInt8), Lib.indexByte l c = fnd (fun b => b == c) l
  | [] => rfl
  | b :: l => by
    rw [Lib.indexByte, fnd_cons, indexByte_fnd c l]
    split
    · rfl
    · simp only [beq_iff_eq]
theorem indexByte_hex (c : UInt8) : Lib.indexByte hexD c = hexV c := indexByte_fnd c hexD
theorem hexV_range (c : UInt8) : -1 ≤ hexV c ∧ hexV c ≤ 15 := by
  refine ⟨fnd_ge.1, ?_⟩
  by_cases h : hexD.any (fun b => b == c) = true
  · obtain ⟨x, hx, _⟩ := fnd_get h
    have := lt_of_get hx
    have e : hexD.length = 16 := rfl
    unfold hexV
    omega
  · have : hexV c = -1 := fnd_none (Bool.eq_false_iff.2 h)
    omega
def hexB (a b : UInt8) : UInt8 := UInt8.ofNat (16 * (hexV a).toNat + (hexV b).toNat)
def unhex : Str → Option Str
  | [] => some []
  | [_] => none
  | a :: b :: r => if (decide (hexV a < 0) || decide (hexV b < 0)) = true then none else (unhex r).map (hexB a b :: ·)
theorem unhex_odd : ∀ (s : Str), s.length % 2 = 1 → unhex s = none
  | [], h => by simp at h
  | [_], _ => rfl
  | a :: b :: r, h => by
    rw [unhex, unhex_odd r (by simp at h; omega)]
    split <;> rfl
theorem unhex_len : ∀ (s d : Str), unhex s = some d → 2 * d.length = s.length
  | [], d, h => by simp [unhex] at h; subst h; rfl
  | [_], d, h => by simp [unhex] at h
  | a :: b :: r, d, h => by
    rw [unhex] at h
    split at h
    · cases h
    · cases hr : unhex r with
      | none => rw [hr] at h; cases h
      | some e =>
        rw [hr] at h
        simp only [Option.map_some, Option.some.injEq] at h
        subst h
        have := unhex_len r e hr
        simp; omega
theorem drop_two {s : Str} {i : Nat} {a b : UInt8} (ha : s[i]? = some a) (hb : s[i + 1]? = some b) : s.drop i = a :: b :: s.drop (i + 2) := by
  have h1 := lt_of_get ha
  have h2 := lt_of_get hb
  rw [List.drop_eq_getElem_cons h1, List.drop_eq_getElem_cons h2]
  rw [List.getElem?_eq_getElem h1] at ha
  rw [List.getElem?_eq_getElem h2] at hb
  simp only [Option.some.injEq] at ha hb
  rw [ha, hb]
def HexInv (s : Str) (i : Nat) (out : Str) : Prop := i ≤ s.length ∧ i % 2 = 0 ∧ out.length ≤ i ∧ unhex s = (unhex (s.drop i)).map (out ++ ·)
theorem HexInv.zero (s : Str) : HexInv s 0 [] := ⟨by omega, rfl, by simp, by rw [List.drop_zero]; cases unhex s <;> simp⟩
theorem HexInv.bad {s : Str} {i : Nat} {out : Str} (h : HexInv s i out) {a b : UInt8} (ha : s[i]? = some a) (hb : s[i + 1]? = some b) (hn : (decide (hexV a < 0) || decide (hexV b < 0)) = true) : unhex s = none := by
  rw [h.2.2.2, drop_two ha hb, unhex, if_pos hn]; rfl
theorem HexInv.next {s : Str} {i : Nat} {out : Str} (h : HexInv s i out) {a b : UInt8} (ha : s[i]? = some a) (hb : s[i + 1]? = some b) (hn : (decide (hexV a < 0) || decide (hexV b < 0)) = false) : HexInv s (i + 2) (out ++ [hexB a b]) := by
  obtain ⟨h1, h2, h3, h4⟩ := h
  have := lt_of_get hb
  refine ⟨by omega, by omega, by simp; omega, ?_⟩
  rw [h4, drop_two ha hb, unhex, if_neg (by simp [hn])]
  cases unhex (s.drop (i + 2)) <;> simp
theorem HexInv.fin {s out : Str} (h : HexInv s s.length out) : unhex s = some out := by
  rw [h.2.2.2, List.drop_length]; simp [unhex]
theorem or16' : ∀ x y : Fin 16, (BitVec.ofNat 64 (x.val * 16) ||| BitVec.ofNat 64 y.val).toNat = 16 * x.val + y.val := by decide
theorem or16 {x y : Int} (hx : 0 ≤ x ∧ x ≤ 15) (hy : 0 ≤ y ∧ y ≤ 15) : IntKind.i64.wrap (((BitVec.ofInt 64 (x * 16) ||| BitVec.ofInt 64 y).toNat : Nat) : Int) = 16 * x + y := by
  obtain ⟨a, rfl⟩ : ∃ a : Nat, x = a := ⟨x.toNat, by omega⟩
  obtain ⟨b, rfl⟩ : ∃ b : Nat, y = b := ⟨y.toNat, by omega⟩
  have h := or16' ⟨a, by omega⟩ ⟨b, by omega⟩
  simp only at h
  have e1 : BitVec.ofInt 64 ((a : Int) * 16) = BitVec.ofNat 64 (a * 16) := by
    rw [← BitVec.ofInt_natCast]; congr 1
  have e2 : BitVec.ofInt 64 (b : Int) = BitVec.ofNat 64 b := BitVec.ofInt_natCast 64 b
  rw [e1, e2, h]
  exact w64 (a := ((16 * a + b : Nat) : Int)) (by omega)
theorem hexB_val {a b : UInt8} (hx : 0 ≤ hexV a ∧ hexV a ≤ 15) (hy : 0 ≤ hexV b ∧ hexV b ≤ 15) : IntKind.u8.wrap (16 * hexV a + hexV b) = ((hexB a b).toNat : Int) := by
  unfold hexB
  obtain ⟨x, hx'⟩ : ∃ x : Nat, hexV a = x := ⟨(hexV a).toNat, by omega⟩
  obtain ⟨y, hy'⟩ : ∃ y : Nat, hexV b = y := ⟨(hexV b).toNat, by omega⟩
  rw [hx', hy', Int.toNat_natCast, Int.toNat_natCast, UInt8.toNat_ofNat']
  rfl
def opRaw (w : List Str) : OpR := ⟨((num (w.getD 0 [])).getD 0 : Nat), w.getD 1 [], w.getD 2 [], ((num (w.getD 3 [])).getD 0 : Nat), (unhex (w.getD 5 [])).getD [], ((num (w.getD 4 [])).getD 0 : Nat)⟩
def opGood (s : Str) (w : List Str) : Bool := decide (w.length = 6) && (num (w.getD 0 [])).isSome && (num (w.getD 3 [])).isSome && (num (w.getD 4 [])).isSome && (unhex (w.getD 5 [])).isSome && (opText (opRaw w) == s)
def opOf (s : Str) : Option OpR := if opGood s (splitBy 32 s) then some (opRaw (splitBy 32 s)) else none
theorem six {l : List Str} (h : l.length = 6) : ∃ a b c d e f, l = [a, b, c, d, e, f] := by
  match l, h with
  | [a, b, c, d, e, f], _ => exact ⟨a, b, c, d, e, f, rfl⟩
theorem opOf_no {s : Str} (h : opGood s (splitBy 32 s) = false) : opOf s = none := by rw [opOf, if_neg]; simp [h]
theorem opOf_yes {s : Str} (h : opGood s (splitBy 32 s) = true) : opOf s = some (opRaw (splitBy 32 s)) := by rw [opOf, if_pos h]
theorem opOf_text {s : Str} {o : OpR} (h : opOf s = some o) : opText o = s := by
  unfold opOf at h
  split at h
  · rename_i hg
    simp only [Option.some.injEq] at h
    subst h
    simp only [opGood, Bool.and_eq_true, beq_iff_eq] at hg
    exact hg.2
  · cases h
end Go.GH

set_option linter.unusedVariables false
set_option linter.unusedSimpArgs false
namespace Go.GH
open Go
def opsAll : List Str → Option (List OpR)
  | [] => some []
  | a :: r => match opOf a with
    | none => none
    | some o => (opsAll r).map (o :: ·)
def opsLines (ls : List Str) : Option (List OpR) := if ls.getD (ls.length - 1) [] == [] then opsAll (ls.take (ls.length - 1)) else none
def opsOf (s : Str) : Option (List OpR) := opsLines (splitBy 10 s)
def cutN (s : Str) : Str × Str × Bool := if fnd (fun b => b == 10) s ≥ 0 then (s.take (fnd (fun b => b == 10) s).toNat, s.drop ((fnd (fun b => b == 10) s).toNat + 1), true) else (s, [], false)
theorem fnd_first {p : UInt8 → Bool} {s : Str} (h : 0 ≤ fnd p s) : ∃ x, s[(fnd p s).toNat]? = some x ∧ p x = true ∧ ∀ y, y ∈ s.take (fnd p s).toNat → p y = false := by
  have ha : s.any p = true := by
    rcases Bool.eq_false_or_eq_true (s.any p) with h1 | h1
    · exact h1
    · rw [fnd_none h1] at h; omega
  have e : (fnd p s).toNat = s.findIdx p := by unfold fnd; rw [if_pos ha]; simp
  rw [e]
  have hlt : s.findIdx p < s.length := List.findIdx_lt_length.2 (List.any_eq_true.1 ha)
  refine ⟨s[s.findIdx p], List.getElem?_eq_getElem hlt, List.findIdx_getElem, fun y hy => ?_⟩
  obtain ⟨j, hj⟩ := List.getElem?_of_mem hy
  have hjl : j < s.findIdx p := by
    have := lt_of_get hj
    rw [List.length_take] at this; omega
  rw [List.getElem?_take_of_lt hjl] at hj
  have h1 := List.not_of_lt_findIdx hjl
  have hjs : j < s.length := by omega
  rw [List.getElem?_eq_getElem hjs] at hj
  simp only [Option.some.injEq] at hj
  rw [← hj]; simpa using h1
theorem cutN_hit {s : Str} (h : (cutN s).2.2 = true) : s = (cutN s).1 ++ 10 :: (cutN s).2.1 ∧ ∀ x, x ∈ (cutN s).1 → x ≠ 10 := by
  unfold cutN at h ⊢
  by_cases hf : fnd (fun b => b == 10) s ≥ 0
  · rw [if_pos hf]
    obtain ⟨x, h1, h2, h3⟩ := fnd_first hf
    have hx : x = 10 := by simpa using h2
    subst hx
    refine ⟨?_, fun y hy => by simpa using h3 y hy⟩
    have hlt := lt_of_get h1
    have e : s.drop (fnd (fun b => b == 10) s).toNat = 10 :: s.drop ((fnd (fun b => b == 10) s).toNat + 1) := by
      rw [List.drop_eq_getElem_cons hlt]
      rw [List.getElem?_eq_getElem hlt] at h1
      simp only [Option.some.injEq] at h1
      rw [h1]
    show s = s.take _ ++ 10 :: s.drop _
    rw [← e, List.take_append_drop]
  · rw [if_neg hf] at h; cases h
theorem cutN_miss {s : Str} (h : (cutN s).2.2 = false) : ∀ x, x ∈ s → x ≠ 10 := by
  unfold cutN at h
  by_cases hf : fnd (fun b => b == 10) s ≥ 0
  · rw [if_pos hf] at h; cases h
  · have : s.any (fun b => b == 10) = false := by
      rcases Bool.eq_false_or_eq_true (s.any (fun b => b == 10)) with h1 | h1
      · exact absurd (by have := fnd_pos (p := fun b => b == 10) (l := s); rw [h1] at this; simpa using this) hf
      · exact h1
    intro x hx e
    subst e
    rw [List.any_eq_false] at this
    exact this 10 hx (by simp)
theorem cutN_len (s : Str) : (cutN s).1.length ≤ s.length ∧ (cutN s).2.1.length ≤ s.length := by
  unfold cutN
  split
  · exact ⟨by simp [List.length_take]; omega, by simp⟩
  · exact ⟨by simp, by simp⟩
theorem opsOf_nil : opsOf [] = some [] := rfl
theorem opsLines_cons {a : Str} {r : List Str} (hr : r ≠ []) : opsLines (a :: r) = match opOf a with
    | none => none
    | some o => (opsLines r).map (o :: ·) := by
  have hl : 0 < r.length := List.length_pos_iff.2 hr
  obtain ⟨k, hk⟩ : ∃ k, r.length = k + 1 := ⟨r.length - 1, by omega⟩
  unfold opsLines
  rw [List.length_cons, hk]
  simp only [Nat.add_sub_cancel, List.getD_cons_succ, List.take_succ_cons]
  by_cases h : (r.getD k [] == []) = true
  · rw [if_pos h, if_pos h, opsAll]
  · rw [if_neg h, if_neg h]
    cases opOf a <;> rfl
theorem opsOf_cut {a b : Str} (ha : ∀ x, x ∈ a → x ≠ 10) : opsOf (a ++ 10 :: b) = match opOf a with
    | none => none
    | some o => (opsOf b).map (o :: ·) := by
  unfold opsOf
  rw [splitBy_at ha, opsLines_cons (splitBy_ne 10 b)]
theorem opsOf_whole {s : Str} (hs : ∀ x, x ∈ s → x ≠ 10) (hne : s ≠ []) : opsOf s = none := by
  unfold opsOf
  rw [splitBy_none hs]
  unfold opsLines
  rw [if_neg]
  simpa using hne
def OpsInv (s r : Str) (out : List OpR) : Prop := out.length + r.length ≤ s.length ∧ opsOf s = (opsOf r).map (out ++ ·)
theorem OpsInv.zero (s : Str) : OpsInv s s [] := ⟨by simp, by cases opsOf s <;> simp⟩
theorem OpsInv.fin {s : Str} {out : List OpR} (h : OpsInv s [] out) : opsOf s = some out := by rw [h.2, opsOf_nil]; simp
theorem OpsInv.next {s r : Str} {out : List OpR} (h : OpsInv s r out) (hc : (cutN r).2.2 = true) {o : OpR} (ho : opOf (cutN r).1 = some o) : OpsInv s (cutN r).2.1 (out ++ [o]) ∧ (cutN r).2.1.length < r.length := by
  obtain ⟨e, hn⟩ := cutN_hit hc
  have hl := congrArg List.length e
  simp at hl
  refine ⟨⟨by have := h.1; simp; omega, ?_⟩, by omega⟩
  rw [h.2]
  conv => lhs; rw [e]
  rw [opsOf_cut hn, ho]
  cases opsOf (cutN r).2.1 <;> simp
theorem OpsInv.bad {s r : Str} {out : List OpR} (h : OpsInv s r out) (hne : r ≠ []) (hc : (cutN r).2.2 = false ∨ opOf (cutN r).1 = none) : opsOf s = none := by
  rw [h.2]
  have : opsOf r = none := by
    rcases Bool.eq_false_or_eq_true (cutN r).2.2 with h1 | h1
    · obtain ⟨e, hn⟩ := cutN_hit h1
      have h2 : opOf (cutN r).1 = none := by
        rcases hc with hc | hc
        · rw [h1] at hc; cases hc
        · exact hc
      conv => lhs; rw [e]
      rw [opsOf_cut hn, h2]
    · exact opsOf_whole (cutN_miss h1) hne
  rw [this]; rfl
theorem opsAll_take {l : List Str} {i : Nat} {a : Str} {out : List OpR} (h : opsAll (l.take i) = some out) (ha : l[i]? = some a) : (∀ o, opOf a = some o → opsAll (l.take (i + 1)) = some (out ++ [o])) ∧ (opOf a = none → opsAll (l.take (i + 1)) = none) := by
  rw [take_succ' ha]
  generalize l.take i = p at h
  induction p generalizing out with
  | nil =>
    simp only [opsAll, Option.some.injEq] at h
    subst h
    exact ⟨fun o ho => by simp [opsAll, ho], fun ho => by simp [opsAll, ho]⟩
  | cons x p ih =>
    rw [opsAll] at h
    cases hx : opOf x with
    | none => rw [hx] at h; cases h
    | some y =>
      rw [hx] at h
      cases hp : opsAll p with
      | none => simp [hp] at h
      | some q =>
        simp only [hp, Option.map_some, Option.some.injEq] at h
        subst h
        obtain ⟨i1, i2⟩ := ih hp
        refine ⟨fun o ho => ?_, fun ho => ?_⟩
        · rw [List.cons_append, opsAll, hx]; simp [i1 o ho]
        · rw [List.cons_append, opsAll, hx]; simp [i2 ho]
theorem opsAll_none : ∀ {l : List Str} (i : Nat), opsAll (l.take i) = none → opsAll l = none
  | [], i, h => by simpa using h
  | a :: l, 0, h => by simp [opsAll] at h
  | a :: l, i + 1, h => by
    rw [List.take_succ_cons, opsAll] at h
    rw [opsAll]
    cases ho : opOf a with
    | none => rfl
    | some o =>
      rw [ho] at h
      cases hl : opsAll (l.take i) with
      | none => simp [opsAll_none i hl]
      | some q => simp [hl] at h
theorem opsAll_len : ∀ {l : List Str} {out : List OpR}, opsAll l = some out → out.length = l.length
  | [], out, h => by simp [opsAll] at h; subst h; rfl
  | a :: l, out, h => by
    rw [opsAll] at h
    cases ho : opOf a with
    | none => rw [ho] at h; cases h
    | some o =>
      rw [ho] at h
      cases hl : opsAll l with
      | none => simp [hl] at h
      | some q =>
        simp only [hl, Option.map_some, Option.some.injEq] at h
        subst h
        simp [opsAll_len hl]
end Go.GH

set_option linter.unusedVariables false
set_option linter.unusedSimpArgs false
namespace Go.GH
open Go
structure Cur where
  b : Str
  i : Nat
  h : Int
def encB (b : UInt8) : List AV := [.int .u8 b.toNat]
def encC (c : Cur) : List AV := [.rd 1 (c.b.map encB), .int .i64 c.i, .int .i64 c.h]
def curOk (c : Cur) : Prop := c.i ≤ c.b.length ∧ c.b.length ≤ 1048576
def andI (a b : Int) : Int := IntKind.i64.wrap (BitVec.ofInt IntKind.i64.bits a &&& BitVec.ofInt IntKind.i64.bits b).toNat
def xorI (a b : Int) : Int := IntKind.i64.wrap (BitVec.ofInt IntKind.i64.bits a ^^^ BitVec.ofInt IntKind.i64.bits b).toNat
def mulI (a b : Int) : Int := IntKind.i64.wrap (a * b)
def addI (a b : Int) : Int := IntKind.i64.wrap (a + b)
theorem andI_le {a : Int} {m : Nat} (hm : m < 2 ^ 62) : 0 ≤ andI a m ∧ andI a m ≤ m := by
  have h : ((BitVec.ofInt 64 a &&& BitVec.ofInt 64 (m : Int)).toNat : Nat) ≤ m := by
    rw [BitVec.toNat_and]
    refine Nat.le_trans Nat.and_le_right ?_
    rw [BitVec.ofInt_natCast, BitVec.toNat_ofNat]
    exact Nat.mod_le _ _
  have e : andI a m = ((BitVec.ofInt 64 a &&& BitVec.ofInt 64 (m : Int)).toNat : Int) := w64 (a := ((BitVec.ofInt 64 a &&& BitVec.ofInt 64 (m : Int)).toNat : Int)) (by omega)
  rw [e]
  omega
def nextH (h : Int) : Int := addI (mulI h 6364136223846793005) 1442695040888963407
def x0 (h : Int) : Int := andI (xorI (h.fdiv (2 ^ min (33 : Int).toNat IntKind.i64.bits)) (h.fdiv (2 ^ min (45 : Int).toNat IntKind.i64.bits))) 255
def curX (c : Cur) : Int := match c.b[c.i]? with
  | some y => andI (x0 (nextH c.h) + y.toNat) 255
  | none => x0 (nextH c.h)
def curN (c : Cur) : Cur := ⟨c.b, if c.i < c.b.length then c.i + 1 else c.i, nextH c.h⟩
theorem x0_le (h : Int) : 0 ≤ x0 h ∧ x0 h ≤ 255 := andI_le (m := 255) (by decide)
theorem curX_le (c : Cur) : 0 ≤ curX c ∧ curX c ≤ 255 := by
  unfold curX
  split
  · exact andI_le (m := 255) (by decide)
  · exact x0_le _
theorem curN_ok {c : Cur} (h : curOk c) : curOk (curN c) := by
  obtain ⟨h1, h2⟩ := h
  refine ⟨?_, h2⟩
  show (if c.i < c.b.length then c.i + 1 else c.i) ≤ c.b.length
  split <;> omega
def belX (c : Cur) (n : Int) : Int := if n ≤ 0 then 0 else if n ≤ 256 then (curX c).tmod n else (curX c * 16777216 + curX (curN c) * 65536 + curX (curN (curN c)) * 256 + curX (curN (curN (curN c)))).tmod n
def belN (c : Cur) (n : Int) : Cur := if n ≤ 0 then c else if n ≤ 256 then curN c else curN (curN (curN (curN c)))
theorem belX_le (c : Cur) (n : Int) : 0 ≤ belX c n ∧ (0 < n → belX c n < n) := by
  have c0 := curX_le c
  have c1 := curX_le (curN c)
  have c2 := curX_le (curN (curN c))
  have c3 := curX_le (curN (curN (curN c)))
  unfold belX
  split
  · omega
  · rename_i h
    split
    · exact ⟨Int.tmod_nonneg _ c0.1, fun hn => Int.tmod_lt_of_pos _ hn⟩
    · exact ⟨Int.tmod_nonneg _ (by omega), fun hn => Int.tmod_lt_of_pos _ hn⟩
theorem belN_ok {c : Cur} {n : Int} (h : curOk c) : curOk (belN c n) := by
  unfold belN
  split
  · exact h
  · split
    · exact curN_ok h
    · exact curN_ok (curN_ok (curN_ok (curN_ok h)))
theorem belN_b (c : Cur) (n : Int) : (belN c n).b = c.b := by
  unfold belN
  split
  · rfl
  · split <;> rfl
def stepH (h : Int) (x : UInt8) : Int := andI (addI (addI (mulI h 131) x.toNat) 7) 1073741823
def hash (s : Str) : Int := (s.take 4000).foldl stepH (26583 + s.length)
def newC (s : Str) : Cur := ⟨s, 0, hash s⟩
theorem newC_ok {s : Str} (h : s.length ≤ 1048576) : curOk (newC s) := ⟨Nat.zero_le _, h⟩
theorem foldl_succ {α β : Type} {f : β → α → β} {z : β} {l : List α} {i : Nat} {x : α} (h : l[i]? = some x) : (l.take (i + 1)).foldl f z = f ((l.take i).foldl f z) x := by
  rw [take_succ' h, List.foldl_append]; rfl
end Go.GH

set_option linter.unusedVariables false
set_option linter.unusedSimpArgs false
namespace Go.GH
open Go Go.Proofs
noncomputable def c_laws_szOp : PCon := con [.rd [none, none, none, none, none, none], mC] true (OpR × Int) (fun x => [.agg (encO x.1), .int .i64 x.2]) (fun x => 0 ≤ x.2 ∧ x.2 ≤ 4194304 ∧ bigO x.1) (fun x => .int .i64 (szR x.2 (szO x.1)))
noncomputable def E_laws_szOp : Env := ⟨lookup tyTab, lookup [], [0, 1, 2, 4, 11, 18, 25]⟩
set_option maxRecDepth 100000 in
set_option maxHeartbeats 4000000 in
theorem m_laws_szOp : Meets E_laws_szOp (codeOf Tryz.f53) Tryz.f53.results.toList c_laws_szOp := by
  rintro ⟨x, left⟩ hs
  obtain ⟨h1, h2, h3, h4, h4'⟩ : 0 ≤ left ∧ left ≤ 4194304 ∧ x.path.length ≤ 9223372036854775807 ∧ x.to.length ≤ 9223372036854775807 ∧ x.data.length ≤ 9223372036854775807 := hs
  refine ⟨trivial, ?_⟩
  repeat ((conv => whnf); refine ⟨_, w64 (by (show (_ : Prop)); first | omega | ((try dsimp only at *); (try simp only [lns] at *); omega)), ?_⟩)
  (conv => whnf); refine ⟨fun h5 => ?_, fun h5 => ?_⟩
  · have h5 : left - x.path.length < 0 := by simpa using h5
    conv => whnf
    exact ⟨trivial, eqN' (by unfold szR szO; dsimp only; rw [if_pos (by omega)])⟩
  have h5 : ¬ left - x.path.length < 0 := by simpa using h5
  repeat ((conv => whnf); refine ⟨_, w64 (by (show (_ : Prop)); first | omega | ((try dsimp only at *); (try simp only [lns] at *); omega)), ?_⟩)
  (conv => whnf); refine ⟨fun h6 => ?_, fun h6 => ?_⟩
  · have h6 : left - x.path.length - x.to.length < 0 := by simpa using h6
    conv => whnf
    exact ⟨trivial, eqN' (by unfold szR szO; dsimp only; rw [if_pos (by omega)])⟩
  have h6 : ¬ left - x.path.length - x.to.length < 0 := by simpa using h6
  repeat ((conv => whnf); refine ⟨_, w64 (by (show (_ : Prop)); first | omega | ((try dsimp only at *); (try simp only [lns] at *); omega)), ?_⟩)
  (conv => whnf); refine ⟨fun h7 => ?_, fun h7 => ?_⟩
  · have h7 : left - x.path.length - x.to.length - x.data.length < 0 := by simpa using h7
    conv => whnf
    exact ⟨trivial, eqN' (by unfold szR szO; dsimp only; rw [if_pos (by omega)])⟩
  have h7 : ¬ left - x.path.length - x.to.length - x.data.length < 0 := by simpa using h7
  conv => whnf
  exact ⟨trivial, eqN' (by unfold szR szO; dsimp only; rw [if_neg (by omega)]; omega)⟩
theorem ok_laws_szOp : ConOk Tryz.prog 53 c_laws_szOp := meets_ok (tabT _ _) FOk.nil mixed Tryz.func53 rfl Tryz.call53 (by decide) (by kernel_rfl) m_laws_szOp (by intro _ (y : (OpR × Int)) _; exact ⟨by simp [c_laws_szOp, con, conG, conW, AV.noRd, noRdCells, noRdRows, noRdRows_map', encS, encO], by simp [c_laws_szOp, con, conG, conW, AV.noRd, noRdCells, noRdRows, noRdRows_map', encS, encO]⟩) (by intro (y : (OpR × Int)) _; first | (simp [c_laws_szOp, con, conG, conW, conP, AV.free, freeCells, freeRows, freeRows_map, encS, encO]; done) | (obtain ⟨_, _⟩ := y; simp [c_laws_szOp, con, conG, conW, conP, AV.free, freeCells, freeRows, freeRows_map, encS, encO]; done) | (obtain ⟨_, _, _⟩ := y; simp [c_laws_szOp, con, conG, conW, conP, AV.free, freeCells, freeRows, freeRows_map, encS, encO]; done))
noncomputable def c_laws_toOp : PCon := con [.rd [none, none, none, none, none, none]] true OpR (fun x => [.agg (encO x)]) (fun _ => True) (fun x => .agg (encO x))
noncomputable def E_laws_toOp : Env := ⟨lookup tyTab, lookup [], [0, 1, 2, 3]⟩
set_option maxRecDepth 100000 in
set_option maxHeartbeats 4000000 in
theorem m_laws_toOp : Meets E_laws_toOp (codeOf Tryz.f57) Tryz.f57.results.toList c_laws_toOp := by
  intro (x : OpR) hs
  refine ⟨trivial, ?_⟩
  conv => whnf
  exact ⟨trivial, rfl, rfl, rfl, rfl, rfl, rfl, trivial⟩
theorem ok_laws_toOp : ConOk Tryz.prog 57 c_laws_toOp := meets_ok (tabT _ _) FOk.nil mixed Tryz.func57 rfl Tryz.call57 (by decide) (by kernel_rfl) m_laws_toOp (by intro _ (y : OpR) _; exact ⟨by simp [c_laws_toOp, con, conG, conW, AV.noRd, noRdCells, noRdRows, noRdRows_map', encS, encO], by simp [c_laws_toOp, con, conG, conW, AV.noRd, noRdCells, noRdRows, noRdRows_map', encS, encO]⟩) (by intro (y : OpR) _; first | (simp [c_laws_toOp, con, conG, conW, conP, AV.free, freeCells, freeRows, freeRows_map, encS, encO]; done) | (obtain ⟨_, _⟩ := y; simp [c_laws_toOp, con, conG, conW, conP, AV.free, freeCells, freeRows, freeRows_map, encS, encO]; done) | (obtain ⟨_, _, _⟩ := y; simp [c_laws_toOp, con, conG, conW, conP, AV.free, freeCells, freeRows, freeRows_map, encS, encO]; done))
noncomputable def c_laws_szOpS : PCon := con [mS 6, mC] true (List OpR × Int) (fun x => [.rd 6 (x.1.map encO), .int .i64 x.2]) (fun x => 0 ≤ x.2 ∧ x.2 ≤ 4194304 ∧ x.1.length ≤ 9223372036854775807 ∧ ∀ y, y ∈ x.1 → bigO y) (fun x => .int .i64 (szR x.2 (szOL x.1)))
noncomputable def E_laws_szOpS : Env := ⟨lookup tyTab, lookup [(53, c_laws_szOp)], [0, 1, 4, 5, 11, 15, 25]⟩
set_option maxRecDepth 100000 in
set_option maxHeartbeats 4000000 in
theorem m_laws_szOpS : Meets E_laws_szOpS (codeOf Tryz.f16) Tryz.f16.results.toList c_laws_szOpS := by
  rintro ⟨t, left⟩ hs
  obtain ⟨h1, h2, h3, h4⟩ : 0 ≤ left ∧ left ≤ 4194304 ∧ t.length ≤ 9223372036854775807 ∧ ∀ y, y ∈ t → bigO y := hs
  refine ⟨trivial, ?_⟩
  repeat ((conv => whnf); refine ⟨_, w64 (by (show (_ : Prop)); first | omega | ((try dsimp only at *); (try simp only [lns] at *); omega)), ?_⟩)
  (conv => whnf); refine ⟨fun h5 => ?_, fun h5 => ?_⟩
  · have h5 : left - t.length < 0 := by simpa using h5
    conv => whnf
    exact ⟨trivial, eqN' (by unfold szR szOL; dsimp only; rw [if_pos (by omega)])⟩
  have h5 : ¬ left - t.length < 0 := by simpa using h5
  skip
  refine loop_rule (fun i : Nat => ⟨[(0, ⟨none, .rd 6 (t.map encO)⟩), (1, ⟨none, .int .i64 (left - t.length - ((t.take i).map szO).sum)⟩), (5, ⟨none, .int .i64 i⟩)], [], 0⟩)
    (fun i => i ≤ t.length ∧ 0 ≤ left - t.length - ((t.take i).map szO).sum) (fun i => t.length - i) 0 ?_ ⟨by omega, by simp; omega⟩ ?_
  · (refine ⟨?_, ?_, rfl⟩ <;> repeat' (first | exact rfl | exact trivial | refine ⟨?_, ?_⟩ | fail) <;> (conv => whnf))
    all_goals simp
  rintro i ⟨hi, hI⟩
  (conv => whnf); refine ⟨fun h6 => ?_, fun h6 => ?_⟩
  · have h6 : i < t.length := by simpa using h6
    obtain ⟨b, hb⟩ := get_lt h6
    have hbs := h4 b (List.mem_of_getElem? hb)
    have hsu := sum_take' (f := szO) hb
    have hle := sum_take_le (f := szO) (l := t) (i := i + 1)
    repeat ((conv => whnf); refine ⟨encO b, fun _ => ⟨by omega, by simp [hb]⟩, ?_⟩)
    conv => whnf
    refine ⟨(b, left - t.length - ((t.take i).map szO).sum), rfl, fun _ => ⟨hI, by show _ ≤ _; omega, hbs⟩, ?_⟩
    (conv => whnf); refine ⟨fun h7 => ?_, fun h7 => ?_⟩
    · have h7 : szR (left - t.length - ((t.take i).map szO).sum) (szO b) < 0 := by simpa using h7
      have h7 : left - t.length - ((t.take i).map szO).sum - szO b < 0 := by
        unfold szR at h7; split at h7 <;> omega
      conv => whnf
      exact ⟨trivial, eqN' (by unfold szR szOL; dsimp only; rw [if_pos (by omega)])⟩
    · have h7 : ¬ szR (left - t.length - ((t.take i).map szO).sum) (szO b) < 0 := by simpa using h7
      have h8 := szR_ok h7
      have h9 : szR (left - t.length - ((t.take i).map szO).sum) (szO b) = left - t.length - ((t.take (i + 1)).map szO).sum := by
        unfold szR; rw [if_neg (by omega)]; omega
      repeat ((conv => whnf); refine ⟨_, w64 (by (show (_ : Prop)); first | omega | ((try dsimp only at *); (try simp only [lns] at *); omega)), ?_⟩)
      refine again (i + 1) ?_ ⟨h6, by omega⟩ (by first | omega | (simp; done) | (simp; omega))
      (refine ⟨?_, ?_, rfl⟩ <;> repeat' (first | exact rfl | exact trivial | refine ⟨?_, ?_⟩ | fail) <;> (conv => whnf))
      exact h9
  · have h6 : i = t.length := by
      have : ¬ i < t.length := by simpa using h6
      omega
    subst h6
    rw [List.take_length] at hI ⊢
    conv => whnf
    exact ⟨trivial, eqN' (by unfold szR szOL; dsimp only; rw [if_neg (by omega)]; omega)⟩
theorem ok_laws_szOpS : ConOk Tryz.prog 16 c_laws_szOpS := meets_ok (tabT _ _) (FOk.cons ok_laws_szOp FOk.nil) mixed Tryz.func16 rfl Tryz.call16 (by decide) (by kernel_rfl) m_laws_szOpS (by intro _ (y : (List OpR × Int)) _; exact ⟨by simp [c_laws_szOpS, con, conG, conW, AV.noRd, noRdCells, noRdRows, noRdRows_map', encS, encO], by simp [c_laws_szOpS, con, conG, conW, AV.noRd, noRdCells, noRdRows, noRdRows_map', encS, encO]⟩) (by intro (y : (List OpR × Int)) _; first | (simp [c_laws_szOpS, con, conG, conW, conP, AV.free, freeCells, freeRows, freeRows_map, encS, encO]; done) | (obtain ⟨_, _⟩ := y; simp [c_laws_szOpS, con, conG, conW, conP, AV.free, freeCells, freeRows, freeRows_map, encS, encO]; done) | (obtain ⟨_, _, _⟩ := y; simp [c_laws_szOpS, con, conG, conW, conP, AV.free, freeCells, freeRows, freeRows_map, encS, encO]; done))
noncomputable def c_laws_toOpS : PCon := con [mS 6] false (List OpR) (fun t => [.rd 6 (t.map encO)]) smOL (fun t => .own 6 (t.map encO))
noncomputable def E_laws_toOpS : Env := ⟨lookup tyTab, lookup [(57, c_laws_toOp)], [0, 2, 3, 4, 11]⟩
set_option maxRecDepth 100000 in
set_option maxHeartbeats 4000000 in
theorem m_laws_toOpS : Meets E_laws_toOpS (codeOf Tryz.f19) Tryz.f19.results.toList c_laws_toOpS := by
  intro (t : List OpR) hs
  obtain ⟨hs1, hs2⟩ : smOL t := hs
  refine ⟨trivial, ?_⟩
  repeat ((conv => whnf); refine ⟨by (show (_ : Prop)); first | omega | ((try dsimp only at *); (try simp only [lns] at *); omega), ?_⟩)
  refine loop_rule (fun i : Nat => ⟨[(0, ⟨none, .rd 6 (t.map encO)⟩), (3, ⟨none, .view 0 [] 0 t.length⟩), (4, ⟨none, .int .i64 i⟩)], [(0, .own 6 (filled encO (encO OpR.zero) t i))], 1⟩)
    (fun i => i ≤ t.length) (fun i => t.length - i) 0 ?_ (by omega) ?_
  · (refine ⟨?_, ?_, rfl⟩ <;> repeat' (first | exact rfl | exact trivial | refine ⟨?_, ?_⟩ | fail) <;> (conv => whnf))
    all_goals simp
    exact filled_zero.symm
  intro i hi
  have hi : i ≤ t.length := hi
  (conv => whnf); refine ⟨fun h6 => ?_, fun h6 => ?_⟩
  · have h6 : i < t.length := by simpa using h6
    obtain ⟨b, hb⟩ := get_lt h6
    repeat ((conv => whnf); first | refine ⟨_, w64 (by (show (_ : Prop)); first | omega | ((try dsimp only at *); (try simp only [lns] at *); omega)), ?_⟩ | refine ⟨by (show (_ : Prop)); first | omega | ((try dsimp only at *); (try simp only [lns] at *); omega), ?_⟩ | refine ⟨encO b, fun _ => ⟨by omega, by simp [hb]⟩, ?_⟩ | refine ⟨b, rfl, fun _ => trivial, ?_⟩ | refine ⟨encO OpR.zero, by simp [filled_get h6], ?_⟩)
    refine again (i + 1) ?_ h6 (by first | omega | (simp; done) | (simp; omega))
    (refine ⟨?_, ?_, rfl⟩ <;> repeat' (first | exact rfl | exact trivial | refine ⟨?_, ?_⟩ | fail) <;> (conv => whnf))
    simp only [Nat.zero_add, Int.toNat_natCast]
    exact filled_set hb
  · have h6 : i = t.length := by
      have : ¬ i < t.length := by simpa using h6
      omega
    subst h6
    conv => whnf
    exact ⟨trivial, eqOwn (by rw [filled_all]; (try simp only [List.drop_zero, List.take_length, take_app]) <;> simp)⟩
theorem ok_laws_toOpS : ConOk Tryz.prog 19 c_laws_toOpS := meets_ok (tabT _ _) (FOk.cons ok_laws_toOp FOk.nil) mixed Tryz.func19 rfl Tryz.call19 (by decide) (by kernel_rfl) m_laws_toOpS (by intro _ (y : (List OpR)) _; exact ⟨by simp [c_laws_toOpS, con, conG, conW, AV.noRd, noRdCells, noRdRows, noRdRows_map', encS, encO], by simp [c_laws_toOpS, con, conG, conW, AV.noRd, noRdCells, noRdRows, noRdRows_map', encS, encO]⟩) (by intro (y : (List OpR)) _; first | (simp [c_laws_toOpS, con, conG, conW, conP, AV.free, freeCells, freeRows, freeRows_map, encS, encO]; done) | (obtain ⟨_, _⟩ := y; simp [c_laws_toOpS, con, conG, conW, conP, AV.free, freeCells, freeRows, freeRows_map, encS, encO]; done) | (obtain ⟨_, _, _⟩ := y; simp [c_laws_toOpS, con, conG, conW, conP, AV.free, freeCells, freeRows, freeRows_map, encS, encO]; done))
end Go.GH

set_option linter.unusedVariables false
set_option linter.unusedSimpArgs false
namespace Go.GH
open Go Go.Proofs
open Go.ChangeShapes Go.WideShapes Go.ChangeAt Go.RowKit
theorem items_of {xs : List (List AV)} (h : ∀ r, r ∈ xs → ofL [.str, .int .i64, .str, .int .i64] r) : ∃ t : Tr, xs = t.map encI ∧ ∀ y, y ∈ t → y.path.length ≤ 9223372036854775807 ∧ y.data.length ≤ 9223372036854775807 := by
  induction xs with
  | nil => exact ⟨[], rfl, by simp⟩
  | cons r xs ih =>
    obtain ⟨t, rfl, ht⟩ := ih fun r hr => h r (by simp [hr])
    obtain ⟨c0, r0, rfl, ⟨s0, rfl, b0⟩, c1, r1, rfl, ⟨n1, rfl, _⟩, c2, r2, rfl, ⟨s2, rfl, b2⟩, c3, r3, rfl, ⟨n3, rfl, _⟩, e⟩ := h r (by simp)
    have e : r3 = [] := e
    subst e
    refine ⟨⟨s0, n1, s2, n3⟩ :: t, rfl, fun y hy => ?_⟩
    rcases List.mem_cons.1 hy with rfl | hy
    · exact ⟨b0, b2⟩
    · exact ht y hy
set_option maxRecDepth 100000 in
theorem sh_Tree : shTy Tryz.prog 12 41 = some [.slice 4 [.str, .int .i64, .str, .int .i64]] := by kernel_rfl
set_option maxRecDepth 100000 in
theorem arg_Tree {a : AV} (h : ArgOk Tryz.prog 12 41 a) : ∃ t : Tr, a = rdT t ∧ t.length ≤ 9223372036854775807 ∧ ∀ y, y ∈ t → y.path.length ≤ 9223372036854775807 ∧ y.data.length ≤ 9223372036854775807 := by
  obtain ⟨sh, avs, h1, h2, h3⟩ := h
  rw [sh_Tree] at h1
  obtain rfl := Option.some.inj h1
  rw [Tryz.underlying41] at h3
  obtain ⟨c, r, rfl, ⟨xs, rfl, hl, hx⟩, e⟩ := h2
  have e : r = [] := e
  subst e
  obtain ⟨t, rfl, ht⟩ := items_of hx
  exact ⟨t, h3, by simpa using hl, ht⟩
set_option maxRecDepth 100000 in
theorem sh_Str : shTy Tryz.prog 12 9 = some [.str] := by kernel_rfl
set_option maxRecDepth 100000 in
theorem arg_Str {a : AV} (h : ArgOk Tryz.prog 12 9 a) : ∃ p : Str, a = .str p ∧ p.length ≤ 9223372036854775807 := by
  obtain ⟨sh, avs, h1, h2, h3⟩ := h
  rw [sh_Str] at h1
  obtain rfl := Option.some.inj h1
  rw [Tryz.underlying9] at h3
  obtain ⟨c, r, rfl, ⟨s, rfl, hl⟩, e⟩ := h2
  have e : r = [] := e
  subst e
  have h3 : [AV.str s] = [a] := h3
  exact ⟨s, (List.cons.inj h3).1.symm, hl⟩
set_option maxRecDepth 100000 in
theorem sh_OpS : shTy Tryz.prog 12 42 = some [.slice 6 [.int .i64, .str, .str, .int .i64, .str, .int .i64]] := by kernel_rfl
theorem ops_of {xs : List (List AV)} (h : ∀ r, r ∈ xs → ofL [.int .i64, .str, .str, .int .i64, .str, .int .i64] r) : ∃ t : List OpR, xs = t.map encO ∧ ∀ y, y ∈ t → bigO y := by
  induction xs with
  | nil => exact ⟨[], rfl, by simp⟩
  | cons r xs ih =>
    obtain ⟨t, rfl, ht⟩ := ih fun r hr => h r (by simp [hr])
    obtain ⟨c0, r0, rfl, ⟨n0, rfl, _⟩, c1, r1, rfl, ⟨s1, rfl, b1⟩, c2, r2, rfl, ⟨s2, rfl, b2⟩, c3, r3, rfl, ⟨n3, rfl, _⟩, c4, r4, rfl, ⟨s4, rfl, b4⟩, c5, r5, rfl, ⟨n5, rfl, _⟩, e⟩ := h r (by simp)
    have e : r5 = [] := e
    subst e
    refine ⟨⟨n0, s1, s2, n3, s4, n5⟩ :: t, rfl, fun y hy => ?_⟩
    rcases List.mem_cons.1 hy with rfl | hy
    · exact ⟨b1, b2, b4⟩
    · exact ht y hy
set_option maxRecDepth 100000 in
theorem arg_OpS {a : AV} (h : ArgOk Tryz.prog 12 42 a) : ∃ t : List OpR, a = .rd 6 (t.map encO) ∧ t.length ≤ 9223372036854775807 ∧ ∀ y, y ∈ t → bigO y := by
  obtain ⟨sh, avs, h1, h2, h3⟩ := h
  rw [sh_OpS] at h1
  obtain rfl := Option.some.inj h1
  rw [Tryz.underlying42] at h3
  obtain ⟨c, r, rfl, ⟨xs, rfl, hl, hx⟩, e⟩ := h2
  have e : r = [] := e
  subst e
  obtain ⟨t, rfl, ht⟩ := ops_of hx
  have h3 : [AV.rd 6 (t.map encO)] = [a] := h3
  exact ⟨t, (List.cons.inj h3).1.symm, by simpa using hl, ht⟩
end Go.GH

set_option linter.unusedVariables false
set_option linter.unusedSimpArgs false
namespace Go.Proofs
open Go.Shelf Go.RowKit Go.Lib Go.Sort
set_option maxHeartbeats 2000000 in
set_option maxRecDepth 100000 in
theorem Tryz.clone_none (a : Option Addr) (c : Nat) (w : World) : Calls Tryz.prog 104 #[.slice a 0 c] w fun e w' => (∃ a', e = .returned (.slice a' 0 0)) ∧ Below w.heap.size w w' := by
  have q22 : ∀ (w : World) (a : Option Addr) (n c n' c' : Nat), (binOp .eql 24 (.slice a n c) (.slice none n' c')).run Tryz.prog w = .ok (.bool a.isNone) w := fun w a n c n' c' => Lib.run_eql_slice_nil w _ _ a n c n' c' Tryz.underlying24
  cases a with
  | none =>
    go_enter Tryz.func104, Tryz.ntmps104
    go_wp2
    go_ret
    exact ⟨⟨none, rfl⟩, Below.refl _ _⟩
  | some q =>
    go_enter Tryz.func104, Tryz.ntmps104
    go_wp2
    go_ret
    exact ⟨⟨_, rfl⟩, (Below.refl _ w).alloc (Nat.le_refl _) _⟩
set_option maxHeartbeats 2000000 in
set_option maxRecDepth 100000 in
theorem Tryz.byPath_calls (p d : ByteArray) (k t : Int) (p' d' : ByteArray) (k' t' : Int) (W : World) : Calls Tryz.prog 67 #[.agg #[.string p, .int .i64 k, .string d, .int .i64 t], .agg #[.string p', .int .i64 k', .string d', .int .i64 t']] W fun e w' => e = .returned (.int .i64 (Lib.compareBytes p.data.toList p'.data.toList)) ∧ ∃ q os', w' = grow (W.drewN q) os' := by
  have hcon := fun W' => Tryz.strings_Compare p p' W'
  generalize Lib.compareBytes p.data.toList p'.data.toList = r at hcon ⊢
  go_enter Tryz.func67, Tryz.ntmps67
  go_wp2_with (go_at_call 115; refine (hcon _).mono ?_; rintro e w' ⟨rfl, rfl⟩)
  go_ret
  exact ⟨rfl, 0, _, by rw [alloc_eq_grow, alloc_eq_grow, grow_grow]; rfl⟩
end Go.Proofs

set_option linter.unusedVariables false
set_option linter.unusedSimpArgs false
namespace Go.GH
open Go Go.Proofs
noncomputable def c_spec_l10Put : PCon := con [mS 4, .rd [none, none, none, none]] false (Tr × It) (fun ⟨l, x⟩ => [.rd 4 (l.map encI), .agg (encI x)]) (fun x => smT x.1) (fun x => .own 4 ((putP x.1 x.2).map encI))
noncomputable def E_spec_l10Put : Env := ⟨lookup tyTab, lookup [], [0, 1, 3, 4, 5, 6, 7, 12, 26, 38, 47]⟩
set_option maxRecDepth 100000 in
set_option maxHeartbeats 4000000 in
theorem m_spec_l10Put : Meets E_spec_l10Put (codeOf Tryz.f68) Tryz.f68.results.toList c_spec_l10Put := by
  rintro ⟨l, x⟩ hs
  obtain ⟨hs1, hs2⟩ : smT l := hs
  refine ⟨trivial, ?_⟩
  skip
  refine loop_rule (fun i : Nat => ⟨[(0, ⟨none, .rd 4 (l.map encI)⟩), (3, ⟨none, .bx 0 0⟩), (5, ⟨none, .view 1 [] 0 ((putAt (l.take i) x).1.map encI).length⟩), (6, ⟨none, .bool (putAt (l.take i) x).2⟩), (7, ⟨none, .int .i64 i⟩)], [(1, .own 4 ((putAt (l.take i) x).1.map encI)), (0, .own 4 [encI x])], 2⟩)
    (fun i => i ≤ l.length) (fun i => l.length - i) 0 ?_ (by omega) ?_
  · (refine ⟨?_, ?_, rfl⟩ <;> repeat' (first | exact rfl | exact trivial | refine ⟨?_, ?_⟩ | fail) <;> (conv => whnf))
    all_goals simp [putAt]
  intro i hi
  have hi : i ≤ l.length := hi
  have hlen := putAt_len (x := x) (l := l.take i) (out := []) (d := false)
  have hlen : (putAt (l.take i) x).1.length ≤ 8388608 := by
    have h3 : (l.take i).length ≤ l.length := by simp; omega
    simp only [List.length_nil] at hlen
    show (List.foldl (putStep x) ([], false) (l.take i)).1.length ≤ _
    omega
  (conv => whnf); refine ⟨fun h2 => ?_, fun h2 => ?_⟩
  · have h2 : i < l.length := by simpa using h2
    obtain ⟨y, hy⟩ := get_lt h2
    have hnx := putAt_take (x := x) hy
    generalize hst : putAt (l.take i) x = st at hlen hnx ⊢
    obtain ⟨out, d⟩ := st
    have hlen : out.length ≤ 8388608 := hlen
    repeat ((conv => whnf); first | refine ⟨fun h => h, ?_⟩ | refine ⟨(by kernel_rfl : drawOk _ _ = true), ?_⟩ | refine ⟨encI y, fun _ => ⟨by omega, get_map hy⟩, ?_⟩)
    (conv => whnf); refine ⟨fun h3 => ?_, fun h3 => ?_⟩
    · have h3 : (!d && strLt x.path y.path) = true := h3
      repeat ((conv => whnf); first | refine ⟨(by kernel_rfl : drawOk _ _ = true), ?_⟩ | refine ⟨by (show (_ : Prop)); first | omega | ((try dsimp only at *); (try simp only [lns] at *); omega), ?_⟩ | refine ⟨noOwn (by rfl), ?_⟩ | refine ⟨encI y, fun _ => ⟨by omega, get_map hy⟩, ?_⟩)
      (conv => whnf); refine ⟨fun h4 => ?_, fun h4 => ?_⟩
      · have h4 : (!(y.path == x.path)) = true := h4
        have hn : putStep x (out, d) y = (out ++ [x] ++ [y], true) := by simp only [putStep, h3, h4, if_true, Bool.true_or]
        repeat ((conv => whnf); first | refine ⟨_, w64 (by (show (_ : Prop)); first | omega | ((try dsimp only at *); (try simp only [lns] at *); omega)), ?_⟩ | refine ⟨by (show (_ : Prop)); first | omega | ((try dsimp only at *); (try simp only [lns] at *); omega), ?_⟩ | refine ⟨noOwn (by rfl), ?_⟩ | refine ⟨encI y, fun _ => ⟨by omega, get_map hy⟩, ?_⟩)
        refine again (i + 1) ?_ h2 (by first | omega | (simp; done) | (simp; omega))
        rw [hnx, hn]
        (refine ⟨?_, ?_, rfl⟩ <;> repeat' (first | exact rfl | exact trivial | refine ⟨?_, ?_⟩ | fail) <;> (conv => whnf))
        all_goals first | (simp [encI]; done) | (simp [encI]; rw [List.take_of_length_le (by simp)]; simp)
      · have h4 : (!(y.path == x.path)) = false := h4
        have hn : putStep x (out, d) y = (out ++ [x], true) := by simp [putStep, h3, h4]
        repeat ((conv => whnf); refine ⟨_, w64 (by (show (_ : Prop)); first | omega | ((try dsimp only at *); (try simp only [lns] at *); omega)), ?_⟩)
        refine again (i + 1) ?_ h2 (by first | omega | (simp; done) | (simp; omega))
        rw [hnx, hn]
        (refine ⟨?_, ?_, rfl⟩ <;> repeat' (first | exact rfl | exact trivial | refine ⟨?_, ?_⟩ | fail) <;> (conv => whnf))
        all_goals simp [encI]
    have h3 : (!d && strLt x.path y.path) = false := h3
    repeat ((conv => whnf); first | refine ⟨(by kernel_rfl : drawOk _ _ = true), ?_⟩ | refine ⟨encI y, fun _ => ⟨by omega, get_map hy⟩, ?_⟩)
    (conv => whnf); refine ⟨fun h4 => ?_, fun h4 => ?_⟩
    · have h4 : (!(y.path == x.path)) = true := h4
      have hn : putStep x (out, d) y = (out ++ [y], d) := by simp only [putStep, h3, h4]; simp
      repeat ((conv => whnf); first | refine ⟨_, w64 (by (show (_ : Prop)); first | omega | ((try dsimp only at *); (try simp only [lns] at *); omega)), ?_⟩ | refine ⟨by (show (_ : Prop)); first | omega | ((try dsimp only at *); (try simp only [lns] at *); omega), ?_⟩ | refine ⟨noOwn (by rfl), ?_⟩ | refine ⟨encI y, fun _ => ⟨by omega, get_map hy⟩, ?_⟩)
      refine again (i + 1) ?_ h2 (by first | omega | (simp; done) | (simp; omega))
      rw [hnx, hn]
      (refine ⟨?_, ?_, rfl⟩ <;> repeat' (first | exact rfl | exact trivial | refine ⟨?_, ?_⟩ | fail) <;> (conv => whnf))
      all_goals simp [encI]
    · have h4 : (!(y.path == x.path)) = false := h4
      have hn : putStep x (out, d) y = (out, d) := by simp [putStep, h3, h4]
      repeat ((conv => whnf); refine ⟨_, w64 (by (show (_ : Prop)); first | omega | ((try dsimp only at *); (try simp only [lns] at *); omega)), ?_⟩)
      refine again (i + 1) ?_ h2 (by first | omega | (simp; done) | (simp; omega))
      rw [hnx, hn]
      (refine ⟨?_, ?_, rfl⟩ <;> repeat' (first | exact rfl | exact trivial | refine ⟨?_, ?_⟩ | fail) <;> (conv => whnf))
      all_goals simp [encI]
  · have h2 : i = l.length := by
      have : ¬ i < l.length := by simpa using h2
      omega
    subst h2
    rw [List.take_length] at hlen ⊢
    have hp : putP l x = if (putAt l x).2 then (putAt l x).1 else (putAt l x).1 ++ [x] := rfl
    generalize hst : putAt l x = st at hlen hp ⊢
    obtain ⟨out, d⟩ := st
    have hlen : out.length ≤ 8388608 := hlen
    skip
    (conv => whnf); refine ⟨fun h5 => ?_, fun h5 => ?_⟩
    · have h5 : d = false := by simpa using h5
      repeat ((conv => whnf); first | refine ⟨by (show (_ : Prop)); first | omega | ((try dsimp only at *); (try simp only [lns] at *); omega), ?_⟩ | refine ⟨noOwn (by rfl), ?_⟩)
      exact ⟨trivial, eqOwn (by show _ = (putP l x).map encI; rw [hp, h5]; simp [encI]; rw [List.take_of_length_le (by simp)])⟩
    · have h5 : d = true := by simpa using h5
      skip
      exact ⟨trivial, eqOwn (by show _ = (putP l x).map encI; rw [hp, h5]; simp)⟩
theorem ok_spec_l10Put : ConOk Tryz.prog 68 c_spec_l10Put := meets_ok (tabT _ _) FOk.nil mixed Tryz.func68 rfl Tryz.call68 (by decide) (by kernel_rfl) m_spec_l10Put (by intro _ (y : (Tr × It)) _; exact ⟨by simp [c_spec_l10Put, con, conG, conW, AV.noRd, noRdCells, noRdRows, noRdRows_map', encS, encI], by simp [c_spec_l10Put, con, conG, conW, AV.noRd, noRdCells, noRdRows, noRdRows_map', encS, encI]⟩) (by intro (y : (Tr × It)) _; first | (simp [c_spec_l10Put, con, conG, conW, conP, AV.free, freeCells, freeRows, freeRows_map, encS, encI]; done) | (obtain ⟨_, _⟩ := y; simp [c_spec_l10Put, con, conG, conW, conP, AV.free, freeCells, freeRows, freeRows_map, encS, encI]; done) | (obtain ⟨_, _, _⟩ := y; simp [c_spec_l10Put, con, conG, conW, conP, AV.free, freeCells, freeRows, freeRows_map, encS, encI]; done))
noncomputable def c_spec_l14Copy : PCon := con [mS 4] false Tr (fun t => [rdT t]) smT (fun t => .agg [.own 4 (t.map encI)])
noncomputable def E_spec_l14Copy : Env := ⟨lookup tyTab, lookup [], [0, 1, 2]⟩
set_option maxRecDepth 100000 in
set_option maxHeartbeats 4000000 in
theorem m_spec_l14Copy : Meets E_spec_l14Copy (codeOf Tryz.f54) Tryz.f54.results.toList c_spec_l14Copy := by
  intro (t : Tr) hs
  obtain ⟨hs1, hs2⟩ : smT t := hs
  refine ⟨trivial, ?_⟩
  repeat ((conv => whnf); refine ⟨by (show (_ : Prop)); first | omega | ((try dsimp only at *); (try simp only [lns] at *); omega), ?_⟩)
  refine ⟨trivial, ⟨rfl, ?_⟩, trivial⟩
  simp
theorem ok_spec_l14Copy : ConOk Tryz.prog 54 c_spec_l14Copy := meets_ok (tabT _ _) FOk.nil mixed Tryz.func54 rfl Tryz.call54 (by decide) (by kernel_rfl) m_spec_l14Copy (by intro _ (y : Tr) _; exact ⟨by simp [c_spec_l14Copy, con, conG, conW, AV.noRd, noRdCells, noRdRows, noRdRows_map', encS, encI], by simp [c_spec_l14Copy, con, conG, conW, AV.noRd, noRdCells, noRdRows, noRdRows_map', encS, encI]⟩) (by intro (y : Tr) _; first | (simp [c_spec_l14Copy, con, conG, conW, conP, AV.free, freeCells, freeRows, freeRows_map, encS, rdT, encI]; done) | (obtain ⟨_, _⟩ := y; simp [c_spec_l14Copy, con, conG, conW, conP, AV.free, freeCells, freeRows, freeRows_map, encS, rdT, encI]; done) | (obtain ⟨_, _, _⟩ := y; simp [c_spec_l14Copy, con, conG, conW, conP, AV.free, freeCells, freeRows, freeRows_map, encS, rdT, encI]; done))
noncomputable def c_clone1 : PCon := con [mS 4] false Tr (fun t => [.rd 4 (t.map encI)]) (fun t => smT t ∧ t ≠ []) (fun t => .own 4 (t.map encI))
noncomputable def E_clone1 : Env := ⟨lookup tyTab, lookup [], [0, 2, 4]⟩
set_option maxRecDepth 100000 in
set_option maxHeartbeats 4000000 in
theorem m_clone1 : Meets E_clone1 (codeOf Tryz.f104) Tryz.f104.results.toList c_clone1 := by
  intro (t : Tr) hs
  obtain ⟨⟨hs1, hs2⟩, hne⟩ : smT t ∧ t ≠ [] := hs
  refine ⟨trivial, ?_⟩
  skip
  conv => whnf
  obtain ⟨x, r, rfl⟩ : ∃ x r, t = x :: r := by cases t with | nil => exact absurd rfl hne | cons x r => exact ⟨x, r, rfl⟩
  refine ⟨⟨_, _, rfl⟩, ?_⟩
  skip
  conv => whnf
  refine ⟨fun h => absurd h (by decide), fun _ => ?_⟩
  repeat ((conv => whnf); refine ⟨by (show (_ : Prop)); first | omega | ((try dsimp only at *); (try simp only [lns] at *); omega), ?_⟩)
  exact ⟨trivial, eqOwn (by simp)⟩
theorem ok_clone1 : ConOk Tryz.prog 104 c_clone1 := meets_ok (tabT _ _) FOk.nil mixed Tryz.func104 rfl Tryz.call104 (by decide) (by kernel_rfl) m_clone1 (by intro _ (y : Tr) _; exact ⟨by simp [c_clone1, con, conG, conW, AV.noRd, noRdCells, noRdRows, noRdRows_map', encS, encI], by simp [c_clone1, con, conG, conW, AV.noRd, noRdCells, noRdRows, noRdRows_map', encS, encI]⟩) (by intro (y : Tr) _; first | (simp [c_clone1, con, conG, conW, conP, AV.free, freeCells, freeRows, freeRows_map, encS, encI]; done) | (obtain ⟨_, _⟩ := y; simp [c_clone1, con, conG, conW, conP, AV.free, freeCells, freeRows, freeRows_map, encS, encI]; done) | (obtain ⟨_, _, _⟩ := y; simp [c_clone1, con, conG, conW, conP, AV.free, freeCells, freeRows, freeRows_map, encS, encI]; done))
def c_slices_Clone_Item : PCon := con [mS 4] false Tr (fun t => [.rd 4 (t.map encI)]) smT (fun t => .own 4 (t.map encI))
theorem ok_slices_Clone_Item : ConOk Tryz.prog 104 c_slices_Clone_Item := by
  intro t ht
  cases t with
  | nil =>
    refine con_empty (s := 4) (c := c_slices_Clone_Item) (x := []) rfl rfl rfl rfl rfl Tryz.call104 ?_
    intro a cap w
    refine (Tryz.clone_none a cap w).mono ?_
    rintro e w' ⟨⟨a', rfl⟩, hb⟩
    exact ⟨a', rfl, hb⟩
  | cons x r => exact ok_clone1 (x :: r) ⟨ht, by simp⟩
noncomputable def c_impl_cloneTree : PCon := con [mS 4] false Tr (fun t => [rdT t]) smT (fun t => .agg [.own 4 (t.map encI)])
noncomputable def E_impl_cloneTree : Env := ⟨lookup tyTab, lookup [(104, c_slices_Clone_Item)], [0, 1, 2]⟩
set_option maxRecDepth 100000 in
set_option maxHeartbeats 4000000 in
theorem m_impl_cloneTree : Meets E_impl_cloneTree (codeOf Tryz.f58) Tryz.f58.results.toList c_impl_cloneTree := by
  intro (t : Tr) hs
  refine ⟨trivial, ?_⟩
  skip
  refine ⟨t, by refine argR ?_; simp [rdI], fun _ => hs, ?_⟩
  skip
  refine ⟨trivial, ⟨rfl, ?_⟩, trivial⟩
  simp
theorem ok_impl_cloneTree : ConOk Tryz.prog 58 c_impl_cloneTree := meets_ok (tabT _ _) (FOk.cons ok_slices_Clone_Item FOk.nil) mixed Tryz.func58 rfl Tryz.call58 (by decide) (by kernel_rfl) m_impl_cloneTree (by intro _ (y : Tr) _; exact ⟨by simp [c_impl_cloneTree, con, conG, conW, AV.noRd, noRdCells, noRdRows, noRdRows_map', encS, encI], by simp [c_impl_cloneTree, con, conG, conW, AV.noRd, noRdCells, noRdRows, noRdRows_map', encS, encI]⟩) (by intro (y : Tr) _; first | (simp [c_impl_cloneTree, con, conG, conW, conP, AV.free, freeCells, freeRows, freeRows_map, encS, rdT, encI]; done) | (obtain ⟨_, _⟩ := y; simp [c_impl_cloneTree, con, conG, conW, conP, AV.free, freeCells, freeRows, freeRows_map, encS, rdT, encI]; done) | (obtain ⟨_, _, _⟩ := y; simp [c_impl_cloneTree, con, conG, conW, conP, AV.free, freeCells, freeRows, freeRows_map, encS, rdT, encI]; done))
end Go.GH

set_option linter.unusedVariables false
set_option linter.unusedSimpArgs false
namespace Go.GH
open Go Go.Proofs
noncomputable def c_spec_OpOk : PCon := con [.rd [none, none, none, none, none, none]] true OpR (fun o => [.agg (encO o)]) (fun _ => True) (fun o => .bool (numsOk o))
noncomputable def E_spec_OpOk : Env := ⟨lookup tyTab, lookup [(76, c_spec_l1In)], [0, 1, 2]⟩
set_option maxRecDepth 100000 in
set_option maxHeartbeats 4000000 in
theorem m_spec_OpOk : Meets E_spec_OpOk (codeOf Tryz.f98) Tryz.f98.results.toList c_spec_OpOk := by
  rintro (o : OpR) _
  refine ⟨trivial, ?_⟩
  conv => whnf
  refine ⟨(o.kind, 0, 8), rfl, fun _ => trivial, ?_⟩
  repeat ((conv => whnf); refine ⟨fun h => h, ?_⟩)
  refine ⟨(o.at_, 0, 1000), rfl, fun _ => trivial, ?_⟩
  repeat ((conv => whnf); refine ⟨fun h => h, ?_⟩)
  refine ⟨(o.time, 0, 100000), rfl, fun _ => trivial, ?_⟩
  repeat ((conv => whnf); refine ⟨fun h => h, ?_⟩)
  exact ⟨trivial, eqB (by
    show _ = (inB o.kind 0 8 && inB o.at_ 0 1000 && inB o.time 0 100000)
    cases inB o.kind 0 8 <;> cases inB o.at_ 0 1000 <;> cases inB o.time 0 100000 <;> rfl)⟩
theorem ok_spec_OpOk : ConOk Tryz.prog 98 c_spec_OpOk := meets_ok (tabT _ _) (FOk.cons ok_spec_l1In FOk.nil) mixed Tryz.func98 rfl Tryz.call98 (by decide) (by kernel_rfl) m_spec_OpOk (by intro _ (y : OpR) _; exact ⟨by simp [c_spec_OpOk, con, conG, conW, AV.noRd, noRdCells, noRdRows, noRdRows_map', encS, encO], by simp [c_spec_OpOk, con, conG, conW, AV.noRd, noRdCells, noRdRows, noRdRows_map', encS, encO]⟩) (by intro (y : OpR) _; first | (simp [c_spec_OpOk, con, conG, conW, conP, AV.free, freeCells, freeRows, freeRows_map, encS, encO]; done) | (obtain ⟨_, _⟩ := y; simp [c_spec_OpOk, con, conG, conW, conP, AV.free, freeCells, freeRows, freeRows_map, encS, encO]; done) | (obtain ⟨_, _, _⟩ := y; simp [c_spec_OpOk, con, conG, conW, conP, AV.free, freeCells, freeRows, freeRows_map, encS, encO]; done))
noncomputable def c_impl_OpOk : PCon := con [.rd [none, none, none, none, none, none]] true OpR (fun o => [.agg (encO o)]) (fun _ => True) (fun o => .bool (numsOk o))
noncomputable def E_impl_OpOk : Env := ⟨lookup tyTab, lookup [(91, c_impl_within)], [0, 1, 2]⟩
set_option maxRecDepth 100000 in
set_option maxHeartbeats 4000000 in
theorem m_impl_OpOk : Meets E_impl_OpOk (codeOf Tryz.f105) Tryz.f105.results.toList c_impl_OpOk := by
  rintro (o : OpR) _
  refine ⟨trivial, ?_⟩
  conv => whnf
  refine ⟨(o.kind, 0, 8), rfl, fun _ => trivial, ?_⟩
  repeat ((conv => whnf); refine ⟨fun h => h, ?_⟩)
  refine ⟨(o.at_, 0, 1000), rfl, fun _ => trivial, ?_⟩
  repeat ((conv => whnf); refine ⟨fun h => h, ?_⟩)
  refine ⟨(o.time, 0, 100000), rfl, fun _ => trivial, ?_⟩
  repeat ((conv => whnf); refine ⟨fun h => h, ?_⟩)
  exact ⟨trivial, eqB (by
    show _ = (inB o.kind 0 8 && inB o.at_ 0 1000 && inB o.time 0 100000)
    cases inB o.kind 0 8 <;> cases inB o.at_ 0 1000 <;> cases inB o.time 0 100000 <;> rfl)⟩
theorem ok_impl_OpOk : ConOk Tryz.prog 105 c_impl_OpOk := meets_ok (tabT _ _) (FOk.cons ok_impl_within FOk.nil) mixed Tryz.func105 rfl Tryz.call105 (by decide) (by kernel_rfl) m_impl_OpOk (by intro _ (y : OpR) _; exact ⟨by simp [c_impl_OpOk, con, conG, conW, AV.noRd, noRdCells, noRdRows, noRdRows_map', encS, encO], by simp [c_impl_OpOk, con, conG, conW, AV.noRd, noRdCells, noRdRows, noRdRows_map', encS, encO]⟩) (by intro (y : OpR) _; first | (simp [c_impl_OpOk, con, conG, conW, conP, AV.free, freeCells, freeRows, freeRows_map, encS, encO]; done) | (obtain ⟨_, _⟩ := y; simp [c_impl_OpOk, con, conG, conW, conP, AV.free, freeCells, freeRows, freeRows_map, encS, encO]; done) | (obtain ⟨_, _, _⟩ := y; simp [c_impl_OpOk, con, conG, conW, conP, AV.free, freeCells, freeRows, freeRows_map, encS, encO]; done))
end Go.GH

set_option linter.unusedVariables false
set_option linter.unusedSimpArgs false
namespace Go.GH
open Go Go.Proofs
noncomputable def c_spec_l14Dir : PCon := con [mS 4, mC] true (Tr × Str) (fun x => [rdT x.1, .str x.2]) (fun x => smT x.1) (fun x => .int .i64 (dirC x.1 x.2))
noncomputable def E_spec_l14Dir : Env := ⟨lookup tyTab, lookup [(45, c_spec_TreeGet)], [0, 1, 2, 4, 5, 6, 14, 17]⟩
set_option maxRecDepth 100000 in
set_option maxHeartbeats 4000000 in
theorem m_spec_l14Dir : Meets E_spec_l14Dir (codeOf Tryz.f135) Tryz.f135.results.toList c_spec_l14Dir := by
  rintro ⟨t, p⟩ hs
  have hs : smT t := hs
  refine ⟨trivial, ?_⟩
  conv => whnf
  refine ⟨(t, p), rfl, fun _ => hs, ?_⟩
  skip
  (conv => whnf); refine ⟨fun h1 => ?_, fun h1 => ?_⟩
  · have h1 : (!(treeGet t p).isSome) = true := h1
    skip
    exact ⟨trivial, eqN' (by show _ = dirC t p; unfold dirC; cases h : treeGet t p with | none => rfl | some x => simp [h] at h1)⟩
  have h1 : (!(treeGet t p).isSome) = false := h1
  (conv => whnf); refine ⟨fun h2 => ?_, fun h2 => ?_⟩
  · have h2 : (((treeGet t p).getD It.none).kind != 2) = true := h2
    skip
    exact ⟨trivial, eqN' (by show _ = dirC t p; unfold dirC; cases h : treeGet t p with | none => simp [h] at h1 | some x => simp [h] at h2; simp [h2])⟩
  have h2 : (((treeGet t p).getD It.none).kind != 2) = false := h2
  skip
  exact ⟨trivial, eqN' (by show _ = dirC t p; unfold dirC; cases h : treeGet t p with | none => simp [h] at h1 | some x => simp [h] at h2; simp [h2])⟩
theorem ok_spec_l14Dir : ConOk Tryz.prog 135 c_spec_l14Dir := meets_ok (tabT _ _) (FOk.cons ok_spec_TreeGet FOk.nil) mixed Tryz.func135 rfl Tryz.call135 (by decide) (by kernel_rfl) m_spec_l14Dir (by intro _ (y : (Tr × Str)) _; exact ⟨by simp [c_spec_l14Dir, con, conG, conW, AV.noRd, noRdCells, noRdRows, noRdRows_map', encS, encI, encO], by simp [c_spec_l14Dir, con, conG, conW, AV.noRd, noRdCells, noRdRows, noRdRows_map', encS, encI, encO]⟩) (by intro (y : (Tr × Str)) _; first | (simp [c_spec_l14Dir, con, conG, conW, conP, AV.free, freeCells, freeRows, freeRows_map, encS, rdT, encI, encO]; done) | (obtain ⟨_, _⟩ := y; simp [c_spec_l14Dir, con, conG, conW, conP, AV.free, freeCells, freeRows, freeRows_map, encS, rdT, encI, encO]; done) | (obtain ⟨_, _, _⟩ := y; simp [c_spec_l14Dir, con, conG, conW, conP, AV.free, freeCells, freeRows, freeRows_map, encS, rdT, encI, encO]; done))
noncomputable def c_spec_Cut : PCon := con [mC, mC] true (Str × Int) (fun ⟨s, n⟩ => [.str s, .int .i64 n]) (fun x => x.1.length ≤ 16777216) (fun x => .str (cutT x.1 x.2))
noncomputable def E_spec_Cut : Env := ⟨lookup tyTab, lookup [(76, c_spec_l1In)], [0, 1, 4, 7, 12]⟩
set_option maxRecDepth 100000 in
set_option maxHeartbeats 4000000 in
theorem m_spec_Cut : Meets E_spec_Cut (codeOf Tryz.f175) Tryz.f175.results.toList c_spec_Cut := by
  rintro ⟨s, n⟩ hs
  have hs : s.length ≤ 16777216 := hs
  refine ⟨trivial, ?_⟩
  conv => whnf
  refine ⟨(n, 0, 100000), rfl, fun _ => trivial, ?_⟩
  (conv => whnf); refine ⟨fun h1 => ?_, fun h1 => ?_⟩
  · have h1 : (!inB n 0 100000) = true := h1
    skip
    exact ⟨trivial, eqS (cut_bad (by simpa using h1)).symm⟩
  have h1 : (!inB n 0 100000) = false := h1
  have hb : inB n 0 100000 = true := by simpa using h1
  have hb2 := inB_iff.1 hb
  obtain ⟨k, rfl⟩ : ∃ k : Nat, n = k := ⟨n.toNat, by omega⟩
  (conv => whnf); refine ⟨fun h2 => ?_, fun h2 => ?_⟩
  · have h2 : k ≤ s.length := by simpa using h2
    repeat ((conv => whnf); refine ⟨fun _ => ⟨by (show (_ : Prop)); first | omega | ((try dsimp only at *); (try simp only [lns] at *); omega), by (show (_ : Prop)); first | omega | ((try dsimp only at *); (try simp only [lns] at *); omega), by (show (_ : Prop)); first | omega | ((try dsimp only at *); (try simp only [lns] at *); omega)⟩, ?_⟩)
    exact ⟨trivial, eqS (by show _ = cutT s k; rw [cut_le hb h2]; simp)⟩
  have h2 : ¬ k ≤ s.length := by simpa using h2
  repeat ((conv => whnf); first | refine ⟨_, w64 (by (show (_ : Prop)); first | omega | ((try dsimp only at *); (try simp only [lns] at *); omega)), ?_⟩ | refine ⟨by (show (_ : Prop)); first | omega | ((try dsimp only at *); (try simp only [lns] at *); omega), ?_⟩)
  refine ⟨List.replicate (k - s.length) 0, zeros (by show ((k : Int) - s.length).toNat = _; omega), ?_⟩
  repeat ((conv => whnf); refine ⟨by (show (_ : Prop)); first | omega | ((try dsimp only at *); (try simp only [lns] at *); omega), ?_⟩)
  exact ⟨trivial, eqS (cut_gt hb (by omega)).symm⟩
theorem ok_spec_Cut : ConOk Tryz.prog 175 c_spec_Cut := meets_ok (tabT _ _) (FOk.cons ok_spec_l1In FOk.nil) mixed Tryz.func175 rfl Tryz.call175 (by decide) (by kernel_rfl) m_spec_Cut (by intro _ (y : (Str × Int)) _; exact ⟨by simp [c_spec_Cut, con, conG, conW, AV.noRd, noRdCells, noRdRows, noRdRows_map', encS, encI, encO], by simp [c_spec_Cut, con, conG, conW, AV.noRd, noRdCells, noRdRows, noRdRows_map', encS, encI, encO]⟩) (by intro (y : (Str × Int)) _; first | (simp [c_spec_Cut, con, conG, conW, conP, AV.free, freeCells, freeRows, freeRows_map, encS, encI, encO]; done) | (obtain ⟨_, _⟩ := y; simp [c_spec_Cut, con, conG, conW, conP, AV.free, freeCells, freeRows, freeRows_map, encS, encI, encO]; done) | (obtain ⟨_, _, _⟩ := y; simp [c_spec_Cut, con, conG, conW, conP, AV.free, freeCells, freeRows, freeRows_map, encS, encI, encO]; done))
noncomputable def c_spec_Written : PCon := con [mC, mC, mC] true (Str × Int × Str) (fun ⟨s, n, d⟩ => [.str s, .int .i64 n, .str d]) (fun x => x.1.length ≤ 16777216 ∧ x.2.2.length ≤ 16777216) (fun x => .str (wrote x.1 x.2.1 x.2.2))
noncomputable def E_spec_Written : Env := ⟨lookup tyTab, lookup [(76, c_spec_l1In)], [0, 1, 2, 6, 7, 8, 11, 17, 27]⟩
set_option maxRecDepth 100000 in
set_option maxHeartbeats 4000000 in
theorem m_spec_Written : Meets E_spec_Written (codeOf Tryz.f174) Tryz.f174.results.toList c_spec_Written := by
  rintro ⟨s, n, d⟩ hs
  obtain ⟨hs, hd⟩ : s.length ≤ 16777216 ∧ d.length ≤ 16777216 := hs
  refine ⟨trivial, ?_⟩
  conv => whnf
  refine ⟨(n, 0, 100000), rfl, fun _ => trivial, ?_⟩
  (conv => whnf); refine ⟨fun h1 => ?_, fun h1 => ?_⟩
  · have h1 : (!inB n 0 100000) = true := h1
    skip
    exact ⟨trivial, eqS (wrote_bad (by simpa using h1)).symm⟩
  have h1 : (!inB n 0 100000) = false := h1
  have hb : inB n 0 100000 = true := by simpa using h1
  have hb2 := inB_iff.1 hb
  obtain ⟨k, rfl⟩ : ∃ k : Nat, n = k := ⟨n.toNat, by omega⟩
  skip
  (conv => whnf); refine ⟨fun h2 => ?_, fun h2 => ?_⟩
  · have h2 : k < s.length := by simpa using h2
    repeat ((conv => whnf); first | refine ⟨_, w64 (by (show (_ : Prop)); first | omega | ((try dsimp only at *); (try simp only [lns] at *); omega)), ?_⟩ | refine ⟨fun _ => ⟨by (show (_ : Prop)); first | omega | ((try dsimp only at *); (try simp only [lns] at *); omega), by (show (_ : Prop)); first | omega | ((try dsimp only at *); (try simp only [lns] at *); omega), by (show (_ : Prop)); first | omega | ((try dsimp only at *); (try simp only [lns] at *); omega)⟩, ?_⟩)
    (conv => whnf); refine ⟨fun h3 => ?_, fun h3 => ?_⟩
    · have h3 : k + d.length < s.length := by simp at h3; omega
      repeat ((conv => whnf); first | refine ⟨_, w64 (by (show (_ : Prop)); first | omega | ((try dsimp only at *); (try simp only [lns] at *); omega)), ?_⟩ | refine ⟨fun _ => ⟨by (show (_ : Prop)); first | omega | ((try dsimp only at *); (try simp only [lns] at *); omega), by (show (_ : Prop)); first | omega | ((try dsimp only at *); (try simp only [lns] at *); omega), by (show (_ : Prop)); first | omega | ((try dsimp only at *); (try simp only [lns] at *); omega)⟩, ?_⟩ | refine ⟨by (show (_ : Prop)); first | omega | ((try dsimp only at *); (try simp only [lns] at *); omega), ?_⟩)
      exact ⟨trivial, eqS (by show _ = wrote s k d; rw [wrote_lt hb (by omega), show ((k : Int) + d.length).toNat = k + d.length by omega]; simp)⟩
    have h3 : ¬ k + d.length < s.length := by simp at h3; omega
    repeat ((conv => whnf); refine ⟨by (show (_ : Prop)); first | omega | ((try dsimp only at *); (try simp only [lns] at *); omega), ?_⟩)
    exact ⟨trivial, eqS (by show _ = wrote s k d; rw [wrote_lt hb (by omega), show s.drop (k + d.length) = [] from List.drop_eq_nil_of_le (by omega)]; simp)⟩
  have h2 : ¬ k < s.length := by simpa using h2
  repeat ((conv => whnf); first | refine ⟨_, w64 (by (show (_ : Prop)); first | omega | ((try dsimp only at *); (try simp only [lns] at *); omega)), ?_⟩ | refine ⟨by (show (_ : Prop)); first | omega | ((try dsimp only at *); (try simp only [lns] at *); omega), ?_⟩)
  refine ⟨List.replicate (k - s.length) 0, zeros (by show ((k : Int) - s.length).toNat = _; omega), ?_⟩
  repeat ((conv => whnf); refine ⟨by (show (_ : Prop)); first | omega | ((try dsimp only at *); (try simp only [lns] at *); omega), ?_⟩)
  exact ⟨trivial, eqS (by show _ = wrote s k d; rw [wrote_ge hb (by omega)]; simp)⟩
theorem ok_spec_Written : ConOk Tryz.prog 174 c_spec_Written := meets_ok (tabT _ _) (FOk.cons ok_spec_l1In FOk.nil) mixed Tryz.func174 rfl Tryz.call174 (by decide) (by kernel_rfl) m_spec_Written (by intro _ (y : (Str × Int × Str)) _; exact ⟨by simp [c_spec_Written, con, conG, conW, AV.noRd, noRdCells, noRdRows, noRdRows_map', encS, encI, encO], by simp [c_spec_Written, con, conG, conW, AV.noRd, noRdCells, noRdRows, noRdRows_map', encS, encI, encO]⟩) (by intro (y : (Str × Int × Str)) _; first | (simp [c_spec_Written, con, conG, conW, conP, AV.free, freeCells, freeRows, freeRows_map, encS, encI, encO]; done) | (obtain ⟨_, _⟩ := y; simp [c_spec_Written, con, conG, conW, conP, AV.free, freeCells, freeRows, freeRows_map, encS, encI, encO]; done) | (obtain ⟨_, _, _⟩ := y; simp [c_spec_Written, con, conG, conW, conP, AV.free, freeCells, freeRows, freeRows_map, encS, encI, encO]; done))
noncomputable def c_spec_l14Data : PCon := con [mC, .rd [none, none, none, none, none, none]] true (Str × OpR) (fun x => [.str x.1, .agg (encO x.2)]) (fun x => x.1.length ≤ 4194304 ∧ x.2.data.length ≤ 1048576) (fun x => .tup [.str (dataOf x.1 x.2).1, .bool (dataOf x.1 x.2).2])
noncomputable def E_spec_l14Data : Env := ⟨lookup tyTab, lookup [(174, c_spec_Written), (175, c_spec_Cut)], [0, 1, 3, 4, 5, 6, 8, 9, 21]⟩
set_option maxRecDepth 100000 in
set_option maxHeartbeats 4000000 in
theorem m_spec_l14Data : Meets E_spec_l14Data (codeOf Tryz.f136) Tryz.f136.results.toList c_spec_l14Data := by
  rintro ⟨s, o⟩ hs
  obtain ⟨hs, hd⟩ : s.length ≤ 4194304 ∧ o.data.length ≤ 1048576 := hs
  refine ⟨trivial, ?_⟩
  skip
  (conv => whnf); refine ⟨fun h1 => ?_, fun h1 => ?_⟩
  · have h1 : (o.kind == 3) = true := h1
    skip
    refine ⟨(s, o.at_, o.data), rfl, fun _ => ⟨by show s.length ≤ _; omega, by show o.data.length ≤ _; omega⟩, ?_⟩
    skip
    exact ⟨trivial, eqS (by simp [dataOf, h1]), eqB (by simp [dataOf, h1]), trivial⟩
  have h1 : (o.kind == 3) = false := h1
  skip
  (conv => whnf); refine ⟨fun h2 => ?_, fun h2 => ?_⟩
  · have h2 : (o.kind == 4) = true := h2
    skip
    refine ⟨(s, o.at_), rfl, fun _ => (by show s.length ≤ _; omega), ?_⟩
    repeat ((conv => whnf); refine ⟨(by kernel_rfl : drawOk _ _ = true), ?_⟩)
    exact ⟨trivial, eqS (by simp [dataOf, h1, h2]), eqB (by simp [dataOf, h1, h2]), trivial⟩
  have h2 : (o.kind == 4) = false := h2
  skip
  exact ⟨trivial, eqS (by simp [dataOf, h1, h2]), eqB (by simp [dataOf, h1, h2]), trivial⟩
theorem ok_spec_l14Data : ConOk Tryz.prog 136 c_spec_l14Data := meets_ok (tabT _ _) (FOk.cons ok_spec_Written (FOk.cons ok_spec_Cut FOk.nil)) mixed Tryz.func136 rfl Tryz.call136 (by decide) (by kernel_rfl) m_spec_l14Data (by intro _ (y : (Str × OpR)) _; exact ⟨by simp [c_spec_l14Data, con, conG, conW, AV.noRd, noRdCells, noRdRows, noRdRows_map', encS, encI, encO], by simp [c_spec_l14Data, con, conG, conW, AV.noRd, noRdCells, noRdRows, noRdRows_map', encS, encI, encO]⟩) (by intro (y : (Str × OpR)) _; first | (simp [c_spec_l14Data, con, conG, conW, conP, AV.free, freeCells, freeRows, freeRows_map, encS, encI, encO]; done) | (obtain ⟨_, _⟩ := y; simp [c_spec_l14Data, con, conG, conW, conP, AV.free, freeCells, freeRows, freeRows_map, encS, encI, encO]; done) | (obtain ⟨_, _, _⟩ := y; simp [c_spec_l14Data, con, conG, conW, conP, AV.free, freeCells, freeRows, freeRows_map, encS, encI, encO]; done))
end Go.GH

set_option linter.unusedVariables false
set_option linter.unusedSimpArgs false
namespace Go.GH
open Go Go.Proofs
noncomputable def c_spec_Last : PCon := con [mC] true Str encS (fun l => sml l.length) (fun l => .str (last l))
noncomputable def E_spec_Last : Env := ⟨lookup tyTab, lookup [(85, c_spec_Names)], [0, 2, 3, 8]⟩
set_option maxRecDepth 100000 in
set_option maxHeartbeats 4000000 in
theorem m_spec_Last : Meets E_spec_Last (codeOf Tryz.f167) Tryz.f167.results.toList c_spec_Last := by
  intro (s : Str) hs
  have hs : s.length ≤ 4194304 := hs
  refine ⟨trivial, ?_⟩
  conv => whnf
  refine ⟨s, rfl, fun _ => hs, ?_⟩
  skip
  have hnl := names_len (p := s)
  (conv => whnf); refine ⟨fun h1 => ?_, fun h1 => ?_⟩
  · have h1 : names s = [] := by simpa using h1
    skip
    exact ⟨trivial, eqS (by show _ = last s; rw [last, h1]; rfl)⟩
  have h1 : names s ≠ [] := by simpa using h1
  have hp := List.length_pos_iff.2 h1
  obtain ⟨b, hb⟩ := get_lt (l := names s) (i := (names s).length - 1) (by omega)
  have hl : last s = b := by rw [last, List.getLastD_eq_getLast?, List.getLast?_eq_getElem?, hb]; rfl
  have hml : ((names s).map encS).length = (names s).length := List.length_map _
  repeat ((conv => whnf); first | refine ⟨_, w64 (by (show (_ : Prop)); first | omega | ((try dsimp only at *); (try simp only [lns] at *); omega)), ?_⟩ | refine ⟨by (show (_ : Prop)); first | omega | ((try dsimp only at *); (try simp only [lns] at *); omega), ?_⟩ | refine ⟨encS b, fun _ => by show ((names s).map encS)[0 + (((((names s).map encS).length : Nat) : Int) - 1).toNat]? = _; rw [hml, show 0 + (((names s).length : Int) - 1).toNat = (names s).length - 1 by omega]; exact get_map hb, ?_⟩)
  exact ⟨trivial, eqS hl.symm⟩
theorem ok_spec_Last : ConOk Tryz.prog 167 c_spec_Last := meets_ok (tabT _ _) (FOk.cons ok_spec_Names FOk.nil) mixed Tryz.func167 rfl Tryz.call167 (by decide) (by kernel_rfl) m_spec_Last (by intro _ (y : Str) _; exact ⟨by simp [c_spec_Last, con, conG, conW, AV.noRd, noRdCells, noRdRows, noRdRows_map', encS, encI, encO], by simp [c_spec_Last, con, conG, conW, AV.noRd, noRdCells, noRdRows, noRdRows_map', encS, encI, encO]⟩) (by intro (y : Str) _; first | (simp [c_spec_Last, con, conG, conW, conP, AV.free, freeCells, freeRows, freeRows_map, encS, encI, encO]; done) | (obtain ⟨_, _⟩ := y; simp [c_spec_Last, con, conG, conW, conP, AV.free, freeCells, freeRows, freeRows_map, encS, encI, encO]; done) | (obtain ⟨_, _, _⟩ := y; simp [c_spec_Last, con, conG, conW, conP, AV.free, freeCells, freeRows, freeRows_map, encS, encI, encO]; done))
noncomputable def c_spec_l14Without : PCon := con [mS 4, mC] false (Tr × Str) (fun ⟨t, p⟩ => [rdT t, .str p]) (fun x => smT x.1) (fun x => .agg [.own 4 ((without x.1 x.2).map encI)])
noncomputable def E_spec_l14Without : Env := ⟨lookup tyTab, lookup [], [0, 1, 2, 4, 5, 6, 12, 22]⟩
set_option maxRecDepth 100000 in
set_option maxHeartbeats 4000000 in
theorem m_spec_l14Without : Meets E_spec_l14Without (codeOf Tryz.f138) Tryz.f138.results.toList c_spec_l14Without := by
  rintro ⟨t, p⟩ hs
  obtain ⟨hs1, hs2⟩ : smT t := hs
  refine ⟨trivial, ?_⟩
  skip
  refine loop_rule (fun i : Nat => ⟨[(1, ⟨none, .str p⟩), (2, ⟨none, .bx 0 0⟩), (4, ⟨none, .bx 1 0⟩), (5, ⟨none, .bx 2 0⟩), (6, ⟨none, .int .i64 i⟩)], [(2, .own 1 [[.own 4 ((without (t.take i) p).map encI)]]), (1, .own 1 [[.own 4 []]]), (0, .own 1 [[.rd 4 (t.map encI)]])], 3⟩)
    (fun i => i ≤ t.length) (fun i => t.length - i) 0 ?_ (by omega) ?_
  · (refine ⟨?_, ?_, rfl⟩ <;> repeat' (first | exact rfl | exact trivial | refine ⟨?_, ?_⟩ | fail) <;> (conv => whnf))
    all_goals simp [setCells, without]
  intro i hi
  have hi : i ≤ t.length := hi
  have hlen : (without (t.take i) p).length ≤ 4194304 := by
    have := List.length_filter_le (fun y => !(y.path == p)) (t.take i)
    rw [List.length_take] at this
    show (List.filter _ _).length ≤ _
    omega
  have hnext : ∀ {y : It}, t[i]? = some y → without (t.take (i + 1)) p = without (t.take i) p ++ without [y] p := fun hy => by
    simp [without, take_succ' hy]
  generalize hout : without (t.take i) p = out at hlen hnext ⊢
  (conv => whnf); refine ⟨fun h2 => ?_, fun h2 => ?_⟩
  · have h2 : i < t.length := by simpa using h2
    obtain ⟨y, hy⟩ := get_lt h2
    repeat ((conv => whnf); refine ⟨encI y, fun _ => ⟨by omega, get_map hy⟩, ?_⟩)
    (conv => whnf); refine ⟨fun h3 => ?_, fun h3 => ?_⟩
    · have h3 : (y.path == p) = false := by simpa using h3
      repeat ((conv => whnf); first | refine ⟨(by kernel_rfl : drawOk _ _ = true), ?_⟩ | refine ⟨_, w64 (by (show (_ : Prop)); first | omega | ((try dsimp only at *); (try simp only [lns] at *); omega)), ?_⟩ | refine ⟨by (show (_ : Prop)); first | omega | ((try dsimp only at *); (try simp only [lns] at *); omega), ?_⟩ | refine ⟨noOwn (by rfl), ?_⟩ | refine ⟨encI y, fun _ => ⟨by omega, get_map hy⟩, ?_⟩)
      refine again (i + 1) ?_ h2 (by first | omega | (simp; done) | (simp; omega))
      rw [hnext hy]
      (refine ⟨?_, ?_, rfl⟩ <;> repeat' (first | exact rfl | exact trivial | refine ⟨?_, ?_⟩ | fail) <;> (conv => whnf))
      all_goals (simp only [without, List.filter_cons, h3]; first | (simp [setCells, encI]; done) | (simp [setCells, encI]; rw [List.take_of_length_le (by simp)]; rfl))
    · have h3 : (y.path == p) = true := by simpa using h3
      repeat ((conv => whnf); refine ⟨_, w64 (by (show (_ : Prop)); first | omega | ((try dsimp only at *); (try simp only [lns] at *); omega)), ?_⟩)
      refine again (i + 1) ?_ h2 (by first | omega | (simp; done) | (simp; omega))
      rw [hnext hy]
      (refine ⟨?_, ?_, rfl⟩ <;> repeat' (first | exact rfl | exact trivial | refine ⟨?_, ?_⟩ | fail) <;> (conv => whnf))
      all_goals (simp only [without, List.filter_cons, h3]; simp [setCells])
  · have h2 : i = t.length := by
      have : ¬ i < t.length := by simpa using h2
      omega
    subst h2
    rw [List.take_length] at hout
    rw [show c_spec_l14Without.res (t, p) = .agg [.own 4 (out.map encI)] by show AV.agg [.own 4 ((without t p).map encI)] = _; rw [hout]]
    skip
    exact ⟨trivial, ⟨rfl, by simp⟩, trivial⟩
theorem ok_spec_l14Without : ConOk Tryz.prog 138 c_spec_l14Without := meets_ok (tabT _ _) FOk.nil mixed Tryz.func138 rfl Tryz.call138 (by decide) (by kernel_rfl) m_spec_l14Without (by intro _ (y : (Tr × Str)) _; exact ⟨by simp [c_spec_l14Without, con, conG, conW, AV.noRd, noRdCells, noRdRows, noRdRows_map', encS, encI, encO], by simp [c_spec_l14Without, con, conG, conW, AV.noRd, noRdCells, noRdRows, noRdRows_map', encS, encI, encO]⟩) (by intro (y : (Tr × Str)) _; first | (simp [c_spec_l14Without, con, conG, conW, conP, AV.free, freeCells, freeRows, freeRows_map, encS, rdT, encI, encO]; done) | (obtain ⟨_, _⟩ := y; simp [c_spec_l14Without, con, conG, conW, conP, AV.free, freeCells, freeRows, freeRows_map, encS, rdT, encI, encO]; done) | (obtain ⟨_, _, _⟩ := y; simp [c_spec_l14Without, con, conG, conW, conP, AV.free, freeCells, freeRows, freeRows_map, encS, rdT, encI, encO]; done))
noncomputable def c_spec_l14New : PCon := con [mS 4, .rd [none, none, none, none, none, none]] false (Tr × OpR) (fun ⟨t, o⟩ => [rdT t, .agg (encO o)]) (fun x => smT x.1 ∧ smO x.2) (fun x => .tup [.agg [.own 4 ((tNew x.1 x.2).1.map encI)], .int .i64 (tNew x.1 x.2).2])
noncomputable def E_spec_l14New : Env := ⟨lookup tyTab, lookup [(45, c_spec_TreeGet), (54, c_spec_l14Copy), (68, c_spec_l10Put), (77, c_spec_Above), (135, c_spec_l14Dir)], [0, 1, 2, 3, 4, 5, 6, 7, 9, 10, 19, 29, 36, 40, 51, 56]⟩
set_option maxRecDepth 100000 in
set_option maxHeartbeats 4000000 in
theorem m_spec_l14New : Meets E_spec_l14New (codeOf Tryz.f99) Tryz.f99.results.toList c_spec_l14New := by
  rintro ⟨t, o⟩ hs
  obtain ⟨hs1, hs2⟩ : smT t ∧ smO o := hs
  refine ⟨trivial, ?_⟩
  skip
  refine ⟨t, rfl, fun _ => hs1, ?_⟩
  skip
  refine ⟨o.path, rfl, fun _ => by have := hs2.1; show o.path.length ≤ _; omega, ?_⟩
  skip
  refine ⟨(t, above o.path), rfl, fun _ => hs1, ?_⟩
  repeat ((conv => whnf); refine ⟨(by kernel_rfl : drawOk _ _ = true), ?_⟩)
  (conv => whnf); refine ⟨fun h1 => ?_, fun h1 => ?_⟩
  · have h1 : (dirC t (above o.path) != 0) = true := h1
    have hr : tNew t o = (t, dirC t (above o.path)) := by rw [tNew, if_pos h1]
    rw [show c_spec_l14New.res (t, o) = .tup [.agg [.own 4 (t.map encI)], .int .i64 (dirC t (above o.path))] by show AV.tup [.agg [.own 4 ((tNew t o).1.map encI)], .int .i64 (tNew t o).2] = _; rw [hr]]
    skip
    exact ⟨trivial, ⟨⟨rfl, by simp⟩, trivial⟩, rfl, trivial⟩
  have h1 : (dirC t (above o.path) != 0) = false := h1
  skip
  refine ⟨(t, o.path), rfl, fun _ => hs1, ?_⟩
  skip
  (conv => whnf); refine ⟨fun h2 => ?_, fun h2 => ?_⟩
  · have h2 : (treeGet t o.path).isSome = true := h2
    have hr : tNew t o = (t, 3) := by simp [tNew, h1, h2]
    rw [show c_spec_l14New.res (t, o) = .tup [.agg [.own 4 (t.map encI)], .int .i64 3] by show AV.tup [.agg [.own 4 ((tNew t o).1.map encI)], .int .i64 (tNew t o).2] = _; rw [hr]]
    skip
    exact ⟨trivial, ⟨⟨rfl, by simp⟩, trivial⟩, rfl, trivial⟩
  have h2 : (treeGet t o.path).isSome = false := h2
  (conv => whnf); refine ⟨fun h3 => ?_, fun h3 => ?_⟩
  · have h3 : (o.kind != 0) = true := h3
    have h3' : (o.kind == 0) = false := by simpa using h3
    (conv => whnf); refine ⟨fun h4 => ?_, fun h4 => ?_⟩
    · have h4 : (o.data.length : Int) > 80 := by simpa using h4
      have hr : tNew t o = (t, 9) := by simp [tNew, h1, h2, h3, h4]
      rw [show c_spec_l14New.res (t, o) = .tup [.agg [.own 4 (t.map encI)], .int .i64 9] by show AV.tup [.agg [.own 4 ((tNew t o).1.map encI)], .int .i64 (tNew t o).2] = _; rw [hr]]
      skip
      exact ⟨trivial, ⟨⟨rfl, by simp⟩, trivial⟩, rfl, trivial⟩
    have h4 : ¬ (o.data.length : Int) > 80 := by simpa using h4
    skip
    (conv => whnf); refine ⟨fun h6 => ?_, fun h6 => ?_⟩
    · have h6 : (o.kind == 2) = true := h6
      skip
      (conv => whnf); refine ⟨fun h5 => ?_, fun h5 => ?_⟩
      · have h5 : (t.length : Int) = 40 := by simpa using h5
        have hr : tNew t o = (t, 5) := by simp [tNew, h1, h2, h3, h4, h5]
        rw [show c_spec_l14New.res (t, o) = .tup [.agg [.own 4 (t.map encI)], .int .i64 5] by show AV.tup [.agg [.own 4 ((tNew t o).1.map encI)], .int .i64 (tNew t o).2] = _; rw [hr]]
        skip
        exact ⟨trivial, ⟨⟨rfl, by simp⟩, trivial⟩, rfl, trivial⟩
      have h5 : ¬ (t.length : Int) = 40 := by simpa using h5
      have hr : tNew t o = (putP t ⟨o.path, 3, o.data, o.time⟩, 0) := by simp [tNew, h1, h2, h3, h4, h5, newIt, h3', h6]
      skip
      refine ⟨(t, ⟨o.path, 3, o.data, o.time⟩), by refine argRI ?_; simp [rdI], fun _ => hs1, ?_⟩
      rw [show c_spec_l14New.res (t, o) = .tup [.agg [.own 4 ((putP t ⟨o.path, 3, o.data, o.time⟩).map encI)], .int .i64 0] by show AV.tup [.agg [.own 4 ((tNew t o).1.map encI)], .int .i64 (tNew t o).2] = _; rw [hr]]
      skip
      exact ⟨trivial, ⟨⟨rfl, by simp⟩, trivial⟩, rfl, trivial⟩
    have h6 : (o.kind == 2) = false := h6
    skip
    (conv => whnf); refine ⟨fun h5 => ?_, fun h5 => ?_⟩
    · have h5 : (t.length : Int) = 40 := by simpa using h5
      have hr : tNew t o = (t, 5) := by simp [tNew, h1, h2, h3, h4, h5]
      rw [show c_spec_l14New.res (t, o) = .tup [.agg [.own 4 (t.map encI)], .int .i64 5] by show AV.tup [.agg [.own 4 ((tNew t o).1.map encI)], .int .i64 (tNew t o).2] = _; rw [hr]]
      skip
      exact ⟨trivial, ⟨⟨rfl, by simp⟩, trivial⟩, rfl, trivial⟩
    have h5 : ¬ (t.length : Int) = 40 := by simpa using h5
    have hr : tNew t o = (putP t ⟨o.path, 1, o.data, o.time⟩, 0) := by simp [tNew, h1, h2, h3, h4, h5, newIt, h3', h6]
    skip
    refine ⟨(t, ⟨o.path, 1, o.data, o.time⟩), by refine argRI ?_; simp [rdI], fun _ => hs1, ?_⟩
    rw [show c_spec_l14New.res (t, o) = .tup [.agg [.own 4 ((putP t ⟨o.path, 1, o.data, o.time⟩).map encI)], .int .i64 0] by show AV.tup [.agg [.own 4 ((tNew t o).1.map encI)], .int .i64 (tNew t o).2] = _; rw [hr]]
    skip
    exact ⟨trivial, ⟨⟨rfl, by simp⟩, trivial⟩, rfl, trivial⟩
  have h3 : (o.kind != 0) = false := h3
  have h3' : (o.kind == 0) = true := by simpa using h3
  skip
  (conv => whnf); refine ⟨fun h5 => ?_, fun h5 => ?_⟩
  · have h5 : (t.length : Int) = 40 := by simpa using h5
    have hr : tNew t o = (t, 5) := by simp [tNew, h1, h2, h3, h5]
    rw [show c_spec_l14New.res (t, o) = .tup [.agg [.own 4 (t.map encI)], .int .i64 5] by show AV.tup [.agg [.own 4 ((tNew t o).1.map encI)], .int .i64 (tNew t o).2] = _; rw [hr]]
    skip
    exact ⟨trivial, ⟨⟨rfl, by simp⟩, trivial⟩, rfl, trivial⟩
  have h5 : ¬ (t.length : Int) = 40 := by simpa using h5
  have hr : tNew t o = (putP t ⟨o.path, 2, [], 0⟩, 0) := by simp [tNew, h1, h2, h3, h5, newIt, h3']
  skip
  refine ⟨(t, ⟨o.path, 2, [], 0⟩), by refine argRI ?_; simp [rdI], fun _ => hs1, ?_⟩
  rw [show c_spec_l14New.res (t, o) = .tup [.agg [.own 4 ((putP t ⟨o.path, 2, [], 0⟩).map encI)], .int .i64 0] by show AV.tup [.agg [.own 4 ((tNew t o).1.map encI)], .int .i64 (tNew t o).2] = _; rw [hr]]
  skip
  exact ⟨trivial, ⟨⟨rfl, by simp⟩, trivial⟩, rfl, trivial⟩
theorem ok_spec_l14New : ConOk Tryz.prog 99 c_spec_l14New := meets_ok (tabT _ _) (FOk.cons ok_spec_TreeGet (FOk.cons ok_spec_l14Copy (FOk.cons ok_spec_l10Put (FOk.cons ok_spec_Above (FOk.cons ok_spec_l14Dir FOk.nil))))) mixed Tryz.func99 rfl Tryz.call99 (by decide) (by kernel_rfl) m_spec_l14New (by intro _ (y : (Tr × OpR)) _; exact ⟨by simp [c_spec_l14New, con, conG, conW, AV.noRd, noRdCells, noRdRows, noRdRows_map', encS, encI, encO], by simp [c_spec_l14New, con, conG, conW, AV.noRd, noRdCells, noRdRows, noRdRows_map', encS, encI, encO]⟩) (by intro (y : (Tr × OpR)) _; first | (simp [c_spec_l14New, con, conG, conW, conP, AV.free, freeCells, freeRows, freeRows_map, encS, rdT, encI, encO]; done) | (obtain ⟨_, _⟩ := y; simp [c_spec_l14New, con, conG, conW, conP, AV.free, freeCells, freeRows, freeRows_map, encS, rdT, encI, encO]; done) | (obtain ⟨_, _, _⟩ := y; simp [c_spec_l14New, con, conG, conW, conP, AV.free, freeCells, freeRows, freeRows_map, encS, rdT, encI, encO]; done))
end Go.GH

set_option linter.unusedVariables false
set_option linter.unusedSimpArgs false
namespace Go.GH
open Go Go.Proofs
noncomputable def c_spec_TreeNames : PCon := con [mS 4, mC] false (Tr × Str) (fun ⟨t, p⟩ => [rdT t, .str p]) (fun x => smT x.1) (fun x => .own 1 ((treeNames x.1 x.2).map encS))
noncomputable def E_spec_TreeNames : Env := ⟨lookup tyTab, lookup [(38, c_spec_TreeOk), (45, c_spec_TreeGet), (77, c_spec_Above), (167, c_spec_Last)], [0, 1, 2, 4, 5, 6, 7, 8, 27, 33, 44]⟩
set_option maxRecDepth 100000 in
set_option maxHeartbeats 4000000 in
theorem m_spec_TreeNames : Meets E_spec_TreeNames (codeOf Tryz.f137) Tryz.f137.results.toList c_spec_TreeNames := by
  rintro ⟨t, p⟩ hs
  have hs : smT t := hs
  have hs0 := hs.1
  refine ⟨trivial, ?_⟩
  skip
  refine ⟨(t, p), rfl, fun _ => hs, ?_⟩
  skip
  refine ⟨t, rfl, fun _ => hs, ?_⟩
  repeat ((conv => whnf); refine ⟨fun h => h, ?_⟩)
  (conv => whnf); refine ⟨fun h1 => ?_, fun h1 => ?_⟩
  · have h1 : (treeOk t && dirAt t p) = false := by
      have h1 : (!treeOk t || !(treeGet t p).isSome || ((treeGet t p).getD It.none).kind != 2) = true := h1
      unfold dirAt
      revert h1
      cases treeOk t <;> cases (treeGet t p).isSome <;> simp
    skip
    exact ⟨trivial, eqOwn (by show _ = (treeNames t p).map encS; rw [treeNames, h1]; rfl)⟩
  have h1 : (treeOk t && dirAt t p) = true := by
      have h1 : (!treeOk t || !(treeGet t p).isSome || ((treeGet t p).getD It.none).kind != 2) = false := h1
      unfold dirAt
      revert h1
      cases treeOk t <;> cases (treeGet t p).isSome <;> simp
  skip
  refine loop_rule (fun i : Nat => ⟨[(1, ⟨none, .str p⟩), (2, ⟨none, .bx 0 0⟩), (5, ⟨none, .view 1 [] 0 ((kids (t.take i) p).map fun y => last y.path).length⟩), (8, ⟨none, .int .i64 i⟩)], [(1, .own 1 (((kids (t.take i) p).map fun y => last y.path).map encS)), (0, .own 1 [[.rd 4 (t.map encI)]])], 2⟩)
    (fun i => i ≤ t.length) (fun i => t.length - i) 0 ?_ (by omega) ?_
  · (refine ⟨?_, ?_, rfl⟩ <;> repeat' (first | exact rfl | exact trivial | refine ⟨?_, ?_⟩ | fail) <;> (conv => whnf))
    all_goals simp [kids]
  intro i hi
  have hi : i ≤ t.length := hi
  have hlen : ((kids (t.take i) p).map fun y => last y.path).length ≤ 4194304 := by
    have := List.length_filter_le (fun y : It => above y.path == p) (t.take i)
    have h0 := hs.1
    rw [List.length_take] at this
    rw [List.length_map]
    show (List.filter _ _).length ≤ _
    omega
  have hnext : ∀ {y : It}, t[i]? = some y → ((kids (t.take (i + 1)) p).map fun y => last y.path) = ((kids (t.take i) p).map fun y => last y.path) ++ (kids [y] p).map fun y => last y.path := fun hy => by
    simp [kids, take_succ' hy]
  generalize hout : ((kids (t.take i) p).map fun y => last y.path) = out at hlen hnext ⊢
  (conv => whnf); refine ⟨fun h2 => ?_, fun h2 => ?_⟩
  · have h2 : i < t.length := by simpa using h2
    obtain ⟨y, hy⟩ := get_lt h2
    have hyl := (hs.2 y (List.mem_of_getElem? hy)).1
    repeat ((conv => whnf); refine ⟨encI y, fun _ => ⟨by omega, get_map hy⟩, ?_⟩)
    refine ⟨y.path, rfl, fun _ => hyl, ?_⟩
    skip
    (conv => whnf); refine ⟨fun h3 => ?_, fun h3 => ?_⟩
    · have h3 : (above y.path == p) = true := h3
      repeat ((conv => whnf); refine ⟨encI y, fun _ => ⟨by omega, get_map hy⟩, ?_⟩)
      refine ⟨y.path, rfl, fun _ => hyl, ?_⟩
      repeat ((conv => whnf); first | refine ⟨_, w64 (by (show (_ : Prop)); first | omega | ((try dsimp only at *); (try simp only [lns] at *); omega)), ?_⟩ | refine ⟨by (show (_ : Prop)); first | omega | ((try dsimp only at *); (try simp only [lns] at *); omega), ?_⟩ | refine ⟨fun (r : List AV) hr c hc => by simp [encS] at hr; (try subst hr); simp at hc; (try subst hc); rfl, ?_⟩)
      refine again (i + 1) ?_ h2 (by first | omega | (simp; done) | (simp; omega))
      rw [hnext hy]
      (refine ⟨?_, ?_, rfl⟩ <;> repeat' (first | exact rfl | exact trivial | refine ⟨?_, ?_⟩ | fail) <;> (conv => whnf))
      all_goals (simp only [kids, List.filter_cons, h3]; simp [encS])
    · have h3 : (above y.path == p) = false := h3
      repeat ((conv => whnf); refine ⟨_, w64 (by (show (_ : Prop)); first | omega | ((try dsimp only at *); (try simp only [lns] at *); omega)), ?_⟩)
      refine again (i + 1) ?_ h2 (by first | omega | (simp; done) | (simp; omega))
      rw [hnext hy]
      (refine ⟨?_, ?_, rfl⟩ <;> repeat' (first | exact rfl | exact trivial | refine ⟨?_, ?_⟩ | fail) <;> (conv => whnf))
      all_goals (simp only [kids, List.filter_cons, h3]; simp)
  · have h2 : i = t.length := by
      have : ¬ i < t.length := by simpa using h2
      omega
    subst h2
    rw [List.take_length] at hout
    skip
    exact ⟨trivial, eqOwn (by rw [show treeNames t p = out by rw [treeNames, if_pos h1, hout]]; (try simp only [List.drop_zero, List.take_length, take_app]) <;> simp)⟩
theorem ok_spec_TreeNames : ConOk Tryz.prog 137 c_spec_TreeNames := meets_ok (tabT _ _) (FOk.cons ok_spec_TreeOk (FOk.cons ok_spec_TreeGet (FOk.cons ok_spec_Above (FOk.cons ok_spec_Last FOk.nil)))) mixed Tryz.func137 rfl Tryz.call137 (by decide) (by kernel_rfl) m_spec_TreeNames (by intro _ (y : (Tr × Str)) _; exact ⟨by simp [c_spec_TreeNames, con, conG, conW, AV.noRd, noRdCells, noRdRows, noRdRows_map', encS, encI, encO], by simp [c_spec_TreeNames, con, conG, conW, AV.noRd, noRdCells, noRdRows, noRdRows_map', encS, encI, encO]⟩) (by intro (y : (Tr × Str)) _; first | (simp [c_spec_TreeNames, con, conG, conW, conP, AV.free, freeCells, freeRows, freeRows_map, encS, rdT, encI, encO]; done) | (obtain ⟨_, _⟩ := y; simp [c_spec_TreeNames, con, conG, conW, conP, AV.free, freeCells, freeRows, freeRows_map, encS, rdT, encI, encO]; done) | (obtain ⟨_, _, _⟩ := y; simp [c_spec_TreeNames, con, conG, conW, conP, AV.free, freeCells, freeRows, freeRows_map, encS, rdT, encI, encO]; done))
noncomputable def c_spec_l14Change : PCon := con [mS 4, .rd [none, none, none, none, none, none]] false (Tr × OpR) (fun ⟨t, o⟩ => [rdT t, .agg (encO o)]) (fun x => smT x.1 ∧ smO x.2 ∧ badP x.2.path = false) (fun x => .tup [.agg [.own 4 ((tSet x.1 x.2).1.map encI)], .int .i64 (tSet x.1 x.2).2])
noncomputable def E_spec_l14Change : Env := ⟨lookup tyTab, lookup [(45, c_spec_TreeGet), (54, c_spec_l14Copy), (68, c_spec_l10Put), (136, c_spec_l14Data)], [0, 1, 2, 3, 4, 5, 6, 7, 8, 9, 10, 21, 35, 45]⟩
set_option maxRecDepth 100000 in
set_option maxHeartbeats 4000000 in
theorem m_spec_l14Change : Meets E_spec_l14Change (codeOf Tryz.f100) Tryz.f100.results.toList c_spec_l14Change := by
  rintro ⟨t, o⟩ hs
  obtain ⟨hs1, hs2, hs3⟩ : smT t ∧ smO o ∧ badP o.path = false := hs
  refine ⟨trivial, ?_⟩
  skip
  refine ⟨t, rfl, fun _ => hs1, ?_⟩
  skip
  refine ⟨(t, o.path), rfl, fun _ => hs1, ?_⟩
  skip
  (conv => whnf); refine ⟨fun h1 => ?_, fun h1 => ?_⟩
  · have h1 : treeGet t o.path = none := by simpa using h1
    have hr : tSet t o = (t, 2) := by simp [tSet, h1]
    rw [show c_spec_l14Change.res (t, o) = .tup [.agg [.own 4 (t.map encI)], .int .i64 2] by show AV.tup [.agg [.own 4 ((tSet t o).1.map encI)], .int .i64 (tSet t o).2] = _; rw [hr]]
    skip
    exact ⟨trivial, ⟨⟨rfl, by simp⟩, trivial⟩, rfl, trivial⟩
  obtain ⟨x, hx⟩ : ∃ x, treeGet t o.path = some x := by
    cases h : treeGet t o.path with
    | none => simp [h] at h1
    | some x => exact ⟨x, rfl⟩
  have hxd : x.data.length ≤ 4194304 := by
    have := fnd_at hs3 hx
    exact (hs1.2 x (List.mem_of_getElem? this.1)).2
  repeat ((conv => whnf); refine ⟨fun h => h, ?_⟩)
  (conv => whnf); refine ⟨fun h2 => ?_, fun h2 => ?_⟩
  · have h2 : (x.kind == 2 || (x.kind == 3 && o.kind != 5)) = true := by
      have h2 : (((treeGet t o.path).getD It.none).kind == 2 || (((treeGet t o.path).getD It.none).kind == 3 && o.kind != 5)) = true := h2
      rw [hx] at h2; exact h2
    have hr : tSet t o = (t, 4) := by simp only [tSet, hx]; rw [if_pos h2]
    rw [show c_spec_l14Change.res (t, o) = .tup [.agg [.own 4 (t.map encI)], .int .i64 4] by show AV.tup [.agg [.own 4 ((tSet t o).1.map encI)], .int .i64 (tSet t o).2] = _; rw [hr]]
    skip
    exact ⟨trivial, ⟨⟨rfl, by simp⟩, trivial⟩, rfl, trivial⟩
  have h2 : (x.kind == 2 || (x.kind == 3 && o.kind != 5)) = false := by
      have h2 : (((treeGet t o.path).getD It.none).kind == 2 || (((treeGet t o.path).getD It.none).kind == 3 && o.kind != 5)) = false := h2
      rw [hx] at h2; exact h2
  skip
  refine ⟨(((treeGet t o.path).getD It.none).data, o), rfl, fun _ => ⟨by rw [hx]; exact hxd, hs2.2.2⟩, ?_⟩
  skip
  (conv => whnf); refine ⟨fun h3 => ?_, fun h3 => ?_⟩
  · have h3 : (!(dataOf x.data o).2) = true := by
      have h3 : (!(dataOf ((treeGet t o.path).getD It.none).data o).2) = true := h3
      rw [hx] at h3; exact h3
    have hr : tSet t o = (t, 9) := by simp only [tSet, hx]; rw [if_neg (by rw [h2]; decide), if_pos h3]
    rw [show c_spec_l14Change.res (t, o) = .tup [.agg [.own 4 (t.map encI)], .int .i64 9] by show AV.tup [.agg [.own 4 ((tSet t o).1.map encI)], .int .i64 (tSet t o).2] = _; rw [hr]]
    skip
    exact ⟨trivial, ⟨⟨rfl, by simp⟩, trivial⟩, rfl, trivial⟩
  have h3 : (!(dataOf x.data o).2) = false := by
      have h3 : (!(dataOf ((treeGet t o.path).getD It.none).data o).2) = false := h3
      rw [hx] at h3; exact h3
  have hr : tSet t o = (putP t ⟨((treeGet t o.path).getD It.none).path, ((treeGet t o.path).getD It.none).kind, (dataOf ((treeGet t o.path).getD It.none).data o).1, o.time⟩, 0) := by simp only [tSet, hx]; rw [if_neg (by rw [h2]; decide), if_neg (by rw [h3]; decide)]; rfl
  skip
  refine ⟨(t, ⟨((treeGet t o.path).getD It.none).path, ((treeGet t o.path).getD It.none).kind, (dataOf ((treeGet t o.path).getD It.none).data o).1, o.time⟩), by refine argRI ?_; simp [rdI], fun _ => hs1, ?_⟩
  rw [show c_spec_l14Change.res (t, o) = .tup [.agg [.own 4 ((putP t ⟨((treeGet t o.path).getD It.none).path, ((treeGet t o.path).getD It.none).kind, (dataOf ((treeGet t o.path).getD It.none).data o).1, o.time⟩).map encI)], .int .i64 0] by show AV.tup [.agg [.own 4 ((tSet t o).1.map encI)], .int .i64 (tSet t o).2] = _; rw [hr]]
  skip
  exact ⟨trivial, ⟨⟨rfl, by simp⟩, trivial⟩, rfl, trivial⟩
theorem ok_spec_l14Change : ConOk Tryz.prog 100 c_spec_l14Change := meets_ok (tabT _ _) (FOk.cons ok_spec_TreeGet (FOk.cons ok_spec_l14Copy (FOk.cons ok_spec_l10Put (FOk.cons ok_spec_l14Data FOk.nil)))) mixed Tryz.func100 rfl Tryz.call100 (by decide) (by kernel_rfl) m_spec_l14Change (by intro _ (y : (Tr × OpR)) _; exact ⟨by simp [c_spec_l14Change, con, conG, conW, AV.noRd, noRdCells, noRdRows, noRdRows_map', encS, encI, encO], by simp [c_spec_l14Change, con, conG, conW, AV.noRd, noRdCells, noRdRows, noRdRows_map', encS, encI, encO]⟩) (by intro (y : (Tr × OpR)) _; first | (simp [c_spec_l14Change, con, conG, conW, conP, AV.free, freeCells, freeRows, freeRows_map, encS, rdT, encI, encO]; done) | (obtain ⟨_, _⟩ := y; simp [c_spec_l14Change, con, conG, conW, conP, AV.free, freeCells, freeRows, freeRows_map, encS, rdT, encI, encO]; done) | (obtain ⟨_, _, _⟩ := y; simp [c_spec_l14Change, con, conG, conW, conP, AV.free, freeCells, freeRows, freeRows_map, encS, rdT, encI, encO]; done))
noncomputable def c_spec_l14Remove : PCon := con [mS 4, .rd [none, none, none, none, none, none]] false (Tr × OpR) (fun ⟨t, o⟩ => [rdT t, .agg (encO o)]) (fun x => smT x.1 ∧ smO x.2) (fun x => .tup [.agg [.own 4 ((tDrop x.1 x.2).1.map encI)], .int .i64 (tDrop x.1 x.2).2])
noncomputable def E_spec_l14Remove : Env := ⟨lookup tyTab, lookup [(45, c_spec_TreeGet), (54, c_spec_l14Copy), (137, c_spec_TreeNames), (138, c_spec_l14Without)], [0, 1, 2, 3, 4, 5, 6, 7, 16, 25, 33]⟩
set_option maxRecDepth 100000 in
set_option maxHeartbeats 4000000 in
theorem m_spec_l14Remove : Meets E_spec_l14Remove (codeOf Tryz.f101) Tryz.f101.results.toList c_spec_l14Remove := by
  rintro ⟨t, o⟩ hs
  obtain ⟨hs1, hs2⟩ : smT t ∧ smO o := hs
  refine ⟨trivial, ?_⟩
  skip
  refine ⟨(t, o.path), rfl, fun _ => hs1, ?_⟩
  skip
  (conv => whnf); refine ⟨fun h1 => ?_, fun h1 => ?_⟩
  · have h1 : treeGet t o.path = none := by simpa using h1
    have hr : tDrop t o = (t, 2) := by simp [tDrop, h1]
    skip
    refine ⟨t, rfl, fun _ => hs1, ?_⟩
    rw [show c_spec_l14Remove.res (t, o) = .tup [.agg [.own 4 (t.map encI)], .int .i64 2] by show AV.tup [.agg [.own 4 ((tDrop t o).1.map encI)], .int .i64 (tDrop t o).2] = _; rw [hr]]
    skip
    exact ⟨trivial, ⟨⟨rfl, by simp⟩, trivial⟩, rfl, trivial⟩
  obtain ⟨x, hx⟩ : ∃ x, treeGet t o.path = some x := by
    cases h : treeGet t o.path with
    | none => simp [h] at h1
    | some x => exact ⟨x, rfl⟩
  skip
  (conv => whnf); refine ⟨fun h2 => ?_, fun h2 => ?_⟩
  · have h2 : ((x.kind == 2) != (o.kind == 7)) = true := by
      have h2 : (!((((treeGet t o.path).getD It.none).kind == 2) == (o.kind == 7))) = true := h2
      rw [hx] at h2; exact h2
    have hr : tDrop t o = (t, 4) := by simp only [tDrop, hx]; rw [if_pos h2]
    skip
    refine ⟨t, rfl, fun _ => hs1, ?_⟩
    rw [show c_spec_l14Remove.res (t, o) = .tup [.agg [.own 4 (t.map encI)], .int .i64 4] by show AV.tup [.agg [.own 4 ((tDrop t o).1.map encI)], .int .i64 (tDrop t o).2] = _; rw [hr]]
    skip
    exact ⟨trivial, ⟨⟨rfl, by simp⟩, trivial⟩, rfl, trivial⟩
  have h2 : ((x.kind == 2) != (o.kind == 7)) = false := by
      have h2 : (!((((treeGet t o.path).getD It.none).kind == 2) == (o.kind == 7))) = false := h2
      rw [hx] at h2; exact h2
  skip
  refine ⟨(t, o.path), rfl, fun _ => hs1, ?_⟩
  skip
  (conv => whnf); refine ⟨fun h3 => ?_, fun h3 => ?_⟩
  · have h3 : decide (((treeNames t o.path).length : Int) > 0) = true := by simpa using h3
    have hr : tDrop t o = (t, 8) := by simp only [tDrop, hx]; rw [if_neg (by rw [h2]; decide), if_pos h3]
    skip
    refine ⟨t, rfl, fun _ => hs1, ?_⟩
    rw [show c_spec_l14Remove.res (t, o) = .tup [.agg [.own 4 (t.map encI)], .int .i64 8] by show AV.tup [.agg [.own 4 ((tDrop t o).1.map encI)], .int .i64 (tDrop t o).2] = _; rw [hr]]
    skip
    exact ⟨trivial, ⟨⟨rfl, by simp⟩, trivial⟩, rfl, trivial⟩
  have h3 : decide (((treeNames t o.path).length : Int) > 0) = false := by simpa using h3
  have hr : tDrop t o = (without t o.path, 0) := by simp only [tDrop, hx]; rw [if_neg (by rw [h2]; decide), if_neg (by rw [h3]; decide)]
  skip
  refine ⟨(t, o.path), rfl, fun _ => hs1, ?_⟩
  rw [show c_spec_l14Remove.res (t, o) = .tup [.agg [.own 4 ((without t o.path).map encI)], .int .i64 0] by show AV.tup [.agg [.own 4 ((tDrop t o).1.map encI)], .int .i64 (tDrop t o).2] = _; rw [hr]]
  skip
  exact ⟨trivial, ⟨⟨rfl, by simp⟩, trivial⟩, rfl, trivial⟩
theorem ok_spec_l14Remove : ConOk Tryz.prog 101 c_spec_l14Remove := meets_ok (tabT _ _) (FOk.cons ok_spec_TreeGet (FOk.cons ok_spec_l14Copy (FOk.cons ok_spec_TreeNames (FOk.cons ok_spec_l14Without FOk.nil)))) mixed Tryz.func101 rfl Tryz.call101 (by decide) (by kernel_rfl) m_spec_l14Remove (by intro _ (y : (Tr × OpR)) _; exact ⟨by simp [c_spec_l14Remove, con, conG, conW, AV.noRd, noRdCells, noRdRows, noRdRows_map', encS, encI, encO], by simp [c_spec_l14Remove, con, conG, conW, AV.noRd, noRdCells, noRdRows, noRdRows_map', encS, encI, encO]⟩) (by intro (y : (Tr × OpR)) _; first | (simp [c_spec_l14Remove, con, conG, conW, conP, AV.free, freeCells, freeRows, freeRows_map, encS, rdT, encI, encO]; done) | (obtain ⟨_, _⟩ := y; simp [c_spec_l14Remove, con, conG, conW, conP, AV.free, freeCells, freeRows, freeRows_map, encS, rdT, encI, encO]; done) | (obtain ⟨_, _, _⟩ := y; simp [c_spec_l14Remove, con, conG, conW, conP, AV.free, freeCells, freeRows, freeRows_map, encS, rdT, encI, encO]; done))
end Go.GH

set_option linter.unusedVariables false
set_option linter.unusedSimpArgs false
namespace Go.GH
open Go Go.Proofs
noncomputable def c_spec_l1Texts : PCon := con [mS 1, mS 1] true (List Str × List Str) (fun x => [.rd 1 (x.1.map encS), .rd 1 (x.2.map encS)]) (fun x => smL x.1 ∧ smL x.2) (fun x => .bool (x.1 == x.2))
noncomputable def E_spec_l1Texts : Env := ⟨lookup tyTab, lookup [], [0, 1, 4, 5, 10, 14, 25]⟩
set_option maxRecDepth 100000 in
set_option maxHeartbeats 4000000 in
theorem m_spec_l1Texts : Meets E_spec_l1Texts (codeOf Tryz.f86) Tryz.f86.results.toList c_spec_l1Texts := by
  rintro ⟨l, m⟩ hs
  obtain ⟨⟨hl1, hl2⟩, ⟨hm1, hm2⟩⟩ : smL l ∧ smL m := hs
  refine ⟨trivial, ?_⟩
  (conv => whnf); refine ⟨fun h1 => ?_, fun h1 => ?_⟩
  · have h1 : l.length ≠ m.length := by simp at h1; omega
    conv => whnf
    exact ⟨trivial, eqB (Eq.symm (beq_eq_false_iff_ne.2 fun e => h1 (congrArg List.length e)))⟩
  have h1 : l.length = m.length := by simp at h1; omega
  skip
  refine loop_rule (fun i : Nat => ⟨[(0, ⟨none, .rd 1 (l.map encS)⟩), (1, ⟨none, .rd 1 (m.map encS)⟩), (5, ⟨none, .int .i64 i⟩)], [], 0⟩)
    (fun i => i ≤ l.length ∧ l.take i = m.take i) (fun i => l.length - i) 0 ?_ ⟨by omega, rfl⟩ ?_
  · (refine ⟨?_, ?_, rfl⟩ <;> repeat' (first | exact rfl | exact trivial | refine ⟨?_, ?_⟩ | fail) <;> (conv => whnf))
  rintro i ⟨hi, hI⟩
  (conv => whnf); refine ⟨fun h2 => ?_, fun h2 => ?_⟩
  · have h2 : i < l.length := by simpa using h2
    obtain ⟨b, hb⟩ := get_lt h2
    obtain ⟨c, hc⟩ := get_lt (l := m) (i := i) (by omega)
    repeat ((conv => whnf); first | refine ⟨(by kernel_rfl : drawOk _ _ = true), ?_⟩ | refine ⟨encS b, fun _ => ⟨by omega, get_map hb⟩, ?_⟩ | refine ⟨encS c, fun _ => ⟨by omega, get_map hc⟩, ?_⟩)
    (conv => whnf); refine ⟨fun h3 => ?_, fun h3 => ?_⟩
    · have h3 : (!(b == c)) = true := h3
      conv => whnf
      exact ⟨trivial, eqB (Eq.symm (beq_eq_false_iff_ne.2 fun (e : l = m) => by
        rw [← e, hb] at hc; simp at hc; simp [hc] at h3))⟩
    · have h3 : b = c := by
        have h3 : (!(b == c)) = false := h3
        simpa using h3
      repeat ((conv => whnf); refine ⟨_, w64 (by (show (_ : Prop)); first | omega | ((try dsimp only at *); (try simp only [lns] at *); omega)), ?_⟩)
      refine again (i + 1) ?_ ⟨h2, by rw [take_succ' hb, take_succ' hc, hI, h3]⟩ (by first | omega | (simp; done) | (simp; omega))
      (refine ⟨?_, ?_, rfl⟩ <;> repeat' (first | exact rfl | exact trivial | refine ⟨?_, ?_⟩ | fail) <;> (conv => whnf))
  · have h2 : i = l.length := by
      have : ¬ i < l.length := by simpa using h2
      omega
    subst h2
    conv => whnf
    rw [List.take_length, h1, List.take_length] at hI
    exact ⟨trivial, eqB (Eq.symm (beq_iff_eq.2 hI))⟩
theorem ok_spec_l1Texts : ConOk Tryz.prog 86 c_spec_l1Texts := meets_ok (tabT _ _) FOk.nil mixed Tryz.func86 rfl Tryz.call86 (by decide) (by kernel_rfl) m_spec_l1Texts (by intro _ (y : (List Str × List Str)) _; exact ⟨by simp [c_spec_l1Texts, con, conG, conW, AV.noRd, noRdCells, noRdRows, noRdRows_map', encS], by simp [c_spec_l1Texts, con, conG, conW, AV.noRd, noRdCells, noRdRows, noRdRows_map', encS]⟩) (by intro (y : (List Str × List Str)) _; first | (simp [c_spec_l1Texts, con, conG, conW, conP, AV.free, freeCells, freeRows, freeRows_map, encS]; done) | (obtain ⟨_, _⟩ := y; simp [c_spec_l1Texts, con, conG, conW, conP, AV.free, freeCells, freeRows, freeRows_map, encS]; done) | (obtain ⟨_, _, _⟩ := y; simp [c_spec_l1Texts, con, conG, conW, conP, AV.free, freeCells, freeRows, freeRows_map, encS]; done))
noncomputable def c_spec_Within : PCon := con [mC, mC] true (Str × Str) (fun ⟨p, q⟩ => [.str p, .str q]) (fun x => sml x.1.length ∧ sml x.2.length) (fun x => .bool (withinP x.1 x.2))
noncomputable def E_spec_Within : Env := ⟨lookup tyTab, lookup [(75, c_spec_PathOk), (85, c_spec_Names), (86, c_spec_l1Texts)], [0, 1, 4, 5, 6]⟩
set_option maxRecDepth 100000 in
set_option maxHeartbeats 4000000 in
theorem m_spec_Within : Meets E_spec_Within (codeOf Tryz.f46) Tryz.f46.results.toList c_spec_Within := by
  rintro ⟨p, q⟩ hs
  obtain ⟨h1, h2⟩ : sml p.length ∧ sml q.length := hs
  refine ⟨trivial, ?_⟩
  conv => whnf
  refine ⟨p, rfl, fun _ => h1, ?_⟩
  conv => whnf
  refine ⟨q, rfl, fun _ => h2, ?_⟩
  conv => whnf
  refine ⟨p, rfl, fun _ => h1, ?_⟩
  repeat ((conv => whnf); refine ⟨fun h => h, ?_⟩)
  refine ⟨q, rfl, fun _ => h2, ?_⟩
  repeat ((conv => whnf); refine ⟨fun h => h, ?_⟩)
  conv => whnf
  refine ⟨fun h => ⟨by omega, by omega, by simp [gtrue] at h ⊢; omega⟩, ?_⟩
  repeat ((conv => whnf); refine ⟨fun h => h, ?_⟩)
  conv => whnf
  refine ⟨((names p).take (names q).length, names q), argRR (by rw [cutS]; simp) (by simp [rdS]), fun h => ⟨smL_take names_sm, names_sm⟩, ?_⟩
  repeat ((conv => whnf); refine ⟨fun h => h, ?_⟩)
  conv => whnf
  refine ⟨trivial, eqB ?_⟩
  show (pathOk p && pathOk q && decide ((((names q).map encS).length : Int) ≤ ((names p).map encS).length) && ((names p).take (names q).length == names q)) = withinP p q
  rw [List.length_map, List.length_map, withinP, Bool.and_assoc (pathOk p && pathOk q), isPrefix_take]
theorem ok_spec_Within : ConOk Tryz.prog 46 c_spec_Within := meets_ok (tabT _ _) (FOk.cons ok_spec_PathOk (FOk.cons ok_spec_Names (FOk.cons ok_spec_l1Texts FOk.nil))) mixed Tryz.func46 rfl Tryz.call46 (by decide) (by kernel_rfl) m_spec_Within (by intro _ (y : (Str × Str)) _; exact ⟨by simp [c_spec_Within, con, conG, conW, AV.noRd, noRdCells, noRdRows, noRdRows_map', encS], by simp [c_spec_Within, con, conG, conW, AV.noRd, noRdCells, noRdRows, noRdRows_map', encS]⟩) (by intro (y : (Str × Str)) _; first | (simp [c_spec_Within, con, conG, conW, conP, AV.free, freeCells, freeRows, freeRows_map, encS]; done) | (obtain ⟨_, _⟩ := y; simp [c_spec_Within, con, conG, conW, conP, AV.free, freeCells, freeRows, freeRows_map, encS]; done) | (obtain ⟨_, _, _⟩ := y; simp [c_spec_Within, con, conG, conW, conP, AV.free, freeCells, freeRows, freeRows_map, encS]; done))
def c_strings_HasPrefix : PCon := con [mC, mC] true (Str × Str) (fun ⟨p, q⟩ => [.str p, .str q]) (fun x => True) (fun x => .bool (x.2.isPrefixOf x.1))
theorem ok_strings_HasPrefix : ConOk Tryz.prog 84 c_strings_HasPrefix := by
  refine con_of_calls rfl (fun _ => rfl) (fun _ => rfl) (fun _ => rfl) (fun ⟨_, _⟩ _ => ⟨trivial, trivial, trivial⟩) Tryz.call84 ?_
  rintro ⟨l, p⟩ hpre y w args ρ hw hR hsz hs
  have h0 := srep_str (hs 0 _ rfl)
  have h1 := srep_str (hs 1 _ rfl)
  have ha := args_two hsz h0 h1
  rw [ha]
  refine (Tryz.strings_HasPrefix (toB l) (toB p) w).mono ?_
  rintro e w' ⟨rfl, rfl⟩
  exact ⟨rfl, RowKit.Below.refl _ _⟩
noncomputable def c_impl_Within : PCon := con [mC, mC] true (Str × Str) (fun ⟨p, q⟩ => [.str p, .str q]) (fun x => sml x.1.length ∧ sml x.2.length) (fun x => .bool (withinP x.1 x.2))
noncomputable def E_impl_Within : Env := ⟨lookup tyTab, lookup [(83, c_impl_PathOk), (84, c_strings_HasPrefix)], [0, 1, 4, 12]⟩
set_option maxRecDepth 100000 in
set_option maxHeartbeats 4000000 in
theorem m_impl_Within : Meets E_impl_Within (codeOf Tryz.f44) Tryz.f44.results.toList c_impl_Within := by
  rintro ⟨p, q⟩ hs
  obtain ⟨h1, h2⟩ : p.length ≤ 4194304 ∧ q.length ≤ 4194304 := hs
  refine ⟨trivial, ?_⟩
  conv => whnf
  refine ⟨p, rfl, fun _ => h1, ?_⟩
  repeat ((conv => whnf); refine ⟨fun h => h, ?_⟩)
  refine ⟨q, rfl, fun _ => h2, ?_⟩
  repeat ((conv => whnf); refine ⟨fun h => h, ?_⟩)
  (conv => whnf); refine ⟨fun h3 => ?_, fun h3 => ?_⟩
  · conv => whnf
    have h3 : (!pathOk p || !pathOk q) = true := h3
    exact ⟨trivial, eqB (by unfold withinP; revert h3; cases pathOk p <;> cases pathOk q <;> simp)⟩
  have h3 : (!pathOk p || !pathOk q) = false := h3
  have hp : pathOk p = true := by revert h3; cases pathOk p <;> simp
  have hq : pathOk q = true := by revert h3; cases pathOk q <;> simp
  repeat ((conv => whnf); first | refine ⟨fun h => h, ?_⟩ | refine ⟨by (show (_ : Prop)); first | omega | ((try dsimp only at *); (try simp only [lns] at *); omega), ?_⟩)
  conv => whnf
  refine ⟨(p, q ++ sl), rfl, fun _ => trivial, ?_⟩
  repeat ((conv => whnf); refine ⟨fun h => h, ?_⟩)
  conv => whnf
  exact ⟨trivial, eqB (withinP_impl hp hq)⟩
theorem ok_impl_Within : ConOk Tryz.prog 44 c_impl_Within := meets_ok (tabT _ _) (FOk.cons ok_impl_PathOk (FOk.cons ok_strings_HasPrefix FOk.nil)) mixed Tryz.func44 rfl Tryz.call44 (by decide) (by kernel_rfl) m_impl_Within (by intro _ (y : (Str × Str)) _; exact ⟨by simp [c_impl_Within, con, conG, conW, AV.noRd, noRdCells, noRdRows, noRdRows_map', encS], by simp [c_impl_Within, con, conG, conW, AV.noRd, noRdCells, noRdRows, noRdRows_map', encS]⟩) (by intro (y : (Str × Str)) _; first | (simp [c_impl_Within, con, conG, conW, conP, AV.free, freeCells, freeRows, freeRows_map, encS]; done) | (obtain ⟨_, _⟩ := y; simp [c_impl_Within, con, conG, conW, conP, AV.free, freeCells, freeRows, freeRows_map, encS]; done) | (obtain ⟨_, _, _⟩ := y; simp [c_impl_Within, con, conG, conW, conP, AV.free, freeCells, freeRows, freeRows_map, encS]; done))
end Go.GH

set_option linter.unusedVariables false
set_option linter.unusedSimpArgs false
namespace Go.GH
open Go Go.Proofs
noncomputable def c_spec_l14Rename : PCon := con [mS 4, .rd [none, none, none, none, none, none]] false (Tr × OpR) (fun ⟨t, o⟩ => [rdT t, .agg (encO o)]) (fun x => smT x.1 ∧ smO x.2 ∧ badP x.2.path = false) (fun x => .tup [.agg [.own 4 ((tRen x.1 x.2).1.map encI)], .int .i64 (tRen x.1 x.2).2])
noncomputable def E_spec_l14Rename : Env := ⟨lookup tyTab, lookup [(45, c_spec_TreeGet), (46, c_spec_Within), (54, c_spec_l14Copy), (68, c_spec_l10Put), (77, c_spec_Above), (85, c_spec_Names), (119, c_spec_PathOf), (135, c_spec_l14Dir)], [0, 1, 2, 3, 4, 5, 7, 8, 10, 11, 12, 13, 22, 31, 42, 50, 62, 79]⟩
set_option maxRecDepth 100000 in
set_option maxHeartbeats 4000000 in
theorem m_spec_l14Rename : Meets E_spec_l14Rename (codeOf Tryz.f102) Tryz.f102.results.toList c_spec_l14Rename := by
  rintro ⟨t, o⟩ hs
  obtain ⟨hs1, hs2, hs3⟩ : smT t ∧ smO o ∧ badP o.path = false := hs
  have hs0 := hs1.1
  have ho1 := hs2.1
  have ho2 := hs2.2.1
  refine ⟨trivial, ?_⟩
  skip
  refine ⟨(t, o.path), rfl, fun _ => hs1, ?_⟩
  skip
  (conv => whnf); refine ⟨fun h1 => ?_, fun h1 => ?_⟩
  · have h1 : (!(treeGet t o.path).isSome) = true := h1
    have hr : tRen t o = (t, 2) := by rw [tRen, if_pos h1]
    skip
    refine ⟨t, rfl, fun _ => hs1, ?_⟩
    rw [show c_spec_l14Rename.res (t, o) = .tup [.agg [.own 4 (t.map encI)], .int .i64 2] by show AV.tup [.agg [.own 4 ((tRen t o).1.map encI)], .int .i64 (tRen t o).2] = _; rw [hr]]
    skip
    exact ⟨trivial, ⟨⟨rfl, by simp⟩, trivial⟩, rfl, trivial⟩
  have h1 : (!(treeGet t o.path).isSome) = false := h1
  skip
  refine ⟨o.to, rfl, fun _ => by show o.to.length ≤ _; omega, ?_⟩
  skip
  refine ⟨(t, above o.to), rfl, fun _ => hs1, ?_⟩
  repeat ((conv => whnf); refine ⟨(by kernel_rfl : drawOk _ _ = true), ?_⟩)
  (conv => whnf); refine ⟨fun h2 => ?_, fun h2 => ?_⟩
  · have h2 : (dirC t (above o.to) != 0) = true := h2
    have hr : tRen t o = (t, dirC t (above o.to)) := by rw [tRen, if_neg (by rw [h1]; decide), if_pos h2]
    skip
    refine ⟨t, rfl, fun _ => hs1, ?_⟩
    rw [show c_spec_l14Rename.res (t, o) = .tup [.agg [.own 4 (t.map encI)], .int .i64 (dirC t (above o.to))] by show AV.tup [.agg [.own 4 ((tRen t o).1.map encI)], .int .i64 (tRen t o).2] = _; rw [hr]]
    skip
    exact ⟨trivial, ⟨⟨rfl, by simp⟩, trivial⟩, rfl, trivial⟩
  have h2 : (dirC t (above o.to) != 0) = false := h2
  skip
  refine ⟨(t, o.to), rfl, fun _ => hs1, ?_⟩
  skip
  (conv => whnf); refine ⟨fun h3 => ?_, fun h3 => ?_⟩
  · have h3 : (treeGet t o.to).isSome = true := h3
    have hr : tRen t o = (t, 3) := by rw [tRen, if_neg (by rw [h1]; decide), if_neg (by rw [h2]; decide), if_pos h3]
    skip
    refine ⟨t, rfl, fun _ => hs1, ?_⟩
    rw [show c_spec_l14Rename.res (t, o) = .tup [.agg [.own 4 (t.map encI)], .int .i64 3] by show AV.tup [.agg [.own 4 ((tRen t o).1.map encI)], .int .i64 (tRen t o).2] = _; rw [hr]]
    skip
    exact ⟨trivial, ⟨⟨rfl, by simp⟩, trivial⟩, rfl, trivial⟩
  have h3 : (treeGet t o.to).isSome = false := h3
  have hren : tRen t o = if t.any (stuck o) then (t, 1) else ((t.map (moved o)).foldl putP [], 0) := by rw [tRen, if_neg (by rw [h1]; decide), if_neg (by rw [h2]; decide), if_neg (by rw [h3]; decide)]
  skip
  refine loop_rule (fun i : Nat => ⟨[(2, ⟨none, .bx 0 0⟩), (3, ⟨none, .bx 1 0⟩), (4, ⟨none, .bx 2 0⟩), (5, ⟨none, .int .i64 0⟩), (11, ⟨none, .bx 3 0⟩), (12, ⟨none, .int .i64 i⟩)], [(3, .own 1 [[.own 4 ((((t.take i).map (moved o)).foldl putP []).map encI)]]), (2, .own 1 [[.own 4 []]]), (1, .own 6 [encO o]), (0, .own 1 [[.rd 4 (t.map encI)]])], 4⟩)
    (fun i => i ≤ t.length ∧ (t.take i).any (stuck o) = false) (fun i => t.length - i) 0 ?_ ⟨by omega, rfl⟩ ?_
  · (refine ⟨?_, ?_, rfl⟩ <;> repeat' (first | exact rfl | exact trivial | refine ⟨?_, ?_⟩ | fail) <;> (conv => whnf))
    all_goals simp [setCells]
  rintro i ⟨hi, hI⟩
  have hsm := ren_sm (o := o) hs1 i
  have hnext : ∀ {y : It}, t[i]? = some y → ((t.take (i + 1)).map (moved o)).foldl putP [] = putP (((t.take i).map (moved o)).foldl putP []) (moved o y) := fun hy => by
    rw [take_succ' hy, List.map_append, List.foldl_append]; rfl
  have hany : ∀ {y : It}, t[i]? = some y → stuck o y = false → (t.take (i + 1)).any (stuck o) = false := fun hy h => by
    rw [take_succ' hy, List.any_append, hI]; simp [h]
  generalize hout : ((t.take i).map (moved o)).foldl putP [] = out at hsm hnext ⊢
  (conv => whnf); refine ⟨fun h4 => ?_, fun h4 => ?_⟩
  · have h4 : i < t.length := by simpa using h4
    obtain ⟨y, hy⟩ := get_lt h4
    have hym := List.mem_of_getElem? hy
    have hyl := (hs1.2 y hym).1
    repeat ((conv => whnf); refine ⟨encI y, fun _ => ⟨by omega, get_map hy⟩, ?_⟩)
    refine ⟨(y.path, o.path), rfl, fun _ => ⟨hyl, by show o.path.length ≤ _; omega⟩, ?_⟩
    skip
    (conv => whnf); refine ⟨fun h5 => ?_, fun h5 => ?_⟩
    · have h5 : withinP y.path o.path = true := h5
      skip
      refine ⟨o.to, rfl, fun _ => by show o.to.length ≤ _; omega, ?_⟩
      skip
      refine ⟨y.path, rfl, fun _ => hyl, ?_⟩
      skip
      refine ⟨o.path, rfl, fun _ => by show o.path.length ≤ _; omega, ?_⟩
      skip
      have hnl := names_len (p := y.path)
      have hn2 := names_len (p := o.to)
      have hle : (names o.path).length ≤ (names y.path).length := by
        have hb : (o.path == sl) = false := by revert hs3; simp [badP]
        obtain ⟨r, hr, _⟩ := below_cat hb h5
        rw [hr]; simp
      have hal := app_len (a := o.to) (b := y.path) (k := (names o.path).length)
      refine ⟨fun _ => ⟨by simp, by simp; omega⟩, ?_⟩
      skip
      refine ⟨fun (r : List AV) hr (c : AV) hc => by
        obtain ⟨s, _, rfl⟩ := List.mem_map.1 (List.mem_of_mem_drop (List.mem_of_mem_take hr))
        simp [encS] at hc
        subst hc
        rfl, ?_⟩
      repeat ((conv => whnf); refine ⟨by (show (_ : Prop)); first | omega | ((try dsimp only at *); (try simp only [lns] at *); omega), ?_⟩)
      refine ⟨names o.to ++ (names y.path).drop (names o.path).length, by
        refine argR ?_
        exact cat_arg _ _ _ hle, fun _ => by show _ < _; omega, ?_⟩
      repeat ((conv => whnf); refine ⟨(by kernel_rfl : drawOk _ _ = true), ?_⟩)
      have hmp : moved o y = ⟨pathOf (names o.to ++ (names y.path).drop (names o.path).length), y.kind, y.data, y.time⟩ := by rw [moved, if_pos h5]
      (conv => whnf); refine ⟨fun h6 => ?_, fun h6 => ?_⟩
      · have h6 : (pathOf (names o.to ++ (names y.path).drop (names o.path).length) == []) = true := h6
        have hr : tRen t o = (t, 1) := by
          rw [hren, if_pos]
          exact List.any_eq_true.2 ⟨y, hym, by rw [stuck, h5, hmp]; exact h6⟩
        skip
        refine ⟨t, rfl, fun _ => hs1, ?_⟩
        rw [show c_spec_l14Rename.res (t, o) = .tup [.agg [.own 4 (t.map encI)], .int .i64 1] by show AV.tup [.agg [.own 4 ((tRen t o).1.map encI)], .int .i64 (tRen t o).2] = _; rw [hr]]
        skip
        exact ⟨trivial, ⟨⟨rfl, by simp⟩, trivial⟩, rfl, trivial⟩
      have h6 : (pathOf (names o.to ++ (names y.path).drop (names o.path).length) == []) = false := h6
      have hst : stuck o y = false := by rw [stuck, h5, hmp]; exact h6
      skip
      refine ⟨(out, ⟨pathOf (names o.to ++ (names y.path).drop (names o.path).length), y.kind, y.data, y.time⟩), by refine argRI ?_; simp [rdI], fun _ => hsm, ?_⟩
      repeat ((conv => whnf); refine ⟨_, w64 (by (show (_ : Prop)); first | omega | ((try dsimp only at *); (try simp only [lns] at *); omega)), ?_⟩)
      refine again (i + 1) ?_ ⟨h4, hany hy hst⟩ (by first | omega | (simp; done) | (simp; omega))
      rw [hnext hy, hmp]
      (refine ⟨?_, ?_, rfl⟩ <;> repeat' (first | exact rfl | exact trivial | refine ⟨?_, ?_⟩ | fail) <;> (conv => whnf))
      all_goals simp [setCells]
    have h5 : withinP y.path o.path = false := h5
    have hmv := moved_out (o := o) h5
    skip
    refine ⟨(out, y), by refine argRI ?_; simp [rdI], fun _ => hsm, ?_⟩
    repeat ((conv => whnf); refine ⟨_, w64 (by (show (_ : Prop)); first | omega | ((try dsimp only at *); (try simp only [lns] at *); omega)), ?_⟩)
    refine again (i + 1) ?_ ⟨h4, hany hy hmv.2⟩ (by first | omega | (simp; done) | (simp; omega))
    rw [hnext hy, hmv.1]
    (refine ⟨?_, ?_, rfl⟩ <;> repeat' (first | exact rfl | exact trivial | refine ⟨?_, ?_⟩ | fail) <;> (conv => whnf))
    all_goals simp [setCells]
  · have h4 : i = t.length := by
      have : ¬ i < t.length := by simpa using h4
      omega
    subst h4
    rw [List.take_length] at hout hI
    have hr : tRen t o = (out, 0) := by rw [hren, hI, hout]; rfl
    rw [show c_spec_l14Rename.res (t, o) = .tup [.agg [.own 4 (out.map encI)], .int .i64 0] by show AV.tup [.agg [.own 4 ((tRen t o).1.map encI)], .int .i64 (tRen t o).2] = _; rw [hr]]
    skip
    exact ⟨trivial, ⟨⟨rfl, by simp⟩, trivial⟩, rfl, trivial⟩
theorem ok_spec_l14Rename : ConOk Tryz.prog 102 c_spec_l14Rename := meets_ok (tabT _ _) (FOk.cons ok_spec_TreeGet (FOk.cons ok_spec_Within (FOk.cons ok_spec_l14Copy (FOk.cons ok_spec_l10Put (FOk.cons ok_spec_Above (FOk.cons ok_spec_Names (FOk.cons ok_spec_PathOf (FOk.cons ok_spec_l14Dir FOk.nil)))))))) mixed Tryz.func102 rfl Tryz.call102 (by decide) (by kernel_rfl) m_spec_l14Rename (by intro _ (y : (Tr × OpR)) _; exact ⟨by simp [c_spec_l14Rename, con, conG, conW, AV.noRd, noRdCells, noRdRows, noRdRows_map', encS, encI, encO], by simp [c_spec_l14Rename, con, conG, conW, AV.noRd, noRdCells, noRdRows, noRdRows_map', encS, encI, encO]⟩) (by intro (y : (Tr × OpR)) _; first | (simp [c_spec_l14Rename, con, conG, conW, conP, AV.free, freeCells, freeRows, freeRows_map, encS, rdT, encI, encO]; done) | (obtain ⟨_, _⟩ := y; simp [c_spec_l14Rename, con, conG, conW, conP, AV.free, freeCells, freeRows, freeRows_map, encS, rdT, encI, encO]; done) | (obtain ⟨_, _, _⟩ := y; simp [c_spec_l14Rename, con, conG, conW, conP, AV.free, freeCells, freeRows, freeRows_map, encS, rdT, encI, encO]; done))
end Go.GH

set_option linter.unusedVariables false
set_option linter.unusedSimpArgs false
namespace Go.GH
open Go Go.Proofs
noncomputable def c_spec_TreeDo : PCon := con [mS 4, .rd [none, none, none, none, none, none]] false (Tr × OpR) (fun ⟨t, o⟩ => [rdT t, .agg (encO o)]) (fun x => smT x.1 ∧ smO x.2) (fun x => .tup [.agg [.own 4 ((treeDo x.1 x.2).1.map encI)], .int .i64 (treeDo x.1 x.2).2])
noncomputable def E_spec_TreeDo : Env := ⟨lookup tyTab, lookup [(38, c_spec_TreeOk), (46, c_spec_Within), (54, c_spec_l14Copy), (75, c_spec_PathOk), (98, c_spec_OpOk), (99, c_spec_l14New), (100, c_spec_l14Change), (101, c_spec_l14Remove), (102, c_spec_l14Rename)], [0, 1, 2, 3, 4, 5, 13, 24, 28, 29, 38, 47, 70]⟩
set_option maxRecDepth 100000 in
set_option maxHeartbeats 4000000 in
theorem m_spec_TreeDo : Meets E_spec_TreeDo (codeOf Tryz.f55) Tryz.f55.results.toList c_spec_TreeDo := by
  rintro ⟨t, o⟩ hs
  obtain ⟨hs1, hs2⟩ : smT t ∧ smO o := hs
  have ho1 := hs2.1
  have ho2 := hs2.2.1
  refine ⟨trivial, ?_⟩
  skip
  refine ⟨t, rfl, fun _ => hs1, ?_⟩
  repeat ((conv => whnf); refine ⟨fun h => h, ?_⟩)
  refine ⟨o, rfl, fun _ => trivial, ?_⟩
  repeat ((conv => whnf); refine ⟨fun h => h, ?_⟩)
  (conv => whnf); refine ⟨fun h1 => ?_, fun h1 => ?_⟩
  · have h1 : (!treeOk t || !numsOk o) = true := h1
    have hr : treeDo t o = (t, 10) := by rw [treeDo, if_pos h1]
    skip
    refine ⟨t, rfl, fun _ => hs1, ?_⟩
    rw [show c_spec_TreeDo.res (t, o) = .tup [.agg [.own 4 (t.map encI)], .int .i64 10] by show AV.tup [.agg [.own 4 ((treeDo t o).1.map encI)], .int .i64 (treeDo t o).2] = _; rw [hr]]
    skip
    exact ⟨trivial, ⟨⟨rfl, by simp⟩, trivial⟩, rfl, trivial⟩
  have h1 : (!treeOk t || !numsOk o) = false := h1
  skip
  refine ⟨o.path, rfl, fun _ => by show o.path.length ≤ _; omega, ?_⟩
  repeat ((conv => whnf); refine ⟨fun h => h, ?_⟩)
  (conv => whnf); refine ⟨fun h2 => ?_, fun h2 => ?_⟩
  · have h2 : badP o.path = true := h2
    have hr : treeDo t o = (t, 1) := by rw [treeDo, if_neg (by rw [h1]; decide), if_pos h2]
    skip
    refine ⟨t, rfl, fun _ => hs1, ?_⟩
    rw [show c_spec_TreeDo.res (t, o) = .tup [.agg [.own 4 (t.map encI)], .int .i64 1] by show AV.tup [.agg [.own 4 ((treeDo t o).1.map encI)], .int .i64 (treeDo t o).2] = _; rw [hr]]
    skip
    exact ⟨trivial, ⟨⟨rfl, by simp⟩, trivial⟩, rfl, trivial⟩
  have h2 : badP o.path = false := h2
  have hd : treeDo t o = if o.kind == 0 || o.kind == 1 || o.kind == 2 then tNew t o
    else if o.kind == 3 || o.kind == 4 || o.kind == 5 then tSet t o
    else if o.kind == 6 || o.kind == 7 then tDrop t o
    else if badP o.to || withinP o.to o.path then (t, 1)
    else tRen t o := by rw [treeDo, if_neg (by rw [h1]; decide), if_neg (by rw [h2]; decide)]
  conv => whnf
  (conv => whnf); refine ⟨fun k0 => ?_, fun k0 => ?_⟩
  · have k0 : (o.kind == 0) = true := k0
    have hr : treeDo t o = tNew t o := by rw [hd, k0]; rfl
    (conv => whnf); refine ⟨fun _ => ?_, fun h => Bool.noConfusion (Eq.trans (Eq.symm k0) h)⟩
    skip
    refine ⟨(t, o), rfl, fun _ => ⟨hs1, hs2⟩, ?_⟩
    rw [show c_spec_TreeDo.res (t, o) = .tup [.agg [.own 4 ((tNew t o).1.map encI)], .int .i64 (tNew t o).2] by show AV.tup [.agg [.own 4 ((treeDo t o).1.map encI)], .int .i64 (treeDo t o).2] = _; rw [hr]]
    skip
    exact ⟨trivial, ⟨⟨rfl, by simp⟩, trivial⟩, rfl, trivial⟩
  have k0 : (o.kind == 0) = false := k0
  conv => whnf
  (conv => whnf); refine ⟨fun k1 => ?_, fun k1 => ?_⟩
  · have k1 : (o.kind == 1) = true := k1
    have hr : treeDo t o = tNew t o := by rw [hd, k1, k0]; rfl
    (conv => whnf); refine ⟨fun _ => ?_, fun h => Bool.noConfusion (Eq.trans (Eq.symm k1) h)⟩
    skip
    refine ⟨(t, o), rfl, fun _ => ⟨hs1, hs2⟩, ?_⟩
    rw [show c_spec_TreeDo.res (t, o) = .tup [.agg [.own 4 ((tNew t o).1.map encI)], .int .i64 (tNew t o).2] by show AV.tup [.agg [.own 4 ((treeDo t o).1.map encI)], .int .i64 (treeDo t o).2] = _; rw [hr]]
    skip
    exact ⟨trivial, ⟨⟨rfl, by simp⟩, trivial⟩, rfl, trivial⟩
  have k1 : (o.kind == 1) = false := k1
  conv => whnf
  (conv => whnf); refine ⟨fun k2 => ?_, fun k2 => ?_⟩
  · have k2 : (o.kind == 2) = true := k2
    have hr : treeDo t o = tNew t o := by rw [hd, k2, k1, k0]; rfl
    skip
    refine ⟨(t, o), rfl, fun _ => ⟨hs1, hs2⟩, ?_⟩
    rw [show c_spec_TreeDo.res (t, o) = .tup [.agg [.own 4 ((tNew t o).1.map encI)], .int .i64 (tNew t o).2] by show AV.tup [.agg [.own 4 ((treeDo t o).1.map encI)], .int .i64 (treeDo t o).2] = _; rw [hr]]
    skip
    exact ⟨trivial, ⟨⟨rfl, by simp⟩, trivial⟩, rfl, trivial⟩
  have k2 : (o.kind == 2) = false := k2
  have hd2 := hd
  rw [k0, k1, k2] at hd2
  conv => whnf
  (conv => whnf); refine ⟨fun k3 => ?_, fun k3 => ?_⟩
  · have k3 : (o.kind == 3) = true := k3
    have hr : treeDo t o = tSet t o := by rw [hd2, k3]; rfl
    (conv => whnf); refine ⟨fun _ => ?_, fun h => Bool.noConfusion (Eq.trans (Eq.symm k3) h)⟩
    skip
    refine ⟨(t, o), rfl, fun _ => ⟨hs1, hs2, h2⟩, ?_⟩
    rw [show c_spec_TreeDo.res (t, o) = .tup [.agg [.own 4 ((tSet t o).1.map encI)], .int .i64 (tSet t o).2] by show AV.tup [.agg [.own 4 ((treeDo t o).1.map encI)], .int .i64 (treeDo t o).2] = _; rw [hr]]
    skip
    exact ⟨trivial, ⟨⟨rfl, by simp⟩, trivial⟩, rfl, trivial⟩
  have k3 : (o.kind == 3) = false := k3
  conv => whnf
  (conv => whnf); refine ⟨fun k4 => ?_, fun k4 => ?_⟩
  · have k4 : (o.kind == 4) = true := k4
    have hr : treeDo t o = tSet t o := by rw [hd2, k4, k3]; rfl
    (conv => whnf); refine ⟨fun _ => ?_, fun h => Bool.noConfusion (Eq.trans (Eq.symm k4) h)⟩
    skip
    refine ⟨(t, o), rfl, fun _ => ⟨hs1, hs2, h2⟩, ?_⟩
    rw [show c_spec_TreeDo.res (t, o) = .tup [.agg [.own 4 ((tSet t o).1.map encI)], .int .i64 (tSet t o).2] by show AV.tup [.agg [.own 4 ((treeDo t o).1.map encI)], .int .i64 (treeDo t o).2] = _; rw [hr]]
    skip
    exact ⟨trivial, ⟨⟨rfl, by simp⟩, trivial⟩, rfl, trivial⟩
  have k4 : (o.kind == 4) = false := k4
  conv => whnf
  (conv => whnf); refine ⟨fun k5 => ?_, fun k5 => ?_⟩
  · have k5 : (o.kind == 5) = true := k5
    have hr : treeDo t o = tSet t o := by rw [hd2, k5, k4, k3]; rfl
    skip
    refine ⟨(t, o), rfl, fun _ => ⟨hs1, hs2, h2⟩, ?_⟩
    rw [show c_spec_TreeDo.res (t, o) = .tup [.agg [.own 4 ((tSet t o).1.map encI)], .int .i64 (tSet t o).2] by show AV.tup [.agg [.own 4 ((treeDo t o).1.map encI)], .int .i64 (treeDo t o).2] = _; rw [hr]]
    skip
    exact ⟨trivial, ⟨⟨rfl, by simp⟩, trivial⟩, rfl, trivial⟩
  have k5 : (o.kind == 5) = false := k5
  rw [k3, k4, k5] at hd2
  conv => whnf
  (conv => whnf); refine ⟨fun k6 => ?_, fun k6 => ?_⟩
  · have k6 : (o.kind == 6) = true := k6
    have hr : treeDo t o = tDrop t o := by rw [hd2, k6]; rfl
    (conv => whnf); refine ⟨fun _ => ?_, fun h => Bool.noConfusion (Eq.trans (Eq.symm k6) h)⟩
    skip
    refine ⟨(t, o), rfl, fun _ => ⟨hs1, hs2⟩, ?_⟩
    rw [show c_spec_TreeDo.res (t, o) = .tup [.agg [.own 4 ((tDrop t o).1.map encI)], .int .i64 (tDrop t o).2] by show AV.tup [.agg [.own 4 ((treeDo t o).1.map encI)], .int .i64 (treeDo t o).2] = _; rw [hr]]
    skip
    exact ⟨trivial, ⟨⟨rfl, by simp⟩, trivial⟩, rfl, trivial⟩
  have k6 : (o.kind == 6) = false := k6
  conv => whnf
  (conv => whnf); refine ⟨fun k7 => ?_, fun k7 => ?_⟩
  · have k7 : (o.kind == 7) = true := k7
    have hr : treeDo t o = tDrop t o := by rw [hd2, k7, k6]; rfl
    skip
    refine ⟨(t, o), rfl, fun _ => ⟨hs1, hs2⟩, ?_⟩
    rw [show c_spec_TreeDo.res (t, o) = .tup [.agg [.own 4 ((tDrop t o).1.map encI)], .int .i64 (tDrop t o).2] by show AV.tup [.agg [.own 4 ((treeDo t o).1.map encI)], .int .i64 (treeDo t o).2] = _; rw [hr]]
    skip
    exact ⟨trivial, ⟨⟨rfl, by simp⟩, trivial⟩, rfl, trivial⟩
  have k7 : (o.kind == 7) = false := k7
  rw [k6, k7] at hd2
  have hd2 : treeDo t o = if badP o.to || withinP o.to o.path then (t, 1) else tRen t o := hd2
  skip
  refine ⟨o.to, rfl, fun _ => by show o.to.length ≤ _; omega, ?_⟩
  repeat ((conv => whnf); refine ⟨fun h => h, ?_⟩)
  refine ⟨(o.to, o.path), rfl, fun _ => ⟨by show o.to.length ≤ _; omega, by show o.path.length ≤ _; omega⟩, ?_⟩
  repeat ((conv => whnf); refine ⟨fun h => h, ?_⟩)
  (conv => whnf); refine ⟨fun h3 => ?_, fun h3 => ?_⟩
  · have h3 : (badP o.to || withinP o.to o.path) = true := h3
    have hr : treeDo t o = (t, 1) := by rw [hd2, if_pos h3]
    skip
    refine ⟨t, rfl, fun _ => hs1, ?_⟩
    rw [show c_spec_TreeDo.res (t, o) = .tup [.agg [.own 4 (t.map encI)], .int .i64 1] by show AV.tup [.agg [.own 4 ((treeDo t o).1.map encI)], .int .i64 (treeDo t o).2] = _; rw [hr]]
    skip
    exact ⟨trivial, ⟨⟨rfl, by simp⟩, trivial⟩, rfl, trivial⟩
  have h3 : (badP o.to || withinP o.to o.path) = false := h3
  have hr : treeDo t o = tRen t o := by rw [hd2, if_neg (by rw [h3]; decide)]
  skip
  refine ⟨(t, o), rfl, fun _ => ⟨hs1, hs2, h2⟩, ?_⟩
  rw [show c_spec_TreeDo.res (t, o) = .tup [.agg [.own 4 ((tRen t o).1.map encI)], .int .i64 (tRen t o).2] by show AV.tup [.agg [.own 4 ((treeDo t o).1.map encI)], .int .i64 (treeDo t o).2] = _; rw [hr]]
  skip
  exact ⟨trivial, ⟨⟨rfl, by simp⟩, trivial⟩, rfl, trivial⟩
theorem ok_spec_TreeDo : ConOk Tryz.prog 55 c_spec_TreeDo := meets_ok (tabT _ _) (FOk.cons ok_spec_TreeOk (FOk.cons ok_spec_Within (FOk.cons ok_spec_l14Copy (FOk.cons ok_spec_PathOk (FOk.cons ok_spec_OpOk (FOk.cons ok_spec_l14New (FOk.cons ok_spec_l14Change (FOk.cons ok_spec_l14Remove (FOk.cons ok_spec_l14Rename FOk.nil))))))))) mixed Tryz.func55 rfl Tryz.call55 (by decide) (by kernel_rfl) m_spec_TreeDo (by intro _ (y : (Tr × OpR)) _; exact ⟨by simp [c_spec_TreeDo, con, conG, conW, AV.noRd, noRdCells, noRdRows, noRdRows_map', encS, encI, encO], by simp [c_spec_TreeDo, con, conG, conW, AV.noRd, noRdCells, noRdRows, noRdRows_map', encS, encI, encO]⟩) (by intro (y : (Tr × OpR)) _; first | (simp [c_spec_TreeDo, con, conG, conW, conP, AV.free, freeCells, freeRows, freeRows_map, encS, rdT, encI, encO]; done) | (obtain ⟨_, _⟩ := y; simp [c_spec_TreeDo, con, conG, conW, conP, AV.free, freeCells, freeRows, freeRows_map, encS, rdT, encI, encO]; done) | (obtain ⟨_, _, _⟩ := y; simp [c_spec_TreeDo, con, conG, conW, conP, AV.free, freeCells, freeRows, freeRows_map, encS, rdT, encI, encO]; done))
end Go.GH

set_option linter.unusedVariables false
set_option linter.unusedSimpArgs false
namespace Go.GH
open Go
def pickI (c : Cur) (l : List Int) : Int := l.getD (belX c l.length).toNat 0
def pickS (c : Cur) (l : List Str) : Str := l.getD (belX c l.length).toNat []
def encN (n : Int) : List AV := [.int .i64 n]
theorem pickI_get {c : Cur} {l : List Int} (h : 0 < l.length) : l[(belX c l.length).toNat]? = some (pickI c l) := by
  have := belX_le c l.length
  have := this.2 (by omega)
  rw [pickI, List.getD_eq_getElem?_getD, List.getElem?_eq_getElem (by omega)]; rfl
theorem pickS_get {c : Cur} {l : List Str} (h : 0 < l.length) : l[(belX c l.length).toNat]? = some (pickS c l) := by
  have := belX_le c l.length
  have := this.2 (by omega)
  rw [pickS, List.getD_eq_getElem?_getD, List.getElem?_eq_getElem (by omega)]; rfl
theorem pickI_mem {c : Cur} {l : List Int} (h : 0 < l.length) : pickI c l ∈ l := List.mem_of_getElem? (pickI_get h)
theorem pickS_mem {c : Cur} {l : List Str} (h : 0 < l.length) : pickS c l ∈ l := List.mem_of_getElem? (pickS_get h)
theorem pickS_len {c : Cur} {l : List Str} (h : 0 < l.length) {k : Nat} (hk : (l.all fun s => decide (s.length ≤ k)) = true) : (pickS c l).length ≤ k := by
  have := List.all_eq_true.1 hk _ (pickS_mem (c := c) h)
  simpa using this
def badPaths : List Str := [[], [47], [97], [47, 65], [47, 97, 47], [47, 47], [47, 116, 111, 111, 108, 111, 110, 103], [47, 97, 47, 98, 47, 99, 47, 100, 47, 101], [47, 97, 47, 98, 47, 99, 47, 100], [47, 97, 32, 98], [47, 126, 48], [47, 97, 47, 46, 46]]
def goodPaths : List Str := [[47, 97], [47, 98], [47, 97, 47, 120], [47, 97, 47, 121], [47, 98, 47, 120], [47, 99], [47, 97, 47, 120, 47, 122], [47, 100], [47, 97, 47, 98], [47, 101, 47, 102]]
def pathX (c : Cur) : Str := if belX c 12 = 0 then pickS (belN c 12) badPaths else pickS (belN c 12) goodPaths
def pathN (c : Cur) : Cur := if belX c 12 = 0 then belN (belN c 12) 12 else belN (belN c 12) 10
theorem pathX_len (c : Cur) : (pathX c).length ≤ 20 := by
  unfold pathX
  split
  · exact pickS_len (by decide) (by decide)
  · exact pickS_len (by decide) (by decide)
theorem pathN_ok {c : Cur} (h : curOk c) : curOk (pathN c) := by
  unfold pathN
  split
  · exact belN_ok (belN_ok h)
  · exact belN_ok (belN_ok h)
def txtLens : List Int := [0, 1, 5, 15, 16, 17, 33, 64, 80, 81]
def txtGo : Nat → Nat → Cur → Str → Str × Cur
  | 0, i, c, s => (s, c)
  | k + 1, i, c, s => txtGo k (i + 1) (belN c 2) (s ++ [UInt8.ofNat (97 + (i + (belX c 2).toNat) % 26)])
def txtN (c : Cur) : Nat := (pickI c txtLens).toNat
def txtX (c : Cur) : Str := (txtGo (txtN c) 0 (belN c 10) []).1
def txtC (c : Cur) : Cur := (txtGo (txtN c) 0 (belN c 10) []).2
theorem txtGo_len : ∀ (k i : Nat) (c : Cur) (s : Str), (txtGo k i c s).1.length = s.length + k
  | 0, i, c, s => rfl
  | k + 1, i, c, s => by rw [txtGo, txtGo_len k]; simp; omega
theorem txtGo_ok : ∀ (k i : Nat) {c : Cur} (s : Str), curOk c → curOk (txtGo k i c s).2
  | 0, i, c, s, h => h
  | k + 1, i, c, s, h => by rw [txtGo]; exact txtGo_ok k _ _ (belN_ok h)
theorem txt_pick (c : Cur) : 0 ≤ pickI c txtLens ∧ pickI c txtLens ≤ 81 := by
  have h := pickI_mem (c := c) (l := txtLens) (by decide)
  have : (txtLens.all fun n => decide (0 ≤ n) && decide (n ≤ 81)) = true := by decide
  have := List.all_eq_true.1 this _ h
  simpa using this
theorem txtX_len (c : Cur) : (txtX c).length ≤ 81 := by
  have := txt_pick c
  rw [txtX, txtGo_len, txtN]
  simp; omega
theorem txtC_ok {c : Cur} (h : curOk c) : curOk (txtC c) := txtGo_ok _ _ _ (belN_ok h)
def kinds : List Int := [0, 1, 1, 1, 2, 3, 3, 3, 4, 5, 6, 7, 8, 8]
def ats1 : List Int := [0, 1, 10, 16, 40, 79]
def ats2 : List Int := [0, 1, 16, 50, 80, 81]
def datas : List Str := [[], [65], [66, 67, 68], [48, 49, 50, 51, 52, 53, 54, 55, 56, 57, 97, 98, 99, 100, 101, 102, 88, 89]]
def opX2 (k : Int) (p : Str) (t : Int) (c : Cur) : OpR :=
  if k = 8 then ⟨k, p, pathX c, 0, [], t⟩ else if k = 3 then ⟨k, p, [], pickI c ats1, pickS (belN c 6) datas, t⟩ else if k = 4 then ⟨k, p, [], pickI c ats2, [], t⟩ else ⟨k, p, [], 0, txtX c, t⟩
def opN2 (k : Int) (c : Cur) : Cur := if k = 8 then pathN c else if k = 3 then belN (belN c 6) 4 else if k = 4 then belN c 6 else txtC c
def opC (c : Cur) : Cur := belN (pathN (belN c 14)) 9
def opX (c : Cur) : OpR := opX2 (pickI c kinds) (pathX (belN c 14)) (belX (pathN (belN c 14)) 9) (opC c)
def opN (c : Cur) : Cur := opN2 (pickI c kinds) (opC c)
def smD (o : OpR) : Prop := o.path.length ≤ 100 ∧ o.to.length ≤ 100 ∧ o.data.length ≤ 100
theorem opC_ok {c : Cur} (h : curOk c) : curOk (opC c) := belN_ok (pathN_ok (belN_ok h))
theorem opN_ok {c : Cur} (h : curOk c) : curOk (opN c) := by
  have h := opC_ok h
  unfold opN opN2
  split
  · exact pathN_ok h
  · split
    · exact belN_ok (belN_ok h)
    · split
      · exact belN_ok h
      · exact txtC_ok h
theorem opX_sm (c : Cur) : smD (opX c) := by
  have h1 := pathX_len (belN c 14)
  have h2 := pathX_len (opC c)
  have h3 := txtX_len (opC c)
  have h4 : (pickS (belN (opC c) 6) datas).length ≤ 100 := pickS_len (by decide) (by decide)
  unfold opX opX2 smD
  split
  · exact ⟨by show (pathX _).length ≤ _; omega, by show (pathX _).length ≤ _; omega, by simp⟩
  · split
    · exact ⟨by show (pathX _).length ≤ _; omega, by simp, h4⟩
    · split
      · exact ⟨by show (pathX _).length ≤ _; omega, by simp, by simp⟩
      · exact ⟨by show (pathX _).length ≤ _; omega, by simp, by show (txtX _).length ≤ _; omega⟩
def bentX (c : Cur) : OpR :=
  if belX (opN c) 14 = 0 then { opX c with kind := pickI (belN (opN c) 14) [-1, 9] } else if belX (opN c) 14 = 1 then { opX c with at_ := pickI (belN (opN c) 14) [-1, 1000, 1001, 9223372036854775807] }
  else if belX (opN c) 14 = 2 then { opX c with time := pickI (belN (opN c) 14) [-1, 100001] } else opX c
def bentN (c : Cur) : Cur := if belX (opN c) 14 = 0 then belN (belN (opN c) 14) 2 else if belX (opN c) 14 = 1 then belN (belN (opN c) 14) 4 else if belX (opN c) 14 = 2 then belN (belN (opN c) 14) 2 else belN (opN c) 14
theorem bentX_sm (c : Cur) : smD (bentX c) := by
  have h := opX_sm c
  unfold bentX
  repeat' split
  all_goals exact h
theorem bentN_ok {c : Cur} (h : curOk c) : curOk (bentN c) := by
  have h := opN_ok h
  unfold bentN
  repeat' split
  all_goals first | exact belN_ok (belN_ok h) | exact belN_ok h
def tos : List Str := [[], [47], [120, 32, 121], [47, 98]]
def bent6X (c : Cur) : OpR := if belX (bentN c) 8 = 0 then { bentX c with «to» := pickS (belN (bentN c) 8) tos } else bentX c
def bent6N (c : Cur) : Cur := if belX (bentN c) 8 = 0 then belN (belN (bentN c) 8) 4 else belN (bentN c) 8
theorem bent6X_sm (c : Cur) : smD (bent6X c) := by
  have h := bentX_sm c
  unfold bent6X
  split
  · exact ⟨h.1, pickS_len (by decide) (by decide), h.2.2⟩
  · exact h
theorem bent6N_ok {c : Cur} (h : curOk c) : curOk (bent6N c) := by
  have h := bentN_ok h
  unfold bent6N
  split
  · exact belN_ok (belN_ok h)
  · exact belN_ok h
def opsGo : Nat → Cur → List OpR → List OpR × Cur
  | 0, c, l => (l, c)
  | k + 1, c, l => opsGo k (opN c) (l ++ [opX c])
theorem opsGo_len : ∀ (k : Nat) (c : Cur) (l : List OpR), (opsGo k c l).1.length = l.length + k
  | 0, c, l => rfl
  | k + 1, c, l => by rw [opsGo, opsGo_len k]; simp; omega
theorem opsGo_ok : ∀ (k : Nat) {c : Cur} (l : List OpR), curOk c → curOk (opsGo k c l).2
  | 0, c, l, h => h
  | k + 1, c, l, h => by rw [opsGo]; exact opsGo_ok k _ (opN_ok h)
theorem opsGo_sm : ∀ (k : Nat) (c : Cur) {l : List OpR}, (∀ o, o ∈ l → smD o) → ∀ o, o ∈ (opsGo k c l).1 → smD o
  | 0, c, l, h => h
  | k + 1, c, l, h => by
    rw [opsGo]
    refine opsGo_sm k _ fun o ho => ?_
    rcases List.mem_append.1 ho with ho | ho
    · exact h o ho
    · have : o = opX c := by simpa using ho
      rw [this]; exact opX_sm c
theorem leO {k a m : Int} {p t d : Str} {o : OpR} (h : o = ⟨k, p, t, a, d, m⟩) : leVal (.agg [.int .i64 k, .str p, .str t, .int .i64 a, .str d, .int .i64 m]) (.agg (encO o)) := by
  subst h; exact ⟨rfl, rfl, rfl, rfl, rfl, rfl, trivial⟩
end Go.GH

set_option linter.unusedVariables false
set_option linter.unusedSimpArgs false
namespace Go.GH
open Go Go.Proofs
noncomputable def c_spec_TreeDoAll : PCon := con [mS 4, mS 6] false (Tr × List OpR) (fun ⟨t, l⟩ => [rdT t, .rd 6 (l.map encO)]) (fun x => smT x.1 ∧ smOL x.2) (fun x => .tup [.agg [.own 4 ((doAll x.1 x.2).1.map encI)], .own 1 ((doAll x.1 x.2).2.map encN)])
noncomputable def E_spec_TreeDoAll : Env := ⟨lookup tyTab, lookup [(54, c_spec_l14Copy), (55, c_spec_TreeDo)], [0, 1, 2, 4, 5, 6, 7, 8, 9, 10, 17]⟩
set_option maxRecDepth 100000 in
set_option maxHeartbeats 4000000 in
theorem m_spec_TreeDoAll : Meets E_spec_TreeDoAll (codeOf Tryz.f17) Tryz.f17.results.toList c_spec_TreeDoAll := by
  rintro ⟨t, l⟩ hs
  obtain ⟨hs1, hs2⟩ : smT t ∧ smOL l := hs
  have hl1 := hs2.1
  refine ⟨trivial, ?_⟩
  skip
  refine ⟨t, rfl, fun _ => hs1, ?_⟩
  skip
  refine loop_rule (fun i : Nat => ⟨[(1, ⟨none, .rd 6 (l.map encO)⟩), (4, ⟨none, .bx 1 0⟩), (6, ⟨none, .bx 2 0⟩), (7, ⟨none, .view 3 [] 0 (doAll t (l.take i)).2.length⟩), (8, ⟨none, .int .i64 i⟩)], [(3, .own 1 ((doAll t (l.take i)).2.map encN)), (2, .own 1 [[.own 4 ((doAll t (l.take i)).1.map encI)]]), (1, .own 1 [[.own 4 []]])], 4⟩)
    (fun i => i ≤ l.length) (fun i => l.length - i) 0 ?_ (by omega) ?_
  · (refine ⟨?_, ?_, rfl⟩ <;> repeat' (first | exact rfl | exact trivial | refine ⟨?_, ?_⟩ | fail) <;> (conv => whnf))
    all_goals simp [setCells, doAll]
  intro i hi
  have hi : i ≤ l.length := hi
  obtain ⟨hsm, hln⟩ := doAll_sm hs1 hs2 i hi
  have hnext : ∀ {o : OpR}, l[i]? = some o → doAll t (l.take (i + 1)) = doStep (doAll t (l.take i)) o := fun h => doAll_take h
  generalize hout : doAll t (l.take i) = out at hsm hln hnext ⊢
  obtain ⟨out, cs⟩ := out
  have hsm : smT out := hsm
  have hln : cs.length = i := hln
  (conv => whnf); refine ⟨fun h2 => ?_, fun h2 => ?_⟩
  · have h2 : i < l.length := by simpa using h2
    obtain ⟨o, ho⟩ := get_lt h2
    have hso := hs2.2 o (List.mem_of_getElem? ho)
    repeat ((conv => whnf); refine ⟨encO o, fun _ => ⟨by omega, get_map ho⟩, ?_⟩)
    refine ⟨(out, o), by refine congrArg (fun x => [AV.agg [AV.rd 4 x], AV.agg (encO o)]) ?_; simp [rdI], fun _ => ⟨hsm, hso⟩, ?_⟩
    repeat ((conv => whnf); first | refine ⟨(by kernel_rfl : drawOk _ _ = true), ?_⟩ | refine ⟨_, w64 (by (show (_ : Prop)); first | omega | ((try dsimp only at *); (try simp only [lns] at *); omega)), ?_⟩ | refine ⟨by (show (_ : Prop)); first | omega | ((try dsimp only at *); (try simp only [lns] at *); omega), ?_⟩ | refine ⟨fun (r : List AV) hr c hc => by simp [encS] at hr; (try subst hr); simp at hc; (try subst hc); rfl, ?_⟩)
    refine again (i + 1) ?_ h2 (by first | omega | (simp; done) | (simp; omega))
    rw [hnext ho]
    (refine ⟨?_, ?_, rfl⟩ <;> repeat' (first | exact rfl | exact trivial | refine ⟨?_, ?_⟩ | fail) <;> (conv => whnf))
    · show _ + 1 = (cs ++ [_]).length
      simp
    · show _ ++ _ = (cs ++ [(treeDo out o).2]).map encN
      simp [encN]
    · show [[AV.own 4 _]] = [[AV.own 4 ((treeDo out o).1.map encI)]]
      simp
  · have h2 : i = l.length := by
      have : ¬ i < l.length := by simpa using h2
      omega
    subst h2
    rw [List.take_length] at hout
    rw [show c_spec_TreeDoAll.res (t, l) = .tup [.agg [.own 4 (out.map encI)], .own 1 (cs.map encN)] by show AV.tup [.agg [.own 4 ((doAll t l).1.map encI)], .own 1 ((doAll t l).2.map encN)] = _; rw [hout]]
    skip
    exact ⟨trivial, ⟨⟨rfl, by simp⟩, trivial⟩, eqOwn (by (try simp only [List.drop_zero, List.take_length, take_app]); simp), trivial⟩
theorem ok_spec_TreeDoAll : ConOk Tryz.prog 17 c_spec_TreeDoAll := meets_ok (tabT _ _) (FOk.cons ok_spec_l14Copy (FOk.cons ok_spec_TreeDo FOk.nil)) mixed Tryz.func17 rfl Tryz.call17 (by decide) (by kernel_rfl) m_spec_TreeDoAll (by intro _ (y : (Tr × List OpR)) _; exact ⟨by simp [c_spec_TreeDoAll, con, conG, conW, AV.noRd, noRdCells, noRdRows, noRdRows_map', encS, encI, encO, encN], by simp [c_spec_TreeDoAll, con, conG, conW, AV.noRd, noRdCells, noRdRows, noRdRows_map', encS, encI, encO, encN]⟩) (by intro (y : (Tr × List OpR)) _; first | (simp [c_spec_TreeDoAll, con, conG, conW, conP, AV.free, freeCells, freeRows, freeRows_map, encS, rdT, encI, encO, encN]; done) | (obtain ⟨_, _⟩ := y; simp [c_spec_TreeDoAll, con, conG, conW, conP, AV.free, freeCells, freeRows, freeRows_map, encS, rdT, encI, encO, encN]; done) | (obtain ⟨_, _, _⟩ := y; simp [c_spec_TreeDoAll, con, conG, conW, conP, AV.free, freeCells, freeRows, freeRows_map, encS, rdT, encI, encO, encN]; done))
end Go.GH

set_option linter.unusedVariables false
set_option linter.unusedSimpArgs false
namespace Go.GH
open Go Go.Proofs
noncomputable def c_impl_TreeDo_1 : PCon := con [mC] true Str encS (fun s => sml s.length) (fun s => .bool (badP s))
noncomputable def E_impl_TreeDo_1 : Env := ⟨lookup tyTab, lookup [(83, c_impl_PathOk)], [0, 2]⟩
set_option maxRecDepth 100000 in
set_option maxHeartbeats 4000000 in
theorem m_impl_TreeDo_1 : Meets E_impl_TreeDo_1 (codeOf Tryz.f106) Tryz.f106.results.toList c_impl_TreeDo_1 := by
  intro (s : Str) hs
  refine ⟨trivial, ?_⟩
  conv => whnf
  refine ⟨s, rfl, fun _ => hs, ?_⟩
  repeat ((conv => whnf); refine ⟨fun h => h, ?_⟩)
  exact ⟨trivial, rfl⟩
theorem ok_impl_TreeDo_1 : ConOk Tryz.prog 106 c_impl_TreeDo_1 := meets_ok (tabT _ _) (FOk.cons ok_impl_PathOk FOk.nil) mixed Tryz.func106 rfl Tryz.call106 (by decide) (by kernel_rfl) m_impl_TreeDo_1 (by intro _ (y : Str) _; exact ⟨by simp [c_impl_TreeDo_1, con, conG, conW, AV.noRd, noRdCells, noRdRows, noRdRows_map', encS, encI, encO], by simp [c_impl_TreeDo_1, con, conG, conW, AV.noRd, noRdCells, noRdRows, noRdRows_map', encS, encI, encO]⟩) (by intro (y : Str) _; first | (simp [c_impl_TreeDo_1, con, conG, conW, conP, AV.free, freeCells, freeRows, freeRows_map, encS, encI, encO]; done) | (obtain ⟨_, _⟩ := y; simp [c_impl_TreeDo_1, con, conG, conW, conP, AV.free, freeCells, freeRows, freeRows_map, encS, encI, encO]; done) | (obtain ⟨_, _, _⟩ := y; simp [c_impl_TreeDo_1, con, conG, conW, conP, AV.free, freeCells, freeRows, freeRows_map, encS, encI, encO]; done))
def c_strings_Repeat : PCon := con [mC, mC] true (Str × Nat) (fun ⟨p, n⟩ => [.str p, .int .i64 n]) (fun x => x.1.length ≤ 1 ∧ x.2 ≤ 1000000) (fun x => .str (Lib.repeatL x.1 x.2))
theorem ok_strings_Repeat : ConOk Tryz.prog 176 c_strings_Repeat := by
  refine con_of_calls rfl (fun _ => rfl) (fun _ => rfl) (fun _ => rfl) (fun ⟨_, _⟩ _ => ⟨trivial, trivial, trivial⟩) Tryz.call176 ?_
  rintro ⟨l, n⟩ hpre y w args ρ hw hR hsz hs
  obtain ⟨hp1, hp2⟩ : l.length ≤ 1 ∧ n ≤ 1000000 := hpre
  have h0 := srep_str (hs 0 _ rfl)
  have h1 := srep_int (hs 1 _ rfl)
  have hsz : args.size = 2 := hsz
  have ha : args = #[.string (toB l), .int .i64 n] := by
    apply Array.ext
    · simp [hsz]
    · intro i hi1 hi2
      have : i = 0 ∨ i = 1 := by omega
      rcases this with rfl | rfl
      · rw [Array.getD_eq_getD_getElem?, Array.getElem?_eq_getElem hi1] at h0; simpa [bytesV, toB] using h0
      · rw [Array.getD_eq_getD_getElem?, Array.getElem?_eq_getElem hi1] at h1; simpa using h1
  rw [ha]
  refine (Tryz.strings_Repeat (toB l) n w (by omega) ?_).mono ?_
  · have : (toB l).size = l.length := by show l.toArray.size = _; simp
    rw [this]
    have := Nat.mul_le_mul hp1 hp2
    omega
  · rintro e w' ⟨rfl, hb⟩
    exact ⟨rfl, hb⟩
noncomputable def c_impl_Cut : PCon := con [mC, mC] true (Str × Int) (fun ⟨s, n⟩ => [.str s, .int .i64 n]) (fun x => x.1.length ≤ 16777216) (fun x => .str (cutT x.1 x.2))
noncomputable def E_impl_Cut : Env := ⟨lookup tyTab, lookup [(91, c_impl_within), (176, c_strings_Repeat)], [0, 1, 4, 7, 12]⟩
set_option maxRecDepth 100000 in
set_option maxHeartbeats 4000000 in
theorem m_impl_Cut : Meets E_impl_Cut (codeOf Tryz.f141) Tryz.f141.results.toList c_impl_Cut := by
  rintro ⟨s, n⟩ hs
  have hs : s.length ≤ 16777216 := hs
  refine ⟨trivial, ?_⟩
  conv => whnf
  refine ⟨(n, 0, 100000), rfl, fun _ => trivial, ?_⟩
  (conv => whnf); refine ⟨fun h1 => ?_, fun h1 => ?_⟩
  · have h1 : (!inB n 0 100000) = true := h1
    skip
    exact ⟨trivial, eqS (cut_bad (by simpa using h1)).symm⟩
  have h1 : (!inB n 0 100000) = false := h1
  have hb : inB n 0 100000 = true := by simpa using h1
  have hb2 := inB_iff.1 hb
  obtain ⟨k, rfl⟩ : ∃ k : Nat, n = k := ⟨n.toNat, by omega⟩
  (conv => whnf); refine ⟨fun h2 => ?_, fun h2 => ?_⟩
  · have h2 : s.length < k := by simpa using h2
    repeat ((conv => whnf); refine ⟨_, w64 (by (show (_ : Prop)); first | omega | ((try dsimp only at *); (try simp only [lns] at *); omega)), ?_⟩)
    refine ⟨([0], k - s.length), by show [AV.str [0], AV.int .i64 ((k : Int) - s.length)] = [AV.str [0], AV.int .i64 ((k - s.length : Nat) : Int)]; rw [Int.ofNat_sub (by omega)], fun _ => ⟨Nat.le_refl _, by show k - s.length ≤ _; omega⟩, ?_⟩
    rw [show c_strings_Repeat.res ([0], k - s.length) = .str (List.replicate (k - s.length) 0) from congrArg AV.str (rep_zero _)]
    repeat ((conv => whnf); refine ⟨by (show (_ : Prop)); first | omega | ((try dsimp only at *); (try simp only [lns] at *); omega), ?_⟩)
    exact ⟨trivial, eqS (cut_gt hb (by omega)).symm⟩
  have h2 : ¬ s.length < k := by simpa using h2
  repeat ((conv => whnf); refine ⟨fun _ => ⟨by (show (_ : Prop)); first | omega | ((try dsimp only at *); (try simp only [lns] at *); omega), by (show (_ : Prop)); first | omega | ((try dsimp only at *); (try simp only [lns] at *); omega), by (show (_ : Prop)); first | omega | ((try dsimp only at *); (try simp only [lns] at *); omega)⟩, ?_⟩)
  exact ⟨trivial, eqS (by show _ = cutT s k; rw [cut_le hb (by omega)]; simp)⟩
theorem ok_impl_Cut : ConOk Tryz.prog 141 c_impl_Cut := meets_ok (tabT _ _) (FOk.cons ok_impl_within (FOk.cons ok_strings_Repeat FOk.nil)) mixed Tryz.func141 rfl Tryz.call141 (by decide) (by kernel_rfl) m_impl_Cut (by intro _ (y : (Str × Int)) _; exact ⟨by simp [c_impl_Cut, con, conG, conW, AV.noRd, noRdCells, noRdRows, noRdRows_map', encS, encI, encO], by simp [c_impl_Cut, con, conG, conW, AV.noRd, noRdCells, noRdRows, noRdRows_map', encS, encI, encO]⟩) (by intro (y : (Str × Int)) _; first | (simp [c_impl_Cut, con, conG, conW, conP, AV.free, freeCells, freeRows, freeRows_map, encS, encI, encO]; done) | (obtain ⟨_, _⟩ := y; simp [c_impl_Cut, con, conG, conW, conP, AV.free, freeCells, freeRows, freeRows_map, encS, encI, encO]; done) | (obtain ⟨_, _, _⟩ := y; simp [c_impl_Cut, con, conG, conW, conP, AV.free, freeCells, freeRows, freeRows_map, encS, encI, encO]; done))
noncomputable def c_impl_Written : PCon := con [mC, mC, mC] true (Str × Int × Str) (fun ⟨s, n, d⟩ => [.str s, .int .i64 n, .str d]) (fun x => x.1.length ≤ 16777216 ∧ x.2.2.length ≤ 16777216) (fun x => .str (wrote x.1 x.2.1 x.2.2))
noncomputable def E_impl_Written : Env := ⟨lookup tyTab, lookup [(91, c_impl_within), (176, c_strings_Repeat)], [0, 1, 2, 6, 9, 14]⟩
set_option maxRecDepth 100000 in
set_option maxHeartbeats 4000000 in
theorem m_impl_Written : Meets E_impl_Written (codeOf Tryz.f140) Tryz.f140.results.toList c_impl_Written := by
  rintro ⟨s, n, d⟩ hs
  obtain ⟨hs, hd⟩ : s.length ≤ 16777216 ∧ d.length ≤ 16777216 := hs
  refine ⟨trivial, ?_⟩
  conv => whnf
  refine ⟨(n, 0, 100000), rfl, fun _ => trivial, ?_⟩
  (conv => whnf); refine ⟨fun h1 => ?_, fun h1 => ?_⟩
  · have h1 : (!inB n 0 100000) = true := h1
    skip
    exact ⟨trivial, eqS (wrote_bad (by simpa using h1)).symm⟩
  have h1 : (!inB n 0 100000) = false := h1
  have hb : inB n 0 100000 = true := by simpa using h1
  have hb2 := inB_iff.1 hb
  obtain ⟨k, rfl⟩ : ∃ k : Nat, n = k := ⟨n.toNat, by omega⟩
  (conv => whnf); refine ⟨fun h2 => ?_, fun h2 => ?_⟩
  · have h2 : s.length < k := by simpa using h2
    repeat ((conv => whnf); refine ⟨_, w64 (by (show (_ : Prop)); first | omega | ((try dsimp only at *); (try simp only [lns] at *); omega)), ?_⟩)
    refine ⟨([0], k - s.length), by show [AV.str [0], AV.int .i64 ((k : Int) - s.length)] = [AV.str [0], AV.int .i64 ((k - s.length : Nat) : Int)]; rw [Int.ofNat_sub (by omega)], fun _ => ⟨Nat.le_refl _, by show k - s.length ≤ _; omega⟩, ?_⟩
    have hrl : (s ++ Lib.repeatL [(0 : UInt8)] (k - s.length)).length = k := by rw [rep_zero]; simp; omega
    have hw : wrote s k d = s ++ List.replicate (k - s.length) 0 ++ d := wrote_ge hb (by omega)
    have hA : s.length + (Lib.repeatL [(0 : UInt8)] (k - s.length)).length ≤ 9223372036854775807 := by rw [← List.length_append, hrl]; omega
    have hB : (k : Int) ≤ ((s ++ Lib.repeatL [(0 : UInt8)] (k - s.length)).length : Nat) := by rw [hrl]; exact Int.le_refl _
    repeat ((conv => whnf); first | refine ⟨_, w64 (by (show (_ : Prop)); first | omega | ((try dsimp only at *); (try simp only [lns] at *); omega)), ?_⟩ | refine ⟨fun _ => ⟨by (show (_ : Prop)); first | omega | ((try dsimp only at *); (try simp only [lns] at *); omega), by (show (_ : Prop)); first | omega | ((try dsimp only at *); (try simp only [lns] at *); omega), by (show (_ : Prop)); first | omega | ((try dsimp only at *); (try simp only [lns] at *); omega)⟩, ?_⟩ | refine ⟨by (show (_ : Prop)); first | omega | ((try dsimp only at *); (try simp only [lns] at *); omega), ?_⟩)
    refine ⟨(k : Int), (show (if (((s ++ Lib.repeatL [(0 : UInt8)] (k - s.length)).length : Nat) : Int) ≤ k + d.length then (((s ++ Lib.repeatL [(0 : UInt8)] (k - s.length)).length : Nat) : Int) else k + d.length) = (k : Int) from by rw [hrl]; split <;> omega), ?_⟩
    repeat ((conv => whnf); first | refine ⟨(by kernel_rfl : drawOk _ _ = true), ?_⟩ | refine ⟨fun _ => ⟨by (show (_ : Prop)); first | omega | ((try dsimp only at *); (try simp only [lns] at *); omega), by (show (_ : Prop)); first | omega | ((try dsimp only at *); (try simp only [lns] at *); omega), by (show (_ : Prop)); first | omega | ((try dsimp only at *); (try simp only [lns] at *); omega)⟩, ?_⟩ | refine ⟨by (show (_ : Prop)); first | omega | ((try dsimp only at *); (try simp only [lns] at *); omega), ?_⟩)
    refine ⟨trivial, eqS ?_⟩
    rw [← rep_zero] at hw
    show List.take ((k : Int).toNat - (0 : Int).toNat) (List.drop (0 : Int).toNat (s ++ Lib.repeatL [0] (k - s.length))) ++ d ++ List.take ((((s ++ Lib.repeatL [0] (k - s.length)).length : Nat) : Int).toNat - (k : Int).toNat) (List.drop (k : Int).toNat (s ++ Lib.repeatL [0] (k - s.length))) = wrote s k d
    rw [hw]
    generalize s ++ Lib.repeatL [0] (k - s.length) = q at hrl ⊢
    rw [Int.toNat_natCast, Int.toNat_natCast, hrl, List.drop_eq_nil_of_le (Nat.le_of_eq hrl), show (0 : Int).toNat = 0 from rfl, List.drop_zero, Nat.sub_zero, List.take_of_length_le (Nat.le_of_eq hrl), List.take_nil, List.append_nil]
  have h2 : ¬ s.length < k := by simpa using h2
  repeat ((conv => whnf); first | refine ⟨_, w64 (by (show (_ : Prop)); first | omega | ((try dsimp only at *); (try simp only [lns] at *); omega)), ?_⟩ | refine ⟨fun _ => ⟨by (show (_ : Prop)); first | omega | ((try dsimp only at *); (try simp only [lns] at *); omega), by (show (_ : Prop)); first | omega | ((try dsimp only at *); (try simp only [lns] at *); omega), by (show (_ : Prop)); first | omega | ((try dsimp only at *); (try simp only [lns] at *); omega)⟩, ?_⟩ | refine ⟨by (show (_ : Prop)); first | omega | ((try dsimp only at *); (try simp only [lns] at *); omega), ?_⟩)
  refine ⟨((min s.length (k + d.length) : Nat) : Int), (show (if ((s.length : Nat) : Int) ≤ k + d.length then ((s.length : Nat) : Int) else k + d.length) = ((min s.length (k + d.length) : Nat) : Int) from by split <;> omega), ?_⟩
  repeat ((conv => whnf); first | refine ⟨(by kernel_rfl : drawOk _ _ = true), ?_⟩ | refine ⟨fun _ => ⟨by (show (_ : Prop)); first | omega | ((try dsimp only at *); (try simp only [lns] at *); omega), by (show (_ : Prop)); first | omega | ((try dsimp only at *); (try simp only [lns] at *); omega), by (show (_ : Prop)); first | omega | ((try dsimp only at *); (try simp only [lns] at *); omega)⟩, ?_⟩ | refine ⟨by (show (_ : Prop)); first | omega | ((try dsimp only at *); (try simp only [lns] at *); omega), ?_⟩)
  refine ⟨trivial, eqS ?_⟩
  show _ = wrote s k d
  rw [wrote_lt hb (by omega)]
  show List.take ((k : Int).toNat - (0 : Int).toNat) (List.drop (0 : Int).toNat s) ++ d ++ List.take (((s.length : Nat) : Int).toNat - ((min s.length (k + d.length) : Nat) : Int).toNat) (List.drop ((min s.length (k + d.length) : Nat) : Int).toNat s) = _
  rw [Int.toNat_natCast, Int.toNat_natCast, Int.toNat_natCast, show (0 : Int).toNat = 0 from rfl, List.drop_zero, Nat.sub_zero, List.take_of_length_le (l := List.drop _ s) (by simp)]
  rcases Nat.le_total s.length (k + d.length) with h | h
  · rw [Nat.min_eq_left h, List.drop_eq_nil_of_le (Nat.le_refl _), List.drop_eq_nil_of_le h]
  · rw [Nat.min_eq_right h]
theorem ok_impl_Written : ConOk Tryz.prog 140 c_impl_Written := meets_ok (tabT _ _) (FOk.cons ok_impl_within (FOk.cons ok_strings_Repeat FOk.nil)) mixed Tryz.func140 rfl Tryz.call140 (by decide) (by kernel_rfl) m_impl_Written (by intro _ (y : (Str × Int × Str)) _; exact ⟨by simp [c_impl_Written, con, conG, conW, AV.noRd, noRdCells, noRdRows, noRdRows_map', encS, encI, encO], by simp [c_impl_Written, con, conG, conW, AV.noRd, noRdCells, noRdRows, noRdRows_map', encS, encI, encO]⟩) (by intro (y : (Str × Int × Str)) _; first | (simp [c_impl_Written, con, conG, conW, conP, AV.free, freeCells, freeRows, freeRows_map, encS, encI, encO]; done) | (obtain ⟨_, _⟩ := y; simp [c_impl_Written, con, conG, conW, conP, AV.free, freeCells, freeRows, freeRows_map, encS, encI, encO]; done) | (obtain ⟨_, _, _⟩ := y; simp [c_impl_Written, con, conG, conW, conP, AV.free, freeCells, freeRows, freeRows_map, encS, encI, encO]; done))
noncomputable def c_impl_room : PCon := con [mS 4, mC] true (Tr × Str) (fun x => [rdT x.1, .str x.2]) (fun x => smT x.1 ∧ x.2.length ≤ 4194304 ∧ badP x.2 = false) (fun x => .int .i64 (roomC x.1 x.2))
noncomputable def E_impl_room : Env := ⟨lookup tyTab, lookup [(11, c_impl_TreeGet), (47, c_impl_itemAt), (48, c_impl_Above)], [0, 1, 2, 4, 5, 6, 14, 17, 21]⟩
set_option maxRecDepth 100000 in
set_option maxHeartbeats 4000000 in
theorem m_impl_room : Meets E_impl_room (codeOf Tryz.f139) Tryz.f139.results.toList c_impl_room := by
  rintro ⟨t, p⟩ hs
  obtain ⟨hs1, hs2, hs3⟩ : smT t ∧ p.length ≤ 4194304 ∧ badP p = false := hs
  have hg := fnd_some (t := t) hs3
  refine ⟨trivial, ?_⟩
  skip
  refine ⟨p, rfl, fun _ => hs2, ?_⟩
  skip
  refine ⟨(t, above p), rfl, fun _ => hs1, ?_⟩
  repeat ((conv => whnf); refine ⟨(by kernel_rfl : drawOk _ _ = true), ?_⟩)
  (conv => whnf); refine ⟨fun h1 => ?_, fun h1 => ?_⟩
  · have h1 : (!(treeGet t (above p)).isSome) = true := h1
    have hd : dirC t (above p) = 2 := by unfold dirC; cases h : treeGet t (above p) with | none => rfl | some x => simp [h] at h1
    skip
    exact ⟨trivial, eqN' (by show _ = if dirC t (above p) != 0 then dirC t (above p) else _; rw [hd]; rfl)⟩
  have h1 : (!(treeGet t (above p)).isSome) = false := h1
  skip
  (conv => whnf); refine ⟨fun h2 => ?_, fun h2 => ?_⟩
  · have h2 : (((treeGet t (above p)).getD It.none).kind != 2) = true := h2
    have hd : dirC t (above p) = 4 := by unfold dirC; cases h : treeGet t (above p) with | none => simp [h] at h1 | some x => simp [h] at h2; simp [h2]
    skip
    exact ⟨trivial, eqN' (by show _ = if dirC t (above p) != 0 then dirC t (above p) else _; rw [hd]; rfl)⟩
  have h2 : (((treeGet t (above p)).getD It.none).kind != 2) = false := h2
  have hd : dirC t (above p) = 0 := by unfold dirC; cases h : treeGet t (above p) with | none => simp [h] at h1 | some x => simp [h] at h2; simp [h2]
  skip
  refine ⟨(t, p), rfl, fun _ => hs1, ?_⟩
  skip
  (conv => whnf); refine ⟨fun h3 => ?_, fun h3 => ?_⟩
  · have h3 : decide (fnd (fun y => y.path == p) t ≥ 0) = true := h3
    skip
    exact ⟨trivial, eqN' (by show _ = if dirC t (above p) != 0 then dirC t (above p) else if (treeGet t p).isSome then 3 else 0; rw [hd, hg, h3]; rfl)⟩
  have h3 : decide (fnd (fun y => y.path == p) t ≥ 0) = false := h3
  skip
  exact ⟨trivial, eqN' (by show _ = if dirC t (above p) != 0 then dirC t (above p) else if (treeGet t p).isSome then 3 else 0; rw [hd, hg, h3]; rfl)⟩
theorem ok_impl_room : ConOk Tryz.prog 139 c_impl_room := meets_ok (tabT _ _) (FOk.cons ok_impl_TreeGet (FOk.cons ok_impl_itemAt (FOk.cons ok_impl_Above FOk.nil))) mixed Tryz.func139 rfl Tryz.call139 (by decide) (by kernel_rfl) m_impl_room (by intro _ (y : (Tr × Str)) _; exact ⟨by simp [c_impl_room, con, conG, conW, AV.noRd, noRdCells, noRdRows, noRdRows_map', encS, encI, encO], by simp [c_impl_room, con, conG, conW, AV.noRd, noRdCells, noRdRows, noRdRows_map', encS, encI, encO]⟩) (by intro (y : (Tr × Str)) _; first | (simp [c_impl_room, con, conG, conW, conP, AV.free, freeCells, freeRows, freeRows_map, encS, rdT, encI, encO]; done) | (obtain ⟨_, _⟩ := y; simp [c_impl_room, con, conG, conW, conP, AV.free, freeCells, freeRows, freeRows_map, encS, rdT, encI, encO]; done) | (obtain ⟨_, _, _⟩ := y; simp [c_impl_room, con, conG, conW, conP, AV.free, freeCells, freeRows, freeRows_map, encS, rdT, encI, encO]; done))
noncomputable def c_slices_ContainsFunc_Item : PCon := con [mS 4, mC] true (Tr × OpR) (fun x => [.rd 4 (x.1.map encI), .fn 143 [.pin (encO x.2)]]) (fun x => smT x.1) (fun x => .bool (x.1.any fun y => above y.path == x.2.path))
noncomputable def E_slices_ContainsFunc_Item : Env := ⟨lookup tyTab, lookup [(87, c_slices_IndexFunc_Item), (143, c_impl_treeDrop_1)], [0, 1, 4]⟩
set_option maxRecDepth 100000 in
set_option maxHeartbeats 4000000 in
theorem m_slices_ContainsFunc_Item : Meets E_slices_ContainsFunc_Item (codeOf Tryz.f142) Tryz.f142.results.toList c_slices_ContainsFunc_Item := by
  rintro ⟨t, o⟩ hs
  have hs : smT t := hs
  refine ⟨trivial, ?_⟩
  skip
  refine ⟨(t, .inr o), rfl, fun _ => hs, ?_⟩
  skip
  exact ⟨trivial, eqB (fnd_pos (p := atP (.inr o)) (l := t))⟩
theorem ok_slices_ContainsFunc_Item : ConOk Tryz.prog 142 c_slices_ContainsFunc_Item := meets_ok (tabT _ _) (FOk.cons ok_slices_IndexFunc_Item (FOk.cons ok_impl_treeDrop_1 FOk.nil)) mixed Tryz.func142 rfl Tryz.call142 (by decide) (by kernel_rfl) m_slices_ContainsFunc_Item (by intro _ (y : (Tr × OpR)) _; exact ⟨by simp [c_slices_ContainsFunc_Item, con, conG, conW, AV.noRd, noRdCells, noRdRows, noRdRows_map', encS, encI, encO], by simp [c_slices_ContainsFunc_Item, con, conG, conW, AV.noRd, noRdCells, noRdRows, noRdRows_map', encS, encI, encO]⟩) (by intro (y : (Tr × OpR)) _; first | (simp [c_slices_ContainsFunc_Item, con, conG, conW, conP, AV.free, freeCells, freeRows, freeRows_map, encS, encI, encO]; done) | (obtain ⟨_, _⟩ := y; simp [c_slices_ContainsFunc_Item, con, conG, conW, conP, AV.free, freeCells, freeRows, freeRows_map, encS, encI, encO]; done) | (obtain ⟨_, _, _⟩ := y; simp [c_slices_ContainsFunc_Item, con, conG, conW, conP, AV.free, freeCells, freeRows, freeRows_map, encS, encI, encO]; done))
end Go.GH

namespace Go.Proofs
open Go.Shelf
def Tryz.sortItem_ren : Go.Shelf.Ren := ⟨fun | 6 => 66 | 15 => 114 | 14 => 113 | 28 => 155 | 29 => 156 | 20 => 147 | 21 => 148 | 22 => 149 | 23 => 150 | 24 => 151 | 25 => 152 | 26 => 153 | 27 => 154 | 46 => 178 | 47 => 179 | 48 => 180 | 49 => 181 | 50 => 182 | 57 => 199 | n => n, fun | 22 => 24 | 24 => 32 | 25 => 92 | 3 => 3 | 39 => 124 | 0 => 0 | 53 => 165 | 55 => 167 | 4 => 4 | 46 => 158 | 45 => 157 | 50 => 162 | 5 => 5 | 9 => 9 | 66 => 190 | 70 => 194 | 76 => 213 | 77 => 214 | n => n, fun | n => n⟩
theorem Tryz.sortItem : Go.Proofs.SlLaysF0.n6 Tryz.prog Tryz.sortItem_ren := {
  mixed := by kernel_rfl
  f6 := ⟨Tryz.f66.name, by decide, Tryz.func66.trans (congrArg some (by kernel_rfl))⟩
  f14 := ⟨Tryz.f113.name, by decide, Tryz.func113.trans (congrArg some (by kernel_rfl))⟩
  f15 := Tryz.func114.trans (congrArg some (by kernel_rfl))
  f20 := ⟨Tryz.f147.name, by decide, Tryz.func147.trans (congrArg some (by kernel_rfl))⟩
  f21 := ⟨Tryz.f148.name, by decide, Tryz.func148.trans (congrArg some (by kernel_rfl))⟩
  f22 := ⟨Tryz.f149.name, by decide, Tryz.func149.trans (congrArg some (by kernel_rfl))⟩
  f23 := ⟨Tryz.f150.name, by decide, Tryz.func150.trans (congrArg some (by kernel_rfl))⟩
  f24 := ⟨Tryz.f151.name, by decide, Tryz.func151.trans (congrArg some (by kernel_rfl))⟩
  f25 := ⟨Tryz.f152.name, by decide, Tryz.func152.trans (congrArg some (by kernel_rfl))⟩
  f26 := ⟨Tryz.f153.name, by decide, Tryz.func153.trans (congrArg some (by kernel_rfl))⟩
  f27 := ⟨Tryz.f154.name, by decide, Tryz.func154.trans (congrArg some (by kernel_rfl))⟩
  f28 := Tryz.func155.trans (congrArg some (by kernel_rfl))
  f29 := Tryz.func156.trans (congrArg some (by kernel_rfl))
  f46 := ⟨Tryz.f178.name, by decide, Tryz.func178.trans (congrArg some (by kernel_rfl))⟩
  f47 := Tryz.func179.trans (congrArg some (by kernel_rfl))
  f48 := Tryz.func180.trans (congrArg some (by kernel_rfl))
  f49 := ⟨Tryz.f181.name, by decide, Tryz.func181.trans (congrArg some (by kernel_rfl))⟩
  f50 := ⟨Tryz.f182.name, by decide, Tryz.func182.trans (congrArg some (by kernel_rfl))⟩
  f57 := ⟨Tryz.f199.name, by decide, Tryz.func199.trans (congrArg some (by kernel_rfl))⟩
  t0 := Tryz.underlying0
  a0 := Tryz.isAgg0
  z0 := Tryz.sizeOf0
  v0 := Tryz.zeroValue0
  t3 := Tryz.underlying3
  a3 := Tryz.isAgg3
  z3 := Tryz.sizeOf3
  v3 := Tryz.zeroValue3
  t4 := Tryz.underlying4
  a4 := Tryz.isAgg4
  z4 := Tryz.sizeOf4
  v4 := Tryz.zeroValue4
  t5 := Tryz.underlying5
  a5 := Tryz.isAgg5
  z5 := Tryz.sizeOf5
  v5 := Tryz.zeroValue5
  t9 := Tryz.underlying9
  a9 := Tryz.isAgg9
  z9 := Tryz.sizeOf9
  v9 := Tryz.zeroValue9
  t22 := Tryz.underlying24
  a22 := Tryz.isAgg24
  z22 := Tryz.sizeOf24
  v22 := Tryz.zeroValue24
  t25 := Tryz.underlying92
  a25 := Tryz.isAgg92
  z25 := Tryz.sizeOf92
  v25 := Tryz.zeroValue92
  t39 := Tryz.underlying124
  a39 := Tryz.isAgg124
  z39 := Tryz.sizeOf124
  v39 := Tryz.zeroValue124
  t45 := Tryz.underlying157
  a45 := Tryz.isAgg157
  z45 := Tryz.sizeOf157
  v45 := Tryz.zeroValue157
  t46 := Tryz.underlying158
  a46 := Tryz.isAgg158
  z46 := Tryz.sizeOf158
  v46 := Tryz.zeroValue158
  t50 := Tryz.underlying162
  a50 := Tryz.isAgg162
  z50 := Tryz.sizeOf162
  v50 := Tryz.zeroValue162
  t53 := Tryz.underlying165
  a53 := Tryz.isAgg165
  z53 := Tryz.sizeOf165
  v53 := Tryz.zeroValue165
  t55 := Tryz.underlying167
  a55 := Tryz.isAgg167
  z55 := Tryz.sizeOf167
  v55 := Tryz.zeroValue167
  t66 := Tryz.underlying190
  a66 := Tryz.isAgg190
  z66 := Tryz.sizeOf190
  v66 := Tryz.zeroValue190
  t70 := Tryz.underlying194
  a70 := Tryz.isAgg194
  z70 := Tryz.sizeOf194
  v70 := Tryz.zeroValue194
  t76 := Tryz.underlying213
  a76 := Tryz.isAgg213
  z76 := Tryz.sizeOf213
  v76 := Tryz.zeroValue213
  t77 := Tryz.underlying214
  a77 := Tryz.isAgg214
  z77 := Tryz.sizeOf214
  v77 := Tryz.zeroValue214 }
end Go.Proofs

set_option linter.unusedVariables false
set_option linter.unusedSimpArgs false
namespace Go.GH
open Go Go.Proofs Go.Sort
instance : Inhabited It := ⟨It.none⟩
def valI (x : It) : List Value := [bytesV x.path, .int .i64 x.kind, bytesV x.data, .int .i64 x.time]
theorem valI_flat (x : It) : (encI x).map flatV = valI x := rfl
theorem plain_items (l : Tr) : plainRows 4 (l.map encI) := by
  intro r hr
  obtain ⟨x, _, rfl⟩ := List.mem_map.1 hr
  refine ⟨rfl, fun c hc => ?_⟩
  simp only [encI, List.mem_cons, List.not_mem_nil, or_false] at hc
  rcases hc with rfl | rfl | rfl | rfl <;> rfl
theorem cell_items {l : Tr} {i f : Nat} {d : AV} (h : cellAt (l.map encI) i f = some d) : ∃ x, l[i]? = some x ∧ (encI x)[f]? = some d := by
  unfold cellAt at h
  rw [List.getElem?_map] at h
  cases hx : l[i]? with
  | none => rw [hx] at h; simp at h
  | some x => rw [hx] at h; exact ⟨x, rfl, by simpa using h⟩
theorem cmp_lt : ∀ (a b : Str), decide (Lib.compareBytes a b < 0) = strLt a b
  | [], [] => rfl
  | [], _ :: _ => rfl
  | _ :: _, [] => rfl
  | x :: a, y :: b => by
    simp only [Lib.compareBytes, strLt]
    have ih := cmp_lt a b
    by_cases h1 : x < y
    · simp [h1]
    · by_cases h2 : y < x
      · have hxy : (x == y) = false := by rw [beq_eq_false_iff_ne]; rintro rfl; exact h1 h2
        simp [h1, h2, hxy]
      · have hxy : x = y := UInt8.le_antisymm (UInt8.not_lt.1 h2) (UInt8.not_lt.1 h1)
        subst hxy
        simpa [h1] using ih
def cfI (x y : It) : Int := Lib.compareBytes x.path y.path
theorem ltI (x y : It) : ltOf cfI x y = strLt x.path y.path := cmp_lt x.path y.path
theorem swoI : Sort.SWO (ltOf cfI) where
  irrefl x := by rw [ltI]; exact strLt_irrefl _
  trans x y z h1 h2 := by rw [ltI] at *; exact strLt_trans h1 h2
  ntrans x y z h1 h2 := by
    rw [ltI] at *
    have := leB_trans z y x (by simp [leB, h2]) (by simp [leB, h1])
    simpa [leB] using this
theorem getElem_list {l : Tr} {i : Nat} {x : It} (h : l[i]? = some x) : l.toArray[i]! = x := by
  simp [Array.getElem!_eq_getD, Array.getD_eq_getD_getElem?, h]
theorem flat_at {l : Tr} {i f : Nat} {x : It} {d : AV} (hx : l[i]? = some x) (hd : (encI x)[f]? = some d) : i * 4 + f < l.toArray.size * 4 ∧ (flatK valI 4 l.toArray)[i * 4 + f]! = flatV d := by
  have hi := lt_of_get hx
  have hf : f < 4 := by
    have := lt_of_get hd
    exact this
  have hlt : i * 4 + f < l.toArray.size * 4 := by simp; omega
  refine ⟨hlt, ?_⟩
  rw [get_flatK _ _ _ _ hlt, show (i * 4 + f) / 4 = i by omega, show (i * 4 + f) % 4 = f by omega, getElem_list hx, ← valI_flat]
  rw [getElem!_def, List.getElem?_map, hd]
  rfl
theorem flat_any {l : Tr} {t : Nat} (h : t < (flatK valI 4 l.toArray).size) : ∃ i f x d, t = i * 4 + f ∧ l[i]? = some x ∧ (encI x)[f]? = some d := by
  have h : t < l.length * 4 := by simpa using h
  obtain ⟨x, hx⟩ := get_lt (l := l) (i := t / 4) (by omega)
  obtain ⟨d, hd⟩ := get_lt (l := encI x) (i := t % 4) (by show t % 4 < 4; omega)
  exact ⟨t / 4, t % 4, x, d, by omega, hx, hd⟩
def c_slices_SortFunc_Item : PCon := ⟨[.mv, mC], false, false, Tr, fun l => [.own 4 (l.map encI), .fn 67 []], fun l => dst l ∧ l.length ≤ 4194304, fun _ => .tup [], fun l => [.own 4 ((sortT l).map encI)], fun _ => True, false⟩
set_option maxRecDepth 100000 in
set_option maxHeartbeats 2000000 in
theorem ok_slices_SortFunc_Item : ConOk Tryz.prog 66 c_slices_SortFunc_Item := by
  refine con_of_row (c := c_slices_SortFunc_Item) (s := 4) (rows := fun l => l.map encI) (rows' := fun l => (sortT l).map encI) (snd := fun _ => .fn 67 []) rfl (fun _ => rfl) (fun _ => rfl) (fun _ => rfl) (fun l => plain_items l) (fun l => plain_items _) (fun (l : Tr) => by rw [List.length_map, List.length_map, sortT_len]) Tryz.call66 (fun _ => trivial) ?_ ?_ ?_
  · intro (l : Tr) _ _ y w a cap v ρ _
    refine (AnyF.slices_SortFunc_none Tryz.sortItem a cap v w).mono ?_
    rintro e w' ⟨rfl, rfl⟩
    exact ⟨rfl, RowKit.Below.refl _ _⟩
  · intro (l : Tr) y w h n ρ v hs
    cases hs with
    | cell hr => cases hr
    | fn hl hc => exact .fn hl (by simp)
  · intro (l : Tr) hpre hne y w b o cap v ρ hb hv hrow
    obtain ⟨hd, hl⟩ : dst l ∧ l.length ≤ 4194304 := hpre
    have hv : v = .func (.func 67) #[] #[] := by
      cases hv with
      | cell hr => cases hr
      | fn hl hc =>
        rename_i us
        have : us = #[] := Array.eq_empty_of_size_eq_zero hl
        rw [this]
    subst hv
    obtain ⟨c, e, fz, h1, h2, h3⟩ := hrow
    have hH : HoldsK valI 4 w b o l.toArray := by
      intro t ht
      obtain ⟨i, f, x, d, rfl, hx, hd'⟩ := flat_any ht
      have hc := h3 i f d (by unfold cellAt; simp [hx, hd'])
      have hlt := (Array.getElem?_eq_some_iff.1 hc).1
      refine ⟨?_, ?_⟩
      · rw [(flat_at hx hd').2]
        simp only [World.cell?, h1]
        exact hc
      · simp only [World.frozen?, h1]
        rcases h2 with h2 | h2
        · simp; omega
        · simp; omega
    have hcon := AnyQ.slices_SortFunc Tryz.sortItem 4 Tryz.isAgg32 Tryz.sizeOf32 valI (fun _ => rfl) (fun x v hv => by
      simp [valI] at hv
      rcases hv with rfl | rfl | rfl | rfl <;> rfl) cfI swoI 67 #[] b o cap l.toArray w Tryz.call67 (fun m os dk hs x y => Tryz.byPath_calls _ _ _ _ _ _ _ _ _) hH hb (by simp; omega)
    change Calls Tryz.prog 66 _ _ _ at hcon
    have ez : (l.map encI).length = l.toArray.size := by simp
    show Calls Tryz.prog 66 #[.slice (some ⟨b, o, none⟩) (l.map encI).length cap, .func (.func 67) #[] #[]] w _
    rw [ez]
    refine hcon.mono ?_
    clear hcon hH
    rintro e' w' ⟨rfl, d', n, os, hp, hsrt, rfl⟩
    refine ⟨rfl, ?_⟩
    obtain ⟨p1, _, p3⟩ := hp
    have hsz : d'.size = l.length := by simpa using p1
    have hperm : d'.toList.Perm l := by
      have e1 : d'.extract 0 l.toArray.size = d' := by
        rw [show l.toArray.size = d'.size by rw [hsz]; simp]; exact Array.extract_size
      have e2 : l.toArray.extract 0 l.toArray.size = l.toArray := Array.extract_size
      rw [e1, e2] at p3
      simpa using p3
    have hpw : d'.toList.Pairwise fun a b => leB a b = true := by
      refine List.pairwise_iff_getElem.2 fun i j hi hj hij => ?_
      have := hsrt i j (Nat.zero_le _) hij (by simpa [hsz] using hj)
      rw [ltI] at this
      simp only [Array.length_toList] at hi hj
      rw [getElem!_pos d' j hj, getElem!_pos d' i hi] at this
      simp [leB, this]
    have hm : d'.toList = sortT l := sortT_is hd hpw hperm
    have hd' : d' = (sortT l).toArray := by rw [← hm]
    subst hd'
    have hheap : (sortWorldK valI 4 w b o n (sortT l).toArray os).heap = w.heap.modify b (onCells (putCells id o (flatK valI 4 (sortT l).toArray))) ++ os := rfl
    refine ⟨rfl, rfl, rfl, ?_, fun k hk hkb => ?_, fun c1 e1 fz1 hc1 => ?_⟩
    · rw [hheap]; simp
    · rw [hheap, Array.getElem?_append_left (by simpa using hk), Array.getElem?_modify, if_neg (Ne.symm hkb)]
    · rw [h1] at hc1
      simp only [Option.some.injEq, Obj.cells.injEq] at hc1
      obtain ⟨rfl, rfl, rfl⟩ := hc1
      refine ⟨putCells id o (flatK valI 4 (sortT l).toArray) c, ?_, by simp [putCells], fun i f d hid => ?_⟩
      · rw [hheap, Array.getElem?_append_left (by simpa using hb), Array.getElem?_modify, if_pos rfl, h1]
        rfl
      · obtain ⟨x, hx, hxd⟩ := cell_items hid
        obtain ⟨q1, q2⟩ := flat_at hx hxd
        have hi := lt_of_get hx
        have hf : f < 4 := lt_of_get hxd
        rw [sortT_len] at hi
        obtain ⟨x0, hx0⟩ := get_lt (l := l) (i := i) hi
        obtain ⟨d0, hd0⟩ := get_lt (l := encI x0) (i := f) hf
        have hc0 := h3 i f d0 (by unfold cellAt; simp [hx0, hd0])
        have hlt := (Array.getElem?_eq_some_iff.1 hc0).1
        unfold putCells
        rw [Array.getElem?_mapIdx, Array.getElem?_eq_getElem hlt]
        simp only [Option.map_some, size_flatK]
        rw [if_pos ⟨by omega, by omega⟩, show o + (i * 4 + f) - o = i * 4 + f by omega, q2]
        rfl
end Go.GH

set_option linter.unusedVariables false
set_option linter.unusedSimpArgs false
namespace Go.GH
open Go Go.Proofs
noncomputable def c_impl_treeAdd : PCon := con [.co [some 4], .rd [none, none, none, none, none, none]] false (Tr × OpR) (fun ⟨t, o⟩ => [.agg [.own 4 (t.map encI)], .agg (encO o)]) (fun x => treeOk x.1 = true ∧ smT x.1 ∧ smO x.2 ∧ badP x.2.path = false) (fun x => .tup [.agg [.own 4 ((tNew x.1 x.2).1.map encI)], .int .i64 (tNew x.1 x.2).2])
noncomputable def E_impl_treeAdd : Env := ⟨lookup tyTab, lookup [(66, c_slices_SortFunc_Item), (139, c_impl_room)], [0, 1, 2, 3, 4, 5, 6, 7, 12, 17, 28, 39, 49]⟩
set_option maxRecDepth 100000 in
set_option maxHeartbeats 4000000 in
theorem m_impl_treeAdd : Meets E_impl_treeAdd (codeOf Tryz.f107) Tryz.f107.results.toList c_impl_treeAdd := by
  rintro ⟨t, o⟩ hs
  obtain ⟨ok, hs1, hs2, hs3⟩ : treeOk t = true ∧ smT t ∧ smO o ∧ badP o.path = false := hs
  have hl := treeOk_len ok
  have hsrt := treeOk_srt ok
  have ho1 := hs2.1
  refine ⟨trivial, ?_⟩
  skip
  refine ⟨(t, o.path), by refine congrArg (fun x => [AV.agg [AV.rd 4 x], AV.str o.path]) ?_; simp [rdI], fun _ => ⟨hs1, by show o.path.length ≤ _; omega, hs3⟩, ?_⟩
  skip
  (conv => whnf); refine ⟨fun h1 => ?_, fun h1 => ?_⟩
  · have h1 : (roomC t o.path != 0) = true := h1
    have hr := new_room h1
    rw [show c_impl_treeAdd.res (t, o) = .tup [.agg [.own 4 (t.map encI)], .int .i64 (roomC t o.path)] by show AV.tup [.agg [.own 4 ((tNew t o).1.map encI)], .int .i64 (tNew t o).2] = _; rw [hr]]
    skip
    exact ⟨trivial, ⟨⟨rfl, by first | (simp; done) | (simp; rfl)⟩, trivial⟩, rfl, trivial⟩
  have h1 : (roomC t o.path != 0) = false := h1
  obtain ⟨h1, h2⟩ := room_ok h1
  have hne : ∀ {x : It}, x.path = o.path → ∀ y, y ∈ t → y.path ≠ x.path := fun e => e ▸ get_no hs3 h2
  repeat ((conv => whnf); refine ⟨fun h => h, ?_⟩)
  (conv => whnf); refine ⟨fun h3 => ?_, fun h3 => ?_⟩
  · have h3 : (o.kind != 0 && decide ((o.data.length : Int) > 80)) = true := h3
    have hr : tNew t o = (t, 9) := by rw [tNew, if_neg (by rw [h1]; decide), if_neg (by rw [h2]; decide), if_pos h3]
    rw [show c_impl_treeAdd.res (t, o) = .tup [.agg [.own 4 (t.map encI)], .int .i64 9] by show AV.tup [.agg [.own 4 ((tNew t o).1.map encI)], .int .i64 (tNew t o).2] = _; rw [hr]]
    skip
    exact ⟨trivial, ⟨⟨rfl, by first | (simp; done) | (simp; rfl)⟩, trivial⟩, rfl, trivial⟩
  have h3 : (o.kind != 0 && decide ((o.data.length : Int) > 80)) = false := h3
  skip
  (conv => whnf); refine ⟨fun h5 => ?_, fun h5 => ?_⟩
  · have h5 : (t.length : Int) ≥ 40 := by simpa using h5
    have hr : tNew t o = (t, 5) := by rw [tNew, if_neg (by rw [h1]; decide), if_neg (by rw [h2]; decide), if_neg (by rw [h3]; decide), if_pos (beq_iff_eq.2 (by omega))]
    rw [show c_impl_treeAdd.res (t, o) = .tup [.agg [.own 4 (t.map encI)], .int .i64 5] by show AV.tup [.agg [.own 4 ((tNew t o).1.map encI)], .int .i64 (tNew t o).2] = _; rw [hr]]
    skip
    exact ⟨trivial, ⟨⟨rfl, by first | (simp; done) | (simp; rfl)⟩, trivial⟩, rfl, trivial⟩
  have h5 : ¬ (t.length : Int) ≥ 40 := by simpa using h5
  have hnew : tNew t o = (sortT (t ++ [newIt o]), 0) := by
    rw [tNew, if_neg (by rw [h1]; decide), if_neg (by rw [h2]; decide), if_neg (by rw [h3]; decide), if_neg (by rw [beq_iff_eq]; omega), (new_sort hsrt (hne (by unfold newIt; split <;> rfl))).2]
  skip
  (conv => whnf); refine ⟨fun h8 => ?_, fun h8 => ?_⟩
  · have h8 : (o.kind != 0) = true := h8
    have h8' : (o.kind == 0) = false := by simpa using h8
    skip
    (conv => whnf); refine ⟨fun h9 => ?_, fun h9 => ?_⟩
    · have h9 : (o.kind == 2) = true := h9
      repeat ((conv => whnf); first | refine ⟨by (show (_ : Prop)); first | omega | ((try dsimp only at *); (try simp only [lns] at *); omega), ?_⟩ | refine ⟨noOwn (by rfl), ?_⟩)
      have h6 : newIt o = ⟨o.path, 3, o.data, o.time⟩ := by simp [newIt, h8', h9]
      have hr : tNew t o = (sortT (t ++ [⟨o.path, 3, o.data, o.time⟩]), 0) := by rw [hnew, h6]
      have h7 := (new_sort (x := ⟨o.path, 3, o.data, o.time⟩) hsrt (hne rfl)).1
      skip
      refine ⟨t ++ [⟨o.path, 3, o.data, o.time⟩], by refine congrArg (fun x => [AV.own 4 x, AV.fn 67 []]) ?_; simp [encI]; rw [List.take_of_length_le (by simp)]; exact (List.map_append (f := encI) (l₁ := t) (l₂ := [⟨o.path, 3, o.data, o.time⟩])).symm, fun _ => ⟨h7, by show List.length (_ ++ _) ≤ _; rw [List.length_append]; show t.length + 1 ≤ 4194304; omega⟩, ?_⟩
      rw [show c_impl_treeAdd.res (t, o) = .tup [.agg [.own 4 ((sortT (t ++ [⟨o.path, 3, o.data, o.time⟩])).map encI)], .int .i64 0] by show AV.tup [.agg [.own 4 ((tNew t o).1.map encI)], .int .i64 (tNew t o).2] = _; rw [hr]]
      skip
      exact ⟨trivial, ⟨⟨rfl, by first | (simp; done) | (simp; rfl)⟩, trivial⟩, rfl, trivial⟩
    have h9 : (o.kind == 2) = false := h9
    repeat ((conv => whnf); first | refine ⟨by (show (_ : Prop)); first | omega | ((try dsimp only at *); (try simp only [lns] at *); omega), ?_⟩ | refine ⟨noOwn (by rfl), ?_⟩)
    have h6 : newIt o = ⟨o.path, 1, o.data, o.time⟩ := by simp [newIt, h8', h9]
    have hr : tNew t o = (sortT (t ++ [⟨o.path, 1, o.data, o.time⟩]), 0) := by rw [hnew, h6]
    have h7 := (new_sort (x := ⟨o.path, 1, o.data, o.time⟩) hsrt (hne rfl)).1
    skip
    refine ⟨t ++ [⟨o.path, 1, o.data, o.time⟩], by refine congrArg (fun x => [AV.own 4 x, AV.fn 67 []]) ?_; simp [encI]; rw [List.take_of_length_le (by simp)]; exact (List.map_append (f := encI) (l₁ := t) (l₂ := [⟨o.path, 1, o.data, o.time⟩])).symm, fun _ => ⟨h7, by show List.length (_ ++ _) ≤ _; rw [List.length_append]; show t.length + 1 ≤ 4194304; omega⟩, ?_⟩
    rw [show c_impl_treeAdd.res (t, o) = .tup [.agg [.own 4 ((sortT (t ++ [⟨o.path, 1, o.data, o.time⟩])).map encI)], .int .i64 0] by show AV.tup [.agg [.own 4 ((tNew t o).1.map encI)], .int .i64 (tNew t o).2] = _; rw [hr]]
    skip
    exact ⟨trivial, ⟨⟨rfl, by first | (simp; done) | (simp; rfl)⟩, trivial⟩, rfl, trivial⟩
  have h8 : (o.kind == 0) = true := by
    have h8 : (o.kind != 0) = false := h8
    simpa using h8
  skip
  (conv => whnf); refine ⟨fun h9 => ?_, fun h9 => ?_⟩
  · exfalso
    have h9 : (o.kind == 2) = true := h9
    have h10 := beq_iff_eq.1 h8
    have h11 := beq_iff_eq.1 h9
    omega
  repeat ((conv => whnf); first | refine ⟨by (show (_ : Prop)); first | omega | ((try dsimp only at *); (try simp only [lns] at *); omega), ?_⟩ | refine ⟨noOwn (by rfl), ?_⟩)
  have h6 : newIt o = ⟨o.path, 2, [], 0⟩ := by simp [newIt, h8]
  have hr : tNew t o = (sortT (t ++ [⟨o.path, 2, [], 0⟩]), 0) := by rw [hnew, h6]
  have h7 := (new_sort (x := ⟨o.path, 2, [], 0⟩) hsrt (hne rfl)).1
  skip
  refine ⟨t ++ [⟨o.path, 2, [], 0⟩], by refine congrArg (fun x => [AV.own 4 x, AV.fn 67 []]) ?_; simp [encI]; rw [List.take_of_length_le (by simp)]; exact (List.map_append (f := encI) (l₁ := t) (l₂ := [⟨o.path, 2, [], 0⟩])).symm, fun _ => ⟨h7, by show List.length (_ ++ _) ≤ _; rw [List.length_append]; show t.length + 1 ≤ 4194304; omega⟩, ?_⟩
  rw [show c_impl_treeAdd.res (t, o) = .tup [.agg [.own 4 ((sortT (t ++ [⟨o.path, 2, [], 0⟩])).map encI)], .int .i64 0] by show AV.tup [.agg [.own 4 ((tNew t o).1.map encI)], .int .i64 (tNew t o).2] = _; rw [hr]]
  skip
  exact ⟨trivial, ⟨⟨rfl, by first | (simp; done) | (simp; rfl)⟩, trivial⟩, rfl, trivial⟩
theorem ok_impl_treeAdd : ConOk Tryz.prog 107 c_impl_treeAdd := meets_ok (tabT _ _) (FOk.cons ok_slices_SortFunc_Item (FOk.cons ok_impl_room FOk.nil)) mixed Tryz.func107 rfl Tryz.call107 (by decide) (by kernel_rfl) m_impl_treeAdd (by intro _ (y : (Tr × OpR)) _; exact ⟨by simp [c_impl_treeAdd, con, conG, conW, AV.noRd, noRdCells, noRdRows, noRdRows_map', encS, encI, encO], by simp [c_impl_treeAdd, con, conG, conW, AV.noRd, noRdCells, noRdRows, noRdRows_map', encS, encI, encO]⟩) (by intro (y : (Tr × OpR)) _; first | (simp [c_impl_treeAdd, con, conG, conW, conP, AV.free, freeCells, freeRows, freeRows_map, encS, encI, encO]; done) | (obtain ⟨_, _⟩ := y; simp [c_impl_treeAdd, con, conG, conW, conP, AV.free, freeCells, freeRows, freeRows_map, encS, encI, encO]; done) | (obtain ⟨_, _, _⟩ := y; simp [c_impl_treeAdd, con, conG, conW, conP, AV.free, freeCells, freeRows, freeRows_map, encS, encI, encO]; done))
end Go.GH

set_option linter.unusedVariables false
set_option linter.unusedSimpArgs false
namespace Go.GH
open Go Go.Proofs
noncomputable def c_impl_treeSet : PCon := con [.co [some 4], .rd [none, none, none, none, none, none]] false (Tr × OpR) (fun ⟨t, o⟩ => [.agg [.own 4 (t.map encI)], .agg (encO o)]) (fun x => treeOk x.1 = true ∧ numsOk x.2 = true ∧ smT x.1 ∧ smO x.2 ∧ badP x.2.path = false ∧ (x.2.kind == 3 || x.2.kind == 4 || x.2.kind == 5) = true) (fun x => .tup [.agg [.own 4 ((tSet x.1 x.2).1.map encI)], .int .i64 (tSet x.1 x.2).2])
noncomputable def E_impl_treeSet : Env := ⟨lookup tyTab, lookup [(47, c_impl_itemAt), (140, c_impl_Written), (141, c_impl_Cut)], [0, 1, 2, 3, 4, 5, 6, 7, 8, 14, 36, 43, 44, 52, 60]⟩
set_option maxRecDepth 100000 in
set_option maxHeartbeats 4000000 in
theorem m_impl_treeSet : Meets E_impl_treeSet (codeOf Tryz.f108) Tryz.f108.results.toList c_impl_treeSet := by
  rintro ⟨t, o⟩ hs
  obtain ⟨ok, hno, hs1, hs2, hs3, hk⟩ : treeOk t = true ∧ numsOk o = true ∧ smT t ∧ smO o ∧ badP o.path = false ∧ (o.kind == 3 || o.kind == 4 || o.kind == 5) = true := hs
  have hl := treeOk_len ok
  have hsrt := treeOk_srt ok
  have ho1 := hs2.1
  have hg := fnd_some (t := t) hs3
  refine ⟨trivial, ?_⟩
  skip
  refine ⟨(t, o.path), by refine congrArg (fun x => [AV.agg [AV.rd 4 x], AV.str o.path]) ?_; simp [rdI], fun _ => hs1, ?_⟩
  skip
  (conv => whnf); refine ⟨fun h1 => ?_, fun h1 => ?_⟩
  · have h1 : fnd (fun y => y.path == o.path) t < 0 := by simpa using h1
    have hx : treeGet t o.path = none := by
      have : (treeGet t o.path).isSome = false := by rw [hg, decide_eq_false]; omega
      simpa using this
    have hr : tSet t o = (t, 2) := by simp [tSet, hx]
    rw [show c_impl_treeSet.res (t, o) = .tup [.agg [.own 4 (t.map encI)], .int .i64 2] by show AV.tup [.agg [.own 4 ((tSet t o).1.map encI)], .int .i64 (tSet t o).2] = _; rw [hr]]
    skip
    exact ⟨trivial, ⟨⟨rfl, by first | (simp; done) | (simp; rfl)⟩, trivial⟩, rfl, trivial⟩
  have h1 : ¬ fnd (fun y => y.path == o.path) t < 0 := by simpa using h1
  obtain ⟨x, hx⟩ : ∃ x, treeGet t o.path = some x := by
    rw [decide_eq_true (show fnd (fun y : It => y.path == o.path) t ≥ 0 by omega)] at hg
    exact Option.isSome_iff_exists.1 hg
  obtain ⟨hat, h0, hxp⟩ := fnd_at hs3 hx
  have hxm := List.mem_of_getElem? hat
  have hxd := ok_data ok hxm
  have hlt : fnd (fun y => y.path == o.path) t < t.length := by
    have := (List.getElem?_eq_some_iff.1 hat).1
    omega
  have hlt2 : fnd (fun y => y.path == o.path) t < ((List.map encI t).length : Nat) := by rw [List.length_map]; exact hlt
  have hcell : (List.take (List.map encI t).length (List.drop 0 (List.map encI t)))[0 + (fnd (fun y => y.path == o.path) t).toNat]? = some (encI x) := by
    rw [List.drop_zero, List.take_length, Nat.zero_add]
    exact get_map hat
  have hidx : 0 + (fnd (fun y => y.path == o.path) t).toNat < (List.take (List.map encI t).length (List.drop 0 (List.map encI t))).length := by
    rw [List.drop_zero, List.take_length, List.length_map]
    omega
  repeat ((conv => whnf); first | refine ⟨fun h => h, ?_⟩ | refine ⟨by (show (_ : Prop)); first | omega | ((try dsimp only at *); (try simp only [lns] at *); omega), ?_⟩ | refine ⟨encI x, fun _ => hcell, ?_⟩)
  (conv => whnf); refine ⟨fun h2 => ?_, fun h2 => ?_⟩
  · have h2 : (x.kind == 2 || (x.kind == 3 && o.kind != 5)) = true := h2
    have hr : tSet t o = (t, 4) := by simp only [tSet, hx]; rw [if_pos h2]
    rw [show c_impl_treeSet.res (t, o) = .tup [.agg [.own 4 (t.map encI)], .int .i64 4] by show AV.tup [.agg [.own 4 ((tSet t o).1.map encI)], .int .i64 (tSet t o).2] = _; rw [hr]]
    skip
    exact ⟨trivial, ⟨⟨rfl, by first | (simp; done) | (simp; rfl)⟩, trivial⟩, rfl, trivial⟩
  have h2 : (x.kind == 2 || (x.kind == 3 && o.kind != 5)) = false := h2
  have hk2 : (x.kind == 2) = false := by revert h2; cases (x.kind == 2) <;> simp
  have hflag := set_flag ok hno hxm hk2
  have hset := set_at (x' := setIt x o) hsrt hat rfl
  have hxl := hs1.2 x hxm
  repeat ((conv => whnf); refine ⟨encI x, fun _ => hcell, ?_⟩)
  (conv => whnf); refine ⟨fun h3 => ?_, fun h3 => ?_⟩
  · have h3 : (o.kind == 3) = true := h3
    have hd : dataOf x.data o = (wrote x.data o.at_ o.data, decide (((wrote x.data o.at_ o.data).length : Int) ≤ 80)) := by rw [dataOf, if_pos h3]
    skip
    refine ⟨(x.data, o.at_, o.data), rfl, fun _ => ⟨by show x.data.length ≤ _; omega, by show o.data.length ≤ _; have := hs2.2.2; omega⟩, ?_⟩
    skip
    (conv => whnf); refine ⟨fun h5 => ?_, fun h5 => ?_⟩
    · have h5 : decide ((((wrote x.data o.at_ o.data)).length : Int) > 80) = true := h5
      have h6 : (!(dataOf x.data o).2) = true := by rw [← hflag, hd]; exact h5
      have hr : tSet t o = (t, 9) := by simp only [tSet, hx]; rw [if_neg (by rw [h2]; decide), if_pos h6]
      rw [show c_impl_treeSet.res (t, o) = .tup [.agg [.own 4 (t.map encI)], .int .i64 9] by show AV.tup [.agg [.own 4 ((tSet t o).1.map encI)], .int .i64 (tSet t o).2] = _; rw [hr]]
      skip
      exact ⟨trivial, ⟨⟨rfl, by first | (simp; done) | (simp; rfl)⟩, trivial⟩, rfl, trivial⟩
    have h5 : decide ((((wrote x.data o.at_ o.data)).length : Int) > 80) = false := h5
    have h6 : (!(dataOf x.data o).2) = false := by rw [← hflag, hd]; exact h5
    have hr : tSet t o = (t.set (fnd (fun y => y.path == o.path) t).toNat ⟨x.path, x.kind, (wrote x.data o.at_ o.data), o.time⟩, 0) := by
      simp only [tSet, hx]
      rw [if_neg (by rw [h2]; decide), if_neg (by rw [h6]; decide), hset]
      simp only [setIt, hd]
    rw [show c_impl_treeSet.res (t, o) = .tup [.agg [.own 4 ((t.set (fnd (fun y => y.path == o.path) t).toNat ⟨x.path, x.kind, (wrote x.data o.at_ o.data), o.time⟩).map encI)], .int .i64 0] by show AV.tup [.agg [.own 4 ((tSet t o).1.map encI)], .int .i64 (tSet t o).2] = _; rw [hr]]
    repeat ((conv => whnf); first | refine ⟨(by kernel_rfl : drawOk _ _ = true), ?_⟩ | refine ⟨encI x, hcell, ?_⟩ | refine ⟨_, set_get hidx, ?_⟩)
    refine ⟨trivial, ⟨⟨rfl, ?_⟩, trivial⟩, rfl, trivial⟩
    simp only [List.drop_zero, List.take_length, Nat.zero_add, set_set, List.map_set]
    rfl
  have h3 : (o.kind == 3) = false := h3
  skip
  (conv => whnf); refine ⟨fun h4 => ?_, fun h4 => ?_⟩
  · have h4 : (o.kind == 4) = true := h4
    have hd : dataOf x.data o = (cutT x.data o.at_, decide (o.at_ ≤ 80)) := by rw [dataOf, if_neg (by rw [h3]; decide), if_pos h4]
    skip
    refine ⟨(x.data, o.at_), rfl, fun _ => by show x.data.length ≤ _; omega, ?_⟩
    skip
    (conv => whnf); refine ⟨fun h5 => ?_, fun h5 => ?_⟩
    · have h5 : decide ((((cutT x.data o.at_)).length : Int) > 80) = true := h5
      have h6 : (!(dataOf x.data o).2) = true := by rw [← hflag, hd]; exact h5
      have hr : tSet t o = (t, 9) := by simp only [tSet, hx]; rw [if_neg (by rw [h2]; decide), if_pos h6]
      rw [show c_impl_treeSet.res (t, o) = .tup [.agg [.own 4 (t.map encI)], .int .i64 9] by show AV.tup [.agg [.own 4 ((tSet t o).1.map encI)], .int .i64 (tSet t o).2] = _; rw [hr]]
      skip
      exact ⟨trivial, ⟨⟨rfl, by first | (simp; done) | (simp; rfl)⟩, trivial⟩, rfl, trivial⟩
    have h5 : decide ((((cutT x.data o.at_)).length : Int) > 80) = false := h5
    have h6 : (!(dataOf x.data o).2) = false := by rw [← hflag, hd]; exact h5
    have hr : tSet t o = (t.set (fnd (fun y => y.path == o.path) t).toNat ⟨x.path, x.kind, (cutT x.data o.at_), o.time⟩, 0) := by
      simp only [tSet, hx]
      rw [if_neg (by rw [h2]; decide), if_neg (by rw [h6]; decide), hset]
      simp only [setIt, hd]
    rw [show c_impl_treeSet.res (t, o) = .tup [.agg [.own 4 ((t.set (fnd (fun y => y.path == o.path) t).toNat ⟨x.path, x.kind, (cutT x.data o.at_), o.time⟩).map encI)], .int .i64 0] by show AV.tup [.agg [.own 4 ((tSet t o).1.map encI)], .int .i64 (tSet t o).2] = _; rw [hr]]
    repeat ((conv => whnf); first | refine ⟨(by kernel_rfl : drawOk _ _ = true), ?_⟩ | refine ⟨encI x, hcell, ?_⟩ | refine ⟨_, set_get hidx, ?_⟩)
    refine ⟨trivial, ⟨⟨rfl, ?_⟩, trivial⟩, rfl, trivial⟩
    simp only [List.drop_zero, List.take_length, Nat.zero_add, set_set, List.map_set]
    rfl
  have h4 : (o.kind == 4) = false := h4
  have hd : dataOf x.data o = (x.data, true) := by rw [dataOf, if_neg (by rw [h3]; decide), if_neg (by rw [h4]; decide)]
  skip
  skip
  (conv => whnf); refine ⟨fun h5 => ?_, fun h5 => ?_⟩
  · have h5 : decide (((x.data).length : Int) > 80) = true := h5
    have h6 : (!(dataOf x.data o).2) = true := by rw [← hflag, hd]; exact h5
    have hr : tSet t o = (t, 9) := by simp only [tSet, hx]; rw [if_neg (by rw [h2]; decide), if_pos h6]
    rw [show c_impl_treeSet.res (t, o) = .tup [.agg [.own 4 (t.map encI)], .int .i64 9] by show AV.tup [.agg [.own 4 ((tSet t o).1.map encI)], .int .i64 (tSet t o).2] = _; rw [hr]]
    skip
    exact ⟨trivial, ⟨⟨rfl, by first | (simp; done) | (simp; rfl)⟩, trivial⟩, rfl, trivial⟩
  have h5 : decide (((x.data).length : Int) > 80) = false := h5
  have h6 : (!(dataOf x.data o).2) = false := by rw [← hflag, hd]; exact h5
  have hr : tSet t o = (t.set (fnd (fun y => y.path == o.path) t).toNat ⟨x.path, x.kind, x.data, o.time⟩, 0) := by
    simp only [tSet, hx]
    rw [if_neg (by rw [h2]; decide), if_neg (by rw [h6]; decide), hset]
    simp only [setIt, hd]
  rw [show c_impl_treeSet.res (t, o) = .tup [.agg [.own 4 ((t.set (fnd (fun y => y.path == o.path) t).toNat ⟨x.path, x.kind, x.data, o.time⟩).map encI)], .int .i64 0] by show AV.tup [.agg [.own 4 ((tSet t o).1.map encI)], .int .i64 (tSet t o).2] = _; rw [hr]]
  repeat ((conv => whnf); first | refine ⟨(by kernel_rfl : drawOk _ _ = true), ?_⟩ | refine ⟨encI x, hcell, ?_⟩ | refine ⟨_, set_get hidx, ?_⟩)
  refine ⟨trivial, ⟨⟨rfl, ?_⟩, trivial⟩, rfl, trivial⟩
  simp only [List.drop_zero, List.take_length, Nat.zero_add, set_set, List.map_set]
  rfl
theorem ok_impl_treeSet : ConOk Tryz.prog 108 c_impl_treeSet := meets_ok (tabT _ _) (FOk.cons ok_impl_itemAt (FOk.cons ok_impl_Written (FOk.cons ok_impl_Cut FOk.nil))) mixed Tryz.func108 rfl Tryz.call108 (by decide) (by kernel_rfl) m_impl_treeSet (by intro _ (y : (Tr × OpR)) _; exact ⟨by simp [c_impl_treeSet, con, conG, conW, AV.noRd, noRdCells, noRdRows, noRdRows_map', encS, encI, encO], by simp [c_impl_treeSet, con, conG, conW, AV.noRd, noRdCells, noRdRows, noRdRows_map', encS, encI, encO]⟩) (by intro (y : (Tr × OpR)) _; first | (simp [c_impl_treeSet, con, conG, conW, conP, AV.free, freeCells, freeRows, freeRows_map, encS, encI, encO]; done) | (obtain ⟨_, _⟩ := y; simp [c_impl_treeSet, con, conG, conW, conP, AV.free, freeCells, freeRows, freeRows_map, encS, encI, encO]; done) | (obtain ⟨_, _, _⟩ := y; simp [c_impl_treeSet, con, conG, conW, conP, AV.free, freeCells, freeRows, freeRows_map, encS, encI, encO]; done))
end Go.GH

set_option linter.unusedVariables false
set_option linter.unusedSimpArgs false
namespace Go.GH
open Go Go.Proofs Go.Shelf Go.RowKit Go.Lib Go.Sort
theorem setCell_eq (w : World) (b o : Nat) (v : Value) : (w.setCell ⟨b, o, none⟩ v).os = w.os ∧ (w.setCell ⟨b, o, none⟩ v).tape = w.tape ∧ (w.setCell ⟨b, o, none⟩ v).output = w.output := ⟨rfl, rfl, rfl⟩
theorem setCells_rest (b : Nat) : ∀ (vs : List Value) (o : Nat) (w : World), (w.setCells b o vs).os = w.os ∧ (w.setCells b o vs).tape = w.tape ∧ (w.setCells b o vs).output = w.output ∧ (w.setCells b o vs).heap.size = w.heap.size ∧ ∀ k, k ≠ b → (w.setCells b o vs).heap[k]? = w.heap[k]?
  | [], o, w => ⟨rfl, rfl, rfl, rfl, fun _ _ => rfl⟩
  | v :: vs, o, w => by
    obtain ⟨h1, h2, h3, h4, h5⟩ := setCells_rest b vs (o + 1) (w.setCell ⟨b, o, none⟩ v)
    refine ⟨h1, h2, h3, ?_, fun k hk => ?_⟩
    · rw [World.setCells, h4]
      simp [World.setCell]
    · rw [World.setCells, h5 k hk]
      simp only [World.setCell]
      rw [Array.getElem?_modify, if_neg (Ne.symm hk)]
theorem setCells_row (b : Nat) : ∀ (vs : List Value) (o : Nat) (w : World) (c : Array Value) e fz, w.heap[b]? = some (.cells c e fz) → o + vs.length ≤ c.size →
    ∃ c', (w.setCells b o vs).heap[b]? = some (.cells c' e fz) ∧ c'.size = c.size ∧ (∀ k, k < o ∨ o + vs.length ≤ k → c'[k]? = c[k]?) ∧ ∀ j v, vs[j]? = some v → c'[o + j]? = some v
  | [], o, w, c, e, fz, h, hl => ⟨c, h, rfl, fun _ _ => rfl, fun j v hv => by cases hv⟩
  | v :: vs, o, w, c, e, fz, h, hl => by
    simp only [List.length_cons] at hl
    have h2 : (w.setCell ⟨b, o, none⟩ v).heap[b]? = some (.cells (c.setIfInBounds o v) e fz) := by
      simp only [World.setCell]
      rw [Array.getElem?_modify, if_pos rfl, h]
      rfl
    obtain ⟨c', h3, h4, h5, h6⟩ := setCells_row b vs (o + 1) _ _ e fz h2 (by simp; omega)
    refine ⟨c', h3, by rw [h4]; simp, fun k hk => ?_, fun j u hu => ?_⟩
    · simp only [List.length_cons] at hk
      rw [h5 k (by omega), Array.getElem?_setIfInBounds, if_neg (by omega)]
    · cases j with
      | zero =>
        simp only [List.getElem?_cons_zero, Option.some.injEq] at hu
        subst hu
        rw [h5 (o + 0) (by omega), Array.getElem?_setIfInBounds, if_pos (by omega), if_pos (by omega)]
      | succ j =>
        have := h6 j u (by simpa using hu)
        rw [show o + (j + 1) = o + 1 + j by omega]
        exact this
theorem run_clear_one {P : Program} (w : World) (t e ty : TypeId) (z : Value) (ht : P.underlying t = some (.slice e)) (hv : ∀ w, (zeroValue e).run P w = .ok z w) (cs : List Value) (hz : z.cells.toList = cs) (h1 : ∀ v, v ∈ cs → v.oneCell' = true) (b o c : Nat)
    (hc : ∀ j, j < cs.length → (w.cell? ⟨b, o + j, none⟩).isSome = true) (hf : ∀ j, j < cs.length → w.frozen? ⟨b, o + j, none⟩ = false) :
    (Builtin.clear_ #[t] ty #[.slice (some ⟨b, o, none⟩) 1 c]).run P w = .ok (.tuple #[]) (w.setCells b o cs) := by
  have hzc : (Builtin.zeroCells z.cells 1).toList = cs := by
    rw [← hz]
    simp [Builtin.zeroCells]
    apply List.ext_getElem
    · simp
    · intro i h1 h2
      simp at h1 h2 ⊢
      rw [Nat.mod_eq_of_lt h1]
      exact getElem!_pos z.cells i h1
  have hst := run_storeCells_cells (P := P) b o cs 0 w (by simpa using hc) (by simpa using hf) h1
  simp only [Nat.add_zero] at hst
  simp [Builtin.clear_, Go.run_underlying ht, hv, hzc, hst]
theorem info32 : (Tryz.prog.info? 32).map (fun i => (i.zero, i.size, i.bytes)) = some (some (.agg #[.string ⟨#[]⟩, .int .i64 0, .string ⟨#[]⟩, .int .i64 0]), 4, 48) := by kernel_rfl
def zeroRow : List Value := [.string ⟨#[]⟩, .int .i64 0, .string ⟨#[]⟩, .int .i64 0]
set_option maxHeartbeats 4000000 in
set_option maxRecDepth 1000000 in
theorem del_calls (blk off cap n i j : Nat) (news : List Value) (w : World) (hij : j = i + 1) (hi : j ≤ n) (hcap : n ≤ cap) (hm : n ≤ 4194304) (hlen : news.length = (n - j) * 4)
    (hall : ∀ t, t < n * 4 → (w.cell? ⟨blk, off + t, none⟩).isSome = true ∧ w.frozen? ⟨blk, off + t, none⟩ = false)
    (hsrc0 : ∀ t u, news[t]? = some u → w.cell? ⟨blk, off + j * 4 + t, none⟩ = some u) (h1c : ∀ u, u ∈ news → u.oneCell' = true) :
    Calls Tryz.prog 144 #[.slice (some ⟨blk, off, none⟩) n cap, .int .i64 i, .int .i64 j] w fun e w' => e = .returned (.slice (some ⟨blk, off, none⟩) (n - 1) cap) ∧ ∃ q, w' = ((w.drewN q).setCells blk (off + i * 4) news).setCells blk (off + (n - 1) * 4) zeroRow := by
  obtain ⟨A, hA, hsrc⟩ : ∃ A : Addr, (if cap = j then some (⟨blk, off, none⟩ : Addr) else some ⟨blk, off + j * 4, none⟩) = some A ∧ Hid (∀ t u, news[t]? = some u → w.drew.cell? (A.add t) = some u) := by
    by_cases h : cap = j
    · refine ⟨⟨blk, off, none⟩, by simp [h], fun t u hu => ?_⟩
      have h0 : news.length = 0 := by rw [hlen]; omega
      rw [List.length_eq_zero_iff.1 h0] at hu
      simp at hu
    · refine ⟨⟨blk, off + j * 4, none⟩, by simp [h], fun t u hu => ?_⟩
      rw [Addr.add_lit]
      exact hsrc0 t u hu
  have s1 : Hid (news.length = (n - j) * 4) := hlen
  have s2 : Hid (∀ u ∈ news, u.oneCell' = true) := h1c
  have s3 : Hid (∀ t, t < news.length → (w.drew.cell? ⟨blk, off + i * 4 + t, none⟩).isSome = true ∧ w.drew.frozen? ⟨blk, off + i * 4 + t, none⟩ = false) := by
    intro t ht
    rw [hlen] at ht
    have := hall (i * 4 + t) (by omega)
    rw [← Nat.add_assoc] at this
    exact this
  obtain ⟨W1, hW1⟩ : ∃ W1, W1 = w.drew.setCells blk (off + i * 4) news := ⟨_, rfl⟩
  have hcl : ∀ ty, (Builtin.clear_ #[24] ty #[.slice (some ⟨blk, off + (i + (n - j)) * 4, none⟩) (n - (i + (n - j))) (cap - (i + (n - j)))]).run Tryz.prog W1 = .ok (.tuple #[]) (W1.setCells blk (off + (i + (n - j)) * 4) zeroRow) := by
    intro ty
    rw [show n - (i + (n - j)) = 1 by omega]
    refine run_clear_one W1 24 32 ty _ Tryz.underlying24 Tryz.zeroValue32 zeroRow rfl (by decide) blk _ _ (fun t hj => ?_) fun t hj => ?_
    · have hj : t < 4 := hj
      have := hall ((i + (n - j)) * 4 + t) (by omega)
      rw [← Nat.add_assoc] at this
      rw [hW1]
      exact World.isSome_setCells blk news _ _ _ this.1
    · have hj : t < 4 := hj
      have := hall ((i + (n - j)) * 4 + t) (by omega)
      rw [← Nat.add_assoc] at this
      rw [hW1, World.frozen?_setCells]
      exact this.2
  have hW : Hid (W1 = w.drew.setCells blk (off + i * 4) news) := hW1
  have hic : i ≤ cap := by omega
  have hjc : j ≤ cap := by omega
  have hij2 : Hid (j = i + 1) := hij
  have hlt : i < j := by omega
  clear hW1 hall hsrc0 h1c hlen hij
  go_enter Tryz.func144, Tryz.ntmps144
  go_wp2_with fail
  obtain ⟨i0, hi0, hz0, hz1, hz2⟩ := info_parts info32
  have mixed : Tryz.prog.follows .mixedOrders = true := mixed
  go_region_law_o (refine step_append_room rfl (.tmp 22) (.tmp 25) 24 rfl 32 i0 4 Tryz.underlying24 hi0 hz1 blk off i cap (by simp [Act.eval, Act.put]) A (n - j) (cap - j) news (by simp [Act.eval, Act.put]) s1.out hsrc.out s2.out (by omega) s3.out ?_; rw [← hW.out])
  go_wp2
  go_ret
  refine ⟨by rw [show n - 1 = i + (n - j) by have := hij2.out; omega]; rfl, 1, ?_⟩
  rw [show n - 1 = i + (n - j) by have := hij2.out; omega, hW.out]
  rfl
theorem flat4 : ∀ (l : Tr) (a f : Nat), f < 4 → (l.flatMap valI)[a * 4 + f]? = (l[a]?).bind fun x => (valI x)[f]?
  | [], a, f, h => by simp
  | x :: l, 0, f, h => by
    rw [List.flatMap_cons, List.getElem?_append_left (by show _ < 4; omega), Nat.zero_mul, Nat.zero_add]
    rfl
  | x :: l, a + 1, f, h => by
    have h4 : (valI x).length = 4 := rfl
    rw [List.flatMap_cons, List.getElem?_append_right (by rw [h4]; omega), h4, show (a + 1) * 4 + f - 4 = a * 4 + f by omega, flat4 l a f h]
    rfl
theorem flat4_len : ∀ (l : Tr), (l.flatMap valI).length = l.length * 4
  | [] => rfl
  | x :: l => by
    rw [List.flatMap_cons, List.length_append, flat4_len l, List.length_cons]
    have h4 : (valI x).length = 4 := rfl
    omega
theorem valI_at {x : It} {f : Nat} {d : AV} (h : (encI x)[f]? = some d) : (valI x)[f]? = some (flatV d) := by
  rw [← valI_flat, List.getElem?_map, h]
  rfl
def delT (t : Tr) (i : Nat) : Tr := t.take i ++ t.drop (i + 1)
def c_slices_Delete_Item : PCon := con [.co [some 4], mC, mC] false (Tr × Nat) (fun x => [.own 4 (x.1.map encI), .int .i64 x.2, .int .i64 ((x.2 + 1 : Nat) : Int)]) (fun x => x.2 < x.1.length ∧ x.1.length ≤ 4194304) (fun x => .own 4 ((delT x.1 x.2).map encI))
theorem delT_len {t : Tr} {i : Nat} (h : i < t.length) : (delT t i).length = t.length - 1 := by
  simp [delT]; omega
set_option maxRecDepth 100000 in
set_option maxHeartbeats 2000000 in
theorem ok_slices_Delete_Item : ConOk Tryz.prog 144 c_slices_Delete_Item := by
  refine con_of_del (c := c_slices_Delete_Item) (s := 4) (rows := fun x => x.1.map encI) (rows' := fun x => (delT x.1 x.2).map encI) (fun x => x.2) (fun x => ((x.2 + 1 : Nat) : Int)) rfl (fun _ => rfl) (fun _ => rfl) (fun _ => rfl) (fun x => plain_items x.1) (fun x => plain_items _) (fun ⟨t, i⟩ hx => ?_) (fun ⟨t, i⟩ hx => ?_) Tryz.call144 ?_
  · obtain ⟨h1, h2⟩ : i < t.length ∧ t.length ≤ 4194304 := hx
    show ((delT t i).map encI).length ≤ (t.map encI).length
    rw [List.length_map, List.length_map, delT_len h1]
    omega
  · obtain ⟨h1, h2⟩ : i < t.length ∧ t.length ≤ 4194304 := hx
    show t.map encI ≠ []
    intro e
    have := congrArg List.length e
    have h3 : t.length = 0 := by simpa using this
    omega
  rintro ⟨t, i⟩ hx w b o cap hb hcap ⟨c, e, fz, h1, h2, h3⟩
  obtain ⟨hi, hl⟩ : i < t.length ∧ t.length ≤ 4194304 := hx
  have hcap : t.length ≤ cap := by
    have hcap : (t.map encI).length ≤ cap := hcap
    rwa [List.length_map] at hcap
  have cellI : ∀ {a f : Nat} {x : It} {d : AV}, t[a]? = some x → (encI x)[f]? = some d → c[o + (a * 4 + f)]? = some (flatV d) := fun {a f x d} hx hd =>
    h3 a f d (by
      show cellAt (t.map encI) a f = some d
      unfold cellAt
      simp [hx, hd])
  have any : ∀ k, k < t.length * 4 → ∃ a f x d, k = a * 4 + f ∧ f < 4 ∧ t[a]? = some x ∧ (encI x)[f]? = some d := fun k hk => by
    obtain ⟨x, hx⟩ := get_lt (l := t) (i := k / 4) (by omega)
    obtain ⟨d, hd⟩ := get_lt (l := encI x) (i := k % 4) (by show k % 4 < 4; omega)
    exact ⟨k / 4, k % 4, x, d, by omega, by omega, hx, hd⟩
  have hcs : o + t.length * 4 ≤ c.size := by
    obtain ⟨a, f, x, d, e1, _, hx, hd⟩ := any (t.length * 4 - 1) (by omega)
    have := (Array.getElem?_eq_some_iff.1 (cellI hx hd)).1
    omega
  have hdl := flat4_len (t.drop (i + 1))
  rw [List.length_drop] at hdl
  have hcon := del_calls b o cap t.length i (i + 1) ((t.drop (i + 1)).flatMap valI) w rfl (by omega) hcap hl hdl (fun k hk => ?_) (fun k u hu => ?_) (fun u hu => ?_)
  · show Calls Tryz.prog 144 #[.slice (some ⟨b, o, none⟩) (t.map encI).length cap, .int .i64 i, .int .i64 ((i + 1 : Nat) : Int)] w _
    rw [List.length_map]
    refine hcon.mono ?_
    rintro e' w' ⟨rfl, q, rfl⟩
    refine ⟨?_, ?_⟩
    · show _ = Ending.returned (.slice (some ⟨b, o, none⟩) ((delT t i).map encI).length cap)
      rw [List.length_map, delT_len hi]
    obtain ⟨p1, p2, p3, p4, p5⟩ := setCells_rest b ((t.drop (i + 1)).flatMap valI) (o + i * 4) (w.drewN q)
    obtain ⟨q1, q2, q3, q4, q5⟩ := setCells_rest b zeroRow (o + (t.length - 1) * 4) ((w.drewN q).setCells b (o + i * 4) ((t.drop (i + 1)).flatMap valI))
    refine ⟨q1.trans p1, q2.trans p2, q3.trans p3, by rw [q4, p4]; exact Nat.le_refl _, fun k hk hkb => (q5 k hkb).trans (p5 k hkb), fun c1 e1 fz1 hc1 => ?_⟩
    rw [h1] at hc1
    simp only [Option.some.injEq, Obj.cells.injEq] at hc1
    obtain ⟨rfl, rfl, rfl⟩ := hc1
    obtain ⟨c1, r1, r2, r3, r4⟩ := setCells_row b ((t.drop (i + 1)).flatMap valI) (o + i * 4) (w.drewN q) c e fz h1 (by rw [hdl]; omega)
    obtain ⟨c2, s1, s2, s3, s4⟩ := setCells_row b zeroRow (o + (t.length - 1) * 4) _ c1 e fz r1 (by show _ + 4 ≤ _; omega)
    refine ⟨c2, s1, s2.trans r2, fun a f d hid => ?_⟩
    obtain ⟨x, hx, hxd⟩ := cell_items hid
    have hf : f < 4 := lt_of_get hxd
    have ha : a < (delT t i).length := lt_of_get hx
    rw [delT_len hi] at ha
    have hx : (delT t i)[a]? = some x := hx
    rw [s3 _ (by omega)]
    unfold delT at hx
    rcases Nat.lt_or_ge a i with hai | hai
    · rw [List.getElem?_append_left (by simp; omega), List.getElem?_take, if_pos hai] at hx
      rw [r3 _ (by omega)]
      exact cellI hx hxd
    · rw [List.getElem?_append_right (by simp; omega), List.length_take, Nat.min_eq_left (by omega)] at hx
      have := r4 ((a - i) * 4 + f) (flatV d) (by rw [flat4 _ _ _ hf, hx]; exact valI_at hxd)
      rw [show o + (a * 4 + f) = o + i * 4 + ((a - i) * 4 + f) by omega]
      exact this
  · obtain ⟨a, f, x, d, rfl, _, hx, hd⟩ := any k hk
    have hc := cellI hx hd
    have hlt := (Array.getElem?_eq_some_iff.1 hc).1
    refine ⟨?_, ?_⟩
    · simp only [World.cell?, h1]
      show (c[o + (a * 4 + f)]?).isSome = true
      rw [hc]
      rfl
    · simp only [World.frozen?, h1]
      rcases h2 with h2 | h2
      · simp; omega
      · simp; omega
  · have hk := lt_of_get hu
    rw [hdl] at hk
    have e1 : k = k / 4 * 4 + k % 4 := by omega
    rw [e1, flat4 _ _ _ (Nat.mod_lt _ (by decide)), List.getElem?_drop] at hu
    obtain ⟨x, hx⟩ := get_lt (l := t) (i := i + 1 + k / 4) (by omega)
    obtain ⟨d, hd⟩ := get_lt (l := encI x) (i := k % 4) (by show k % 4 < 4; omega)
    rw [hx] at hu
    have hu : (valI x)[k % 4]? = some u := hu
    rw [valI_at hd] at hu
    have hc := cellI hx hd
    simp only [World.cell?, h1]
    show c[o + (i + 1) * 4 + k]? = some u
    rw [← hu, ← hc]
    congr 1
    omega
  · obtain ⟨x, _, hx⟩ := List.mem_flatMap.1 hu
    simp [valI] at hx
    rcases hx with rfl | rfl | rfl | rfl <;> rfl
end Go.GH

