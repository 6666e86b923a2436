import Derived.Test.YtijkfhkjnhceoaaDoorSA
import Derived.Shelf.Small.Strs
import Derived.Shelf.Strings.Search1
import Derived.Shelf.Strings.Search2
import Derived.Test.YtijkfhkjnhceoaaDoorChecked
set_option linter.unusedVariables false
set_option linter.unusedSimpArgs false
set_option linter.unusedSimpArgs false
namespace Go.GH
open Go Go.Proofs
noncomputable def c_spec_OpOf : PCon := con [mC] false Str encS (fun s => s.length ≤ 1048576) (fun s => .tup [.agg (encO ((opOf s).getD OpR.zero)), .bool (opOf s).isSome])
noncomputable def E_spec_OpOf : Env := ⟨lookup tyTab, lookup [(9, c_spec_OpText), (37, c_spec_Parts), (38, c_spec_Number), (39, c_spec_l26Sign)], [0, 2, 3, 4, 5, 6, 7, 8, 9, 10, 11, 12, 13, 14, 15, 28, 57, 78, 115]⟩
set_option maxRecDepth 100000 in
set_option maxHeartbeats 4000000 in
theorem m_spec_OpOf : Meets E_spec_OpOf (codeOf Tryd.f17) Tryd.f17.results.toList c_spec_OpOf := by
  intro (s : Str) (hs : s.length ≤ 1048576)
  refine ⟨trivial, ?_⟩
  conv => whnf
  refine ⟨(s, 32), rfl, fun _ => (show s.length ≤ 4194304 by omega), ?_⟩
  have hop : opOf s = if opGood s (splitBy 32 s) then some (opRaw (splitBy 32 s)) else none := rfl
  have hme := fun w hw => splitBy_mem (c := 32) s w hw
  conv => whnf
  generalize splitBy 32 s = ws at hop hme ⊢
  by_cases h6 : ws.length = 6
  · obtain ⟨w0, w1, w2, w3, w4, w5, rfl⟩ := six h6
    have m0 := hme w0 (by simp)
    have m1 := hme w1 (by simp)
    have m2 := hme w2 (by simp)
    have m3 := hme w3 (by simp)
    have m4 := hme w4 (by simp)
    have m5 := hme w5 (by simp)
    have hg : opGood s [w0, w1, w2, w3, w4, w5] = ((num w0).isSome && (num w3).isSome && (num w4).isSome && (unhex w5).isSome && (opText (opRaw [w0, w1, w2, w3, w4, w5]) == s)) := by simp [opGood]
    repeat ((conv => whnf); first | refine ⟨fun h => h, ?_⟩ | refine ⟨by (show (_ : Prop)); first | omega | ((try dsimp only at *); (try simp only [lns] at *); omega), ?_⟩)
    refine ⟨encS w5, fun _ => rfl, ?_⟩
    repeat ((conv => whnf); first | refine ⟨fun h => h, ?_⟩ | refine ⟨by (show (_ : Prop)); first | omega | ((try dsimp only at *); (try simp only [lns] at *); omega), ?_⟩)
    refine ⟨((w5.length % 2 : Nat) : Int), rfl, ?_⟩
    repeat ((conv => whnf); refine ⟨fun h => h, ?_⟩)
    (conv => whnf); refine ⟨fun h1 => ?_, fun h1 => ?_⟩
    · have h1 : w5.length % 2 = 1 := by
        have h1 : (((6 : Nat) : Int) != 6 || ((w5.length % 2 : Nat) : Int) != 0) = true := h1
        simp at h1; omega
      have hu := unhex_odd w5 h1
      have hno : opOf s = none := by rw [hop, hg, hu, if_neg]; simp
      skip
      exact ⟨trivial, by rw [hno]; exact ⟨rfl, rfl, rfl, rfl, rfl, rfl, trivial⟩, eqB (by rw [hno]; rfl), trivial⟩
    have h1 : w5.length % 2 = 0 := by
      have h1 : (((6 : Nat) : Int) != 6 || ((w5.length % 2 : Nat) : Int) != 0) = false := h1
      simp at h1; omega
    repeat ((conv => whnf); first | refine ⟨by (show (_ : Prop)); first | omega | ((try dsimp only at *); (try simp only [lns] at *); omega), ?_⟩ | refine ⟨encS _, fun _ => rfl, ?_⟩)
    refine ⟨w0, rfl, fun _ => (show w0.length ≤ 16777216 by omega), ?_⟩
    repeat ((conv => whnf); first | refine ⟨by (show (_ : Prop)); first | omega | ((try dsimp only at *); (try simp only [lns] at *); omega), ?_⟩ | refine ⟨encS _, fun _ => rfl, ?_⟩)
    refine ⟨w3, rfl, fun _ => (show w3.length ≤ 16777216 by omega), ?_⟩
    repeat ((conv => whnf); first | refine ⟨by (show (_ : Prop)); first | omega | ((try dsimp only at *); (try simp only [lns] at *); omega), ?_⟩ | refine ⟨encS _, fun _ => rfl, ?_⟩)
    refine ⟨w4, rfl, fun _ => (show w4.length ≤ 16777216 by omega), ?_⟩
    skip
    refine loop_rule (fun ((i, out) : Nat × Str) => ⟨[(0, ⟨none, .str s⟩), (2, ⟨none, .bx 0 0⟩), (4, ⟨none, .view 1 [] 0 6⟩), (5, ⟨none, .int .i64 ((num w0).getD 0 : Nat)⟩), (6, ⟨none, .bool (num w0).isSome⟩), (7, ⟨none, .int .i64 ((num w3).getD 0 : Nat)⟩), (8, ⟨none, .bool (num w3).isSome⟩), (9, ⟨none, .int .i64 ((num w4).getD 0 : Nat)⟩), (10, ⟨none, .bool (num w4).isSome⟩), (11, ⟨none, .view 2 [] 0 out.length⟩), (12, ⟨none, .int .i64 i⟩)], [(0, .own 6 [encO OpR.zero]), (1, .own 1 ([w0, w1, w2, w3, w4, w5].map encS)), (2, .own 1 (out.map fun b => [.int .u8 b.toNat]))], 3⟩)
      (fun (i, out) => HexInv w5 i out) (fun x => w5.length - x.1) (0, []) ?_ (HexInv.zero w5) ?_
    · (refine ⟨?_, ?_, rfl⟩ <;> repeat' (first | exact rfl | exact trivial | refine ⟨?_, ?_⟩ | fail) <;> (conv => whnf))
    rintro ⟨i, out⟩ hI
    have hI : HexInv w5 i out := hI
    have hi := hI.1
    have hi2 := hI.2.1
    have hol := hI.2.2.1
    repeat ((conv => whnf); first | refine ⟨by (show (_ : Prop)); first | omega | ((try dsimp only at *); (try simp only [lns] at *); omega), ?_⟩ | refine ⟨encS _, fun _ => rfl, ?_⟩)
    (conv => whnf); refine ⟨fun h2 => ?_, fun h2 => ?_⟩
    · have h2 : i < w5.length := by simpa using h2
      obtain ⟨a, ha⟩ := get_lt h2
      obtain ⟨b, hb⟩ := get_lt (l := w5) (i := i + 1) (by omega)
      have ra := hexV_range a
      have rb := hexV_range b
      repeat ((conv => whnf); first | refine ⟨by (show (_ : Prop)); first | omega | ((try dsimp only at *); (try simp only [lns] at *); omega), ?_⟩ | refine ⟨encS _, fun _ => rfl, ?_⟩)
      refine ⟨a, fun _ => ⟨Int.natCast_nonneg _, ha⟩, ?_⟩
      skip
      refine ⟨a, rfl, fun _ => trivial, ?_⟩
      repeat ((conv => whnf); first | refine ⟨_, w64 (by (show (_ : Prop)); first | omega | ((try dsimp only at *); (try simp only [lns] at *); omega)), ?_⟩ | refine ⟨by (show (_ : Prop)); first | omega | ((try dsimp only at *); (try simp only [lns] at *); omega), ?_⟩ | refine ⟨encS _, fun _ => rfl, ?_⟩)
      refine ⟨b, fun _ => ⟨by omega, hb⟩, ?_⟩
      skip
      refine ⟨b, rfl, fun _ => trivial, ?_⟩
      repeat ((conv => whnf); refine ⟨fun h => h, ?_⟩)
      (conv => whnf); refine ⟨fun h3 => ?_, fun h3 => ?_⟩
      · have h3 : (decide (hexV a < 0) || decide (hexV b < 0)) = true := h3
        have hu := hI.bad ha hb h3
        have hno : opOf s = none := by rw [hop, hg, hu, if_neg]; simp
        skip
        exact ⟨trivial, by rw [hno]; exact ⟨rfl, rfl, rfl, rfl, rfl, rfl, trivial⟩, eqB (by rw [hno]; rfl), trivial⟩
      · have h3 : (decide (hexV a < 0) || decide (hexV b < 0)) = false := h3
        have hne := hI.next ha hb h3
        have h4 : 0 ≤ hexV a ∧ 0 ≤ hexV b := by simp at h3; omega
        repeat ((conv => whnf); refine ⟨_, w64 (by (show (_ : Prop)); first | omega | ((try dsimp only at *); (try simp only [lns] at *); omega)), ?_⟩)
        refine ⟨((hexB a b).toNat : Int), hexB_val ⟨h4.1, ra.2⟩ ⟨h4.2, rb.2⟩, ?_⟩
        repeat ((conv => whnf); first | refine ⟨_, w64 (by (show (_ : Prop)); first | omega | ((try dsimp only at *); (try simp only [lns] at *); omega)), ?_⟩ | refine ⟨by (show (_ : Prop)); first | omega | ((try dsimp only at *); (try simp only [lns] at *); omega), ?_⟩ | refine ⟨fun (r : List AV) hr c hc => by simp [encS] at hr; (try subst hr); simp at hc; (try subst hc); rfl, ?_⟩)
        refine again (i + 2, out ++ [hexB a b]) ?_ hne (by show w5.length - (i + 2) < w5.length - i; omega)
        (refine ⟨?_, ?_, rfl⟩ <;> repeat' (first | exact rfl | exact trivial | refine ⟨?_, ?_⟩ | fail) <;> (conv => whnf))
        all_goals simp
    · have h2 : i = w5.length := by
        have : ¬ i < w5.length := by simpa using h2
        omega
      subst h2
      have hu := hI.fin
      have ho : opRaw [w0, w1, w2, w3, w4, w5] = ⟨((num w0).getD 0 : Nat), w1, w2, ((num w3).getD 0 : Nat), out, ((num w4).getD 0 : Nat)⟩ := by simp [opRaw, hu]
      have hsm : smO (opRaw [w0, w1, w2, w3, w4, w5]) := by rw [ho]; exact ⟨by show w1.length ≤ _; omega, by show w2.length ≤ _; omega, by show out.length ≤ _; omega⟩
      repeat ((conv => whnf); first | refine ⟨by (show (_ : Prop)); first | omega | ((try dsimp only at *); (try simp only [lns] at *); omega), ?_⟩ | refine ⟨encS _, fun _ => rfl, ?_⟩)
      refine ⟨out, by rw [List.drop_zero, List.take_of_length_le (by simp)], ?_⟩
      repeat ((conv => whnf); first | refine ⟨fun h => h, ?_⟩ | refine ⟨(by kernel_rfl : drawOk _ _ = true), ?_⟩)
      refine ⟨opRaw [w0, w1, w2, w3, w4, w5], by rw [ho]; rfl, fun _ => hsm, ?_⟩
      repeat ((conv => whnf); refine ⟨fun h => h, ?_⟩)
      (conv => whnf); refine ⟨fun h3 => ?_, fun h3 => ?_⟩
      · have h3 : (!(num w0).isSome || !(num w3).isSome || !(num w4).isSome || !(opText (opRaw [w0, w1, w2, w3, w4, w5]) == s)) = true := h3
        have hno : opOf s = none := by
          rw [hop, hg, hu, if_neg]
          revert h3
          cases (num w0).isSome <;> cases (num w3).isSome <;> cases (num w4).isSome <;> cases (opText (opRaw [w0, w1, w2, w3, w4, w5]) == s) <;> simp
        skip
        exact ⟨trivial, by rw [hno]; exact ⟨rfl, rfl, rfl, rfl, rfl, rfl, trivial⟩, eqB (by rw [hno]; rfl), trivial⟩
      · have h3 : (!(num w0).isSome || !(num w3).isSome || !(num w4).isSome || !(opText (opRaw [w0, w1, w2, w3, w4, w5]) == s)) = false := h3
        have hyes : opOf s = some (opRaw [w0, w1, w2, w3, w4, w5]) := by
          rw [hop, hg, hu, if_pos]
          revert h3
          cases (num w0).isSome <;> cases (num w3).isSome <;> cases (num w4).isSome <;> cases (opText (opRaw [w0, w1, w2, w3, w4, w5]) == s) <;> simp
        skip
        exact ⟨trivial, by rw [hyes, ho]; exact ⟨rfl, rfl, rfl, rfl, rfl, rfl, trivial⟩, eqB (by rw [hyes]; rfl), trivial⟩
  · have hno : opOf s = none := by rw [hop, if_neg]; simp [opGood, h6]
    have h6' : ((ws.map encS).length : Int) ≠ 6 := by simp; omega
    have hb : (!(((ws.map encS).length : Int) != 6)) = false := by
      have : (((ws.map encS).length : Int) == 6) = false := by rw [beq_eq_false_iff_ne]; exact h6'
      simp only [bne, this]; rfl
    repeat ((conv => whnf); first | refine ⟨fun h => h, ?_⟩ | refine ⟨fun (h : gtrue _) => by first | assumption | exact absurd (Eq.trans (Eq.symm h) (by assumption) : true = false) Bool.noConfusion, ?_⟩)
    refine ⟨encS [], fun (h : gtrue _) => absurd (Eq.trans (Eq.symm h) hb : true = false) Bool.noConfusion, ?_⟩
    repeat ((conv => whnf); first | refine ⟨fun h => h, ?_⟩ | refine ⟨by (show (_ : Prop)); first | omega | ((try dsimp only at *); (try simp only [lns] at *); omega), ?_⟩)
    refine ⟨0, rfl, ?_⟩
    repeat ((conv => whnf); refine ⟨fun h => h, ?_⟩)
    (conv => whnf); refine ⟨fun h1 => ?_, fun h1 => ?_⟩
    · skip
      exact ⟨trivial, by rw [hno]; exact ⟨rfl, rfl, rfl, rfl, rfl, rfl, trivial⟩, eqB (by rw [hno]; rfl), trivial⟩
    · exfalso
      have h1 : (((ws.map encS).length : Int) != 6 || ((0 : Int) != 0)) = false := h1
      simp at h1; omega
theorem ok_spec_OpOf : ConOk Tryd.prog 17 c_spec_OpOf := meets_ok (tabT _ _) (FOk.cons ok_spec_OpText (FOk.cons ok_spec_Parts (FOk.cons ok_spec_Number (FOk.cons ok_spec_l26Sign FOk.nil)))) mixed Tryd.func17 rfl Tryd.call17 (by decide) (by kernel_rfl) m_spec_OpOf (by intro _ (y : Str) _; exact ⟨by simp [c_spec_OpOf, con, conG, conW, AV.noRd, noRdCells, noRdRows, noRdRows_map', encS, encO], by simp [c_spec_OpOf, con, conG, conW, AV.noRd, noRdCells, noRdRows, noRdRows_map', encS, encO]⟩) (by intro (y : Str) _; first | (simp [c_spec_OpOf, con, conG, conW, conP, AV.free, freeCells, freeRows, freeRows_map, encS, encO]; done) | (obtain ⟨_, _⟩ := y; simp [c_spec_OpOf, con, conG, conW, conP, AV.free, freeCells, freeRows, freeRows_map, encS, encO]; done) | (obtain ⟨_, _, _⟩ := y; simp [c_spec_OpOf, con, conG, conW, conP, AV.free, freeCells, freeRows, freeRows_map, encS, encO]; done))
noncomputable def c_impl_OpOf : PCon := conG gwErr [mC] false Str encS (fun s => s.length ≤ 1048576) (fun s => .tup [.agg (encO ((opOf s).getD OpR.zero)), .bool (opOf s).isSome])
noncomputable def E_impl_OpOf : Env := ⟨lookup tyTab, lookup [(11, c_impl_OpText), (40, c_impl_Parts), (41, c_impl_Number), (42, c_impl_hexBytes)], [0, 2, 3, 4, 5, 6, 7, 8, 9, 10, 11, 12, 13, 18, 78]⟩
set_option maxRecDepth 100000 in
set_option maxHeartbeats 4000000 in
theorem m_impl_OpOf : Meets E_impl_OpOf (codeOf Tryd.f18) Tryd.f18.results.toList c_impl_OpOf := by
  intro (s : Str) (hs : s.length ≤ 1048576)
  refine ⟨trivial, ?_⟩
  conv => whnf
  refine ⟨(s, 32), rfl, fun _ => (show s.length ≤ 4194304 by omega), ?_⟩
  have hop : opOf s = if opGood s (splitBy 32 s) then some (opRaw (splitBy 32 s)) else none := rfl
  have hme := fun w hw => splitBy_mem (c := 32) s w hw
  conv => whnf
  generalize splitBy 32 s = ws at hop hme ⊢
  by_cases h6 : ws.length = 6
  · obtain ⟨w0, w1, w2, w3, w4, w5, rfl⟩ := six h6
    have m0 := hme w0 (by simp)
    have m1 := hme w1 (by simp)
    have m2 := hme w2 (by simp)
    have m3 := hme w3 (by simp)
    have m4 := hme w4 (by simp)
    have m5 := hme w5 (by simp)
    have hg : opGood s [w0, w1, w2, w3, w4, w5] = ((num w0).isSome && (num w3).isSome && (num w4).isSome && (unhex w5).isSome && (opText (opRaw [w0, w1, w2, w3, w4, w5]) == s)) := by simp [opGood]
    have hul : ((unhex w5).getD []).length ≤ w5.length := by
      cases hu : unhex w5 with
      | none => simp
      | some d => have := unhex_len w5 d hu; simp; omega
    have ho : opRaw [w0, w1, w2, w3, w4, w5] = ⟨((num w0).getD 0 : Nat), w1, w2, ((num w3).getD 0 : Nat), (unhex w5).getD [], ((num w4).getD 0 : Nat)⟩ := rfl
    have hsm : smO (opRaw [w0, w1, w2, w3, w4, w5]) := by rw [ho]; exact ⟨by show w1.length ≤ _; omega, by show w2.length ≤ _; omega, by show ((unhex w5).getD []).length ≤ _; omega⟩
    conv => whnf
    refine ⟨fun h => absurd h (by simp), fun _ => ?_⟩
    repeat ((conv => whnf); first | refine ⟨by (show (_ : Prop)); first | omega | ((try dsimp only at *); (try simp only [lns] at *); omega), ?_⟩ | refine ⟨encS _, fun _ => rfl, ?_⟩)
    refine ⟨w0, rfl, fun _ => (show w0.length ≤ 16777216 by omega), ?_⟩
    repeat ((conv => whnf); first | refine ⟨by (show (_ : Prop)); first | omega | ((try dsimp only at *); (try simp only [lns] at *); omega), ?_⟩ | refine ⟨encS _, fun _ => rfl, ?_⟩)
    refine ⟨w3, rfl, fun _ => (show w3.length ≤ 16777216 by omega), ?_⟩
    repeat ((conv => whnf); first | refine ⟨by (show (_ : Prop)); first | omega | ((try dsimp only at *); (try simp only [lns] at *); omega), ?_⟩ | refine ⟨encS _, fun _ => rfl, ?_⟩)
    refine ⟨w4, rfl, fun _ => (show w4.length ≤ 16777216 by omega), ?_⟩
    repeat ((conv => whnf); first | refine ⟨by (show (_ : Prop)); first | omega | ((try dsimp only at *); (try simp only [lns] at *); omega), ?_⟩ | refine ⟨encS _, fun _ => rfl, ?_⟩)
    refine ⟨w5, rfl, fun _ => (show w5.length ≤ 16777216 by omega), ?_⟩
    repeat ((conv => whnf); first | refine ⟨fun h => h, ?_⟩ | refine ⟨(by kernel_rfl : drawOk _ _ = true), ?_⟩ | refine ⟨by (show (_ : Prop)); first | omega | ((try dsimp only at *); (try simp only [lns] at *); omega), ?_⟩ | refine ⟨encS _, fun _ => rfl, ?_⟩)
    refine ⟨opRaw [w0, w1, w2, w3, w4, w5], rfl, fun _ => hsm, ?_⟩
    repeat ((conv => whnf); refine ⟨fun h => h, ?_⟩)
    (conv => whnf); refine ⟨fun h3 => ?_, fun h3 => ?_⟩
    · have h3 : (!(num w0).isSome || !(num w3).isSome || !(num w4).isSome || !(unhex w5).isSome || !(opText (opRaw [w0, w1, w2, w3, w4, w5]) == s)) = true := h3
      have hno : opOf s = none := by
        rw [hop, hg, if_neg]
        revert h3
        cases (num w0).isSome <;> cases (num w3).isSome <;> cases (num w4).isSome <;> cases (unhex w5).isSome <;> cases (opText (opRaw [w0, w1, w2, w3, w4, w5]) == s) <;> simp
      skip
      exact ⟨trivial, by rw [hno]; exact ⟨rfl, rfl, rfl, rfl, rfl, rfl, trivial⟩, eqB (by rw [hno]; rfl), trivial⟩
    · have h3 : (!(num w0).isSome || !(num w3).isSome || !(num w4).isSome || !(unhex w5).isSome || !(opText (opRaw [w0, w1, w2, w3, w4, w5]) == s)) = false := h3
      have hyes : opOf s = some (opRaw [w0, w1, w2, w3, w4, w5]) := by
        rw [hop, hg, if_pos]
        revert h3
        cases (num w0).isSome <;> cases (num w3).isSome <;> cases (num w4).isSome <;> cases (unhex w5).isSome <;> cases (opText (opRaw [w0, w1, w2, w3, w4, w5]) == s) <;> simp
      skip
      exact ⟨trivial, by rw [hyes]; exact ⟨rfl, rfl, rfl, rfl, rfl, rfl, trivial⟩, eqB (by rw [hyes]; rfl), trivial⟩
  · have hno : opOf s = none := by rw [hop, if_neg]; simp [opGood, h6]
    have h6' : ((ws.map encS).length : Int) ≠ 6 := by simp; omega
    (conv => whnf); refine ⟨fun h1 => ?_, fun h1 => ?_⟩
    · skip
      exact ⟨trivial, by rw [hno]; exact ⟨rfl, rfl, rfl, rfl, rfl, rfl, trivial⟩, eqB (by rw [hno]; rfl), trivial⟩
    · exfalso
      have h1 : (((ws.map encS).length : Int) != 6) = false := h1
      simp at h1; omega
theorem ok_impl_OpOf : ConOk Tryd.prog 18 c_impl_OpOf := meets_ok (tabT _ _) (FOk.cons ok_impl_OpText (FOk.cons ok_impl_Parts (FOk.cons ok_impl_Number (FOk.cons ok_impl_hexBytes FOk.nil)))) mixed Tryd.func18 rfl Tryd.call18 (by decide) (by kernel_rfl) m_impl_OpOf (by intro _ (y : Str) _; exact ⟨by simp [c_impl_OpOf, con, conG, conW, AV.noRd, noRdCells, noRdRows, noRdRows_map', encS, encO], by simp [c_impl_OpOf, con, conG, conW, AV.noRd, noRdCells, noRdRows, noRdRows_map', encS, encO]⟩) (by intro (y : Str) _; first | (simp [c_impl_OpOf, con, conG, conW, conP, AV.free, freeCells, freeRows, freeRows_map, encS, encO]; done) | (obtain ⟨_, _⟩ := y; simp [c_impl_OpOf, con, conG, conW, conP, AV.free, freeCells, freeRows, freeRows_map, encS, encO]; done) | (obtain ⟨_, _, _⟩ := y; simp [c_impl_OpOf, con, conG, conW, conP, AV.free, freeCells, freeRows, freeRows_map, encS, encO]; done))
noncomputable def c_laws_FnExactOpOf : PCon := conG gwErr [mC] true Str encS (fun s => s.length ≤ 9223372036854775807) (fun _ => .bool true)
noncomputable def E_laws_FnExactOpOf : Env := ⟨lookup tyTab, lookup [(17, c_spec_OpOf), (18, c_impl_OpOf), (19, c_laws_eqOp)], [0, 2, 3, 4, 5, 6, 9, 28]⟩
set_option maxRecDepth 100000 in
set_option maxHeartbeats 4000000 in
theorem m_laws_FnExactOpOf : Meets E_laws_FnExactOpOf (codeOf Tryd.f5) Tryd.f5.results.toList c_laws_FnExactOpOf := by
  intro (s : Str) hs
  have hs : s.length ≤ 9223372036854775807 := hs
  refine ⟨trivial, ?_⟩
  skip
  (conv => whnf); refine ⟨fun h1 => ?_, fun h1 => ?_⟩
  · conv => whnf
    exact ⟨trivial, rfl⟩
  have h1 : s.length ≤ 1048576 := by simp at h1; omega
  conv => whnf
  refine ⟨s, rfl, fun _ => h1, ?_⟩
  skip
  refine ⟨s, rfl, fun _ => h1, ?_⟩
  skip
  refine ⟨(opOf s).getD OpR.zero, rfl, fun _ => trivial, ?_⟩
  repeat ((conv => whnf); refine ⟨fun h => h, ?_⟩)
  (conv => whnf); refine ⟨fun h2 => ?_, fun h2 => ?_⟩
  · have h2 : (!true || !((opOf s).isSome == (opOf s).isSome)) = true := h2
    simp at h2
  conv => whnf
  exact ⟨trivial, rfl⟩
theorem ok_laws_FnExactOpOf : ConOk Tryd.prog 5 c_laws_FnExactOpOf := meets_ok (tabT _ _) (FOk.cons ok_spec_OpOf (FOk.cons ok_impl_OpOf (FOk.cons ok_laws_eqOp FOk.nil))) mixed Tryd.func5 rfl Tryd.call5 (by decide) (by kernel_rfl) m_laws_FnExactOpOf (by intro _ (y : Str) _; exact ⟨by simp [c_laws_FnExactOpOf, con, conG, conW, AV.noRd, noRdCells, noRdRows, noRdRows_map', encS, encO], by simp [c_laws_FnExactOpOf, con, conG, conW, AV.noRd, noRdCells, noRdRows, noRdRows_map', encS, encO]⟩) (by intro (y : Str) _; first | (simp [c_laws_FnExactOpOf, con, conG, conW, conP, AV.free, freeCells, freeRows, freeRows_map, encS, encO]; done) | (obtain ⟨_, _⟩ := y; simp [c_laws_FnExactOpOf, con, conG, conW, conP, AV.free, freeCells, freeRows, freeRows_map, encS, encO]; done) | (obtain ⟨_, _, _⟩ := y; simp [c_laws_FnExactOpOf, con, conG, conW, conP, AV.free, freeCells, freeRows, freeRows_map, encS, encO]; done))
end Go.GH

set_option linter.unusedVariables false
set_option linter.unusedSimpArgs false
namespace Go.GH
open Go Go.Proofs
open Go.ChangeShapes Go.WideShapes Go.ChangeAt Go.RowKit
set_option maxRecDepth 100000 in
theorem sh_Str : shTy Tryd.prog 12 9 = some [.str] := by kernel_rfl
set_option maxRecDepth 100000 in
theorem arg_Str {a : AV} (h : ArgOk Tryd.prog 12 9 a) : ∃ p : Str, a = .str p ∧ p.length ≤ 9223372036854775807 := by
  obtain ⟨sh, avs, h1, h2, h3⟩ := h
  rw [sh_Str] at h1
  obtain rfl := Option.some.inj h1
  rw [Tryd.underlying9] at h3
  obtain ⟨c, r, rfl, ⟨s, rfl, hl⟩, e⟩ := h2
  have e : r = [] := e
  subst e
  have h3 : [AV.str s] = [a] := h3
  exact ⟨s, (List.cons.inj h3).1.symm, hl⟩
theorem gSyn : Tryd.prog.globalNamed "strconv.ErrSyntax" = some 1 := by kernel_rfl
theorem gRng : Tryd.prog.globalNamed "strconv.ErrRange" = some 2 := by kernel_rfl
theorem starErr : "*" ++ "errors.errorString" = "*errors.errorString" := by decide
theorem rowErr (u : TypeId) (h : Tryd.prog.typeName? 3 u = some "*errors.errorString") : u = 125 :=
  typeName_ptr_named (nm := "errors.errorString") (by rw [starErr]; kernel_rfl) (by kernel_rfl) (by decide) u (by rw [starErr]; exact h)
set_option maxRecDepth 100000 in
theorem gwErr_laid {W : World} {x y z : String × DataW Unit} (h : laidMet Tryd.prog [x, y, z, ("strconv.ErrRange", Go.Proofs.YtijkfhkjnhceoaaDoor.Rows.laid_strconv_ErrRange), ("strconv.ErrSyntax", Go.Proofs.YtijkfhkjnhceoaaDoor.Rows.laid_strconv_ErrSyntax)] W) (ht : gwTab W) : gwErr W := by
  obtain ⟨a0, s0, hv0, _⟩ := laid_sentinel (text := [118, 97, 108, 117, 101, 32, 111, 117, 116, 32, 111, 102, 32, 114, 97, 110, 103, 101]) h.tail.tail.tail gRng (by kernel_rfl) Tryd.underlying78 rowErr Tryd.underlying125 Tryd.underlying127 rfl rfl Tryd.underlying9 (by kernel_rfl) (by kernel_rfl)
  obtain ⟨a1, s1, hv1, _⟩ := laid_sentinel (text := [105, 110, 118, 97, 108, 105, 100, 32, 115, 121, 110, 116, 97, 120]) h.tail.tail.tail.tail gSyn (by kernel_rfl) Tryd.underlying78 rowErr Tryd.underlying125 Tryd.underlying127 rfl rfl Tryd.underlying9 (by kernel_rfl) (by kernel_rfl)
  have c0 := World.var?_cell gRng hv0 0
  have c1 := World.var?_cell gSyn hv1 0
  exact ⟨ht, ⟨_, _, c1⟩, _, _, c0⟩
theorem gokErr {W : World} (h : gwErr W) : GOk gwErr W fun _ => False := by
  have h0 := h
  obtain ⟨ht, ⟨t1, a1, c1⟩, t2, a2, c2⟩ := h0
  refine ⟨fun b => b = 1 ∨ b = 2 ∨ b = 3, fun b hb => ⟨?_, fun h => h⟩, fun w' hw => ⟨(var_congr gTab (hw 3 (by simp))).trans ht, ⟨t1, a1, ?_⟩, t2, a2, ?_⟩⟩
  · rcases hb with rfl | rfl | rfl
    · exact (cell_lt c1).1
    · exact (cell_lt c2).1
    · exact var_lt gTab ht
  · rw [← c1]; exact World.cell?_of_block (hw 1 (by simp))
  · rw [← c2]; exact World.cell?_of_block (hw 2 (by simp))
end Go.GH

set_option linter.unusedVariables false
set_option linter.unusedSimpArgs false
namespace Go.GH
open Go
structure Cur where
  b : Str
  i : Nat
  h : Int
def encB (b : UInt8) : List AV := [.int .u8 b.toNat]
def encC (c : Cur) : List AV := [.rd 1 (c.b.map encB), .int .i64 c.i, .int .i64 c.h]
def curOk (c : Cur) : Prop := c.i ≤ c.b.length ∧ c.b.length ≤ 1048576
def andI (a b : Int) : Int := IntKind.i64.wrap (BitVec.ofInt IntKind.i64.bits a &&& BitVec.ofInt IntKind.i64.bits b).toNat
def xorI (a b : Int) : Int := IntKind.i64.wrap (BitVec.ofInt IntKind.i64.bits a ^^^ BitVec.ofInt IntKind.i64.bits b).toNat
def mulI (a b : Int) : Int := IntKind.i64.wrap (a * b)
def addI (a b : Int) : Int := IntKind.i64.wrap (a + b)
theorem andI_le {a : Int} {m : Nat} (hm : m < 2 ^ 62) : 0 ≤ andI a m ∧ andI a m ≤ m := by
  have h : ((BitVec.ofInt 64 a &&& BitVec.ofInt 64 (m : Int)).toNat : Nat) ≤ m := by
    rw [BitVec.toNat_and]
    refine Nat.le_trans Nat.and_le_right ?_
    rw [BitVec.ofInt_natCast, BitVec.toNat_ofNat]
    exact Nat.mod_le _ _
  have e : andI a m = ((BitVec.ofInt 64 a &&& BitVec.ofInt 64 (m : Int)).toNat : Int) := w64 (a := ((BitVec.ofInt 64 a &&& BitVec.ofInt 64 (m : Int)).toNat : Int)) (by omega)
  rw [e]
  omega
def nextH (h : Int) : Int := addI (mulI h 6364136223846793005) 1442695040888963407
def x0 (h : Int) : Int := andI (xorI (h.fdiv (2 ^ min (33 : Int).toNat IntKind.i64.bits)) (h.fdiv (2 ^ min (45 : Int).toNat IntKind.i64.bits))) 255
def curX (c : Cur) : Int := match c.b[c.i]? with
  | some y => andI (x0 (nextH c.h) + y.toNat) 255
  | none => x0 (nextH c.h)
def curN (c : Cur) : Cur := ⟨c.b, if c.i < c.b.length then c.i + 1 else c.i, nextH c.h⟩
theorem x0_le (h : Int) : 0 ≤ x0 h ∧ x0 h ≤ 255 := andI_le (m := 255) (by decide)
theorem curX_le (c : Cur) : 0 ≤ curX c ∧ curX c ≤ 255 := by
  unfold curX
  split
  · exact andI_le (m := 255) (by decide)
  · exact x0_le _
theorem curN_ok {c : Cur} (h : curOk c) : curOk (curN c) := by
  obtain ⟨h1, h2⟩ := h
  refine ⟨?_, h2⟩
  show (if c.i < c.b.length then c.i + 1 else c.i) ≤ c.b.length
  split <;> omega
def belX (c : Cur) (n : Int) : Int := if n ≤ 0 then 0 else if n ≤ 256 then (curX c).tmod n else (curX c * 16777216 + curX (curN c) * 65536 + curX (curN (curN c)) * 256 + curX (curN (curN (curN c)))).tmod n
def belN (c : Cur) (n : Int) : Cur := if n ≤ 0 then c else if n ≤ 256 then curN c else curN (curN (curN (curN c)))
theorem belX_le (c : Cur) (n : Int) : 0 ≤ belX c n ∧ (0 < n → belX c n < n) := by
  have c0 := curX_le c
  have c1 := curX_le (curN c)
  have c2 := curX_le (curN (curN c))
  have c3 := curX_le (curN (curN (curN c)))
  unfold belX
  split
  · omega
  · rename_i h
    split
    · exact ⟨Int.tmod_nonneg _ c0.1, fun hn => Int.tmod_lt_of_pos _ hn⟩
    · exact ⟨Int.tmod_nonneg _ (by omega), fun hn => Int.tmod_lt_of_pos _ hn⟩
theorem belN_ok {c : Cur} {n : Int} (h : curOk c) : curOk (belN c n) := by
  unfold belN
  split
  · exact h
  · split
    · exact curN_ok h
    · exact curN_ok (curN_ok (curN_ok (curN_ok h)))
theorem belN_b (c : Cur) (n : Int) : (belN c n).b = c.b := by
  unfold belN
  split
  · rfl
  · split <;> rfl
def stepH (h : Int) (x : UInt8) : Int := andI (addI (addI (mulI h 131) x.toNat) 7) 1073741823
def hash (s : Str) : Int := (s.take 4000).foldl stepH (26583 + s.length)
def newC (s : Str) : Cur := ⟨s, 0, hash s⟩
theorem newC_ok {s : Str} (h : s.length ≤ 1048576) : curOk (newC s) := ⟨Nat.zero_le _, h⟩
theorem foldl_succ {α β : Type} {f : β → α → β} {z : β} {l : List α} {i : Nat} {x : α} (h : l[i]? = some x) : (l.take (i + 1)).foldl f z = f ((l.take i).foldl f z) x := by
  rw [take_succ' h, List.foldl_append]; rfl
end Go.GH

set_option linter.unusedVariables false
set_option linter.unusedSimpArgs false
namespace Go.GH
open Go
def pickI (c : Cur) (l : List Int) : Int := l.getD (belX c l.length).toNat 0
def pickS (c : Cur) (l : List Str) : Str := l.getD (belX c l.length).toNat []
def encN (n : Int) : List AV := [.int .i64 n]
theorem pickI_get {c : Cur} {l : List Int} (h : 0 < l.length) : l[(belX c l.length).toNat]? = some (pickI c l) := by
  have := belX_le c l.length
  have := this.2 (by omega)
  rw [pickI, List.getD_eq_getElem?_getD, List.getElem?_eq_getElem (by omega)]; rfl
theorem pickS_get {c : Cur} {l : List Str} (h : 0 < l.length) : l[(belX c l.length).toNat]? = some (pickS c l) := by
  have := belX_le c l.length
  have := this.2 (by omega)
  rw [pickS, List.getD_eq_getElem?_getD, List.getElem?_eq_getElem (by omega)]; rfl
theorem pickI_mem {c : Cur} {l : List Int} (h : 0 < l.length) : pickI c l ∈ l := List.mem_of_getElem? (pickI_get h)
theorem pickS_mem {c : Cur} {l : List Str} (h : 0 < l.length) : pickS c l ∈ l := List.mem_of_getElem? (pickS_get h)
theorem pickS_len {c : Cur} {l : List Str} (h : 0 < l.length) {k : Nat} (hk : (l.all fun s => decide (s.length ≤ k)) = true) : (pickS c l).length ≤ k := by
  have := List.all_eq_true.1 hk _ (pickS_mem (c := c) h)
  simpa using this
def badPaths : List Str := [[], [47], [97], [47, 65], [47, 97, 47], [47, 47], [47, 116, 111, 111, 108, 111, 110, 103], [47, 97, 47, 98, 47, 99, 47, 100, 47, 101], [47, 97, 47, 98, 47, 99, 47, 100], [47, 97, 32, 98], [47, 126, 48], [47, 97, 47, 46, 46]]
def goodPaths : List Str := [[47, 97], [47, 98], [47, 97, 47, 120], [47, 97, 47, 121], [47, 98, 47, 120], [47, 99], [47, 97, 47, 120, 47, 122], [47, 100], [47, 97, 47, 98], [47, 101, 47, 102]]
def pathX (c : Cur) : Str := if belX c 12 = 0 then pickS (belN c 12) badPaths else pickS (belN c 12) goodPaths
def pathN (c : Cur) : Cur := if belX c 12 = 0 then belN (belN c 12) 12 else belN (belN c 12) 10
theorem pathX_len (c : Cur) : (pathX c).length ≤ 20 := by
  unfold pathX
  split
  · exact pickS_len (by decide) (by decide)
  · exact pickS_len (by decide) (by decide)
theorem pathN_ok {c : Cur} (h : curOk c) : curOk (pathN c) := by
  unfold pathN
  split
  · exact belN_ok (belN_ok h)
  · exact belN_ok (belN_ok h)
def txtLens : List Int := [0, 1, 5, 15, 16, 17, 33, 64, 80, 81]
def txtGo : Nat → Nat → Cur → Str → Str × Cur
  | 0, i, c, s => (s, c)
  | k + 1, i, c, s => txtGo k (i + 1) (belN c 2) (s ++ [UInt8.ofNat (97 + (i + (belX c 2).toNat) % 26)])
def txtN (c : Cur) : Nat := (pickI c txtLens).toNat
def txtX (c : Cur) : Str := (txtGo (txtN c) 0 (belN c 10) []).1
def txtC (c : Cur) : Cur := (txtGo (txtN c) 0 (belN c 10) []).2
theorem txtGo_len : ∀ (k i : Nat) (c : Cur) (s : Str), (txtGo k i c s).1.length = s.length + k
  | 0, i, c, s => rfl
  | k + 1, i, c, s => by rw [txtGo, txtGo_len k]; simp; omega
theorem txtGo_ok : ∀ (k i : Nat) {c : Cur} (s : Str), curOk c → curOk (txtGo k i c s).2
  | 0, i, c, s, h => h
  | k + 1, i, c, s, h => by rw [txtGo]; exact txtGo_ok k _ _ (belN_ok h)
theorem txt_pick (c : Cur) : 0 ≤ pickI c txtLens ∧ pickI c txtLens ≤ 81 := by
  have h := pickI_mem (c := c) (l := txtLens) (by decide)
  have : (txtLens.all fun n => decide (0 ≤ n) && decide (n ≤ 81)) = true := by decide
  have := List.all_eq_true.1 this _ h
  simpa using this
theorem txtX_len (c : Cur) : (txtX c).length ≤ 81 := by
  have := txt_pick c
  rw [txtX, txtGo_len, txtN]
  simp; omega
theorem txtC_ok {c : Cur} (h : curOk c) : curOk (txtC c) := txtGo_ok _ _ _ (belN_ok h)
def kinds : List Int := [0, 1, 1, 1, 2, 3, 3, 3, 4, 5, 6, 7, 8, 8]
def ats1 : List Int := [0, 1, 10, 16, 40, 79]
def ats2 : List Int := [0, 1, 16, 50, 80, 81]
def datas : List Str := [[], [65], [66, 67, 68], [48, 49, 50, 51, 52, 53, 54, 55, 56, 57, 97, 98, 99, 100, 101, 102, 88, 89]]
def opX2 (k : Int) (p : Str) (t : Int) (c : Cur) : OpR :=
  if k = 8 then ⟨k, p, pathX c, 0, [], t⟩ else if k = 3 then ⟨k, p, [], pickI c ats1, pickS (belN c 6) datas, t⟩ else if k = 4 then ⟨k, p, [], pickI c ats2, [], t⟩ else ⟨k, p, [], 0, txtX c, t⟩
def opN2 (k : Int) (c : Cur) : Cur := if k = 8 then pathN c else if k = 3 then belN (belN c 6) 4 else if k = 4 then belN c 6 else txtC c
def opC (c : Cur) : Cur := belN (pathN (belN c 14)) 9
def opX (c : Cur) : OpR := opX2 (pickI c kinds) (pathX (belN c 14)) (belX (pathN (belN c 14)) 9) (opC c)
def opN (c : Cur) : Cur := opN2 (pickI c kinds) (opC c)
def smD (o : OpR) : Prop := o.path.length ≤ 100 ∧ o.to.length ≤ 100 ∧ o.data.length ≤ 100
theorem opC_ok {c : Cur} (h : curOk c) : curOk (opC c) := belN_ok (pathN_ok (belN_ok h))
theorem opN_ok {c : Cur} (h : curOk c) : curOk (opN c) := by
  have h := opC_ok h
  unfold opN opN2
  split
  · exact pathN_ok h
  · split
    · exact belN_ok (belN_ok h)
    · split
      · exact belN_ok h
      · exact txtC_ok h
theorem opX_sm (c : Cur) : smD (opX c) := by
  have h1 := pathX_len (belN c 14)
  have h2 := pathX_len (opC c)
  have h3 := txtX_len (opC c)
  have h4 : (pickS (belN (opC c) 6) datas).length ≤ 100 := pickS_len (by decide) (by decide)
  unfold opX opX2 smD
  split
  · exact ⟨by show (pathX _).length ≤ _; omega, by show (pathX _).length ≤ _; omega, by simp⟩
  · split
    · exact ⟨by show (pathX _).length ≤ _; omega, by simp, h4⟩
    · split
      · exact ⟨by show (pathX _).length ≤ _; omega, by simp, by simp⟩
      · exact ⟨by show (pathX _).length ≤ _; omega, by simp, by show (txtX _).length ≤ _; omega⟩
def bentX (c : Cur) : OpR :=
  if belX (opN c) 14 = 0 then { opX c with kind := pickI (belN (opN c) 14) [-1, 9] } else if belX (opN c) 14 = 1 then { opX c with at_ := pickI (belN (opN c) 14) [-1, 1000, 1001, 9223372036854775807] }
  else if belX (opN c) 14 = 2 then { opX c with time := pickI (belN (opN c) 14) [-1, 100001] } else opX c
def bentN (c : Cur) : Cur := if belX (opN c) 14 = 0 then belN (belN (opN c) 14) 2 else if belX (opN c) 14 = 1 then belN (belN (opN c) 14) 4 else if belX (opN c) 14 = 2 then belN (belN (opN c) 14) 2 else belN (opN c) 14
theorem bentX_sm (c : Cur) : smD (bentX c) := by
  have h := opX_sm c
  unfold bentX
  repeat' split
  all_goals exact h
theorem bentN_ok {c : Cur} (h : curOk c) : curOk (bentN c) := by
  have h := opN_ok h
  unfold bentN
  repeat' split
  all_goals first | exact belN_ok (belN_ok h) | exact belN_ok h
def tos : List Str := [[], [47], [120, 32, 121], [47, 98]]
def bent6X (c : Cur) : OpR := if belX (bentN c) 8 = 0 then { bentX c with to := pickS (belN (bentN c) 8) tos } else bentX c
def bent6N (c : Cur) : Cur := if belX (bentN c) 8 = 0 then belN (belN (bentN c) 8) 4 else belN (bentN c) 8
theorem bent6X_sm (c : Cur) : smD (bent6X c) := by
  have h := bentX_sm c
  unfold bent6X
  split
  · exact ⟨h.1, pickS_len (by decide) (by decide), h.2.2⟩
  · exact h
theorem bent6N_ok {c : Cur} (h : curOk c) : curOk (bent6N c) := by
  have h := bentN_ok h
  unfold bent6N
  split
  · exact belN_ok (belN_ok h)
  · exact belN_ok h
def opsGo : Nat → Cur → List OpR → List OpR × Cur
  | 0, c, l => (l, c)
  | k + 1, c, l => opsGo k (opN c) (l ++ [opX c])
theorem opsGo_len : ∀ (k : Nat) (c : Cur) (l : List OpR), (opsGo k c l).1.length = l.length + k
  | 0, c, l => rfl
  | k + 1, c, l => by rw [opsGo, opsGo_len k]; simp; omega
theorem opsGo_ok : ∀ (k : Nat) {c : Cur} (l : List OpR), curOk c → curOk (opsGo k c l).2
  | 0, c, l, h => h
  | k + 1, c, l, h => by rw [opsGo]; exact opsGo_ok k _ (opN_ok h)
theorem opsGo_sm : ∀ (k : Nat) (c : Cur) {l : List OpR}, (∀ o, o ∈ l → smD o) → ∀ o, o ∈ (opsGo k c l).1 → smD o
  | 0, c, l, h => h
  | k + 1, c, l, h => by
    rw [opsGo]
    refine opsGo_sm k _ fun o ho => ?_
    rcases List.mem_append.1 ho with ho | ho
    · exact h o ho
    · have : o = opX c := by simpa using ho
      rw [this]; exact opX_sm c
theorem leO {k a m : Int} {p t d : Str} {o : OpR} (h : o = ⟨k, p, t, a, d, m⟩) : leVal (.agg [.int .i64 k, .str p, .str t, .int .i64 a, .str d, .int .i64 m]) (.agg (encO o)) := by
  subst h; exact ⟨rfl, rfl, rfl, rfl, rfl, rfl, trivial⟩
end Go.GH

set_option linter.unusedVariables false
set_option linter.unusedSimpArgs false
namespace Go.GH
open Go
def opsAll : List Str → Option (List OpR)
  | [] => some []
  | a :: r => match opOf a with
    | none => none
    | some o => (opsAll r).map (o :: ·)
def opsLines (ls : List Str) : Option (List OpR) := if ls.getD (ls.length - 1) [] == [] then opsAll (ls.take (ls.length - 1)) else none
def opsOf (s : Str) : Option (List OpR) := opsLines (splitBy 10 s)
def cutN (s : Str) : Str × Str × Bool := if fnd (fun b => b == 10) s ≥ 0 then (s.take (fnd (fun b => b == 10) s).toNat, s.drop ((fnd (fun b => b == 10) s).toNat + 1), true) else (s, [], false)
theorem fnd_first {p : UInt8 → Bool} {s : Str} (h : 0 ≤ fnd p s) : ∃ x, s[(fnd p s).toNat]? = some x ∧ p x = true ∧ ∀ y, y ∈ s.take (fnd p s).toNat → p y = false := by
  have ha : s.any p = true := by
    rcases Bool.eq_false_or_eq_true (s.any p) with h1 | h1
    · exact h1
    · rw [fnd_none h1] at h; omega
  have e : (fnd p s).toNat = s.findIdx p := by unfold fnd; rw [if_pos ha]; simp
  rw [e]
  have hlt : s.findIdx p < s.length := List.findIdx_lt_length.2 (List.any_eq_true.1 ha)
  refine ⟨s[s.findIdx p], List.getElem?_eq_getElem hlt, List.findIdx_getElem, fun y hy => ?_⟩
  obtain ⟨j, hj⟩ := List.getElem?_of_mem hy
  have hjl : j < s.findIdx p := by
    have := lt_of_get hj
    rw [List.length_take] at this; omega
  rw [List.getElem?_take_of_lt hjl] at hj
  have h1 := List.not_of_lt_findIdx hjl
  have hjs : j < s.length := by omega
  rw [List.getElem?_eq_getElem hjs] at hj
  simp only [Option.some.injEq] at hj
  rw [← hj]; simpa using h1
theorem cutN_hit {s : Str} (h : (cutN s).2.2 = true) : s = (cutN s).1 ++ 10 :: (cutN s).2.1 ∧ ∀ x, x ∈ (cutN s).1 → x ≠ 10 := by
  unfold cutN at h ⊢
  by_cases hf : fnd (fun b => b == 10) s ≥ 0
  · rw [if_pos hf]
    obtain ⟨x, h1, h2, h3⟩ := fnd_first hf
    have hx : x = 10 := by simpa using h2
    subst hx
    refine ⟨?_, fun y hy => by simpa using h3 y hy⟩
    have hlt := lt_of_get h1
    have e : s.drop (fnd (fun b => b == 10) s).toNat = 10 :: s.drop ((fnd (fun b => b == 10) s).toNat + 1) := by
      rw [List.drop_eq_getElem_cons hlt]
      rw [List.getElem?_eq_getElem hlt] at h1
      simp only [Option.some.injEq] at h1
      rw [h1]
    show s = s.take _ ++ 10 :: s.drop _
    rw [← e, List.take_append_drop]
  · rw [if_neg hf] at h; cases h
theorem cutN_miss {s : Str} (h : (cutN s).2.2 = false) : ∀ x, x ∈ s → x ≠ 10 := by
  unfold cutN at h
  by_cases hf : fnd (fun b => b == 10) s ≥ 0
  · rw [if_pos hf] at h; cases h
  · have : s.any (fun b => b == 10) = false := by
      rcases Bool.eq_false_or_eq_true (s.any (fun b => b == 10)) with h1 | h1
      · exact absurd (by have := fnd_pos (p := fun b => b == 10) (l := s); rw [h1] at this; simpa using this) hf
      · exact h1
    intro x hx e
    subst e
    rw [List.any_eq_false] at this
    exact this 10 hx (by simp)
theorem cutN_len (s : Str) : (cutN s).1.length ≤ s.length ∧ (cutN s).2.1.length ≤ s.length := by
  unfold cutN
  split
  · exact ⟨by simp [List.length_take]; omega, by simp⟩
  · exact ⟨by simp, by simp⟩
theorem opsOf_nil : opsOf [] = some [] := rfl
theorem opsLines_cons {a : Str} {r : List Str} (hr : r ≠ []) : opsLines (a :: r) = match opOf a with
    | none => none
    | some o => (opsLines r).map (o :: ·) := by
  have hl : 0 < r.length := List.length_pos_iff.2 hr
  obtain ⟨k, hk⟩ : ∃ k, r.length = k + 1 := ⟨r.length - 1, by omega⟩
  unfold opsLines
  rw [List.length_cons, hk]
  simp only [Nat.add_sub_cancel, List.getD_cons_succ, List.take_succ_cons]
  by_cases h : (r.getD k [] == []) = true
  · rw [if_pos h, if_pos h, opsAll]
  · rw [if_neg h, if_neg h]
    cases opOf a <;> rfl
theorem opsOf_cut {a b : Str} (ha : ∀ x, x ∈ a → x ≠ 10) : opsOf (a ++ 10 :: b) = match opOf a with
    | none => none
    | some o => (opsOf b).map (o :: ·) := by
  unfold opsOf
  rw [splitBy_at ha, opsLines_cons (splitBy_ne 10 b)]
theorem opsOf_whole {s : Str} (hs : ∀ x, x ∈ s → x ≠ 10) (hne : s ≠ []) : opsOf s = none := by
  unfold opsOf
  rw [splitBy_none hs]
  unfold opsLines
  rw [if_neg]
  simpa using hne
def OpsInv (s r : Str) (out : List OpR) : Prop := out.length + r.length ≤ s.length ∧ opsOf s = (opsOf r).map (out ++ ·)
theorem OpsInv.zero (s : Str) : OpsInv s s [] := ⟨by simp, by cases opsOf s <;> simp⟩
theorem OpsInv.fin {s : Str} {out : List OpR} (h : OpsInv s [] out) : opsOf s = some out := by rw [h.2, opsOf_nil]; simp
theorem OpsInv.next {s r : Str} {out : List OpR} (h : OpsInv s r out) (hc : (cutN r).2.2 = true) {o : OpR} (ho : opOf (cutN r).1 = some o) : OpsInv s (cutN r).2.1 (out ++ [o]) ∧ (cutN r).2.1.length < r.length := by
  obtain ⟨e, hn⟩ := cutN_hit hc
  have hl := congrArg List.length e
  simp at hl
  refine ⟨⟨by have := h.1; simp; omega, ?_⟩, by omega⟩
  rw [h.2]
  conv => lhs; rw [e]
  rw [opsOf_cut hn, ho]
  cases opsOf (cutN r).2.1 <;> simp
theorem OpsInv.bad {s r : Str} {out : List OpR} (h : OpsInv s r out) (hne : r ≠ []) (hc : (cutN r).2.2 = false ∨ opOf (cutN r).1 = none) : opsOf s = none := by
  rw [h.2]
  have : opsOf r = none := by
    rcases Bool.eq_false_or_eq_true (cutN r).2.2 with h1 | h1
    · obtain ⟨e, hn⟩ := cutN_hit h1
      have h2 : opOf (cutN r).1 = none := by
        rcases hc with hc | hc
        · rw [h1] at hc; cases hc
        · exact hc
      conv => lhs; rw [e]
      rw [opsOf_cut hn, h2]
    · exact opsOf_whole (cutN_miss h1) hne
  rw [this]; rfl
theorem opsAll_take {l : List Str} {i : Nat} {a : Str} {out : List OpR} (h : opsAll (l.take i) = some out) (ha : l[i]? = some a) : (∀ o, opOf a = some o → opsAll (l.take (i + 1)) = some (out ++ [o])) ∧ (opOf a = none → opsAll (l.take (i + 1)) = none) := by
  rw [take_succ' ha]
  generalize l.take i = p at h
  induction p generalizing out with
  | nil =>
    simp only [opsAll, Option.some.injEq] at h
    subst h
    exact ⟨fun o ho => by simp [opsAll, ho], fun ho => by simp [opsAll, ho]⟩
  | cons x p ih =>
    rw [opsAll] at h
    cases hx : opOf x with
    | none => rw [hx] at h; cases h
    | some y =>
      rw [hx] at h
      cases hp : opsAll p with
      | none => simp [hp] at h
      | some q =>
        simp only [hp, Option.map_some, Option.some.injEq] at h
        subst h
        obtain ⟨i1, i2⟩ := ih hp
        refine ⟨fun o ho => ?_, fun ho => ?_⟩
        · rw [List.cons_append, opsAll, hx]; simp [i1 o ho]
        · rw [List.cons_append, opsAll, hx]; simp [i2 ho]
theorem opsAll_none : ∀ {l : List Str} (i : Nat), opsAll (l.take i) = none → opsAll l = none
  | [], i, h => by simpa using h
  | a :: l, 0, h => by simp [opsAll] at h
  | a :: l, i + 1, h => by
    rw [List.take_succ_cons, opsAll] at h
    rw [opsAll]
    cases ho : opOf a with
    | none => rfl
    | some o =>
      rw [ho] at h
      cases hl : opsAll (l.take i) with
      | none => simp [opsAll_none i hl]
      | some q => simp [hl] at h
theorem opsAll_len : ∀ {l : List Str} {out : List OpR}, opsAll l = some out → out.length = l.length
  | [], out, h => by simp [opsAll] at h; subst h; rfl
  | a :: l, out, h => by
    rw [opsAll] at h
    cases ho : opOf a with
    | none => rw [ho] at h; cases h
    | some o =>
      rw [ho] at h
      cases hl : opsAll l with
      | none => simp [hl] at h
      | some q =>
        simp only [hl, Option.map_some, Option.some.injEq] at h
        subst h
        simp [opsAll_len hl]
end Go.GH

set_option linter.unusedVariables false
set_option linter.unusedSimpArgs false
namespace Go.GH
open Go
def opDraw (c : Cur) : Str :=
  if belX (bent6N c) 6 = 0 then (opText (bent6X c)).take (belX (belN (bent6N c) 6) ((opText (bent6X c)).length + 1)).toNat
  else if belX (bent6N c) 6 = 1 then opText (bent6X c) ++ [48]
  else if belX (bent6N c) 6 = 2 then (if 0 < (opText (bent6X c)).length then (opText (bent6X c)).set (belX (belN (bent6N c) 6) (opText (bent6X c)).length).toNat (UInt8.ofNat (pickI (belN (belN (bent6N c) 6) (opText (bent6X c)).length) [48, 32, 65, 97, 47]).toNat) else opText (bent6X c))
  else opText (bent6X c)
def opsList (c : Cur) : List OpR × Cur := opsGo (belX c 5).toNat (belN c 5) []
def opsDraw (c : Cur) : List OpR := if belX (opsList c).2 5 = 0 then (opsList c).1 ++ [bent6X (belN (opsList c).2 5)] else (opsList c).1
theorem smD_smO {o : OpR} (h : smD o) : smO o := ⟨by have := h.1; omega, by have := h.2.1; omega, by have := h.2.2; omega⟩
theorem opText_smD {o : OpR} (h : smD o) : (opText o).length ≤ 600 := by
  have := opText_len o
  obtain ⟨h1, h2, h3⟩ := h
  omega
theorem opDraw_len (c : Cur) : (opDraw c).length ≤ 601 := by
  have := opText_smD (bent6X_sm c)
  unfold opDraw
  repeat' split
  all_goals first
    | (rw [List.length_take]; omega)
    | (rw [List.length_append]; show _ + 1 ≤ _; omega)
    | (rw [List.length_set]; omega)
    | omega
theorem opsDraw_sm (c : Cur) : smOL (opsDraw c) := by
  have hb := belX_le c 5
  have hb2 := hb.2 (by decide)
  have hl : (opsList c).1.length ≤ 5 := by rw [opsList, opsGo_len]; simp; omega
  have hs : ∀ o, o ∈ (opsList c).1 → smD o := opsGo_sm _ _ (by simp)
  unfold opsDraw
  split
  · refine ⟨by simp; omega, fun o ho => smD_smO ?_⟩
    rcases List.mem_append.1 ho with ho | ho
    · exact hs o ho
    · have : o = bent6X (belN (opsList c).2 5) := by simpa using ho
      rw [this]; exact bent6X_sm _
  · exact ⟨by omega, fun o ho => smD_smO (hs o ho)⟩
theorem split_char {c : UInt8} : ∀ {p : Str} {x : UInt8}, x ∈ p → x ≠ c → ∃ q, q ∈ splitBy c p ∧ x ∈ q
  | [], x, h, _ => by simp at h
  | y :: p, x, h, hx => by
    unfold splitBy
    by_cases hy : y = c
    · rw [if_pos hy]
      rcases List.mem_cons.1 h with e | h
      · exact absurd (e.trans hy) hx
      · obtain ⟨q, h1, h2⟩ := split_char h hx
        exact ⟨q, by simp [h1], h2⟩
    · rw [if_neg hy]
      rcases List.mem_cons.1 h with e | h
      · subst e
        split
        · exact ⟨_, by simp; left; rfl, by simp⟩
        · exact ⟨[x], by simp, by simp⟩
      · obtain ⟨q, h1, h2⟩ := split_char h hx
        split
        · rename_i a t heq
          rw [heq] at h1
          rcases List.mem_cons.1 h1 with e | h1
          · subst e; exact ⟨y :: q, by simp, by simp [h2]⟩
          · exact ⟨q, by simp [h1], h2⟩
        · rename_i heq; rw [heq] at h1; simp at h1
def plainC (x : UInt8) : Prop := x ≠ 32 ∧ x ≠ 10
theorem isNm_plain {x : UInt8} (h : isNm x = true) : plainC x := by
  unfold isNm at h
  refine ⟨fun e => ?_, fun e => ?_⟩ <;> (subst e; exact absurd h (by decide))
theorem pathE_plain {p : Str} (h : pathE p = true) : ∀ x, x ∈ p → plainC x := by
  intro x hx
  unfold pathE at h
  rcases Bool.or_eq_true _ _ ▸ h with h | h
  · have : p = [] := by simpa using h
    subst this; simp at hx
  · unfold pathOk at h
    rcases Bool.or_eq_true _ _ ▸ h with h | h
    · have : p = sl := by simpa using h
      subst this
      have : x = 47 := by simpa [sl] using hx
      subst this; exact ⟨by decide, by decide⟩
    · by_cases h47 : x = 47
      · subst h47; exact ⟨by decide, by decide⟩
      · simp only [Bool.and_eq_true] at h
        obtain ⟨⟨_, h1⟩, h2⟩ := h
        obtain ⟨q, q1, q2⟩ := split_char (c := 47) hx h47
        cases hs : splitBy 47 p with
        | nil => rw [hs] at q1; simp at q1
        | cons a r =>
          rw [hs] at q1 h1 h2
          have h1 : a = [] := by simpa using h1
          rcases List.mem_cons.1 q1 with e | q1
          · subst e; rw [h1] at q2; simp at q2
          · have := List.all_eq_true.1 h2 q (by simpa using q1)
            simp only [nameOk, Bool.and_eq_true] at this
            exact isNm_plain (List.all_eq_true.1 this.2 x q2)
theorem isDg_plain {x : UInt8} (h : isDg x = true) : plainC x := by
  unfold isDg at h
  refine ⟨fun e => ?_, fun e => ?_⟩ <;> (subst e; exact absurd h (by decide))
theorem dig_plain {n : Nat} (h : n ≤ 999999) : ∀ x, x ∈ dig n → plainC x := by
  intro x hx
  have e := dig_dec (n := n) (by omega)
  rw [e] at hx
  exact isDg_plain (List.all_eq_true.1 (dec_all n).1 x hx)
theorem hx_plain' : ∀ n : Fin 16, hx n.val ≠ 32 ∧ hx n.val ≠ 10 := by decide
theorem hexT_plain {d : Str} : ∀ x, x ∈ hexT d → plainC x := by
  intro x hx'
  obtain ⟨b, _, hb⟩ := List.mem_flatMap.1 hx'
  have := b.toNat_lt
  rcases List.mem_cons.1 hb with e | hb
  · rw [e]; exact hx_plain' ⟨b.toNat / 16, by omega⟩
  · have e : x = hx (b.toNat % 16) := by simpa using hb
    rw [e]; exact hx_plain' ⟨b.toNat % 16, by omega⟩
theorem hexV_hx' : ∀ n : Fin 16, hexV (hx n.val) = n.val := by decide
theorem unhex_hexT : ∀ (d : Str), unhex (hexT d) = some d
  | [] => rfl
  | b :: d => by
    have hb := b.toNat_lt
    have h1 := hexV_hx' ⟨b.toNat / 16, by omega⟩
    have h2 := hexV_hx' ⟨b.toNat % 16, by omega⟩
    simp only at h1 h2
    have e : hexT (b :: d) = hx (b.toNat / 16) :: hx (b.toNat % 16) :: hexT d := rfl
    rw [e, unhex, unhex_hexT d, if_neg (by simp [h1, h2]; omega)]
    have : hexB (hx (b.toNat / 16)) (hx (b.toNat % 16)) = b := by
      unfold hexB
      rw [h1, h2, Int.toNat_natCast, Int.toNat_natCast, show 16 * (b.toNat / 16) + b.toNat % 16 = b.toNat by omega]
      exact UInt8.ofNat_toNat
    rw [this]; rfl
theorem num_dig {n : Nat} (h : n ≤ 999999) : num (dig n) = some n := by
  obtain ⟨h1, h2⟩ := numOk_dig h
  rw [num, if_pos h1, h2]
theorem opOk_parts {o : OpR} (h : opOk o = true) : numsOk o = true ∧ pathE o.path = true ∧ pathE o.to = true := by
  simp only [opOk, Bool.and_eq_true] at h
  exact ⟨h.1.1.1, h.1.1.2, h.1.2⟩
theorem opText_cut {o : OpR} (h : opOk o = true) : splitBy 32 (opText o) = [dig o.kind.toNat, o.path, o.to, dig o.at_.toNat, dig o.time.toNat, hexT o.data] := by
  obtain ⟨h1, h2, h3⟩ := opOk_parts h
  obtain ⟨⟨k1, k2⟩, ⟨a1, a2⟩, t1, t2⟩ := numsOk_iff h1
  have e : opText o = dig o.kind.toNat ++ 32 :: (o.path ++ 32 :: (o.to ++ 32 :: (dig o.at_.toNat ++ 32 :: (dig o.time.toNat ++ 32 :: hexT o.data)))) := by
    rw [opText, if_pos h]; simp [opHead]
  rw [e, splitBy_at fun x hx => (dig_plain (by omega) x hx).1, splitBy_at fun x hx => (pathE_plain h2 x hx).1, splitBy_at fun x hx => (pathE_plain h3 x hx).1, splitBy_at fun x hx => (dig_plain (by omega) x hx).1, splitBy_at fun x hx => (dig_plain (by omega) x hx).1, splitBy_none fun x hx => (hexT_plain x hx).1]
theorem opText_empty (o : OpR) : (opText o == []) = !opOk o := by
  unfold opText
  cases h : opOk o with
  | false => rfl
  | true => simp [opHead]
theorem opText_no10 (o : OpR) : ∀ x, x ∈ opText o → x ≠ 10 := by
  intro x hx
  cases h : opOk o with
  | false => rw [opText, if_neg (by simp [h])] at hx; simp at hx
  | true =>
    obtain ⟨h1, h2, h3⟩ := opOk_parts h
    obtain ⟨⟨k1, k2⟩, ⟨a1, a2⟩, t1, t2⟩ := numsOk_iff h1
    rw [opText, if_pos h] at hx
    simp only [opHead, List.mem_append, List.mem_cons, List.not_mem_nil, or_false] at hx
    rcases hx with (((((((((hx | hx) | hx) | hx) | hx) | hx) | hx) | hx) | hx) | hx) | hx
    all_goals first
      | exact (dig_plain (by omega) x hx).2
      | exact (pathE_plain h2 x hx).2
      | exact (pathE_plain h3 x hx).2
      | exact (hexT_plain x hx).2
      | (subst hx; decide)
theorem opOf_round (o : OpR) : opOf (opText o) = if opOk o then some o else none := by
  cases h : opOk o with
  | false =>
    have e : opText o = [] := by rw [opText, if_neg (by simp [h])]
    rw [e]; rfl
  | true =>
    obtain ⟨h1, h2, h3⟩ := opOk_parts h
    obtain ⟨⟨k1, k2⟩, ⟨a1, a2⟩, t1, t2⟩ := numsOk_iff h1
    have hr : opRaw (splitBy 32 (opText o)) = o := by
      rw [opText_cut h]
      unfold opRaw
      simp only [List.getD_cons_zero, List.getD_cons_succ]
      rw [num_dig (by omega), num_dig (by omega), num_dig (by omega), unhex_hexT]
      obtain ⟨k, p, t, a, d, m⟩ := o
      simp only [Option.getD_some] at *
      congr 1 <;> omega
    have hg : opGood (opText o) (splitBy 32 (opText o)) = true := by
      unfold opGood
      rw [hr, opText_cut h]
      simp only [List.getD_cons_zero, List.getD_cons_succ]
      rw [num_dig (by omega), num_dig (by omega), num_dig (by omega), unhex_hexT]
      simp
    rw [opOf, if_pos hg, hr]; rfl
theorem opsText_all (l : List OpR) : (l.all fun o => !(opText o == [])) = l.all opOk := by
  induction l with
  | nil => rfl
  | cons o l ih => rw [List.all_cons, List.all_cons, ih, opText_empty, Bool.not_not]
theorem opsOf_lines : ∀ {l : List OpR}, l.all opOk = true → opsOf (l.flatMap opLine) = some l
  | [], _ => rfl
  | o :: l, h => by
    simp only [List.all_cons, Bool.and_eq_true] at h
    have e : (o :: l).flatMap opLine = opText o ++ 10 :: l.flatMap opLine := by simp [opLine]
    rw [e, opsOf_cut (opText_no10 o), opOf_round, if_pos h.1, opsOf_lines h.2]; rfl
theorem opsOf_round (l : List OpR) : opsOf (opsText l) = some (if l.all opOk then l else []) := by
  unfold opsText
  rw [opsText_all]
  cases h : l.all opOk with
  | false => rfl
  | true => simp only [if_true]; exact opsOf_lines h
theorem opsText_empty (l : List OpR) : (opsText l == []) = true → (if l.all opOk then l else []) = [] := by
  unfold opsText
  rw [opsText_all]
  cases h : l.all opOk with
  | false => intro _; rfl
  | true =>
    simp only [if_true]
    cases l with
    | nil => intro _; rfl
    | cons o l => intro h2; simp [opLine] at h2
theorem opsText_full (l : List OpR) : (opsText l == []) = false → (if l.all opOk then l else []) = l := by
  unfold opsText
  rw [opsText_all]
  cases h : l.all opOk with
  | false => intro h2; simp at h2
  | true => intro _; rfl
theorem round_no (o : OpR) : ((opOf (opText o)).isSome != !(opText o == []) || !(opText o == opText o) || ((opOf (opText o)).isSome && !(((opOf (opText o)).getD OpR.zero).kind == o.kind && (((opOf (opText o)).getD OpR.zero).path == o.path && (((opOf (opText o)).getD OpR.zero).to == o.to &&
    (((opOf (opText o)).getD OpR.zero).at_ == o.at_ && (((opOf (opText o)).getD OpR.zero).data == o.data && (((opOf (opText o)).getD OpR.zero).time == o.time && true)))))))) = false := by
  rw [opOf_round, opText_empty]
  cases opOk o <;> simp
theorem opOf_sm {s : Str} (h : s.length ≤ 1048576) : smO ((opOf s).getD OpR.zero) := by
  unfold opOf
  split
  · rename_i hg
    simp only [opGood, Bool.and_eq_true, decide_eq_true_eq] at hg
    obtain ⟨a, b, c, d, e, f, hl⟩ := six hg.1.1.1.1.1
    have hm := fun w hw => splitBy_mem (c := 32) s w hw
    rw [hl] at hm ⊢
    have m1 := hm b (by simp)
    have m2 := hm c (by simp)
    have m5 := hm f (by simp)
    have hu : ((unhex f).getD []).length ≤ f.length := by
      cases hu : unhex f with
      | none => simp
      | some d => have := unhex_len f d hu; simp; omega
    exact ⟨by show b.length ≤ _; omega, by show c.length ≤ _; omega, by show ((unhex f).getD []).length ≤ _; omega⟩
  · exact ⟨by show 0 ≤ _; omega, by show 0 ≤ _; omega, by show 0 ≤ _; omega⟩
theorem drawn_no (s t : Str) : ((opOf t).isSome != (opOf t).isSome || ((opOf t).isSome && !(opText ((opOf t).getD OpR.zero) == t)) || !true || !(s == s)) = false := by
  cases h : opOf t with
  | none => simp
  | some o => simp [opOf_text h]
theorem opsDraw_len (c : Cur) : (opsText (opsDraw c)).length ≤ 1048576 := by
  have hb := belX_le c 5
  have hb2 := hb.2 (by decide)
  have hl : (opsList c).1.length ≤ 5 := by rw [opsList, opsGo_len]; simp; omega
  have hs : ∀ o, o ∈ (opsList c).1 → smD o := opsGo_sm _ _ (by simp)
  have hs2 : ∀ o, o ∈ opsDraw c → smD o := by
    intro o ho
    unfold opsDraw at ho
    split at ho
    · rcases List.mem_append.1 ho with ho | ho
      · exact hs o ho
      · have : o = bent6X (belN (opsList c).2 5) := by simpa using ho
        rw [this]; exact bent6X_sm _
    · exact hs o ho
  have hl2 : (opsDraw c).length ≤ 6 := by
    unfold opsDraw
    split
    · simp; omega
    · omega
  unfold opsText
  split
  · have := flat_le (f := opLine) (k := 601) (l := opsDraw c) fun o ho => by
      have := opText_smD (hs2 o ho)
      simp [opLine]; omega
    have h2 : (opsDraw c).length * 601 ≤ 6 * 601 := Nat.mul_le_mul_right _ hl2
    omega
  · simp
end Go.GH

set_option linter.unusedVariables false
set_option linter.unusedSimpArgs false
namespace Go.GH
open Go Go.Proofs
noncomputable def c_spec_l1Byte : PCon := conW true [.mp] Cur (fun c => [.own 3 [encC c]]) curOk (fun c => .int .i64 (curX c)) (fun c => [.own 3 [encC (curN c)]])
noncomputable def E_spec_l1Byte : Env := ⟨lookup tyTab, lookup [], [0, 2, 3, 34]⟩
set_option maxRecDepth 100000 in
set_option maxHeartbeats 4000000 in
theorem m_spec_l1Byte : Meets E_spec_l1Byte (codeOf Tryd.f64) Tryd.f64.results.toList c_spec_l1Byte := by
  intro (c : Cur) hc
  obtain ⟨hc1, hc2⟩ : curOk c := hc
  refine ⟨⟨⟨_, _, _, rfl, rfl, by simp⟩, trivial⟩, ?_⟩
  skip
  refine ⟨mulI c.h 6364136223846793005, rfl, ?_⟩
  skip
  refine ⟨nextH c.h, rfl, ?_⟩
  repeat ((conv => whnf); refine ⟨by (show (_ : Prop)); first | omega | ((try dsimp only at *); (try simp only [lns] at *); omega), ?_⟩)
  refine ⟨(nextH c.h).fdiv (2 ^ min (33 : Int).toNat IntKind.i64.bits), rfl, ?_⟩
  repeat ((conv => whnf); refine ⟨by (show (_ : Prop)); first | omega | ((try dsimp only at *); (try simp only [lns] at *); omega), ?_⟩)
  refine ⟨(nextH c.h).fdiv (2 ^ min (45 : Int).toNat IntKind.i64.bits), rfl, ?_⟩
  skip
  refine ⟨xorI ((nextH c.h).fdiv (2 ^ min (33 : Int).toNat IntKind.i64.bits)) ((nextH c.h).fdiv (2 ^ min (45 : Int).toNat IntKind.i64.bits)), rfl, ?_⟩
  skip
  refine ⟨x0 (nextH c.h), rfl, ?_⟩
  have hx0 := x0_le (nextH c.h)
  repeat ((conv => whnf); refine ⟨(by kernel_rfl : drawOk _ _ = true), ?_⟩)
  (conv => whnf); refine ⟨fun h1 => ?_, fun h1 => ?_⟩
  · have h1 : c.i < c.b.length := by simpa using h1
    obtain ⟨y, hy⟩ := get_lt h1
    have hX : curX c = andI (x0 (nextH c.h) + y.toNat) 255 := by rw [curX, hy]
    have hN : curN c = ⟨c.b, c.i + 1, nextH c.h⟩ := by rw [curN, if_pos h1]
    have hyl := y.toNat_lt
    skip
    refine ⟨encB y, fun _ => ⟨by omega, get_map hy⟩, ?_⟩
    repeat ((conv => whnf); refine ⟨_, w64 (by (show (_ : Prop)); first | omega | ((try dsimp only at *); (try simp only [lns] at *); omega)), ?_⟩)
    refine ⟨andI (x0 (nextH c.h) + y.toNat) 255, rfl, ?_⟩
    repeat ((conv => whnf); first | refine ⟨(by kernel_rfl : drawOk _ _ = true), ?_⟩ | refine ⟨_, w64 (by (show (_ : Prop)); first | omega | ((try dsimp only at *); (try simp only [lns] at *); omega)), ?_⟩)
    exact ⟨⟨by rw [hN]; rfl, trivial⟩, eqN' hX.symm⟩
  · have h1 : ¬ c.i < c.b.length := by simpa using h1
    have hX : curX c = x0 (nextH c.h) := by rw [curX, List.getElem?_eq_none (by omega)]
    have hN : curN c = ⟨c.b, c.i, nextH c.h⟩ := by rw [curN, if_neg h1]
    skip
    exact ⟨⟨by rw [hN]; rfl, trivial⟩, eqN' hX.symm⟩
theorem ok_spec_l1Byte : ConOk Tryd.prog 64 c_spec_l1Byte := meets_okW (tabT _ _) FOk.nil mixed Tryd.func64 rfl Tryd.call64 (by decide) (by kernel_rfl) m_spec_l1Byte (fun h => by cases h) (by intro (y : Cur) _; first | exact ⟨by simp [c_spec_l1Byte, con, conG, conW, conP, AV.free, freeCells, freeRows, freeRows_map, encS, encC, encB], by simp [c_spec_l1Byte, con, conG, conW, conP, AV.free, freeCells, freeRows, freeRows_map, encS, encC, encB]⟩ | (obtain ⟨_, _⟩ := y; exact ⟨by simp [c_spec_l1Byte, con, conG, conW, conP, AV.free, freeCells, freeRows, freeRows_map, encS, encC, encB], by simp [c_spec_l1Byte, con, conG, conW, conP, AV.free, freeCells, freeRows, freeRows_map, encS, encC, encB]⟩) | (obtain ⟨_, _, _⟩ := y; exact ⟨by simp [c_spec_l1Byte, con, conG, conW, conP, AV.free, freeCells, freeRows, freeRows_map, encS, encC, encB], by simp [c_spec_l1Byte, con, conG, conW, conP, AV.free, freeCells, freeRows, freeRows_map, encS, encC, encB]⟩)) (by intro (y : Cur) _; first | (simp [c_spec_l1Byte, con, conG, conW, conP, AV.free, freeCells, freeRows, freeRows_map, encS, encC, encB]; done) | (obtain ⟨_, _⟩ := y; simp [c_spec_l1Byte, con, conG, conW, conP, AV.free, freeCells, freeRows, freeRows_map, encS, encC, encB]; done) | (obtain ⟨_, _, _⟩ := y; simp [c_spec_l1Byte, con, conG, conW, conP, AV.free, freeCells, freeRows, freeRows_map, encS, encC, encB]; done))
noncomputable def c_spec_l1Below : PCon := conW true [.mp, mC] (Cur × Int) (fun ⟨c, n⟩ => [.own 3 [encC c], .int .i64 n]) (fun x => curOk x.1) (fun ⟨c, n⟩ => .int .i64 (belX c n)) (fun ⟨c, n⟩ => [.own 3 [encC (belN c n)]])
noncomputable def E_spec_l1Below : Env := ⟨lookup tyTab, lookup [(64, c_spec_l1Byte)], [0, 1, 4, 5, 6, 7, 8, 10, 12]⟩
set_option maxRecDepth 100000 in
set_option maxHeartbeats 4000000 in
theorem m_spec_l1Below : Meets E_spec_l1Below (codeOf Tryd.f47) Tryd.f47.results.toList c_spec_l1Below := by
  rintro ⟨c, n⟩ hc
  have hc : curOk c := hc
  refine ⟨⟨⟨_, _, _, rfl, rfl, by simp⟩, trivial⟩, ?_⟩
  (conv => whnf); refine ⟨fun h1 => ?_, fun h1 => ?_⟩
  · have h1 : n ≤ 0 := by simpa using h1
    have hX : belX c n = 0 := by rw [belX, if_pos h1]
    have hN : belN c n = c := by rw [belN, if_pos h1]
    skip
    exact ⟨⟨by rw [hN]; rfl, trivial⟩, eqN' hX.symm⟩
  have h1 : ¬ n ≤ 0 := by simpa using h1
  skip
  (conv => whnf); refine ⟨fun h2 => ?_, fun h2 => ?_⟩
  · have h2 : n ≤ 256 := by simpa using h2
    have hX : belX c n = (curX c).tmod n := by rw [belX, if_neg h1, if_pos h2]
    have hN : belN c n = curN c := by rw [belN, if_neg h1, if_pos h2]
    skip
    refine ⟨c, rfl, fun _ => hc, ?_⟩
    repeat ((conv => whnf); refine ⟨by (show (_ : Prop)); first | omega | ((try dsimp only at *); (try simp only [lns] at *); omega), ?_⟩)
    refine ⟨(curX c).tmod n, rfl, ?_⟩
    skip
    exact ⟨⟨by rw [hN]; rfl, trivial⟩, eqN' hX.symm⟩
  · have h2 : ¬ n ≤ 256 := by simpa using h2
    have hX : belX c n = (curX c * 16777216 + curX (curN c) * 65536 + curX (curN (curN c)) * 256 + curX (curN (curN (curN c)))).tmod n := by rw [belX, if_neg h1, if_neg h2]
    have hN : belN c n = curN (curN (curN (curN c))) := by rw [belN, if_neg h1, if_neg h2]
    skip
    refine ⟨c, rfl, fun _ => hc, ?_⟩
    skip
    refine ⟨curN c, rfl, fun _ => curN_ok hc, ?_⟩
    skip
    refine ⟨curN (curN c), rfl, fun _ => curN_ok (curN_ok hc), ?_⟩
    skip
    refine ⟨curN (curN (curN c)), rfl, fun _ => curN_ok (curN_ok (curN_ok hc)), ?_⟩
    have c0 := curX_le c
    have c1 := curX_le (curN c)
    have c2 := curX_le (curN (curN c))
    have c3 := curX_le (curN (curN (curN c)))
    repeat ((conv => whnf); first | refine ⟨_, w64 (by (show (_ : Prop)); first | omega | ((try dsimp only at *); (try simp only [lns] at *); omega)), ?_⟩ | refine ⟨by (show (_ : Prop)); first | omega | ((try dsimp only at *); (try simp only [lns] at *); omega), ?_⟩)
    refine ⟨(curX c * 16777216 + curX (curN c) * 65536 + curX (curN (curN c)) * 256 + curX (curN (curN (curN c)))).tmod n, rfl, ?_⟩
    skip
    exact ⟨⟨by rw [hN]; rfl, trivial⟩, eqN' hX.symm⟩
theorem ok_spec_l1Below : ConOk Tryd.prog 47 c_spec_l1Below := meets_okW (tabT _ _) (FOk.cons ok_spec_l1Byte FOk.nil) mixed Tryd.func47 rfl Tryd.call47 (by decide) (by kernel_rfl) m_spec_l1Below (fun h => by cases h) (by intro (y : (Cur × Int)) _; first | exact ⟨by simp [c_spec_l1Below, con, conG, conW, conP, AV.free, freeCells, freeRows, freeRows_map, encS, encC, encB], by simp [c_spec_l1Below, con, conG, conW, conP, AV.free, freeCells, freeRows, freeRows_map, encS, encC, encB]⟩ | (obtain ⟨_, _⟩ := y; exact ⟨by simp [c_spec_l1Below, con, conG, conW, conP, AV.free, freeCells, freeRows, freeRows_map, encS, encC, encB], by simp [c_spec_l1Below, con, conG, conW, conP, AV.free, freeCells, freeRows, freeRows_map, encS, encC, encB]⟩) | (obtain ⟨_, _, _⟩ := y; exact ⟨by simp [c_spec_l1Below, con, conG, conW, conP, AV.free, freeCells, freeRows, freeRows_map, encS, encC, encB], by simp [c_spec_l1Below, con, conG, conW, conP, AV.free, freeCells, freeRows, freeRows_map, encS, encC, encB]⟩)) (by intro (y : (Cur × Int)) _; first | (simp [c_spec_l1Below, con, conG, conW, conP, AV.free, freeCells, freeRows, freeRows_map, encS, encC, encB]; done) | (obtain ⟨_, _⟩ := y; simp [c_spec_l1Below, con, conG, conW, conP, AV.free, freeCells, freeRows, freeRows_map, encS, encC, encB]; done) | (obtain ⟨_, _, _⟩ := y; simp [c_spec_l1Below, con, conG, conW, conP, AV.free, freeCells, freeRows, freeRows_map, encS, encC, encB]; done))
noncomputable def c_spec_l1New : PCon := conP [mS 1] Str (fun s => [.rd 1 (s.map encB)]) (fun s => s.length ≤ 1048576) (fun s => .own 3 [encC (newC s)])
noncomputable def E_spec_l1New : Env := ⟨lookup tyTab, lookup [], [0, 2, 3, 4, 15]⟩
set_option maxRecDepth 100000 in
set_option maxHeartbeats 4000000 in
theorem m_spec_l1New : MeetsP E_spec_l1New (codeOf Tryd.f46) Tryd.f46.results.toList c_spec_l1New := by
  intro (s : Str) (hs : s.length ≤ 1048576)
  refine ⟨rfl, ?_⟩
  repeat ((conv => whnf); refine ⟨_, w64 (by (show (_ : Prop)); first | omega | ((try dsimp only at *); (try simp only [lns] at *); omega)), ?_⟩)
  refine loop_rule (fun i : Nat => ⟨[(0, ⟨none, .rd 1 (s.map encB)⟩), (3, ⟨none, .int .i64 ((s.take i).foldl stepH (26583 + s.length))⟩), (4, ⟨none, .int .i64 i⟩)], [], 0⟩)
    (fun i => i ≤ s.length ∧ i ≤ 4000) (fun i => s.length - i) 0 ?_ ⟨by omega, by omega⟩ ?_
  · (refine ⟨?_, ?_, rfl⟩ <;> repeat' (first | exact rfl | exact trivial | refine ⟨?_, ?_⟩ | fail) <;> (conv => whnf))
    all_goals simp
  rintro i ⟨hi, hi2⟩
  repeat ((conv => whnf); refine ⟨fun h => h, ?_⟩)
  (conv => whnf); refine ⟨fun h1 => ?_, fun h1 => ?_⟩
  · have h1 : i < s.length ∧ i < 4000 := by
      have h1 : (decide ((i : Int) < (s.map encB).length) && decide ((i : Int) < 4000)) = true := h1
      simp at h1; omega
    obtain ⟨y, hy⟩ := get_lt h1.1
    have hyl := y.toNat_lt
    skip
    refine ⟨mulI _ 131, rfl, ?_⟩
    skip
    refine ⟨encB y, fun _ => ⟨by omega, get_map hy⟩, ?_⟩
    repeat ((conv => whnf); refine ⟨_, w64 (by (show (_ : Prop)); first | omega | ((try dsimp only at *); (try simp only [lns] at *); omega)), ?_⟩)
    refine ⟨addI _ y.toNat, rfl, ?_⟩
    skip
    refine ⟨addI _ 7, rfl, ?_⟩
    skip
    refine ⟨andI _ 1073741823, rfl, ?_⟩
    repeat ((conv => whnf); refine ⟨_, w64 (by (show (_ : Prop)); first | omega | ((try dsimp only at *); (try simp only [lns] at *); omega)), ?_⟩)
    refine again (i + 1) ?_ ⟨h1.1, h1.2⟩ (by first | omega | (simp; done) | (simp; omega))
    (refine ⟨?_, ?_, rfl⟩ <;> repeat' (first | exact rfl | exact trivial | refine ⟨?_, ?_⟩ | fail) <;> (conv => whnf))
    rw [foldl_succ hy]; rfl
  · have h1 : i = s.length ∨ i = 4000 := by
      have h1 : (decide ((i : Int) < (s.map encB).length) && decide ((i : Int) < 4000)) = false := h1
      simp at h1; omega
    have ht : s.take i = s.take 4000 := by
      rcases h1 with h1 | h1
      · subst h1; rw [List.take_length, List.take_of_length_le hi2]
      · rw [h1]
    rw [ht]
    skip
    exact ⟨rfl, by simp [c_spec_l1New, conP, encC, encB, AV.free, freeRows, freeRows_map, freeCells], 3, _, rfl⟩
theorem ok_spec_l1New : ConOk Tryd.prog 46 c_spec_l1New := meets_okP (tabT _ _) FOk.nil mixed Tryd.func46 rfl Tryd.call46 (by decide) (by kernel_rfl) m_spec_l1New (by intro (y : Str) _; first | (simp [c_spec_l1New, con, conG, conW, conP, AV.free, freeCells, freeRows, freeRows_map, encS, encC, encB]; done) | (obtain ⟨_, _⟩ := y; simp [c_spec_l1New, con, conG, conW, conP, AV.free, freeCells, freeRows, freeRows_map, encS, encC, encB]; done) | (obtain ⟨_, _, _⟩ := y; simp [c_spec_l1New, con, conG, conW, conP, AV.free, freeCells, freeRows, freeRows_map, encS, encC, encB]; done))
noncomputable def c_laws_big : PCon := con [mS 1] true Str (fun s => [.rd 1 (s.map encB)]) (fun _ => True) (fun s => .bool (decide (1048576 < s.length)))
noncomputable def E_laws_big : Env := ⟨lookup tyTab, lookup [], [0, 2]⟩
set_option maxRecDepth 100000 in
set_option maxHeartbeats 4000000 in
theorem m_laws_big : Meets E_laws_big (codeOf Tryd.f24) Tryd.f24.results.toList c_laws_big := by
  intro (s : Str) _
  refine ⟨trivial, ?_⟩
  skip
  exact ⟨trivial, eqB (by simp; omega)⟩
theorem ok_laws_big : ConOk Tryd.prog 24 c_laws_big := meets_ok (tabT _ _) FOk.nil mixed Tryd.func24 rfl Tryd.call24 (by decide) (by kernel_rfl) m_laws_big (by intro _ (y : Str) _; exact ⟨by simp [c_laws_big, con, conG, conW, AV.noRd, noRdCells, noRdRows, noRdRows_map', encS, encC, encB], by simp [c_laws_big, con, conG, conW, AV.noRd, noRdCells, noRdRows, noRdRows_map', encS, encC, encB]⟩) (by intro (y : Str) _; first | (simp [c_laws_big, con, conG, conW, conP, AV.free, freeCells, freeRows, freeRows_map, encS, encC, encB]; done) | (obtain ⟨_, _⟩ := y; simp [c_laws_big, con, conG, conW, conP, AV.free, freeCells, freeRows, freeRows_map, encS, encC, encB]; done) | (obtain ⟨_, _, _⟩ := y; simp [c_laws_big, con, conG, conW, conP, AV.free, freeCells, freeRows, freeRows_map, encS, encC, encB]; done))
end Go.GH

set_option linter.unusedVariables false
set_option linter.unusedSimpArgs false
namespace Go.GH
open Go Go.Proofs
noncomputable def c_spec_l1Once : PCon := conW true [.mp, mC] (Cur × Int) (fun ⟨c, n⟩ => [.own 3 [encC c], .int .i64 n]) (fun x => curOk x.1) (fun ⟨c, n⟩ => .bool (belX c n == 0)) (fun ⟨c, n⟩ => [.own 3 [encC (belN c n)]])
noncomputable def E_spec_l1Once : Env := ⟨lookup tyTab, lookup [(47, c_spec_l1Below)], [0, 1, 4]⟩
set_option maxRecDepth 100000 in
set_option maxHeartbeats 4000000 in
theorem m_spec_l1Once : Meets E_spec_l1Once (codeOf Tryd.f50) Tryd.f50.results.toList c_spec_l1Once := by
  rintro ⟨c, n⟩ hc
  refine ⟨⟨⟨_, _, _, rfl, rfl, by simp⟩, trivial⟩, ?_⟩
  conv => whnf
  refine ⟨(c, n), rfl, fun _ => hc, ?_⟩
  skip
  exact ⟨⟨rfl, trivial⟩, rfl⟩
theorem ok_spec_l1Once : ConOk Tryd.prog 50 c_spec_l1Once := meets_okW (tabT _ _) (FOk.cons ok_spec_l1Below FOk.nil) mixed Tryd.func50 rfl Tryd.call50 (by decide) (by kernel_rfl) m_spec_l1Once (fun h => by cases h) (by intro (y : (Cur × Int)) _; first | exact ⟨by simp [c_spec_l1Once, con, conG, conW, conP, AV.free, freeCells, freeRows, freeRows_map, encS, encO, encC, encB, encN], by simp [c_spec_l1Once, con, conG, conW, conP, AV.free, freeCells, freeRows, freeRows_map, encS, encO, encC, encB, encN]⟩ | (obtain ⟨_, _⟩ := y; exact ⟨by simp [c_spec_l1Once, con, conG, conW, conP, AV.free, freeCells, freeRows, freeRows_map, encS, encO, encC, encB, encN], by simp [c_spec_l1Once, con, conG, conW, conP, AV.free, freeCells, freeRows, freeRows_map, encS, encO, encC, encB, encN]⟩) | (obtain ⟨_, _, _⟩ := y; exact ⟨by simp [c_spec_l1Once, con, conG, conW, conP, AV.free, freeCells, freeRows, freeRows_map, encS, encO, encC, encB, encN], by simp [c_spec_l1Once, con, conG, conW, conP, AV.free, freeCells, freeRows, freeRows_map, encS, encO, encC, encB, encN]⟩)) (by intro (y : (Cur × Int)) _; first | (simp [c_spec_l1Once, con, conG, conW, conP, AV.free, freeCells, freeRows, freeRows_map, encS, encO, encC, encB, encN]; done) | (obtain ⟨_, _⟩ := y; simp [c_spec_l1Once, con, conG, conW, conP, AV.free, freeCells, freeRows, freeRows_map, encS, encO, encC, encB, encN]; done) | (obtain ⟨_, _, _⟩ := y; simp [c_spec_l1Once, con, conG, conW, conP, AV.free, freeCells, freeRows, freeRows_map, encS, encO, encC, encB, encN]; done))
noncomputable def c_spec_l1PickInt : PCon := conW true [.mp, .co [some 1]] (Cur × List Int) (fun ⟨c, l⟩ => [.own 3 [encC c], .own 1 (l.map encN)]) (fun x => curOk x.1 ∧ 0 < x.2.length ∧ x.2.length ≤ 1000) (fun ⟨c, l⟩ => .int .i64 (pickI c l)) (fun ⟨c, l⟩ => [.own 3 [encC (belN c l.length)]])
noncomputable def E_spec_l1PickInt : Env := ⟨lookup tyTab, lookup [(47, c_spec_l1Below)], [0, 1, 4]⟩
set_option maxRecDepth 100000 in
set_option maxHeartbeats 4000000 in
theorem m_spec_l1PickInt : Meets E_spec_l1PickInt (codeOf Tryd.f48) Tryd.f48.results.toList c_spec_l1PickInt := by
  rintro ⟨c, l⟩ hc
  obtain ⟨hc, hl0, hl1⟩ : curOk c ∧ 0 < l.length ∧ l.length ≤ 1000 := hc
  refine ⟨⟨⟨_, _, _, rfl, rfl, by simp⟩, trivial⟩, ?_⟩
  have hb := belX_le c l.length
  have hb2 := hb.2 (by omega)
  skip
  refine ⟨(c, (l.length : Int)), by show [AV.own 3 [encC c], AV.int .i64 ((l.map encN).length : Int)] = _; rw [List.length_map]; rfl, fun _ => hc, ?_⟩
  repeat ((conv => whnf); refine ⟨by (show (_ : Prop)); first | omega | ((try dsimp only at *); (try simp only [lns] at *); omega), ?_⟩)
  refine ⟨encN (pickI c l), fun _ => by show (l.map encN)[0 + (belX c (l.length : Int)).toNat]? = _; rw [Nat.zero_add]; exact get_map (pickI_get hl0), ?_⟩
  skip
  exact ⟨⟨rfl, trivial⟩, rfl⟩
theorem ok_spec_l1PickInt : ConOk Tryd.prog 48 c_spec_l1PickInt := meets_okW (tabT _ _) (FOk.cons ok_spec_l1Below FOk.nil) mixed Tryd.func48 rfl Tryd.call48 (by decide) (by kernel_rfl) m_spec_l1PickInt (fun h => by cases h) (by intro (y : (Cur × List Int)) _; first | exact ⟨by simp [c_spec_l1PickInt, con, conG, conW, conP, AV.free, freeCells, freeRows, freeRows_map, encS, encO, encC, encB, encN], by simp [c_spec_l1PickInt, con, conG, conW, conP, AV.free, freeCells, freeRows, freeRows_map, encS, encO, encC, encB, encN]⟩ | (obtain ⟨_, _⟩ := y; exact ⟨by simp [c_spec_l1PickInt, con, conG, conW, conP, AV.free, freeCells, freeRows, freeRows_map, encS, encO, encC, encB, encN], by simp [c_spec_l1PickInt, con, conG, conW, conP, AV.free, freeCells, freeRows, freeRows_map, encS, encO, encC, encB, encN]⟩) | (obtain ⟨_, _, _⟩ := y; exact ⟨by simp [c_spec_l1PickInt, con, conG, conW, conP, AV.free, freeCells, freeRows, freeRows_map, encS, encO, encC, encB, encN], by simp [c_spec_l1PickInt, con, conG, conW, conP, AV.free, freeCells, freeRows, freeRows_map, encS, encO, encC, encB, encN]⟩)) (by intro (y : (Cur × List Int)) _; first | (simp [c_spec_l1PickInt, con, conG, conW, conP, AV.free, freeCells, freeRows, freeRows_map, encS, encO, encC, encB, encN]; done) | (obtain ⟨_, _⟩ := y; simp [c_spec_l1PickInt, con, conG, conW, conP, AV.free, freeCells, freeRows, freeRows_map, encS, encO, encC, encB, encN]; done) | (obtain ⟨_, _, _⟩ := y; simp [c_spec_l1PickInt, con, conG, conW, conP, AV.free, freeCells, freeRows, freeRows_map, encS, encO, encC, encB, encN]; done))
noncomputable def c_spec_l1Pick : PCon := conW true [.mp, .co [some 1]] (Cur × List Str) (fun ⟨c, l⟩ => [.own 3 [encC c], .own 1 (l.map encS)]) (fun x => curOk x.1 ∧ 0 < x.2.length ∧ x.2.length ≤ 1000) (fun ⟨c, l⟩ => .str (pickS c l)) (fun ⟨c, l⟩ => [.own 3 [encC (belN c l.length)]])
noncomputable def E_spec_l1Pick : Env := ⟨lookup tyTab, lookup [(47, c_spec_l1Below)], [0, 1, 4]⟩
set_option maxRecDepth 100000 in
set_option maxHeartbeats 4000000 in
theorem m_spec_l1Pick : Meets E_spec_l1Pick (codeOf Tryd.f63) Tryd.f63.results.toList c_spec_l1Pick := by
  rintro ⟨c, l⟩ hc
  obtain ⟨hc, hl0, hl1⟩ : curOk c ∧ 0 < l.length ∧ l.length ≤ 1000 := hc
  refine ⟨⟨⟨_, _, _, rfl, rfl, by simp⟩, trivial⟩, ?_⟩
  have hb := belX_le c l.length
  have hb2 := hb.2 (by omega)
  skip
  refine ⟨(c, (l.length : Int)), by show [AV.own 3 [encC c], AV.int .i64 ((l.map encS).length : Int)] = _; rw [List.length_map]; rfl, fun _ => hc, ?_⟩
  repeat ((conv => whnf); refine ⟨by (show (_ : Prop)); first | omega | ((try dsimp only at *); (try simp only [lns] at *); omega), ?_⟩)
  refine ⟨encS (pickS c l), fun _ => by show (l.map encS)[0 + (belX c (l.length : Int)).toNat]? = _; rw [Nat.zero_add]; exact get_map (pickS_get hl0), ?_⟩
  skip
  exact ⟨⟨rfl, trivial⟩, rfl⟩
theorem ok_spec_l1Pick : ConOk Tryd.prog 63 c_spec_l1Pick := meets_okW (tabT _ _) (FOk.cons ok_spec_l1Below FOk.nil) mixed Tryd.func63 rfl Tryd.call63 (by decide) (by kernel_rfl) m_spec_l1Pick (fun h => by cases h) (by intro (y : (Cur × List Str)) _; first | exact ⟨by simp [c_spec_l1Pick, con, conG, conW, conP, AV.free, freeCells, freeRows, freeRows_map, encS, encO, encC, encB, encN], by simp [c_spec_l1Pick, con, conG, conW, conP, AV.free, freeCells, freeRows, freeRows_map, encS, encO, encC, encB, encN]⟩ | (obtain ⟨_, _⟩ := y; exact ⟨by simp [c_spec_l1Pick, con, conG, conW, conP, AV.free, freeCells, freeRows, freeRows_map, encS, encO, encC, encB, encN], by simp [c_spec_l1Pick, con, conG, conW, conP, AV.free, freeCells, freeRows, freeRows_map, encS, encO, encC, encB, encN]⟩) | (obtain ⟨_, _, _⟩ := y; exact ⟨by simp [c_spec_l1Pick, con, conG, conW, conP, AV.free, freeCells, freeRows, freeRows_map, encS, encO, encC, encB, encN], by simp [c_spec_l1Pick, con, conG, conW, conP, AV.free, freeCells, freeRows, freeRows_map, encS, encO, encC, encB, encN]⟩)) (by intro (y : (Cur × List Str)) _; first | (simp [c_spec_l1Pick, con, conG, conW, conP, AV.free, freeCells, freeRows, freeRows_map, encS, encO, encC, encB, encN]; done) | (obtain ⟨_, _⟩ := y; simp [c_spec_l1Pick, con, conG, conW, conP, AV.free, freeCells, freeRows, freeRows_map, encS, encO, encC, encB, encN]; done) | (obtain ⟨_, _, _⟩ := y; simp [c_spec_l1Pick, con, conG, conW, conP, AV.free, freeCells, freeRows, freeRows_map, encS, encO, encC, encB, encN]; done))
noncomputable def c_spec_l2Paths : PCon := con [] false Unit (fun _ => []) (fun _ => True) (fun _ => .own 1 (goodPaths.map encS))
noncomputable def E_spec_l2Paths : Env := ⟨lookup tyTab, lookup [], [0]⟩
set_option maxRecDepth 100000 in
set_option maxHeartbeats 4000000 in
theorem m_spec_l2Paths : Meets E_spec_l2Paths (codeOf Tryd.f92) Tryd.f92.results.toList c_spec_l2Paths := by
  rintro x _
  refine ⟨trivial, ?_⟩
  skip
  exact ⟨trivial, rfl, rfl⟩
theorem ok_spec_l2Paths : ConOk Tryd.prog 92 c_spec_l2Paths := meets_ok (tabT _ _) FOk.nil mixed Tryd.func92 rfl Tryd.call92 (by decide) (by kernel_rfl) m_spec_l2Paths (by intro _ (y : Unit) _; exact ⟨by simp [c_spec_l2Paths, con, conG, conW, AV.noRd, noRdCells, noRdRows, noRdRows_map', encS, encC, encB, encN, encO], by simp [c_spec_l2Paths, con, conG, conW, AV.noRd, noRdCells, noRdRows, noRdRows_map', encS, encC, encB, encN, encO]⟩) (by intro (y : Unit) _; first | (simp [c_spec_l2Paths, con, conG, conW, conP, AV.free, freeCells, freeRows, freeRows_map, encS, encO, encC, encB, encN]; done) | (obtain ⟨_, _⟩ := y; simp [c_spec_l2Paths, con, conG, conW, conP, AV.free, freeCells, freeRows, freeRows_map, encS, encO, encC, encB, encN]; done) | (obtain ⟨_, _, _⟩ := y; simp [c_spec_l2Paths, con, conG, conW, conP, AV.free, freeCells, freeRows, freeRows_map, encS, encO, encC, encB, encN]; done))
noncomputable def c_spec_l2Path : PCon := conW true [.mp] Cur (fun c => [.own 3 [encC c]]) curOk (fun c => .str (pathX c)) (fun c => [.own 3 [encC (pathN c)]])
noncomputable def E_spec_l2Path : Env := ⟨lookup tyTab, lookup [(50, c_spec_l1Once), (63, c_spec_l1Pick), (92, c_spec_l2Paths)], [0, 2, 4]⟩
set_option maxRecDepth 100000 in
set_option maxHeartbeats 4000000 in
theorem m_spec_l2Path : Meets E_spec_l2Path (codeOf Tryd.f77) Tryd.f77.results.toList c_spec_l2Path := by
  intro (c : Cur) hc
  have hc : curOk c := hc
  refine ⟨⟨⟨_, _, _, rfl, rfl, by simp⟩, trivial⟩, ?_⟩
  conv => whnf
  refine ⟨(c, 12), rfl, fun _ => hc, ?_⟩
  (conv => whnf); refine ⟨fun h1 => ?_, fun h1 => ?_⟩
  · have h1 : belX c 12 = 0 := by
      have h1 : (belX c 12 == 0) = true := h1
      simpa using h1
    have hX : pathX c = pickS (belN c 12) badPaths := by rw [pathX, if_pos h1]
    have hN : pathN c = belN (belN c 12) 12 := by rw [pathN, if_pos h1]
    skip
    refine ⟨(belN c 12, badPaths), rfl, fun _ => ⟨belN_ok hc, (by decide : 0 < badPaths.length ∧ badPaths.length ≤ 1000)⟩, ?_⟩
    skip
    exact ⟨⟨by rw [hN]; rfl, trivial⟩, eqS hX.symm⟩
  · have h1 : ¬ belX c 12 = 0 := by
      have h1 : (belX c 12 == 0) = false := h1
      simpa using h1
    have hX : pathX c = pickS (belN c 12) goodPaths := by rw [pathX, if_neg h1]
    have hN : pathN c = belN (belN c 12) 10 := by rw [pathN, if_neg h1]
    skip
    refine ⟨(), rfl, fun _ => trivial, ?_⟩
    skip
    refine ⟨(belN c 12, goodPaths), rfl, fun _ => ⟨belN_ok hc, (by decide : 0 < goodPaths.length ∧ goodPaths.length ≤ 1000)⟩, ?_⟩
    skip
    exact ⟨⟨by rw [hN]; rfl, trivial⟩, eqS hX.symm⟩
theorem ok_spec_l2Path : ConOk Tryd.prog 77 c_spec_l2Path := meets_okW (tabT _ _) (FOk.cons ok_spec_l1Once (FOk.cons ok_spec_l1Pick (FOk.cons ok_spec_l2Paths FOk.nil))) mixed Tryd.func77 rfl Tryd.call77 (by decide) (by kernel_rfl) m_spec_l2Path (fun h => by cases h) (by intro (y : Cur) _; first | exact ⟨by simp [c_spec_l2Path, con, conG, conW, conP, AV.free, freeCells, freeRows, freeRows_map, encS, encO, encC, encB, encN], by simp [c_spec_l2Path, con, conG, conW, conP, AV.free, freeCells, freeRows, freeRows_map, encS, encO, encC, encB, encN]⟩ | (obtain ⟨_, _⟩ := y; exact ⟨by simp [c_spec_l2Path, con, conG, conW, conP, AV.free, freeCells, freeRows, freeRows_map, encS, encO, encC, encB, encN], by simp [c_spec_l2Path, con, conG, conW, conP, AV.free, freeCells, freeRows, freeRows_map, encS, encO, encC, encB, encN]⟩) | (obtain ⟨_, _, _⟩ := y; exact ⟨by simp [c_spec_l2Path, con, conG, conW, conP, AV.free, freeCells, freeRows, freeRows_map, encS, encO, encC, encB, encN], by simp [c_spec_l2Path, con, conG, conW, conP, AV.free, freeCells, freeRows, freeRows_map, encS, encO, encC, encB, encN]⟩)) (by intro (y : Cur) _; first | (simp [c_spec_l2Path, con, conG, conW, conP, AV.free, freeCells, freeRows, freeRows_map, encS, encO, encC, encB, encN]; done) | (obtain ⟨_, _⟩ := y; simp [c_spec_l2Path, con, conG, conW, conP, AV.free, freeCells, freeRows, freeRows_map, encS, encO, encC, encB, encN]; done) | (obtain ⟨_, _, _⟩ := y; simp [c_spec_l2Path, con, conG, conW, conP, AV.free, freeCells, freeRows, freeRows_map, encS, encO, encC, encB, encN]; done))
noncomputable def c_spec_l7Text : PCon := conW true [.mp] Cur (fun c => [.own 3 [encC c]]) curOk (fun c => .str (txtX c)) (fun c => [.own 3 [encC (txtC c)]])
noncomputable def E_spec_l7Text : Env := ⟨lookup tyTab, lookup [(47, c_spec_l1Below), (48, c_spec_l1PickInt)], [0, 2, 3, 4, 5, 11]⟩
set_option maxRecDepth 100000 in
set_option maxHeartbeats 4000000 in
theorem m_spec_l7Text : Meets E_spec_l7Text (codeOf Tryd.f78) Tryd.f78.results.toList c_spec_l7Text := by
  intro (c : Cur) hc
  have hc : curOk c := hc
  refine ⟨⟨⟨_, _, _, rfl, rfl, by simp⟩, trivial⟩, ?_⟩
  skip
  refine ⟨(c, txtLens), rfl, fun _ => ⟨hc, (by decide : 0 < txtLens.length ∧ txtLens.length ≤ 1000)⟩, ?_⟩
  have hp := txt_pick c
  have hp2 : pickI c txtLens = (txtN c : Int) := by unfold txtN; omega
  skip
  refine loop_rule (fun ((i, c', s) : Nat × Cur × Str) => ⟨[(0, ⟨none, .bx 0 0⟩), (3, ⟨none, .str s⟩), (4, ⟨none, .int .i64 (pickI c txtLens)⟩), (5, ⟨none, .int .i64 i⟩)], [(0, .own 3 [encC c'])], 1⟩)
    (fun (i, c', s) => i ≤ txtN c ∧ curOk c' ∧ s.length = i ∧ txtGo (txtN c - i) i c' s = txtGo (txtN c) 0 (belN c 10) []) (fun x => txtN c - x.1) (0, belN c 10, []) ?_ ⟨by omega, belN_ok hc, rfl, by rw [Nat.sub_zero]⟩ ?_
  · (refine ⟨?_, ?_, rfl⟩ <;> repeat' (first | exact rfl | exact trivial | refine ⟨?_, ?_⟩ | fail) <;> (conv => whnf))
  rintro ⟨i, c', s⟩ ⟨hi, hc', hs, hI⟩
  (conv => whnf); refine ⟨fun h1 => ?_, fun h1 => ?_⟩
  · have h1 : i < txtN c := by
      have : (i : Int) < pickI c txtLens := by simpa using h1
      omega
    have hb := belX_le c' 2
    have hb2 := hb.2 (by decide)
    obtain ⟨m, hm⟩ : ∃ m, txtN c - i = m + 1 := ⟨txtN c - i - 1, by omega⟩
    have hm2 : txtN c - (i + 1) = m := by omega
    rw [hm, txtGo] at hI
    skip
    refine ⟨(c', 2), rfl, fun _ => hc', ?_⟩
    obtain ⟨q, hq⟩ : ∃ q, q = (i + (belX c' 2).toNat) % 26 := ⟨_, rfl⟩
    repeat ((conv => whnf); first | refine ⟨_, w64 (by (show (_ : Prop)); first | omega | ((try dsimp only at *); (try simp only [lns] at *); omega)), ?_⟩ | refine ⟨by (show (_ : Prop)); first | omega | ((try dsimp only at *); (try simp only [lns] at *); omega), ?_⟩)
    refine ⟨(q : Int), by
      show ((i : Int) + belX c' 2).tmod 26 = _
      rw [hq, show (i : Int) + belX c' 2 = ((i + (belX c' 2).toNat : Nat) : Int) by omega]; rfl, ?_⟩
    repeat ((conv => whnf); refine ⟨_, w64 (by (show (_ : Prop)); first | omega | ((try dsimp only at *); (try simp only [lns] at *); omega)), ?_⟩)
    refine ⟨((97 + q : Nat) : Int), by show Int.ofNat ((97 + q) % 256) = _; rw [Nat.mod_eq_of_lt (by omega)]; rfl, ?_⟩
    skip
    refine ⟨[UInt8.ofNat (97 + q)], by
      have e : (UInt8.ofNat (97 + q)).toNat = 97 + q := by rw [UInt8.toNat_ofNat']; omega
      rw [List.map_cons, List.map_nil, e]; rfl, ?_⟩
    repeat ((conv => whnf); first | refine ⟨_, w64 (by (show (_ : Prop)); first | omega | ((try dsimp only at *); (try simp only [lns] at *); omega)), ?_⟩ | refine ⟨by (show (_ : Prop)); first | omega | ((try dsimp only at *); (try simp only [lns] at *); omega), ?_⟩)
    refine again (i + 1, belN c' 2, s ++ [UInt8.ofNat (97 + q)]) ?_ ⟨h1, belN_ok hc', by simp [hs], by rw [hm2, ← hI, hq]⟩ (by show txtN c - (i + 1) < txtN c - i; omega)
    (refine ⟨?_, ?_, rfl⟩ <;> repeat' (first | exact rfl | exact trivial | refine ⟨?_, ?_⟩ | fail) <;> (conv => whnf))
  · have h1 : i = txtN c := by
      have : ¬ (i : Int) < pickI c txtLens := by simpa using h1
      omega
    subst h1
    rw [Nat.sub_self, txtGo] at hI
    have hX : txtX c = s := by rw [txtX, ← hI]
    have hN : txtC c = c' := by rw [txtC, ← hI]
    skip
    exact ⟨⟨by rw [hN]; rfl, trivial⟩, eqS hX.symm⟩
theorem ok_spec_l7Text : ConOk Tryd.prog 78 c_spec_l7Text := meets_okW (tabT _ _) (FOk.cons ok_spec_l1Below (FOk.cons ok_spec_l1PickInt FOk.nil)) mixed Tryd.func78 rfl Tryd.call78 (by decide) (by kernel_rfl) m_spec_l7Text (fun h => by cases h) (by intro (y : Cur) _; first | exact ⟨by simp [c_spec_l7Text, con, conG, conW, conP, AV.free, freeCells, freeRows, freeRows_map, encS, encO, encC, encB, encN], by simp [c_spec_l7Text, con, conG, conW, conP, AV.free, freeCells, freeRows, freeRows_map, encS, encO, encC, encB, encN]⟩ | (obtain ⟨_, _⟩ := y; exact ⟨by simp [c_spec_l7Text, con, conG, conW, conP, AV.free, freeCells, freeRows, freeRows_map, encS, encO, encC, encB, encN], by simp [c_spec_l7Text, con, conG, conW, conP, AV.free, freeCells, freeRows, freeRows_map, encS, encO, encC, encB, encN]⟩) | (obtain ⟨_, _, _⟩ := y; exact ⟨by simp [c_spec_l7Text, con, conG, conW, conP, AV.free, freeCells, freeRows, freeRows_map, encS, encO, encC, encB, encN], by simp [c_spec_l7Text, con, conG, conW, conP, AV.free, freeCells, freeRows, freeRows_map, encS, encO, encC, encB, encN]⟩)) (by intro (y : Cur) _; first | (simp [c_spec_l7Text, con, conG, conW, conP, AV.free, freeCells, freeRows, freeRows_map, encS, encO, encC, encB, encN]; done) | (obtain ⟨_, _⟩ := y; simp [c_spec_l7Text, con, conG, conW, conP, AV.free, freeCells, freeRows, freeRows_map, encS, encO, encC, encB, encN]; done) | (obtain ⟨_, _, _⟩ := y; simp [c_spec_l7Text, con, conG, conW, conP, AV.free, freeCells, freeRows, freeRows_map, encS, encO, encC, encB, encN]; done))
end Go.GH

set_option linter.unusedVariables false
set_option linter.unusedSimpArgs false
namespace Go.GH
open Go Go.Proofs
noncomputable def c_spec_l14Op : PCon := conW true [.mp] Cur (fun c => [.own 3 [encC c]]) curOk (fun c => .agg (encO (opX c))) (fun c => [.own 3 [encC (opN c)]])
noncomputable def E_spec_l14Op : Env := ⟨lookup tyTab, lookup [(47, c_spec_l1Below), (48, c_spec_l1PickInt), (63, c_spec_l1Pick), (77, c_spec_l2Path), (78, c_spec_l7Text)], [0, 2, 3, 13, 17, 22, 32]⟩
set_option maxRecDepth 100000 in
set_option maxHeartbeats 4000000 in
theorem m_spec_l14Op : Meets E_spec_l14Op (codeOf Tryd.f65) Tryd.f65.results.toList c_spec_l14Op := by
  intro (c : Cur) hc
  have hc : curOk c := hc
  refine ⟨⟨⟨_, _, _, rfl, rfl, by simp⟩, trivial⟩, ?_⟩
  skip
  refine ⟨(c, kinds), rfl, fun _ => ⟨hc, (by decide : 0 < kinds.length ∧ kinds.length ≤ 1000)⟩, ?_⟩
  skip
  refine ⟨belN c 14, rfl, fun _ => belN_ok hc, ?_⟩
  skip
  refine ⟨(pathN (belN c 14), 9), rfl, fun _ => pathN_ok (belN_ok hc), ?_⟩
  have hok := opC_ok hc
  have hX : opX c = opX2 (pickI c kinds) (pathX (belN c 14)) (belX (pathN (belN c 14)) 9) (opC c) := rfl
  have hN : opN c = opN2 (pickI c kinds) (opC c) := rfl
  skip
  (conv => whnf); refine ⟨fun h1 => ?_, fun h1 => ?_⟩
  · have h1 : pickI c kinds = 8 := by
      have h1 : (pickI c kinds == 8) = true := h1
      simpa using h1
    rw [opX2, if_pos h1] at hX
    rw [opN2, if_pos h1] at hN
    skip
    refine ⟨opC c, rfl, fun _ => hok, ?_⟩
    skip
    exact ⟨⟨by rw [hN]; rfl, trivial⟩, leO hX⟩
  have h1 : ¬ pickI c kinds = 8 := by
    have h1 : (pickI c kinds == 8) = false := h1
    simpa using h1
  rw [opX2, if_neg h1] at hX
  rw [opN2, if_neg h1] at hN
  skip
  (conv => whnf); refine ⟨fun h2 => ?_, fun h2 => ?_⟩
  · have h2 : pickI c kinds = 3 := by
      have h2 : (pickI c kinds == 3) = true := h2
      simpa using h2
    rw [if_pos h2] at hX hN
    skip
    refine ⟨(opC c, ats1), rfl, fun _ => ⟨hok, (by decide : 0 < ats1.length ∧ ats1.length ≤ 1000)⟩, ?_⟩
    skip
    refine ⟨(belN (opC c) 6, datas), rfl, fun _ => ⟨belN_ok hok, (by decide : 0 < datas.length ∧ datas.length ≤ 1000)⟩, ?_⟩
    skip
    exact ⟨⟨by rw [hN]; rfl, trivial⟩, leO hX⟩
  have h2 : ¬ pickI c kinds = 3 := by
    have h2 : (pickI c kinds == 3) = false := h2
    simpa using h2
  rw [if_neg h2] at hX hN
  skip
  (conv => whnf); refine ⟨fun h3 => ?_, fun h3 => ?_⟩
  · have h3 : pickI c kinds = 4 := by
      have h3 : (pickI c kinds == 4) = true := h3
      simpa using h3
    rw [if_pos h3] at hX hN
    skip
    refine ⟨(opC c, ats2), rfl, fun _ => ⟨hok, (by decide : 0 < ats2.length ∧ ats2.length ≤ 1000)⟩, ?_⟩
    skip
    exact ⟨⟨by rw [hN]; rfl, trivial⟩, leO hX⟩
  have h3 : ¬ pickI c kinds = 4 := by
    have h3 : (pickI c kinds == 4) = false := h3
    simpa using h3
  rw [if_neg h3] at hX hN
  skip
  refine ⟨opC c, rfl, fun _ => hok, ?_⟩
  skip
  exact ⟨⟨by rw [hN]; rfl, trivial⟩, leO hX⟩
theorem ok_spec_l14Op : ConOk Tryd.prog 65 c_spec_l14Op := meets_okW (tabT _ _) (FOk.cons ok_spec_l1Below (FOk.cons ok_spec_l1PickInt (FOk.cons ok_spec_l1Pick (FOk.cons ok_spec_l2Path (FOk.cons ok_spec_l7Text FOk.nil))))) mixed Tryd.func65 rfl Tryd.call65 (by decide) (by kernel_rfl) m_spec_l14Op (fun h => by cases h) (by intro (y : Cur) _; first | exact ⟨by simp [c_spec_l14Op, con, conG, conW, conP, AV.free, freeCells, freeRows, freeRows_map, encS, encO, encC, encB, encN], by simp [c_spec_l14Op, con, conG, conW, conP, AV.free, freeCells, freeRows, freeRows_map, encS, encO, encC, encB, encN]⟩ | (obtain ⟨_, _⟩ := y; exact ⟨by simp [c_spec_l14Op, con, conG, conW, conP, AV.free, freeCells, freeRows, freeRows_map, encS, encO, encC, encB, encN], by simp [c_spec_l14Op, con, conG, conW, conP, AV.free, freeCells, freeRows, freeRows_map, encS, encO, encC, encB, encN]⟩) | (obtain ⟨_, _, _⟩ := y; exact ⟨by simp [c_spec_l14Op, con, conG, conW, conP, AV.free, freeCells, freeRows, freeRows_map, encS, encO, encC, encB, encN], by simp [c_spec_l14Op, con, conG, conW, conP, AV.free, freeCells, freeRows, freeRows_map, encS, encO, encC, encB, encN]⟩)) (by intro (y : Cur) _; first | (simp [c_spec_l14Op, con, conG, conW, conP, AV.free, freeCells, freeRows, freeRows_map, encS, encO, encC, encB, encN]; done) | (obtain ⟨_, _⟩ := y; simp [c_spec_l14Op, con, conG, conW, conP, AV.free, freeCells, freeRows, freeRows_map, encS, encO, encC, encB, encN]; done) | (obtain ⟨_, _, _⟩ := y; simp [c_spec_l14Op, con, conG, conW, conP, AV.free, freeCells, freeRows, freeRows_map, encS, encO, encC, encB, encN]; done))
noncomputable def c_spec_l14Bent : PCon := conW true [.mp] Cur (fun c => [.own 3 [encC c]]) curOk (fun c => .agg (encO (bentX c))) (fun c => [.own 3 [encC (bentN c)]])
noncomputable def E_spec_l14Bent : Env := ⟨lookup tyTab, lookup [(47, c_spec_l1Below), (48, c_spec_l1PickInt), (65, c_spec_l14Op)], [0, 2, 3, 7, 8, 14, 20]⟩
set_option maxRecDepth 100000 in
set_option maxHeartbeats 4000000 in
theorem m_spec_l14Bent : Meets E_spec_l14Bent (codeOf Tryd.f62) Tryd.f62.results.toList c_spec_l14Bent := by
  intro (c : Cur) hc
  have hc : curOk c := hc
  have hok := opN_ok hc
  have hX : bentX c = bentX c := rfl
  have hN : bentN c = bentN c := rfl
  conv at hX => rhs; unfold bentX
  conv at hN => rhs; unfold bentN
  refine ⟨⟨⟨_, _, _, rfl, rfl, by simp⟩, trivial⟩, ?_⟩
  skip
  refine ⟨c, rfl, fun _ => hc, ?_⟩
  skip
  refine ⟨(opN c, 14), rfl, fun _ => hok, ?_⟩
  have hok2 : curOk (belN (opN c) 14) := belN_ok hok
  skip
  (conv => whnf); refine ⟨fun h1 => ?_, fun h1 => ?_⟩
  · have h1 : belX (opN c) 14 = 0 := by
      have h1 : (belX (opN c) 14 == 0) = true := h1
      simpa using h1
    rw [if_pos h1] at hX hN
    skip
    refine ⟨(belN (opN c) 14, [-1, 9]), rfl, fun _ => ⟨hok2, (by decide : 0 < 2 ∧ 2 ≤ 1000)⟩, ?_⟩
    skip
    exact ⟨⟨by rw [hN]; rfl, trivial⟩, leO hX⟩
  have h1 : ¬ belX (opN c) 14 = 0 := by
    have h1 : (belX (opN c) 14 == 0) = false := h1
    simpa using h1
  rw [if_neg h1] at hX hN
  skip
  (conv => whnf); refine ⟨fun h2 => ?_, fun h2 => ?_⟩
  · have h2 : belX (opN c) 14 = 1 := by
      have h2 : (belX (opN c) 14 == 1) = true := h2
      simpa using h2
    rw [if_pos h2] at hX hN
    skip
    refine ⟨(belN (opN c) 14, [-1, 1000, 1001, 9223372036854775807]), rfl, fun _ => ⟨hok2, (by decide : 0 < 4 ∧ 4 ≤ 1000)⟩, ?_⟩
    skip
    exact ⟨⟨by rw [hN]; rfl, trivial⟩, leO hX⟩
  have h2 : ¬ belX (opN c) 14 = 1 := by
    have h2 : (belX (opN c) 14 == 1) = false := h2
    simpa using h2
  rw [if_neg h2] at hX hN
  skip
  (conv => whnf); refine ⟨fun h3 => ?_, fun h3 => ?_⟩
  · have h3 : belX (opN c) 14 = 2 := by
      have h3 : (belX (opN c) 14 == 2) = true := h3
      simpa using h3
    rw [if_pos h3] at hX hN
    skip
    refine ⟨(belN (opN c) 14, [-1, 100001]), rfl, fun _ => ⟨hok2, (by decide : 0 < 2 ∧ 2 ≤ 1000)⟩, ?_⟩
    skip
    exact ⟨⟨by rw [hN]; rfl, trivial⟩, leO hX⟩
  have h3 : ¬ belX (opN c) 14 = 2 := by
    have h3 : (belX (opN c) 14 == 2) = false := h3
    simpa using h3
  rw [if_neg h3] at hX hN
  skip
  exact ⟨⟨by rw [hN]; rfl, trivial⟩, leO hX⟩
theorem ok_spec_l14Bent : ConOk Tryd.prog 62 c_spec_l14Bent := meets_okW (tabT _ _) (FOk.cons ok_spec_l1Below (FOk.cons ok_spec_l1PickInt (FOk.cons ok_spec_l14Op FOk.nil))) mixed Tryd.func62 rfl Tryd.call62 (by decide) (by kernel_rfl) m_spec_l14Bent (fun h => by cases h) (by intro (y : Cur) _; first | exact ⟨by simp [c_spec_l14Bent, con, conG, conW, conP, AV.free, freeCells, freeRows, freeRows_map, encS, encO, encC, encB, encN], by simp [c_spec_l14Bent, con, conG, conW, conP, AV.free, freeCells, freeRows, freeRows_map, encS, encO, encC, encB, encN]⟩ | (obtain ⟨_, _⟩ := y; exact ⟨by simp [c_spec_l14Bent, con, conG, conW, conP, AV.free, freeCells, freeRows, freeRows_map, encS, encO, encC, encB, encN], by simp [c_spec_l14Bent, con, conG, conW, conP, AV.free, freeCells, freeRows, freeRows_map, encS, encO, encC, encB, encN]⟩) | (obtain ⟨_, _, _⟩ := y; exact ⟨by simp [c_spec_l14Bent, con, conG, conW, conP, AV.free, freeCells, freeRows, freeRows_map, encS, encO, encC, encB, encN], by simp [c_spec_l14Bent, con, conG, conW, conP, AV.free, freeCells, freeRows, freeRows_map, encS, encO, encC, encB, encN]⟩)) (by intro (y : Cur) _; first | (simp [c_spec_l14Bent, con, conG, conW, conP, AV.free, freeCells, freeRows, freeRows_map, encS, encO, encC, encB, encN]; done) | (obtain ⟨_, _⟩ := y; simp [c_spec_l14Bent, con, conG, conW, conP, AV.free, freeCells, freeRows, freeRows_map, encS, encO, encC, encB, encN]; done) | (obtain ⟨_, _, _⟩ := y; simp [c_spec_l14Bent, con, conG, conW, conP, AV.free, freeCells, freeRows, freeRows_map, encS, encO, encC, encB, encN]; done))
noncomputable def c_spec_l26Bent : PCon := conW true [.mp] Cur (fun c => [.own 3 [encC c]]) curOk (fun c => .agg (encO (bent6X c))) (fun c => [.own 3 [encC (bent6N c)]])
noncomputable def E_spec_l26Bent : Env := ⟨lookup tyTab, lookup [(50, c_spec_l1Once), (62, c_spec_l14Bent), (63, c_spec_l1Pick)], [0, 2, 3, 7]⟩
set_option maxRecDepth 100000 in
set_option maxHeartbeats 4000000 in
theorem m_spec_l26Bent : Meets E_spec_l26Bent (codeOf Tryd.f45) Tryd.f45.results.toList c_spec_l26Bent := by
  intro (c : Cur) hc
  have hc : curOk c := hc
  have hok := bentN_ok hc
  refine ⟨⟨⟨_, _, _, rfl, rfl, by simp⟩, trivial⟩, ?_⟩
  skip
  refine ⟨c, rfl, fun _ => hc, ?_⟩
  skip
  refine ⟨(bentN c, 8), rfl, fun _ => hok, ?_⟩
  skip
  (conv => whnf); refine ⟨fun h1 => ?_, fun h1 => ?_⟩
  · have h1 : belX (bentN c) 8 = 0 := by
      have h1 : (belX (bentN c) 8 == 0) = true := h1
      simpa using h1
    have hX : bent6X c = { bentX c with to := pickS (belN (bentN c) 8) tos } := by rw [bent6X, if_pos h1]
    have hN : bent6N c = belN (belN (bentN c) 8) 4 := by rw [bent6N, if_pos h1]
    skip
    refine ⟨(belN (bentN c) 8, tos), rfl, fun _ => ⟨belN_ok hok, (by decide : 0 < tos.length ∧ tos.length ≤ 1000)⟩, ?_⟩
    skip
    exact ⟨⟨by rw [hN]; rfl, trivial⟩, leO hX⟩
  · have h1 : ¬ belX (bentN c) 8 = 0 := by
      have h1 : (belX (bentN c) 8 == 0) = false := h1
      simpa using h1
    have hX : bent6X c = bentX c := by rw [bent6X, if_neg h1]
    have hN : bent6N c = belN (bentN c) 8 := by rw [bent6N, if_neg h1]
    skip
    exact ⟨⟨by rw [hN]; rfl, trivial⟩, leO hX⟩
theorem ok_spec_l26Bent : ConOk Tryd.prog 45 c_spec_l26Bent := meets_okW (tabT _ _) (FOk.cons ok_spec_l1Once (FOk.cons ok_spec_l14Bent (FOk.cons ok_spec_l1Pick FOk.nil))) mixed Tryd.func45 rfl Tryd.call45 (by decide) (by kernel_rfl) m_spec_l26Bent (fun h => by cases h) (by intro (y : Cur) _; first | exact ⟨by simp [c_spec_l26Bent, con, conG, conW, conP, AV.free, freeCells, freeRows, freeRows_map, encS, encO, encC, encB, encN], by simp [c_spec_l26Bent, con, conG, conW, conP, AV.free, freeCells, freeRows, freeRows_map, encS, encO, encC, encB, encN]⟩ | (obtain ⟨_, _⟩ := y; exact ⟨by simp [c_spec_l26Bent, con, conG, conW, conP, AV.free, freeCells, freeRows, freeRows_map, encS, encO, encC, encB, encN], by simp [c_spec_l26Bent, con, conG, conW, conP, AV.free, freeCells, freeRows, freeRows_map, encS, encO, encC, encB, encN]⟩) | (obtain ⟨_, _, _⟩ := y; exact ⟨by simp [c_spec_l26Bent, con, conG, conW, conP, AV.free, freeCells, freeRows, freeRows_map, encS, encO, encC, encB, encN], by simp [c_spec_l26Bent, con, conG, conW, conP, AV.free, freeCells, freeRows, freeRows_map, encS, encO, encC, encB, encN]⟩)) (by intro (y : Cur) _; first | (simp [c_spec_l26Bent, con, conG, conW, conP, AV.free, freeCells, freeRows, freeRows_map, encS, encO, encC, encB, encN]; done) | (obtain ⟨_, _⟩ := y; simp [c_spec_l26Bent, con, conG, conW, conP, AV.free, freeCells, freeRows, freeRows_map, encS, encO, encC, encB, encN]; done) | (obtain ⟨_, _, _⟩ := y; simp [c_spec_l26Bent, con, conG, conW, conP, AV.free, freeCells, freeRows, freeRows_map, encS, encO, encC, encB, encN]; done))
noncomputable def c_spec_DrawOpText : PCon := con [mS 1] false Str (fun s => [.rd 1 (s.map encB)]) (fun s => s.length ≤ 1048576) (fun s => .agg (encO (bent6X (newC s))))
noncomputable def E_spec_DrawOpText : Env := ⟨lookup tyTab, lookup [(45, c_spec_l26Bent), (46, c_spec_l1New)], [0, 2]⟩
set_option maxRecDepth 100000 in
set_option maxHeartbeats 4000000 in
theorem m_spec_DrawOpText : Meets E_spec_DrawOpText (codeOf Tryd.f25) Tryd.f25.results.toList c_spec_DrawOpText := by
  intro (s : Str) (hs : s.length ≤ 1048576)
  refine ⟨trivial, ?_⟩
  conv => whnf
  refine ⟨s, rfl, fun _ => hs, ?_⟩
  skip
  refine ⟨newC s, rfl, fun _ => newC_ok hs, ?_⟩
  skip
  exact ⟨trivial, rfl, rfl, rfl, rfl, rfl, rfl, trivial⟩
theorem ok_spec_DrawOpText : ConOk Tryd.prog 25 c_spec_DrawOpText := meets_ok (tabT _ _) (FOk.cons ok_spec_l26Bent (FOk.cons ok_spec_l1New FOk.nil)) mixed Tryd.func25 rfl Tryd.call25 (by decide) (by kernel_rfl) m_spec_DrawOpText (by intro _ (y : Str) _; exact ⟨by simp [c_spec_DrawOpText, con, conG, conW, AV.noRd, noRdCells, noRdRows, noRdRows_map', encS, encC, encB, encN, encO], by simp [c_spec_DrawOpText, con, conG, conW, AV.noRd, noRdCells, noRdRows, noRdRows_map', encS, encC, encB, encN, encO]⟩) (by intro (y : Str) _; first | (simp [c_spec_DrawOpText, con, conG, conW, conP, AV.free, freeCells, freeRows, freeRows_map, encS, encO, encC, encB, encN]; done) | (obtain ⟨_, _⟩ := y; simp [c_spec_DrawOpText, con, conG, conW, conP, AV.free, freeCells, freeRows, freeRows_map, encS, encO, encC, encB, encN]; done) | (obtain ⟨_, _, _⟩ := y; simp [c_spec_DrawOpText, con, conG, conW, conP, AV.free, freeCells, freeRows, freeRows_map, encS, encO, encC, encB, encN]; done))
end Go.GH

namespace Go.Proofs
open Go.Shelf
def Tryd.lays219_ren : Go.Shelf.Ren := ⟨fun | 219 => 76 | 217 => 75 | 225 => 89 | 224 => 90 | 267 => 91 | 266 => 88 | 314 => 100 | n => n, fun | 9 => 9 | 3 => 3 | 4 => 4 | 5 => 5 | 46 => 81 | 146 => 117 | 51 => 116 | n => n, fun | 1 => 0 | n => n⟩
theorem Tryd.lays219 : Go.Proofs.Lays.n219 Tryd.prog Tryd.lays219_ren := {
  mixed := by kernel_rfl
  f217 := Tryd.func75.trans (congrArg some (by kernel_rfl))
  f219 := Tryd.func76.trans (congrArg some (by kernel_rfl))
  f224 := Tryd.func90.trans (congrArg some (by kernel_rfl))
  f225 := Tryd.func89.trans (congrArg some (by kernel_rfl))
  f266 := Tryd.func88.trans (congrArg some (by kernel_rfl))
  f267 := Tryd.func91.trans (congrArg some (by kernel_rfl))
  f314 := Tryd.func100.trans (congrArg some (by kernel_rfl))
  t3 := Tryd.underlying3
  a3 := Tryd.isAgg3
  z3 := Tryd.sizeOf3
  v3 := Tryd.zeroValue3
  t4 := Tryd.underlying4
  a4 := Tryd.isAgg4
  z4 := Tryd.sizeOf4
  v4 := Tryd.zeroValue4
  t5 := Tryd.underlying5
  a5 := Tryd.isAgg5
  z5 := Tryd.sizeOf5
  v5 := Tryd.zeroValue5
  t9 := Tryd.underlying9
  a9 := Tryd.isAgg9
  z9 := Tryd.sizeOf9
  v9 := Tryd.zeroValue9
  t46 := Tryd.underlying81
  a46 := Tryd.isAgg81
  z46 := Tryd.sizeOf81
  v46 := Tryd.zeroValue81
  t51 := Tryd.underlying116
  a51 := Tryd.isAgg116
  z51 := Tryd.sizeOf116
  v51 := Tryd.zeroValue116
  t146 := Tryd.underlying117
  a146 := Tryd.isAgg117
  z146 := Tryd.sizeOf117
  v146 := Tryd.zeroValue117
  g1 := by kernel_rfl }
open Go.RowKit Go.Lib in
theorem Tryd.stringslite_Index_one (s : ByteArray) (c : UInt8) (w : World) :
    Calls Tryd.prog 76 #[.string s, .string ⟨#[c]⟩] w fun e w' => e = .returned (.int .i64 (Lib.indexByte s.data.toList c)) ∧ w' = w := Any.stringslite_Index_one Tryd.lays219 s c w
end Go.Proofs

set_option linter.unusedVariables false
set_option linter.unusedSimpArgs false
namespace Go.GH
open Go Go.Proofs
def c_internal_stringslite_Index : PCon := con [mC, mC] true Str (fun s => [.str s, .str [10]]) (fun _ => True) (fun s => .int .i64 (fnd (fun b => b == 10) s))
theorem ok_internal_stringslite_Index : ConOk Tryd.prog 76 c_internal_stringslite_Index := by
  refine con_of_calls rfl (fun _ => rfl) (fun _ => rfl) (fun _ => rfl) (fun x _ => ⟨trivial, trivial, trivial⟩) Tryd.call76 ?_
  intro (s : Str) hpre y w args ρ hw hR hsz hs
  have h0 := srep_str (hs 0 _ rfl)
  have h1 := srep_str (hs 1 _ rfl)
  have hsz : args.size = 2 := hsz
  have ha : args = #[.string (toB s), .string ⟨#[10]⟩] := by
    apply Array.ext
    · simp [hsz]
    · intro i hi1 hi2
      have : i = 0 ∨ i = 1 := by omega
      rcases this with rfl | rfl
      · rw [Array.getD_eq_getD_getElem?, Array.getElem?_eq_getElem hi1] at h0; simpa [bytesV, toB] using h0
      · rw [Array.getD_eq_getD_getElem?, Array.getElem?_eq_getElem hi1] at h1; simpa [bytesV, toB] using h1
  rw [ha]
  refine (Tryd.stringslite_Index_one (toB s) 10 w).mono ?_
  rintro e w' ⟨rfl, rfl⟩
  refine ⟨?_, RowKit.Below.refl _ _⟩
  rw [indexByte_fnd]
  rfl
noncomputable def c_internal_stringslite_Cut : PCon := con [mC, mC] true Str (fun s => [.str s, .str [10]]) (fun s => s.length ≤ 16777216) (fun s => .tup [.str (cutN s).1, .str (cutN s).2.1, .bool (cutN s).2.2])
noncomputable def E_internal_stringslite_Cut : Env := ⟨lookup tyTab, lookup [(76, c_internal_stringslite_Index)], [0, 1, 4, 5, 6, 7, 12]⟩
set_option maxRecDepth 100000 in
set_option maxHeartbeats 4000000 in
theorem m_internal_stringslite_Cut : Meets E_internal_stringslite_Cut (codeOf Tryd.f61) Tryd.f61.results.toList c_internal_stringslite_Cut := by
  intro (s : Str) (hs : s.length ≤ 16777216)
  refine ⟨trivial, ?_⟩
  skip
  refine ⟨s, rfl, fun _ => trivial, ?_⟩
  have hr := fnd_ge (p := fun b => b == 10) (l := s)
  (conv => whnf); refine ⟨fun h1 => ?_, fun h1 => ?_⟩
  · have h1 : 0 ≤ fnd (fun b => b == 10) s := by simpa using h1
    have hlt : (fnd (fun b => b == 10) s).toNat < s.length := by
      obtain ⟨x, hx, _⟩ := fnd_first h1
      exact lt_of_get hx
    have hc : cutN s = (s.take (fnd (fun b => b == 10) s).toNat, s.drop ((fnd (fun b => b == 10) s).toNat + 1), true) := by unfold cutN; rw [if_pos h1]
    repeat ((conv => whnf); first | refine ⟨(by kernel_rfl : drawOk _ _ = true), ?_⟩ | refine ⟨_, w64 (by (show (_ : Prop)); first | omega | ((try dsimp only at *); (try simp only [lns] at *); omega)), ?_⟩ | refine ⟨fun _ => ⟨by (show (_ : Prop)); first | omega | ((try dsimp only at *); (try simp only [lns] at *); omega), by (show (_ : Prop)); first | omega | ((try dsimp only at *); (try simp only [lns] at *); omega), by (show (_ : Prop)); first | omega | ((try dsimp only at *); (try simp only [lns] at *); omega)⟩, ?_⟩)
    exact ⟨trivial, eqS (by rw [hc]; try simp), eqS (by rw [hc]; simp; omega), eqB (by rw [hc]), trivial⟩
  · have h1 : ¬ 0 ≤ fnd (fun b => b == 10) s := by simpa using h1
    have hc : cutN s = (s, [], false) := by unfold cutN; rw [if_neg h1]
    skip
    exact ⟨trivial, eqS (by rw [hc]), eqS (by rw [hc]), eqB (by rw [hc]), trivial⟩
theorem ok_internal_stringslite_Cut : ConOk Tryd.prog 61 c_internal_stringslite_Cut := meets_ok (tabT _ _) (FOk.cons ok_internal_stringslite_Index FOk.nil) mixed Tryd.func61 rfl Tryd.call61 (by decide) (by kernel_rfl) m_internal_stringslite_Cut (by intro _ (y : Str) _; exact ⟨by simp [c_internal_stringslite_Cut, con, conG, conW, AV.noRd, noRdCells, noRdRows, noRdRows_map', encS, encO], by simp [c_internal_stringslite_Cut, con, conG, conW, AV.noRd, noRdCells, noRdRows, noRdRows_map', encS, encO]⟩) (by intro (y : Str) _; first | (simp [c_internal_stringslite_Cut, con, conG, conW, conP, AV.free, freeCells, freeRows, freeRows_map, encS, encO]; done) | (obtain ⟨_, _⟩ := y; simp [c_internal_stringslite_Cut, con, conG, conW, conP, AV.free, freeCells, freeRows, freeRows_map, encS, encO]; done) | (obtain ⟨_, _, _⟩ := y; simp [c_internal_stringslite_Cut, con, conG, conW, conP, AV.free, freeCells, freeRows, freeRows_map, encS, encO]; done))
noncomputable def c_strings_Cut : PCon := con [mC, mC] true Str (fun s => [.str s, .str [10]]) (fun s => s.length ≤ 16777216) (fun s => .tup [.str (cutN s).1, .str (cutN s).2.1, .bool (cutN s).2.2])
noncomputable def E_strings_Cut : Env := ⟨lookup tyTab, lookup [(61, c_internal_stringslite_Cut)], [0, 1, 4, 5, 6]⟩
set_option maxRecDepth 100000 in
set_option maxHeartbeats 4000000 in
theorem m_strings_Cut : Meets E_strings_Cut (codeOf Tryd.f43) Tryd.f43.results.toList c_strings_Cut := by
  intro (s : Str) (hs : s.length ≤ 16777216)
  refine ⟨trivial, ?_⟩
  conv => whnf
  refine ⟨s, rfl, fun _ => hs, ?_⟩
  skip
  exact ⟨trivial, rfl, rfl, rfl, trivial⟩
theorem ok_strings_Cut : ConOk Tryd.prog 43 c_strings_Cut := meets_ok (tabT _ _) (FOk.cons ok_internal_stringslite_Cut FOk.nil) mixed Tryd.func43 rfl Tryd.call43 (by decide) (by kernel_rfl) m_strings_Cut (by intro _ (y : Str) _; exact ⟨by simp [c_strings_Cut, con, conG, conW, AV.noRd, noRdCells, noRdRows, noRdRows_map', encS, encO], by simp [c_strings_Cut, con, conG, conW, AV.noRd, noRdCells, noRdRows, noRdRows_map', encS, encO]⟩) (by intro (y : Str) _; first | (simp [c_strings_Cut, con, conG, conW, conP, AV.free, freeCells, freeRows, freeRows_map, encS, encO]; done) | (obtain ⟨_, _⟩ := y; simp [c_strings_Cut, con, conG, conW, conP, AV.free, freeCells, freeRows, freeRows_map, encS, encO]; done) | (obtain ⟨_, _, _⟩ := y; simp [c_strings_Cut, con, conG, conW, conP, AV.free, freeCells, freeRows, freeRows_map, encS, encO]; done))
end Go.GH

set_option linter.unusedVariables false
set_option linter.unusedSimpArgs false
namespace Go.GH
open Go Go.Proofs
noncomputable def c_laws_markText : PCon := con [mC] true Int (fun k => [.int .i64 k]) (fun k => k ≤ 1152921504606846976) (fun k => .str (mkT k))
noncomputable def E_laws_markText : Env := ⟨lookup tyTab, lookup [], [0, 2, 3, 5, 7]⟩
set_option maxRecDepth 100000 in
set_option maxHeartbeats 4000000 in
theorem m_laws_markText : Meets E_laws_markText (codeOf Tryd.f44) Tryd.f44.results.toList c_laws_markText := by
  intro (k : Int) (hk : k ≤ 1152921504606846976)
  refine ⟨trivial, ?_⟩
  (conv => whnf); refine ⟨fun h1 => ?_, fun h1 => ?_⟩
  · have h1 : k ≤ 0 := by simpa using h1
    skip
    exact ⟨trivial, eqS (by show _ = mkT k; rw [mkT_eq]; simp [markT, h1])⟩
  have h1 : 0 < k := by simp at h1; omega
  obtain ⟨n, rfl⟩ : ∃ n : Nat, k = n := ⟨k.toNat, by omega⟩
  skip
  refine loop_rule (fun ((m, out) : Nat × Str) => ⟨[(0, ⟨none, .int .i64 m⟩), (3, ⟨none, .str out⟩)], [], 0⟩)
    (fun (m, out) => m ≤ n ∧ digs 64 n [] = digs 64 m out ∧ out.length ≤ n - m) (fun x => x.1) (n, []) ?_ ⟨by omega, rfl, by simp⟩ ?_
  · (refine ⟨?_, ?_, rfl⟩ <;> repeat' (first | exact rfl | exact trivial | refine ⟨?_, ?_⟩ | fail) <;> (conv => whnf))
  rintro ⟨m, out⟩ ⟨hm, hd, hl⟩
  (conv => whnf); refine ⟨fun h2 => ?_, fun h2 => ?_⟩
  · have h2 : 0 < m := by simp at h2; omega
    repeat ((conv => whnf); refine ⟨by (show (_ : Prop)); first | omega | ((try dsimp only at *); (try simp only [lns] at *); omega), ?_⟩)
    refine ⟨((m % 10 : Nat) : Int), rfl, ?_⟩
    repeat ((conv => whnf); refine ⟨_, w64 (by (show (_ : Prop)); first | omega | ((try dsimp only at *); (try simp only [lns] at *); omega)), ?_⟩)
    refine ⟨((48 + m % 10 : Nat) : Int), by show Int.ofNat ((48 + m % 10) % 256) = _; rw [Nat.mod_eq_of_lt (by omega)]; rfl, ?_⟩
    skip
    refine ⟨[UInt8.ofNat (48 + m % 10)], by
      have e : (UInt8.ofNat (48 + m % 10)).toNat = 48 + m % 10 := by rw [UInt8.toNat_ofNat']; omega
      rw [List.map_cons, List.map_nil, e]; rfl, ?_⟩
    repeat ((conv => whnf); refine ⟨by (show (_ : Prop)); first | omega | ((try dsimp only at *); (try simp only [lns] at *); omega), ?_⟩)
    refine ⟨((m / 10 : Nat) : Int), w64 (a := ((m / 10 : Nat) : Int)) (by omega), ?_⟩
    skip
    refine again (m / 10, UInt8.ofNat (48 + m % 10) :: out) ?_ ⟨by omega, by rw [hd, digs_step h2 (by omega)], by simp; omega⟩ (by show m / 10 < m; omega)
    (refine ⟨?_, ?_, rfl⟩ <;> repeat' (first | exact rfl | exact trivial | refine ⟨?_, ?_⟩ | fail) <;> (conv => whnf))
  · have h2 : m = 0 := by simp at h2; omega
    subst h2
    rw [digs_zero] at hd
    repeat ((conv => whnf); refine ⟨by (show (_ : Prop)); first | omega | ((try dsimp only at *); (try simp only [lns] at *); omega), ?_⟩)
    exact ⟨trivial, eqS (by show _ = mkT n; rw [mkT_eq, markT, if_neg (by omega), Int.toNat_natCast, hd]; rfl)⟩
theorem ok_laws_markText : ConOk Tryd.prog 44 c_laws_markText := meets_ok (tabT _ _) FOk.nil mixed Tryd.func44 rfl Tryd.call44 (by decide) (by kernel_rfl) m_laws_markText (by intro _ (y : Int) _; exact ⟨by simp [c_laws_markText, con, conG, conW, AV.noRd, noRdCells, noRdRows, noRdRows_map', encS, encI, encO], by simp [c_laws_markText, con, conG, conW, AV.noRd, noRdCells, noRdRows, noRdRows_map', encS, encI, encO]⟩) (by intro (y : Int) _; first | (simp [c_laws_markText, con, conG, conW, conP, AV.free, freeCells, freeRows, freeRows_map, encS, encI, encO]; done) | (obtain ⟨_, _⟩ := y; simp [c_laws_markText, con, conG, conW, conP, AV.free, freeCells, freeRows, freeRows_map, encS, encI, encO]; done) | (obtain ⟨_, _, _⟩ := y; simp [c_laws_markText, con, conG, conW, conP, AV.free, freeCells, freeRows, freeRows_map, encS, encI, encO]; done))
noncomputable def c_laws_markOpS : PCon := ⟨[.mv, mC], false, false, List OpR × Int, fun ⟨t, k⟩ => [.own 6 (t.map encO), .int .i64 k], fun x => x.1.length ≤ 4194304 ∧ 0 ≤ x.2 ∧ x.2 ≤ 1099511627776, fun x => .int .i64 (x.2 + 6 * x.1.length), fun ⟨t, k⟩ => [.own 6 ((List.range t.length).map fun i => encO (mkO k i))], fun _ => True, false⟩
noncomputable def E_laws_markOpS : Env := ⟨lookup tyTab, lookup [(44, c_laws_markText)], [0, 1, 4, 5, 9]⟩
set_option maxRecDepth 100000 in
set_option maxHeartbeats 4000000 in
theorem m_laws_markOpS : Meets E_laws_markOpS (codeOf Tryd.f22) Tryd.f22.results.toList c_laws_markOpS := by
  rintro ⟨t, k⟩ hs
  obtain ⟨hs1, hk1, hk2⟩ : t.length ≤ 4194304 ∧ 0 ≤ k ∧ k ≤ 1099511627776 := hs
  refine ⟨⟨⟨_, _, _, rfl, rfl, by simp⟩, trivial⟩, ?_⟩
  skip
  refine loop_rule (fun i : Nat => ⟨[(0, ⟨none, .view 0 [] 0 t.length⟩), (1, ⟨none, .int .i64 (k + 6 * i)⟩), (5, ⟨none, .int .i64 i⟩)], [(0, .own 6 (marked encO (mkO k) t i))], 1⟩)
    (fun i => i ≤ t.length) (fun i => t.length - i) 0 ?_ (by omega) ?_
  · (refine ⟨?_, ?_, rfl⟩ <;> repeat' (first | exact rfl | exact trivial | refine ⟨?_, ?_⟩ | fail) <;> (conv => whnf))
    all_goals simp [marked]
  intro i hi
  have hi : i ≤ t.length := hi
  (conv => whnf); refine ⟨fun h2 => ?_, fun h2 => ?_⟩
  · have h2 : i < t.length := by simpa using h2
    have hml := marked_len (f := encO) (mk := mkO k) (l := t) (i := i) hi
    obtain ⟨x, hx⟩ := get_lt h2
    repeat ((conv => whnf); first | refine ⟨_, w64 (by (show (_ : Prop)); first | omega | ((try dsimp only at *); (try simp only [lns] at *); omega)), ?_⟩ | refine ⟨by (show (_ : Prop)); first | omega | ((try dsimp only at *); (try simp only [lns] at *); omega), ?_⟩ | refine ⟨(_ : Int), rfl, fun _ => (show (_ : Int) ≤ (1152921504606846976 : Int) from by omega), ?_⟩ | refine ⟨encO x, by rw [Nat.zero_add, Int.toNat_natCast]; exact marked_get hx, ?_⟩ | refine ⟨_, set_get (by simp only [List.length_set, hml, Nat.zero_add, Int.toNat_natCast]; exact h2), ?_⟩)
    refine again (i + 1) ?_ h2 (by first | omega | (simp; done) | (simp; omega))
    (refine ⟨?_, ?_, rfl⟩ <;> repeat' (first | exact rfl | exact trivial | refine ⟨?_, ?_⟩ | fail) <;> (conv => whnf))
    · omega
    · rw [← marked_set hx]
      simp only [Nat.zero_add, Int.toNat_natCast, set_set]
      congr 1
      simp [encO, mkO, hide_eq, c_laws_markText, con, Int.add_assoc]
  · have h2 : i = t.length := by
      have : ¬ i < t.length := by simpa using h2
      omega
    subst h2
    skip
    exact ⟨⟨congrArg some (congrArg (AV.own 6) marked_all), trivial⟩, rfl⟩
theorem ok_laws_markOpS : ConOk Tryd.prog 22 c_laws_markOpS := meets_ok (tabT _ _) (FOk.cons ok_laws_markText FOk.nil) mixed Tryd.func22 rfl Tryd.call22 (by decide) (by kernel_rfl) m_laws_markOpS (by intro _ (y : _) _; exact ⟨by simp [c_laws_markOpS, con, conG, conW, AV.noRd, noRdCells, noRdRows, noRdRows_map', encS, encI, encO], by simp [c_laws_markOpS, con, conG, conW, AV.noRd, noRdCells, noRdRows, noRdRows_map', encS, encI, encO]⟩) (by intro (y : _) _; first | (simp [c_laws_markOpS, con, conG, conW, conP, AV.free, freeCells, freeRows, freeRows_map, encS, encI, encO]; done) | (obtain ⟨_, _⟩ := y; simp [c_laws_markOpS, con, conG, conW, conP, AV.free, freeCells, freeRows, freeRows_map, encS, encI, encO]; done) | (obtain ⟨_, _, _⟩ := y; simp [c_laws_markOpS, con, conG, conW, conP, AV.free, freeCells, freeRows, freeRows_map, encS, encI, encO]; done))
noncomputable def c_laws_heldOpS : PCon := con [mS 6, mC] true (Nat × Int) (fun ⟨n, k⟩ => [.rd 6 ((List.range n).map fun i => encO (mkO k i)), .int .i64 k]) (fun x => x.1 ≤ 4194304 ∧ 0 ≤ x.2 ∧ x.2 ≤ 1099511627776) (fun x => .int .i64 (x.2 + 6 * x.1))
noncomputable def E_laws_heldOpS : Env := ⟨lookup tyTab, lookup [(44, c_laws_markText)], [0, 1, 4, 5, 9, 18, 28, 38, 47, 57, 66]⟩
set_option maxRecDepth 100000 in
set_option maxHeartbeats 4000000 in
theorem m_laws_heldOpS : Meets E_laws_heldOpS (codeOf Tryd.f23) Tryd.f23.results.toList c_laws_heldOpS := by
  rintro ⟨n, k⟩ hs
  obtain ⟨hs1, hk1, hk2⟩ : n ≤ 4194304 ∧ 0 ≤ k ∧ k ≤ 1099511627776 := hs
  refine ⟨trivial, ?_⟩
  skip
  refine loop_rule (fun i : Nat => ⟨[(0, ⟨none, .rd 6 ((List.range n).map fun i => encO (mkO k i))⟩), (1, ⟨none, .int .i64 (k + 6 * i)⟩), (5, ⟨none, .int .i64 i⟩)], [], 0⟩)
    (fun i => i ≤ n) (fun i => n - i) 0 ?_ (by omega) ?_
  · (refine ⟨?_, ?_, rfl⟩ <;> repeat' (first | exact rfl | exact trivial | refine ⟨?_, ?_⟩ | fail) <;> (conv => whnf))
    all_goals simp
  intro i hi
  have hi : i ≤ n := hi
  (conv => whnf); refine ⟨fun h2 => ?_, fun h2 => ?_⟩
  · have h2 : i < n := by simpa using h2
    have hx : ((List.range n).map fun i => encO (mkO k i))[(i : Int).toNat]? = some (encO (mkO k i)) := by simp [h2]
    repeat ((conv => whnf); refine ⟨encO (mkO k i), fun _ => ⟨by omega, hx⟩, ?_⟩)
    conv => whnf
    refine ⟨fun h => ?_, fun _ => ?_⟩
    · exfalso
      simp [mkO, hide_eq, c_laws_markText, con, Int.add_assoc] at h
    repeat ((conv => whnf); first | refine ⟨(by kernel_rfl : drawOk _ _ = true), ?_⟩ | refine ⟨_, w64 (by (show (_ : Prop)); first | omega | ((try dsimp only at *); (try simp only [lns] at *); omega)), ?_⟩ | refine ⟨(_ : Int), rfl, fun _ => (show (_ : Int) ≤ (1152921504606846976 : Int) from by omega), ?_⟩ | refine ⟨encO (mkO k i), fun _ => ⟨by omega, hx⟩, ?_⟩)
    conv => whnf
    refine ⟨fun h => ?_, fun _ => ?_⟩
    · exfalso
      simp [mkO, hide_eq, c_laws_markText, con, Int.add_assoc] at h
    repeat ((conv => whnf); first | refine ⟨(by kernel_rfl : drawOk _ _ = true), ?_⟩ | refine ⟨_, w64 (by (show (_ : Prop)); first | omega | ((try dsimp only at *); (try simp only [lns] at *); omega)), ?_⟩ | refine ⟨(_ : Int), rfl, fun _ => (show (_ : Int) ≤ (1152921504606846976 : Int) from by omega), ?_⟩ | refine ⟨encO (mkO k i), fun _ => ⟨by omega, hx⟩, ?_⟩)
    conv => whnf
    refine ⟨fun h => ?_, fun _ => ?_⟩
    · exfalso
      simp [mkO, hide_eq, c_laws_markText, con, Int.add_assoc] at h
    repeat ((conv => whnf); first | refine ⟨_, w64 (by (show (_ : Prop)); first | omega | ((try dsimp only at *); (try simp only [lns] at *); omega)), ?_⟩ | refine ⟨encO (mkO k i), fun _ => ⟨by omega, hx⟩, ?_⟩)
    conv => whnf
    refine ⟨fun h => ?_, fun _ => ?_⟩
    · exfalso
      simp [mkO, hide_eq, c_laws_markText, con, Int.add_assoc] at h
    repeat ((conv => whnf); first | refine ⟨(by kernel_rfl : drawOk _ _ = true), ?_⟩ | refine ⟨_, w64 (by (show (_ : Prop)); first | omega | ((try dsimp only at *); (try simp only [lns] at *); omega)), ?_⟩ | refine ⟨(_ : Int), rfl, fun _ => (show (_ : Int) ≤ (1152921504606846976 : Int) from by omega), ?_⟩ | refine ⟨encO (mkO k i), fun _ => ⟨by omega, hx⟩, ?_⟩)
    conv => whnf
    refine ⟨fun h => ?_, fun _ => ?_⟩
    · exfalso
      simp [mkO, hide_eq, c_laws_markText, con, Int.add_assoc] at h
    repeat ((conv => whnf); first | refine ⟨_, w64 (by (show (_ : Prop)); first | omega | ((try dsimp only at *); (try simp only [lns] at *); omega)), ?_⟩ | refine ⟨encO (mkO k i), fun _ => ⟨by omega, hx⟩, ?_⟩)
    conv => whnf
    refine ⟨fun h => ?_, fun _ => ?_⟩
    · exfalso
      simp [mkO, hide_eq, c_laws_markText, con, Int.add_assoc] at h
    repeat ((conv => whnf); refine ⟨_, w64 (by (show (_ : Prop)); first | omega | ((try dsimp only at *); (try simp only [lns] at *); omega)), ?_⟩)
    refine again (i + 1) ?_ h2 (by first | omega | (simp; done) | (simp; omega))
    (refine ⟨?_, ?_, rfl⟩ <;> repeat' (first | exact rfl | exact trivial | refine ⟨?_, ?_⟩ | fail) <;> (conv => whnf))
    omega
  · have h2 : i = n := by
      have : ¬ i < n := by simpa using h2
      omega
    subst h2
    skip
    exact ⟨trivial, rfl⟩
theorem ok_laws_heldOpS : ConOk Tryd.prog 23 c_laws_heldOpS := meets_ok (tabT _ _) (FOk.cons ok_laws_markText FOk.nil) mixed Tryd.func23 rfl Tryd.call23 (by decide) (by kernel_rfl) m_laws_heldOpS (by intro _ (y : (Nat × Int)) _; exact ⟨by simp [c_laws_heldOpS, con, conG, conW, AV.noRd, noRdCells, noRdRows, noRdRows_map', encS, encI, encO], by simp [c_laws_heldOpS, con, conG, conW, AV.noRd, noRdCells, noRdRows, noRdRows_map', encS, encI, encO]⟩) (by intro (y : (Nat × Int)) _; first | (simp [c_laws_heldOpS, con, conG, conW, conP, AV.free, freeCells, freeRows, freeRows_map, encS, encI, encO]; done) | (obtain ⟨_, _⟩ := y; simp [c_laws_heldOpS, con, conG, conW, conP, AV.free, freeCells, freeRows, freeRows_map, encS, encI, encO]; done) | (obtain ⟨_, _, _⟩ := y; simp [c_laws_heldOpS, con, conG, conW, conP, AV.free, freeCells, freeRows, freeRows_map, encS, encI, encO]; done))
end Go.GH

set_option linter.unusedVariables false
set_option linter.unusedSimpArgs false
namespace Go.GH
open Go Go.Proofs
noncomputable def c_impl_OpsOf : PCon := conG gwErr [mC] false Str encS (fun s => s.length ≤ 1048576) (fun s => .tup [.own 6 (((opsOf s).getD []).map encO), .bool (opsOf s).isSome])
noncomputable def E_impl_OpsOf : Env := ⟨lookup tyTab, lookup [(18, c_impl_OpOf), (43, c_strings_Cut)], [0, 2, 3, 4, 5, 6, 7, 8, 9, 12, 29]⟩
set_option maxRecDepth 100000 in
set_option maxHeartbeats 4000000 in
theorem m_impl_OpsOf : Meets E_impl_OpsOf (codeOf Tryd.f21) Tryd.f21.results.toList c_impl_OpsOf := by
  intro (s : Str) (hs : s.length ≤ 1048576)
  refine ⟨trivial, ?_⟩
  skip
  refine loop_rule (fun ((r, out) : Str × List OpR) => ⟨[(0, ⟨none, .str r⟩), (4, ⟨none, .view 0 [] 0 out.length⟩)], [(0, .own 6 (out.map encO))], 1⟩)
    (fun (r, out) => OpsInv s r out) (fun x => x.1.length) (s, []) ?_ (OpsInv.zero s) ?_
  · (refine ⟨?_, ?_, rfl⟩ <;> repeat' (first | exact rfl | exact trivial | refine ⟨?_, ?_⟩ | fail) <;> (conv => whnf))
  rintro ⟨r, out⟩ hI
  have hI : OpsInv s r out := hI
  have hl := hI.1
  have hcl := cutN_len r
  (conv => whnf); refine ⟨fun h1 => ?_, fun h1 => ?_⟩
  · have hne : r ≠ [] := by
      have h1 : (!(r == [])) = true := h1
      simpa using h1
    conv => whnf
    refine ⟨r, rfl, fun _ => (show r.length ≤ 16777216 by omega), ?_⟩
    skip
    refine ⟨(cutN r).1, rfl, fun _ => (show (cutN r).1.length ≤ 1048576 by omega), ?_⟩
    repeat ((conv => whnf); refine ⟨fun h => h, ?_⟩)
    (conv => whnf); refine ⟨fun h2 => ?_, fun h2 => ?_⟩
    · have h2 : (!(opOf (cutN r).1).isSome || !(cutN r).2.2) = true := h2
      have hno : opsOf s = none := hI.bad hne (by
        revert h2
        cases (cutN r).2.2 <;> cases opOf (cutN r).1 <;> simp)
      skip
      exact ⟨trivial, eqNil (by rw [hno]; rfl), eqB (by rw [hno]; rfl), trivial⟩
    · have h2 : (!(opOf (cutN r).1).isSome || !(cutN r).2.2) = false := h2
      have hc : (cutN r).2.2 = true := by revert h2; cases (cutN r).2.2 <;> simp
      obtain ⟨o, ho⟩ : ∃ o, opOf (cutN r).1 = some o := by
        revert h2
        cases opOf (cutN r).1 with
        | none => simp
        | some o => exact fun _ => ⟨o, rfl⟩
      obtain ⟨hn, hlt⟩ := hI.next hc ho
      repeat ((conv => whnf); first | refine ⟨by (show (_ : Prop)); first | omega | ((try dsimp only at *); (try simp only [lns] at *); omega), ?_⟩ | refine ⟨noOwn (by rfl), ?_⟩)
      refine again ((cutN r).2.1, out ++ [o]) ?_ hn hlt
      (refine ⟨?_, ?_, rfl⟩ <;> repeat' (first | exact rfl | exact trivial | refine ⟨?_, ?_⟩ | fail) <;> (conv => whnf))
      all_goals simp [ho, encO]
  · have h1 : r = [] := by
      have h1 : (!(r == [])) = false := h1
      simpa using h1
    subst h1
    have hf := hI.fin
    skip
    exact ⟨trivial, eqOwn (by rw [hf]; (try simp only [List.drop_zero, List.take_length, take_app]); simp), eqB (by rw [hf]; rfl), trivial⟩
theorem ok_impl_OpsOf : ConOk Tryd.prog 21 c_impl_OpsOf := meets_ok (tabT _ _) (FOk.cons ok_impl_OpOf (FOk.cons ok_strings_Cut FOk.nil)) mixed Tryd.func21 rfl Tryd.call21 (by decide) (by kernel_rfl) m_impl_OpsOf (by intro _ (y : Str) _; exact ⟨by simp [c_impl_OpsOf, con, conG, conW, AV.noRd, noRdCells, noRdRows, noRdRows_map', encS, encO], by simp [c_impl_OpsOf, con, conG, conW, AV.noRd, noRdCells, noRdRows, noRdRows_map', encS, encO]⟩) (by intro (y : Str) _; first | (simp [c_impl_OpsOf, con, conG, conW, conP, AV.free, freeCells, freeRows, freeRows_map, encS, encO]; done) | (obtain ⟨_, _⟩ := y; simp [c_impl_OpsOf, con, conG, conW, conP, AV.free, freeCells, freeRows, freeRows_map, encS, encO]; done) | (obtain ⟨_, _, _⟩ := y; simp [c_impl_OpsOf, con, conG, conW, conP, AV.free, freeCells, freeRows, freeRows_map, encS, encO]; done))
noncomputable def c_spec_OpsOf : PCon := con [mC] false Str encS (fun s => s.length ≤ 1048576) (fun s => .tup [.own 6 (((opsOf s).getD []).map encO), .bool (opsOf s).isSome])
noncomputable def E_spec_OpsOf : Env := ⟨lookup tyTab, lookup [(17, c_spec_OpOf), (37, c_spec_Parts)], [0, 2, 3, 4, 5, 6, 7, 8, 18, 24, 36]⟩
set_option maxRecDepth 100000 in
set_option maxHeartbeats 4000000 in
theorem m_spec_OpsOf : Meets E_spec_OpsOf (codeOf Tryd.f20) Tryd.f20.results.toList c_spec_OpsOf := by
  intro (s : Str) (hs : s.length ≤ 1048576)
  refine ⟨trivial, ?_⟩
  conv => whnf
  refine ⟨(s, 10), rfl, fun _ => (show s.length ≤ 4194304 by omega), ?_⟩
  have hop : opsOf s = opsLines (splitBy 10 s) := rfl
  have hme := fun w hw => splitBy_mem (c := 10) s w hw
  have hln := splitBy_len (c := 10) s
  have hps := split_pos 10 s
  conv => whnf
  generalize splitBy 10 s = ws at hop hme hln hps ⊢
  obtain ⟨last, hlast⟩ := get_lt (l := ws) (i := ws.length - 1) (by omega)
  have hi1 : (((ws.map encS).length : Int) - 1).toNat = ws.length - 1 := by simp
  have hgl : ws.getD (ws.length - 1) [] = last := by rw [List.getD_eq_getElem?_getD, hlast]; rfl
  repeat ((conv => whnf); first | refine ⟨_, w64 (by (show (_ : Prop)); first | omega | ((try dsimp only at *); (try simp only [lns] at *); omega)), ?_⟩ | refine ⟨by (show (_ : Prop)); first | omega | ((try dsimp only at *); (try simp only [lns] at *); omega), ?_⟩)
  refine ⟨encS last, fun _ => by show (ws.map encS)[0 + (((ws.map encS).length : Int) - 1).toNat]? = _; rw [hi1, Nat.zero_add]; exact get_map hlast, ?_⟩
  (conv => whnf); refine ⟨fun h1 => ?_, fun h1 => ?_⟩
  · have h1 : (!(last == [])) = true := h1
    have hno : opsOf s = none := by
      rw [hop, opsLines, hgl, if_neg]
      simpa using h1
    skip
    exact ⟨trivial, eqOwn (by rw [hno]; rfl), eqB (by rw [hno]; rfl), trivial⟩
  have h1 : (!(last == [])) = false := h1
  have hop : opsOf s = opsAll (ws.take (ws.length - 1)) := by
    rw [hop, opsLines, hgl, if_pos]
    simpa using h1
  skip
  refine loop_rule (fun ((i, out) : Nat × List OpR) => ⟨[(4, ⟨none, .view 0 [] 0 out.length⟩), (5, ⟨none, .view 1 [] 0 (ws.map encS).length⟩), (6, ⟨none, .int .i64 i⟩)], [(0, .own 6 (out.map encO)), (1, .own 1 (ws.map encS))], 2⟩)
    (fun (i, out) => i ≤ ws.length - 1 ∧ opsAll (ws.take i) = some out) (fun x => ws.length - x.1) (0, []) ?_ ⟨by omega, rfl⟩ ?_
  · (refine ⟨?_, ?_, rfl⟩ <;> repeat' (first | exact rfl | exact trivial | refine ⟨?_, ?_⟩ | fail) <;> (conv => whnf))
  rintro ⟨i, out⟩ ⟨hi, hI⟩
  have hol := opsAll_len hI
  have hol2 : out.length = i := by rw [hol, List.length_take]; omega
  repeat ((conv => whnf); refine ⟨_, w64 (by (show (_ : Prop)); first | omega | ((try dsimp only at *); (try simp only [lns] at *); omega)), ?_⟩)
  (conv => whnf); refine ⟨fun h2 => ?_, fun h2 => ?_⟩
  · have h2 : i < ws.length - 1 := by
      have : (i : Int) < ((ws.map encS).length : Int) - 1 := by simpa using h2
      simp at this; omega
    obtain ⟨w, hw⟩ := get_lt (l := ws) (i := i) (by omega)
    have hwm := hme w (List.mem_of_getElem? hw)
    obtain ⟨ht1, ht2⟩ := opsAll_take hI hw
    repeat ((conv => whnf); first | refine ⟨by (show (_ : Prop)); first | omega | ((try dsimp only at *); (try simp only [lns] at *); omega), ?_⟩ | refine ⟨encS w, fun _ => by simp [hw], ?_⟩)
    refine ⟨w, rfl, fun _ => (show w.length ≤ 1048576 by omega), ?_⟩
    skip
    (conv => whnf); refine ⟨fun h3 => ?_, fun h3 => ?_⟩
    · have h3 : (!(opOf w).isSome) = true := h3
      have ho : opOf w = none := by simpa using h3
      have hno : opsOf s = none := by
        rw [hop]
        refine opsAll_none (i + 1) ?_
        rw [List.take_take, Nat.min_eq_left (by omega)]
        exact ht2 ho
      skip
      exact ⟨trivial, eqOwn (by rw [hno]; rfl), eqB (by rw [hno]; rfl), trivial⟩
    · have h3 : (!(opOf w).isSome) = false := h3
      obtain ⟨o, ho⟩ : ∃ o, opOf w = some o := by
        revert h3
        cases opOf w with
        | none => simp
        | some o => exact fun _ => ⟨o, rfl⟩
      repeat ((conv => whnf); first | refine ⟨_, w64 (by (show (_ : Prop)); first | omega | ((try dsimp only at *); (try simp only [lns] at *); omega)), ?_⟩ | refine ⟨by (show (_ : Prop)); first | omega | ((try dsimp only at *); (try simp only [lns] at *); omega), ?_⟩ | refine ⟨noOwn (by rfl), ?_⟩)
      refine again (i + 1, out ++ [o]) ?_ ⟨h2, ht1 o ho⟩ (by show ws.length - (i + 1) < ws.length - i; omega)
      (refine ⟨?_, ?_, rfl⟩ <;> repeat' (first | exact rfl | exact trivial | refine ⟨?_, ?_⟩ | fail) <;> (conv => whnf))
      all_goals simp [ho, encO]
  · have h2 : i = ws.length - 1 := by
      have : ¬ (i : Int) < ((ws.map encS).length : Int) - 1 := by simpa using h2
      simp at this; omega
    subst h2
    have hf : opsOf s = some out := by rw [hop, hI]
    skip
    exact ⟨trivial, eqOwn (by rw [hf]; (try simp only [List.drop_zero, List.take_length, take_app]); simp), eqB (by rw [hf]; rfl), trivial⟩
theorem ok_spec_OpsOf : ConOk Tryd.prog 20 c_spec_OpsOf := meets_ok (tabT _ _) (FOk.cons ok_spec_OpOf (FOk.cons ok_spec_Parts FOk.nil)) mixed Tryd.func20 rfl Tryd.call20 (by decide) (by kernel_rfl) m_spec_OpsOf (by intro _ (y : Str) _; exact ⟨by simp [c_spec_OpsOf, con, conG, conW, AV.noRd, noRdCells, noRdRows, noRdRows_map', encS, encO], by simp [c_spec_OpsOf, con, conG, conW, AV.noRd, noRdCells, noRdRows, noRdRows_map', encS, encO]⟩) (by intro (y : Str) _; first | (simp [c_spec_OpsOf, con, conG, conW, conP, AV.free, freeCells, freeRows, freeRows_map, encS, encO]; done) | (obtain ⟨_, _⟩ := y; simp [c_spec_OpsOf, con, conG, conW, conP, AV.free, freeCells, freeRows, freeRows_map, encS, encO]; done) | (obtain ⟨_, _, _⟩ := y; simp [c_spec_OpsOf, con, conG, conW, conP, AV.free, freeCells, freeRows, freeRows_map, encS, encO]; done))
end Go.GH

set_option linter.unusedVariables false
set_option linter.unusedSimpArgs false
namespace Go.GH
open Go Go.Proofs
noncomputable def c_spec_l26Ops : PCon := conW true [.mp, mC] (Cur × Nat) (fun ⟨c, n⟩ => [.own 3 [encC c], .int .i64 n]) (fun x => curOk x.1 ∧ x.2 ≤ 1000) (fun ⟨c, n⟩ => .own 6 ((opsGo n c []).1.map encO)) (fun ⟨c, n⟩ => [.own 3 [encC (opsGo n c []).2]])
noncomputable def E_spec_l26Ops : Env := ⟨lookup tyTab, lookup [(65, c_spec_l14Op)], [0, 1, 4, 5, 6, 10]⟩
set_option maxRecDepth 100000 in
set_option maxHeartbeats 4000000 in
theorem m_spec_l26Ops : Meets E_spec_l26Ops (codeOf Tryd.f49) Tryd.f49.results.toList c_spec_l26Ops := by
  rintro ⟨c, n⟩ hc
  obtain ⟨hc, hn⟩ : curOk c ∧ n ≤ 1000 := hc
  refine ⟨⟨⟨_, _, _, rfl, rfl, by simp⟩, trivial⟩, ?_⟩
  skip
  refine loop_rule (fun ((i, c', l) : Nat × Cur × List OpR) => ⟨[(0, ⟨none, .bx 0 0⟩), (1, ⟨none, .int .i64 n⟩), (5, ⟨none, .view 1 [] 0 l.length⟩), (6, ⟨none, .int .i64 i⟩)], [(0, .own 3 [encC c']), (1, .own 6 (l.map encO))], 2⟩)
    (fun (i, c', l) => i ≤ n ∧ curOk c' ∧ l.length = i ∧ opsGo (n - i) c' l = opsGo n c []) (fun x => n - x.1) (0, c, []) ?_ ⟨by omega, hc, rfl, by rw [Nat.sub_zero]⟩ ?_
  · (refine ⟨?_, ?_, rfl⟩ <;> repeat' (first | exact rfl | exact trivial | refine ⟨?_, ?_⟩ | fail) <;> (conv => whnf))
  rintro ⟨i, c', l⟩ ⟨hi, hc', hl, hI⟩
  (conv => whnf); refine ⟨fun h1 => ?_, fun h1 => ?_⟩
  · have h1 : i < n := by simpa using h1
    obtain ⟨m, hm⟩ : ∃ m, n - i = m + 1 := ⟨n - i - 1, by omega⟩
    have hm2 : n - (i + 1) = m := by omega
    rw [hm, opsGo] at hI
    skip
    refine ⟨c', rfl, fun _ => hc', ?_⟩
    repeat ((conv => whnf); first | refine ⟨_, w64 (by (show (_ : Prop)); first | omega | ((try dsimp only at *); (try simp only [lns] at *); omega)), ?_⟩ | refine ⟨by (show (_ : Prop)); first | omega | ((try dsimp only at *); (try simp only [lns] at *); omega), ?_⟩ | refine ⟨noOwn (by rfl), ?_⟩)
    refine again (i + 1, opN c', l ++ [opX c']) ?_ ⟨h1, opN_ok hc', by simp [hl], by rw [hm2]; exact hI⟩ (by show n - (i + 1) < n - i; omega)
    (refine ⟨?_, ?_, rfl⟩ <;> repeat' (first | exact rfl | exact trivial | refine ⟨?_, ?_⟩ | fail) <;> (conv => whnf))
    all_goals simp [encO]
  · have h1 : i = n := by
      have : ¬ i < n := by simpa using h1
      omega
    subst h1
    rw [Nat.sub_self, opsGo] at hI
    skip
    refine ⟨⟨by show some _ = some (AV.own 3 [encC (opsGo i c []).2]); rw [← hI], trivial⟩, ?_⟩
    show leVal _ (AV.own 6 ((opsGo i c []).1.map encO))
    rw [← hI]
    exact eqOwn (by (try simp only [List.drop_zero, List.take_length, take_app]); simp)
theorem ok_spec_l26Ops : ConOk Tryd.prog 49 c_spec_l26Ops := meets_okW (tabT _ _) (FOk.cons ok_spec_l14Op FOk.nil) mixed Tryd.func49 rfl Tryd.call49 (by decide) (by kernel_rfl) m_spec_l26Ops (fun h => by cases h) (by intro (y : (Cur × Nat)) _; first | exact ⟨by simp [c_spec_l26Ops, con, conG, conW, conP, AV.free, freeCells, freeRows, freeRows_map, encS, encO, encC, encB, encN], by simp [c_spec_l26Ops, con, conG, conW, conP, AV.free, freeCells, freeRows, freeRows_map, encS, encO, encC, encB, encN]⟩ | (obtain ⟨_, _⟩ := y; exact ⟨by simp [c_spec_l26Ops, con, conG, conW, conP, AV.free, freeCells, freeRows, freeRows_map, encS, encO, encC, encB, encN], by simp [c_spec_l26Ops, con, conG, conW, conP, AV.free, freeCells, freeRows, freeRows_map, encS, encO, encC, encB, encN]⟩) | (obtain ⟨_, _, _⟩ := y; exact ⟨by simp [c_spec_l26Ops, con, conG, conW, conP, AV.free, freeCells, freeRows, freeRows_map, encS, encO, encC, encB, encN], by simp [c_spec_l26Ops, con, conG, conW, conP, AV.free, freeCells, freeRows, freeRows_map, encS, encO, encC, encB, encN]⟩)) (by intro (y : (Cur × Nat)) _; first | (simp [c_spec_l26Ops, con, conG, conW, conP, AV.free, freeCells, freeRows, freeRows_map, encS, encO, encC, encB, encN]; done) | (obtain ⟨_, _⟩ := y; simp [c_spec_l26Ops, con, conG, conW, conP, AV.free, freeCells, freeRows, freeRows_map, encS, encO, encC, encB, encN]; done) | (obtain ⟨_, _, _⟩ := y; simp [c_spec_l26Ops, con, conG, conW, conP, AV.free, freeCells, freeRows, freeRows_map, encS, encO, encC, encB, encN]; done))
noncomputable def c_spec_DrawOpsText : PCon := con [mS 1] false Str (fun s => [.rd 1 (s.map encB)]) (fun s => s.length ≤ 1048576) (fun s => .own 6 ((opsDraw (newC s)).map encO))
noncomputable def E_spec_DrawOpsText : Env := ⟨lookup tyTab, lookup [(45, c_spec_l26Bent), (46, c_spec_l1New), (47, c_spec_l1Below), (49, c_spec_l26Ops), (50, c_spec_l1Once)], [0, 2, 3, 4, 12]⟩
set_option maxRecDepth 100000 in
set_option maxHeartbeats 4000000 in
theorem m_spec_DrawOpsText : Meets E_spec_DrawOpsText (codeOf Tryd.f27) Tryd.f27.results.toList c_spec_DrawOpsText := by
  intro (s : Str) (hs : s.length ≤ 1048576)
  refine ⟨trivial, ?_⟩
  conv => whnf
  refine ⟨s, rfl, fun _ => hs, ?_⟩
  have hc := newC_ok hs
  have hD : opsDraw (newC s) = opsDraw (newC s) := rfl
  conv at hD => rhs; unfold opsDraw
  have hb := belX_le (newC s) 5
  have hb2 := hb.2 (by decide)
  obtain ⟨n, hn⟩ : ∃ n : Nat, belX (newC s) 5 = n := ⟨(belX (newC s) 5).toNat, by omega⟩
  have hL : opsList (newC s) = opsGo n (belN (newC s) 5) [] := by rw [opsList, hn, Int.toNat_natCast]
  have hok : curOk (opsList (newC s)).2 := by rw [hL]; exact opsGo_ok _ _ (belN_ok hc)
  have hlen : (opsList (newC s)).1.length ≤ 5 := by rw [hL, opsGo_len]; simp; omega
  have hlen2 : (opsGo n (belN (newC s) 5) []).1.length ≤ 5 := by rw [← hL]; exact hlen
  skip
  refine ⟨((newC s), 5), rfl, fun _ => hc, ?_⟩
  skip
  refine ⟨(belN (newC s) 5, n), congrArg (fun x => [AV.own 3 [encC (belN (newC s) 5)], AV.int .i64 x]) hn, fun _ => ⟨belN_ok hc, by show n ≤ 1000; omega⟩, ?_⟩
  skip
  refine ⟨((opsList (newC s)).2, 5), by rw [hL]; rfl, fun _ => hok, ?_⟩
  (conv => whnf); refine ⟨fun h1 => ?_, fun h1 => ?_⟩
  · have h1 : belX (opsList (newC s)).2 5 = 0 := by
      have h1 : (belX (opsList (newC s)).2 5 == 0) = true := h1
      simpa using h1
    rw [if_pos h1] at hD
    skip
    refine ⟨belN (opsList (newC s)).2 5, rfl, fun _ => belN_ok hok, ?_⟩
    repeat ((conv => whnf); first | refine ⟨by (show (_ : Prop)); first | omega | ((try dsimp only at *); (try simp only [lns] at *); omega), ?_⟩ | refine ⟨noOwn (by rfl), ?_⟩)
    exact ⟨trivial, eqOwn (by rw [hD, hL]; (try simp only [List.drop_zero, List.take_length, take_app]); simp [encO])⟩
  · have h1 : ¬ belX (opsList (newC s)).2 5 = 0 := by
      have h1 : (belX (opsList (newC s)).2 5 == 0) = false := h1
      simpa using h1
    rw [if_neg h1] at hD
    skip
    exact ⟨trivial, eqOwn (by rw [hD, hL]; (try simp only [List.drop_zero, List.take_length, take_app]))⟩
theorem ok_spec_DrawOpsText : ConOk Tryd.prog 27 c_spec_DrawOpsText := meets_ok (tabT _ _) (FOk.cons ok_spec_l26Bent (FOk.cons ok_spec_l1New (FOk.cons ok_spec_l1Below (FOk.cons ok_spec_l26Ops (FOk.cons ok_spec_l1Once FOk.nil))))) mixed Tryd.func27 rfl Tryd.call27 (by decide) (by kernel_rfl) m_spec_DrawOpsText (by intro _ (y : Str) _; exact ⟨by simp [c_spec_DrawOpsText, con, conG, conW, AV.noRd, noRdCells, noRdRows, noRdRows_map', encS, encC, encB, encN, encO], by simp [c_spec_DrawOpsText, con, conG, conW, AV.noRd, noRdCells, noRdRows, noRdRows_map', encS, encC, encB, encN, encO]⟩) (by intro (y : Str) _; first | (simp [c_spec_DrawOpsText, con, conG, conW, conP, AV.free, freeCells, freeRows, freeRows_map, encS, encO, encC, encB, encN]; done) | (obtain ⟨_, _⟩ := y; simp [c_spec_DrawOpsText, con, conG, conW, conP, AV.free, freeCells, freeRows, freeRows_map, encS, encO, encC, encB, encN]; done) | (obtain ⟨_, _, _⟩ := y; simp [c_spec_DrawOpsText, con, conG, conW, conP, AV.free, freeCells, freeRows, freeRows_map, encS, encO, encC, encB, encN]; done))
noncomputable def c_spec_DrawOpOf : PCon := con [mS 1] true Str (fun s => [.rd 1 (s.map encB)]) (fun s => s.length ≤ 1048576) (fun s => .str (opDraw (newC s)))
noncomputable def E_spec_DrawOpOf : Env := ⟨lookup tyTab, lookup [(9, c_spec_OpText), (45, c_spec_l26Bent), (46, c_spec_l1New), (47, c_spec_l1Below), (48, c_spec_l1PickInt)], [0, 2, 3, 4, 12, 13, 22, 27, 31]⟩
set_option maxRecDepth 100000 in
set_option maxHeartbeats 4000000 in
theorem m_spec_DrawOpOf : Meets E_spec_DrawOpOf (codeOf Tryd.f26) Tryd.f26.results.toList c_spec_DrawOpOf := by
  intro (s : Str) (hs : s.length ≤ 1048576)
  refine ⟨trivial, ?_⟩
  have hc := newC_ok hs
  have hD : opDraw (newC s) = opDraw (newC s) := rfl
  conv at hD => rhs; unfold opDraw
  have hsm := bent6X_sm (newC s)
  have hok := bent6N_ok hc
  have hok2 : curOk (belN (bent6N (newC s)) 6) := belN_ok hok
  have hlen := opText_smD hsm
  conv => whnf
  refine ⟨s, rfl, fun _ => hs, ?_⟩
  skip
  refine ⟨newC s, rfl, fun _ => hc, ?_⟩
  skip
  refine ⟨bent6X (newC s), rfl, fun _ => smD_smO hsm, ?_⟩
  skip
  refine ⟨(bent6N (newC s), 6), rfl, fun _ => hok, ?_⟩
  skip
  (conv => whnf); refine ⟨fun h1 => ?_, fun h1 => ?_⟩
  · have h1 : belX (bent6N (newC s)) 6 = 0 := by
      have h1 : (belX (bent6N (newC s)) 6 == 0) = true := h1
      simpa using h1
    rw [if_pos h1] at hD
    have hb := belX_le (belN (bent6N (newC s)) 6) ((opText (bent6X (newC s))).length + 1)
    have hb2 := hb.2 (by omega)
    repeat ((conv => whnf); refine ⟨_, w64 (by (show (_ : Prop)); first | omega | ((try dsimp only at *); (try simp only [lns] at *); omega)), ?_⟩)
    refine ⟨(belN (bent6N (newC s)) 6, ((opText (bent6X (newC s))).length : Int) + 1), rfl, fun _ => hok2, ?_⟩
    repeat ((conv => whnf); refine ⟨fun _ => ⟨by (show (_ : Prop)); first | omega | ((try dsimp only at *); (try simp only [lns] at *); omega), by (show (_ : Prop)); first | omega | ((try dsimp only at *); (try simp only [lns] at *); omega), by (show (_ : Prop)); first | omega | ((try dsimp only at *); (try simp only [lns] at *); omega)⟩, ?_⟩)
    refine ⟨(opText (bent6X (newC s))).take (belX (belN (bent6N (newC s)) 6) ((opText (bent6X (newC s))).length + 1)).toNat, by
      show List.take ((belX (belN (bent6N (newC s)) 6) ((opText (bent6X (newC s))).length + 1)).toNat - 0) (List.drop 0 _) = _
      rw [Nat.sub_zero, List.drop_zero, List.map_take], ?_⟩
    skip
    exact ⟨trivial, eqS hD.symm⟩
  have h1 : ¬ belX (bent6N (newC s)) 6 = 0 := by
    have h1 : (belX (bent6N (newC s)) 6 == 0) = false := h1
    simpa using h1
  rw [if_neg h1] at hD
  skip
  (conv => whnf); refine ⟨fun h2 => ?_, fun h2 => ?_⟩
  · have h2 : belX (bent6N (newC s)) 6 = 1 := by
      have h2 : (belX (bent6N (newC s)) 6 == 1) = true := h2
      simpa using h2
    rw [if_pos h2] at hD
    repeat ((conv => whnf); first | refine ⟨by (show (_ : Prop)); first | omega | ((try dsimp only at *); (try simp only [lns] at *); omega), ?_⟩ | refine ⟨fun (r : List AV) hr c hc => by simp [encS] at hr; (try subst hr); simp at hc; (try subst hc); rfl, ?_⟩)
    refine ⟨opText (bent6X (newC s)) ++ [48], by simp; rw [List.take_of_length_le (by simp)], ?_⟩
    skip
    exact ⟨trivial, eqS hD.symm⟩
  have h2 : ¬ belX (bent6N (newC s)) 6 = 1 := by
    have h2 : (belX (bent6N (newC s)) 6 == 1) = false := h2
    simpa using h2
  rw [if_neg h2] at hD
  skip
  (conv => whnf); refine ⟨fun h3 => ?_, fun h3 => ?_⟩
  · have h3 : belX (bent6N (newC s)) 6 = 2 := by
      have h3 : (belX (bent6N (newC s)) 6 == 2) = true := h3
      simpa using h3
    rw [if_pos h3] at hD
    skip
    (conv => whnf); refine ⟨fun h4 => ?_, fun h4 => ?_⟩
    · have h4 : 0 < (opText (bent6X (newC s))).length := by simpa using h4
      rw [if_pos h4] at hD
      have hb := belX_le (belN (bent6N (newC s)) 6) (opText (bent6X (newC s))).length
      have hb2 := hb.2 (by omega)
      obtain ⟨j, hj⟩ : ∃ j : Nat, belX (belN (bent6N (newC s)) 6) (opText (bent6X (newC s))).length = j := ⟨(belX (belN (bent6N (newC s)) 6) (opText (bent6X (newC s))).length).toNat, by omega⟩
      skip
      refine ⟨(belN (bent6N (newC s)) 6, ((opText (bent6X (newC s))).length : Int)), rfl, fun _ => hok2, ?_⟩
      skip
      refine ⟨(belN (belN (bent6N (newC s)) 6) (opText (bent6X (newC s))).length, [48, 32, 65, 97, 47]), rfl, fun _ => ⟨belN_ok hok2, (by decide : 0 < 5 ∧ 5 ≤ 1000)⟩, ?_⟩
      have hv : 0 ≤ pickI (belN (belN (bent6N (newC s)) 6) (opText (bent6X (newC s))).length) [48, 32, 65, 97, 47] ∧ pickI (belN (belN (bent6N (newC s)) 6) (opText (bent6X (newC s))).length) [48, 32, 65, 97, 47] ≤ 97 := by
        have h := pickI_mem (c := belN (belN (bent6N (newC s)) 6) (opText (bent6X (newC s))).length) (l := [48, 32, 65, 97, 47]) (by decide)
        simp at h
        omega
      obtain ⟨v, hv2⟩ : ∃ v : UInt8, v = UInt8.ofNat (pickI (belN (belN (bent6N (newC s)) 6) (opText (bent6X (newC s))).length) [48, 32, 65, 97, 47]).toNat := ⟨_, rfl⟩
      have hv3 : (v.toNat : Int) = pickI (belN (belN (bent6N (newC s)) 6) (opText (bent6X (newC s))).length) [48, 32, 65, 97, 47] := by rw [hv2, UInt8.toNat_ofNat']; omega
      have hv4 := v.toNat_lt
      rw [← hv2] at hD
      skip
      refine ⟨(v.toNat : Int), by
        show IntKind.u8.wrap (pickI (belN (belN (bent6N (newC s)) 6) (opText (bent6X (newC s))).length) [48, 32, 65, 97, 47]) = _
        rw [← hv3]
        show Int.ofNat (v.toNat % 256) = _
        rw [Nat.mod_eq_of_lt (by omega)]; rfl, ?_⟩
      have hlt : (belX (belN (bent6N (newC s)) 6) (opText (bent6X (newC s))).length).toNat < (opText (bent6X (newC s))).length := by omega
      obtain ⟨b0, hb0⟩ := get_lt hlt
      repeat ((conv => whnf); refine ⟨by (show (_ : Prop)); first | omega | ((try dsimp only at *); (try simp only [lns] at *); omega), ?_⟩)
      refine ⟨[.int .u8 b0.toNat], by rw [Nat.zero_add]; exact get_map (f := fun b : UInt8 => [AV.int .u8 b.toNat]) hb0, ?_⟩
      skip
      refine ⟨(opText (bent6X (newC s))).set (belX (belN (bent6N (newC s)) 6) (opText (bent6X (newC s))).length).toNat v, by
        rw [List.drop_zero, List.take_of_length_le (by simp), Nat.zero_add, List.map_set]; rfl, ?_⟩
      skip
      exact ⟨trivial, eqS hD.symm⟩
    · have h4 : ¬ 0 < (opText (bent6X (newC s))).length := by simpa using h4
      rw [if_neg h4] at hD
      skip
      refine ⟨opText (bent6X (newC s)), by rw [List.drop_zero, List.take_of_length_le (by simp)], ?_⟩
      skip
      exact ⟨trivial, eqS hD.symm⟩
  · have h3 : ¬ belX (bent6N (newC s)) 6 = 2 := by
      have h3 : (belX (bent6N (newC s)) 6 == 2) = false := h3
      simpa using h3
    rw [if_neg h3] at hD
    skip
    refine ⟨opText (bent6X (newC s)), by rw [List.drop_zero, List.take_of_length_le (by simp)], ?_⟩
    skip
    exact ⟨trivial, eqS hD.symm⟩
theorem ok_spec_DrawOpOf : ConOk Tryd.prog 26 c_spec_DrawOpOf := meets_ok (tabT _ _) (FOk.cons ok_spec_OpText (FOk.cons ok_spec_l26Bent (FOk.cons ok_spec_l1New (FOk.cons ok_spec_l1Below (FOk.cons ok_spec_l1PickInt FOk.nil))))) mixed Tryd.func26 rfl Tryd.call26 (by decide) (by kernel_rfl) m_spec_DrawOpOf (by intro _ (y : Str) _; exact ⟨by simp [c_spec_DrawOpOf, con, conG, conW, AV.noRd, noRdCells, noRdRows, noRdRows_map', encS, encC, encB, encN, encO], by simp [c_spec_DrawOpOf, con, conG, conW, AV.noRd, noRdCells, noRdRows, noRdRows_map', encS, encC, encB, encN, encO]⟩) (by intro (y : Str) _; first | (simp [c_spec_DrawOpOf, con, conG, conW, conP, AV.free, freeCells, freeRows, freeRows_map, encS, encO, encC, encB, encN]; done) | (obtain ⟨_, _⟩ := y; simp [c_spec_DrawOpOf, con, conG, conW, conP, AV.free, freeCells, freeRows, freeRows_map, encS, encO, encC, encB, encN]; done) | (obtain ⟨_, _, _⟩ := y; simp [c_spec_DrawOpOf, con, conG, conW, conP, AV.free, freeCells, freeRows, freeRows_map, encS, encO, encC, encB, encN]; done))
noncomputable def c_laws_FnOpTexts : PCon := conG gwErr [mS 1] true Str (fun s => [.rd 1 (s.map encB)]) (fun s => s.length ≤ 9223372036854775807) (fun _ => .bool true)
noncomputable def E_laws_FnOpTexts : Env := ⟨lookup tyTab, lookup [(9, c_spec_OpText), (11, c_impl_OpText), (13, c_spec_OpsText), (15, c_impl_OpsText), (17, c_spec_OpOf), (18, c_impl_OpOf), (21, c_impl_OpsOf), (24, c_laws_big), (25, c_spec_DrawOpText), (26, c_spec_DrawOpOf), (27, c_spec_DrawOpsText)], [0, 2, 3, 4, 5, 6, 7, 8, 9, 11, 12, 13, 14, 15, 16, 18, 45, 88, 90, 98, 102, 113]⟩
set_option maxRecDepth 100000 in
set_option maxHeartbeats 4000000 in
theorem m_laws_FnOpTexts : Meets E_laws_FnOpTexts (codeOf Tryd.f7) Tryd.f7.results.toList c_laws_FnOpTexts := by
  intro (s : Str) hs
  refine ⟨trivial, ?_⟩
  conv => whnf
  refine ⟨s, rfl, fun _ => trivial, ?_⟩
  (conv => whnf); refine ⟨fun h1 => ?_, fun h1 => ?_⟩
  · conv => whnf
    exact ⟨trivial, rfl⟩
  have h1 : s.length ≤ 1048576 := by
    have h1 : decide (1048576 < s.length) = false := h1
    simpa using h1
  have hsm := smD_smO (bent6X_sm (newC s))
  have hlen := opText_smD (bent6X_sm (newC s))
  have hdl := opDraw_len (newC s)
  have hdo := opsDraw_sm (newC s)
  have hdo1 := hdo.1
  conv => whnf
  refine ⟨s, rfl, fun _ => h1, ?_⟩
  skip
  refine ⟨bent6X (newC s), rfl, fun _ => hsm, ?_⟩
  skip
  refine ⟨opText (bent6X (newC s)), rfl, fun _ => (show (opText (bent6X (newC s))).length ≤ 1048576 by omega), ?_⟩
  repeat ((conv => whnf); refine ⟨fun h => h, ?_⟩)
  refine ⟨bent6X (newC s), rfl, fun _ => hsm, ?_⟩
  repeat ((conv => whnf); refine ⟨fun h => h, ?_⟩)
  (conv => whnf); refine ⟨fun h2 => ?_, fun h2 => ?_⟩
  · exact absurd ((round_no (bent6X (newC s))).symm.trans h2) Bool.noConfusion
  skip
  refine ⟨s, rfl, fun _ => h1, ?_⟩
  skip
  refine ⟨opDraw (newC s), rfl, fun _ => (show (opDraw (newC s)).length ≤ 1048576 by omega), ?_⟩
  skip
  refine ⟨opDraw (newC s), rfl, fun _ => (show (opDraw (newC s)).length ≤ 1048576 by omega), ?_⟩
  skip
  refine ⟨s, rfl, fun _ => h1, ?_⟩
  skip
  refine ⟨opsDraw (newC s), by refine argP1 ?_; simp [rdO], fun _ => hdo, ?_⟩
  skip
  refine ⟨opsText (opsDraw (newC s)), rfl, fun _ => opsDraw_len (newC s), ?_⟩
  repeat ((conv => whnf); refine ⟨fun h => h, ?_⟩)
  refine ⟨(opOf (opDraw (newC s))).getD OpR.zero, rfl, fun _ => opOf_sm (by omega), ?_⟩
  repeat ((conv => whnf); refine ⟨fun h => h, ?_⟩)
  refine ⟨opsDraw (newC s), by refine argP1 ?_; simp [rdO], fun _ => hdo, ?_⟩
  repeat ((conv => whnf); refine ⟨fun h => h, ?_⟩)
  have hR := opsOf_round (opsDraw (newC s))
  (conv => whnf); refine ⟨fun h3 => ?_, fun h3 => ?_⟩
  · have h3 : ((opOf (opDraw (newC s))).isSome != (opOf (opDraw (newC s))).isSome || ((opOf (opDraw (newC s))).isSome && !(opText ((opOf (opDraw (newC s))).getD OpR.zero) == opDraw (newC s))) || !(opsOf (opsText (opsDraw (newC s)))).isSome || !(opsText (opsDraw (newC s)) == opsText (opsDraw (newC s)))) = true := h3
    rw [hR] at h3
    exact absurd ((drawn_no (opsText (opsDraw (newC s))) (opDraw (newC s))).symm.trans h3) Bool.noConfusion
  skip
  (conv => whnf); refine ⟨fun h4 => ?_, fun h4 => ?_⟩
  · have h4 : (opsText (opsDraw (newC s)) == []) = true := h4
    have hB := opsText_empty _ h4
    skip
    exact ⟨trivial, eqB (by rw [hR, hB]; rfl)⟩
  have h4 : (opsText (opsDraw (newC s)) == []) = false := h4
  have hB : (opsOf (opsText (opsDraw (newC s)))).getD [] = opsDraw (newC s) := by rw [hR, opsText_full _ h4]; rfl
  skip
  (conv => whnf); refine ⟨fun h5 => ?_, fun h5 => ?_⟩
  · exfalso
    have h5 : ((((opsOf (opsText (opsDraw (newC s)))).getD []).map encO).length : Int) != (((opsDraw (newC s)).map encO).length : Int) := h5
    rw [hB] at h5
    simp at h5
  skip
  refine loop_rule (fun i : Nat => ⟨[(12, ⟨none, .view 0 [] 0 (opsDraw (newC s)).length⟩), (14, ⟨none, .view 1 [] 0 (opsDraw (newC s)).length⟩), (16, ⟨none, .int .i64 i⟩)], [(0, .own 6 ((opsDraw (newC s)).map encO)), (1, .own 6 ((opsDraw (newC s)).map encO))], 2⟩)
    (fun i => i ≤ (opsDraw (newC s)).length) (fun i => (opsDraw (newC s)).length - i) 0 ?_ (by omega) ?_
  · (refine ⟨?_, ?_, rfl⟩ <;> repeat' (first | exact rfl | exact trivial | refine ⟨?_, ?_⟩ | fail) <;> (conv => whnf))
    all_goals simp [hB]
  intro i (hi : i ≤ (opsDraw (newC s)).length)
  (conv => whnf); refine ⟨fun h6 => ?_, fun h6 => ?_⟩
  · have h6 : i < (opsDraw (newC s)).length := by simpa using h6
    obtain ⟨o, ho⟩ := get_lt h6
    repeat ((conv => whnf); first | refine ⟨(by kernel_rfl : drawOk _ _ = true), ?_⟩ | refine ⟨by (show (_ : Prop)); first | omega | ((try dsimp only at *); (try simp only [lns] at *); omega), ?_⟩ | refine ⟨encO o, fun _ => by simp [ho], ?_⟩)
    (conv => whnf); refine ⟨fun h7 => ?_, fun h7 => ?_⟩
    · exfalso; simp at h7
    · repeat ((conv => whnf); refine ⟨_, w64 (by (show (_ : Prop)); first | omega | ((try dsimp only at *); (try simp only [lns] at *); omega)), ?_⟩)
      refine again (i + 1) ?_ h6 (by first | omega | (simp; done) | (simp; omega))
      (refine ⟨?_, ?_, rfl⟩ <;> repeat' (first | exact rfl | exact trivial | refine ⟨?_, ?_⟩ | fail) <;> (conv => whnf))
  · skip
    exact ⟨trivial, rfl⟩
theorem ok_laws_FnOpTexts : ConOk Tryd.prog 7 c_laws_FnOpTexts := meets_ok (tabT _ _) (FOk.cons ok_spec_OpText (FOk.cons ok_impl_OpText (FOk.cons ok_spec_OpsText (FOk.cons ok_impl_OpsText (FOk.cons ok_spec_OpOf (FOk.cons ok_impl_OpOf (FOk.cons ok_impl_OpsOf (FOk.cons ok_laws_big (FOk.cons ok_spec_DrawOpText (FOk.cons ok_spec_DrawOpOf (FOk.cons ok_spec_DrawOpsText FOk.nil))))))))))) mixed Tryd.func7 rfl Tryd.call7 (by decide) (by kernel_rfl) m_laws_FnOpTexts (by intro _ (y : Str) _; exact ⟨by simp [c_laws_FnOpTexts, con, conG, conW, AV.noRd, noRdCells, noRdRows, noRdRows_map', encS, encC, encB, encN, encO], by simp [c_laws_FnOpTexts, con, conG, conW, AV.noRd, noRdCells, noRdRows, noRdRows_map', encS, encC, encB, encN, encO]⟩) (by intro (y : Str) _; first | (simp [c_laws_FnOpTexts, con, conG, conW, conP, AV.free, freeCells, freeRows, freeRows_map, encS, encO, encC, encB, encN]; done) | (obtain ⟨_, _⟩ := y; simp [c_laws_FnOpTexts, con, conG, conW, conP, AV.free, freeCells, freeRows, freeRows_map, encS, encO, encC, encB, encN]; done) | (obtain ⟨_, _, _⟩ := y; simp [c_laws_FnOpTexts, con, conG, conW, conP, AV.free, freeCells, freeRows, freeRows_map, encS, encO, encC, encB, encN]; done))
end Go.GH

