import Derived.Test.YtpbpaijjpglmlaaGreatSA
import Derived.Test.YtpbpaijjpglmlaaGreatChecked
import Derived.Shelf.RegionOpenPlain
import Derived.WalkKit
import Derived.Deep.LoopGhost
import Derived.Lib.Walk
import Derived.Lib.SliceRun
import Derived.Sort.Grow
set_option linter.unusedVariables false
set_option linter.unusedSimpArgs false
set_option linter.unusedSimpArgs false
namespace Go.GH
open Go Go.Proofs
noncomputable def E2 : Bp := con [mC] true Int (fun n => [.int .i64 n]) (fun _ => True) (fun n => .int .i64 (Fg n))
noncomputable def Wh : Env := ⟨A4 Bc, A4 [], [0, 2, 4, 6]⟩
set_option maxRecDepth 100000 in
set_option maxHeartbeats 4000000 in
theorem Ws : Bd Wh (Az Tryz.f194) Tryz.f194.results.toList E2 := by
  intro (n : Int) _
  refine ⟨trivial, ?_⟩
  (conv => whnf); refine ⟨fun h1 => ?_, fun h1 => ?_⟩
  · have h1 : n ≤ 0 := by simpa using h1
    skip
    exact ⟨trivial, Ob (by rw [Fg, if_pos h1])⟩
  have h1 : ¬ n ≤ 0 := by simpa using h1
  skip
  (conv => whnf); refine ⟨fun h2 => ?_, fun h2 => ?_⟩
  · have h2 : n ≥ 80 := by simpa using h2
    skip
    exact ⟨trivial, Ob (by rw [Fg, if_neg h1, if_pos h2])⟩
  have h2 : ¬ n ≥ 80 := by simpa using h2
  have h3 := Int.tdiv_eq_ediv_of_nonneg (a := n + 15) (b := 16) (by omega)
  repeat ((conv => whnf); first | refine ⟨_, w64 (bb), ?_⟩ | refine ⟨bb, ?_⟩)
  refine ⟨(n + 15).tdiv 16, by
    show IntKind.i64.wrap ((n + 16 - 1).tdiv 16) = _
    rw [show n + 16 - 1 = n + 15 by omega, h3]
    exact w64 (by omega), ?_⟩
  skip
  exact ⟨trivial, Ob (by rw [Fg, if_neg h1, if_neg h2])⟩
theorem Ok : Ay Tryz.prog 194 E2 := Aq (Ch _ _) FOk.nil mixed Tryz.func194 rfl Tryz.call194 (by decide) (by kernel_rfl) Ws (by intro _ (y : Int) _; exact ⟨by simp [E2, con, Aa, A8, AV.noRd, A7, Ab, A5, A6, Ad, Ae, Ah], by simp [E2, con, Aa, A8, AV.noRd, A7, Ab, A5, A6, Ad, Ae, Ah]⟩) (by intro (y : Int) _; first | (simp [E2, con, Aa, A8, Ag, AV.free, A2, A3, A1, A6, Ad, Ae, Ah]; done) | (obtain ⟨_, _⟩ := y; simp [E2, con, Aa, A8, Ag, AV.free, A2, A3, A1, A6, Ad, Ae, Ah]; done) | (obtain ⟨_, _, _⟩ := y; simp [E2, con, Aa, A8, Ag, AV.free, A2, A3, A1, A6, Ad, Ae, Ah]; done))
noncomputable def Ew : Bp := con [mC] false Str A6 (fun s => s.length ≤ 8388608) (fun s => .own 1 ((Qd s).map Ae))
noncomputable def A18 : Env := ⟨A4 Bc, A4 [(208, Eg)], [0, 2]⟩
set_option maxRecDepth 100000 in
set_option maxHeartbeats 4000000 in
theorem A16 : Bd A18 (Az Tryz.f207) Tryz.f207.results.toList Ew := by
  intro (s : Str) hs
  have hs : s.length ≤ 8388608 := hs
  refine ⟨trivial, ?_⟩
  have hp := O5 s.length
  skip
  refine ⟨(s.length : Int), rfl, fun _ => trivial, ?_⟩
  repeat ((conv => whnf); first | refine ⟨bb, ?_⟩ | refine ⟨B2z (fun a => by simp [Ae, Ah, Ad, A6, AV.isOwn]), ?_⟩)
  rw [show Ew.res s = .own 1 ((Kq s.length ++ s).map Ae) from rfl]
  refine ⟨trivial, rfl, ?_⟩
  show List.take _ (List.drop 0 (_ ++ List.take s.length (List.drop 0 (s.map Ae)))) = _
  first | rfl | exact trivial | (simp [tkM, Ae, Ad, Ah, A6, List.take_of_length_le]; done) | (simp [tkM, List.take_of_length_le]; omega)
theorem Z9 : Ay Tryz.prog 207 Ew := Aq (Ch _ _) (FOk.cons Rv FOk.nil) mixed Tryz.func207 rfl Tryz.call207 (by decide) (by kernel_rfl) A16 (by intro _ (y : Str) _; exact ⟨by simp [Ew, con, Aa, A8, AV.noRd, A7, Ab, A5, A6, Ad, Ae, Ah], by simp [Ew, con, Aa, A8, AV.noRd, A7, Ab, A5, A6, Ad, Ae, Ah]⟩) (by intro (y : Str) _; first | (simp [Ew, con, Aa, A8, Ag, AV.free, A2, A3, A1, A6, Ad, Ae, Ah]; done) | (obtain ⟨_, _⟩ := y; simp [Ew, con, Aa, A8, Ag, AV.free, A2, A3, A1, A6, Ad, Ae, Ah]; done) | (obtain ⟨_, _, _⟩ := y; simp [Ew, con, Aa, A8, Ag, AV.free, A2, A3, A1, A6, Ad, Ae, Ah]; done))
noncomputable def F5 : Bp := con [mS 1, mC] false (Str × Int) (fun ⟨b, a⟩ => [.rd 1 (b.map Ae), .int .i64 a]) (fun x => x.1.length ≤ 1099511627776) (fun ⟨b, a⟩ => .tup [.str ((He b a).getD ([], 0)).1, .int .i64 (((He b a).getD ([], 0)).2 : Nat), .bool (He b a).isSome])
noncomputable def A2r : Env := ⟨A4 Bc, A4 [(203, Ev)], [0, 1, 4, 5, 6, 7, 8, 9, 26]⟩
set_option maxRecDepth 100000 in
set_option maxHeartbeats 4000000 in
theorem A13 : Bd A2r (Az Tryz.f202) Tryz.f202.results.toList F5 := by
  rintro ⟨b, a⟩ hb
  have hb : b.length ≤ 1099511627776 := hb
  refine ⟨trivial, ?_⟩
  have fin : ∀ {o : Option (Str × Nat)}, o = He b a → F5.res (b, a) = .tup [.str (o.getD ([], 0)).1, .int .i64 ((o.getD ([], 0)).2 : Nat), .bool o.isSome] := fun h => by rw [h]; rfl
  skip
  refine ⟨(b, a), by (repeat' (first | refine Bn ?_ ?_ | refine Bu ?_ | refine Bh ?_ | refine Bs ?_ | exact rfl)) <;> simp [rdI, rdO, rdE, rdB, rdN, rdS, rdD, rdW, tkM], fun _ => by show b.length ≤ _; omega, ?_⟩
  have hle : ((Ea b a).getD (0, 0)).1 ≤ 2147483647 ∧ ((Ea b a).getD (0, 0)).2 ≤ b.length := by
    cases hg : Ea b a with
    | none => simp
    | some r => have := Tc (n := r.1) (x := r.2) hg; show r.1 ≤ _ ∧ r.2 ≤ _; omega
  repeat ((conv => whnf); first | refine ⟨fun h => h, ?_⟩ | refine ⟨_, w64 (bb), ?_⟩)
  (conv => whnf); refine ⟨fun h1 => ?_, fun h1 => ?_⟩
  · have hI : none = He b a := by
      have h1 : (!(Ea b a).isSome || decide ((((Ea b a).getD (0, 0)).1 : Int) > (((b.map Ae).length : Nat) : Int) - (((Ea b a).getD (0, 0)).2 : Nat))) = true := h1
      rw [List.length_map] at h1
      rw [He]
      revert h1 hle
      cases Ea b a with
      | none => intros; rfl
      | some r =>
        obtain ⟨n, x⟩ := r
        intro hle h1
        have : n > b.length - x := by simp at h1 hle; omega
        simp [this]
    skip
    rw [fin hI]
    exact ⟨trivial, rfl, rfl, rfl, trivial⟩
  · obtain ⟨n, x, hg, hn⟩ : ∃ n x, Ea b a = some (n, x) ∧ ¬ n > b.length - x := by
      have h1 : (!(Ea b a).isSome || decide ((((Ea b a).getD (0, 0)).1 : Int) > (((b.map Ae).length : Nat) : Int) - (((Ea b a).getD (0, 0)).2 : Nat))) = false := h1
      rw [List.length_map] at h1
      revert h1 hle
      cases Ea b a with
      | none => intro _ h; cases h
      | some r =>
        obtain ⟨n, x⟩ := r
        intro hle h1
        exact ⟨n, x, rfl, by simp at h1 hle; omega⟩
    have hI : some ((b.drop x).take n, x + n) = He b a := by rw [He, hg]; simp [hn]
    have e1 : ((Ea b a).getD (0, 0)).1 = n := by rw [hg]; rfl
    have e2 : ((Ea b a).getD (0, 0)).2 = x := by rw [hg]; rfl
    have hg2 := Tc hg
    repeat ((conv => whnf); first | refine ⟨_, w64 (bb), ?_⟩ | refine ⟨fun _ => ⟨bb, bb, bb⟩, ?_⟩)
    refine ⟨(b.drop x).take n, by
      show List.take _ _ = ((b.drop x).take n).map Ae
      rw [e1, e2, show ((x : Int) + (n : Int)).toNat - (x : Int).toNat = n by omega, show (x : Int).toNat = x by omega, List.map_take, List.map_drop], ?_⟩
    repeat ((conv => whnf); refine ⟨_, w64 (bb), ?_⟩)
    rw [fin hI]
    refine ⟨trivial, rfl, Ob ?_, rfl, trivial⟩
    show ((((Ea b a).getD (0, 0)).2 : Nat) : Int) + ((((Ea b a).getD (0, 0)).1 : Nat) : Int) = ((x + n : Nat) : Int)
    rw [e1, e2]; omega
theorem Yn : Ay Tryz.prog 202 F5 := Aq (Ch _ _) (FOk.cons Sl FOk.nil) mixed Tryz.func202 rfl Tryz.call202 (by decide) (by kernel_rfl) A13 (by intro _ (y : (Str × Int)) _; exact ⟨by simp [F5, con, Aa, A8, AV.noRd, A7, Ab, A5, A6, Ad, Ae, Ah], by simp [F5, con, Aa, A8, AV.noRd, A7, Ab, A5, A6, Ad, Ae, Ah]⟩) (by intro (y : (Str × Int)) _; first | (simp [F5, con, Aa, A8, Ag, AV.free, A2, A3, A1, A6, Ad, Ae, Ah]; done) | (obtain ⟨_, _⟩ := y; simp [F5, con, Aa, A8, Ag, AV.free, A2, A3, A1, A6, Ad, Ae, Ah]; done) | (obtain ⟨_, _, _⟩ := y; simp [F5, con, Aa, A8, Ag, AV.free, A2, A3, A1, A6, Ad, Ae, Ah]; done))
noncomputable def Gv : Bp := con [mC] true Str A6 (fun s => s.length ≤ 4611686018427387904) (fun s => .bool (Uu s))
noncomputable def A5r : Env := ⟨A4 Bc, A4 [(118, Fv)], [0, 2]⟩
set_option maxRecDepth 100000 in
set_option maxHeartbeats 4000000 in
theorem A42 : Bd A5r (Az Tryz.f211) Tryz.f211.results.toList Gv := by
  intro (s : Str) hs
  refine ⟨trivial, ?_⟩
  repeat ((conv => whnf); refine ⟨fun h => h, ?_⟩)
  refine ⟨s, rfl, fun _ => hs, ?_⟩
  repeat ((conv => whnf); refine ⟨fun h => h, ?_⟩)
  exact ⟨trivial, rfl⟩
theorem A11 : Ay Tryz.prog 211 Gv := Aq (Ch _ _) (FOk.cons T5 FOk.nil) mixed Tryz.func211 rfl Tryz.call211 (by decide) (by kernel_rfl) A42 (by intro _ (y : Str) _; exact ⟨by simp [Gv, con, Aa, A8, AV.noRd, A7, Ab, A5, A6, Ad, Ae, Ah], by simp [Gv, con, Aa, A8, AV.noRd, A7, Ab, A5, A6, Ad, Ae, Ah]⟩) (by intro (y : Str) _; first | (simp [Gv, con, Aa, A8, Ag, AV.free, A2, A3, A1, A6, Ad, Ae, Ah]; done) | (obtain ⟨_, _⟩ := y; simp [Gv, con, Aa, A8, Ag, AV.free, A2, A3, A1, A6, Ad, Ae, Ah]; done) | (obtain ⟨_, _, _⟩ := y; simp [Gv, con, Aa, A8, Ag, AV.free, A2, A3, A1, A6, Ad, Ae, Ah]; done))
noncomputable def F3 : Bp := con [mS 2, mC] true (List En × Str) (fun ⟨l, s⟩ => [.rd 2 (l.map Ah), .str s]) (fun x => x.1.length ≤ 1099511627776) (fun ⟨l, s⟩ => .int .i64 (F0 l s))
noncomputable def Zx : Env := ⟨A4 Bc, A4 [], [0, 1, 4, 5, 9, 18]⟩
set_option maxRecDepth 100000 in
set_option maxHeartbeats 4000000 in
theorem A0p : Bd Zx (Az Tryz.f188) Tryz.f188.results.toList F3 := by
  rintro ⟨l, s⟩ hl
  have hl : l.length ≤ 1099511627776 := hl
  refine ⟨trivial, ?_⟩
  skip
  refine B2 (fun i : Nat => ⟨[(0, ⟨none, .rd 2 (l.map Ah)⟩), (1, ⟨none, .str s⟩), (5, ⟨none, .int .i64 i⟩)], [], 0⟩) (fun i => i ≤ l.length ∧ ((l.take i).find? fun e => e.name == s) = none) (fun i => l.length - i) 0 ?_ ⟨by omega, rfl⟩ ?_
  · (refine ⟨?_, ?_, rfl⟩ <;> repeat' (first | exact rfl | exact trivial | refine ⟨?_, ?_⟩ | fail) <;> (conv => whnf))
  rintro i ⟨hi, hc⟩
  (conv => whnf); refine ⟨fun h1 => ?_, fun h1 => ?_⟩
  · have h1 : i < l.length := by simpa using h1
    obtain ⟨b, hb⟩ := B7 h1
    have hs : l = l.take i ++ b :: l.drop (i + 1) := by
      have := List.take_append_drop i l
      rw [List.drop_eq_getElem_cons h1] at this
      rw [List.getElem?_eq_getElem h1] at hb
      rw [← Option.some.inj hb]; exact this.symm
    repeat ((conv => whnf); refine ⟨Ah b, fun _ => ⟨by omega, Am hb⟩, ?_⟩)
    (conv => whnf); refine ⟨fun h2 => ?_, fun h2 => ?_⟩
    · have h2 : (b.name == s) = true := h2
      repeat ((conv => whnf); refine ⟨Ah b, fun _ => ⟨by omega, Am hb⟩, ?_⟩)
      refine ⟨trivial, Ob ?_⟩
      show b.node = F0 l s
      have : l.find? (fun e => e.name == s) = some b := by rw [hs, List.find?_append, hc, List.find?_cons, h2]; rfl
      rw [F0, this]
    · have h2 : (b.name == s) = false := h2
      repeat ((conv => whnf); refine ⟨_, w64 (bb), ?_⟩)
      refine C5 (i + 1) ?_ ⟨h1, ?_⟩ (by first | omega | (simp; done) | (simp; omega))
      · (refine ⟨?_, ?_, rfl⟩ <;> repeat' (first | exact rfl | exact trivial | refine ⟨?_, ?_⟩ | fail) <;> (conv => whnf))
      · rw [Bm hb, List.find?_append, hc, List.find?_cons, h2]; rfl
  · have h1 : i = l.length := by have : ¬ (i < l.length) := by simpa using h1
                                 omega
    subst h1
    rw [List.take_length] at hc
    skip
    exact ⟨trivial, Ob (by rw [F0, hc])⟩
theorem Qs : Ay Tryz.prog 188 F3 := Aq (Ch _ _) FOk.nil mixed Tryz.func188 rfl Tryz.call188 (by decide) (by kernel_rfl) A0p (by intro _ (y : (List En × Str)) _; exact ⟨by simp [F3, con, Aa, A8, AV.noRd, A7, Ab, A5, A6, Ad, Ae, Ah], by simp [F3, con, Aa, A8, AV.noRd, A7, Ab, A5, A6, Ad, Ae, Ah]⟩) (by intro (y : (List En × Str)) _; first | (simp [F3, con, Aa, A8, Ag, AV.free, A2, A3, A1, A6, Ad, Ae, Ah]; done) | (obtain ⟨_, _⟩ := y; simp [F3, con, Aa, A8, Ag, AV.free, A2, A3, A1, A6, Ad, Ae, Ah]; done) | (obtain ⟨_, _, _⟩ := y; simp [F3, con, Aa, A8, Ag, AV.free, A2, A3, A1, A6, Ad, Ae, Ah]; done))
noncomputable def Fl : Bp := con [mS 2] false (List En) (fun l => [.rd 2 (l.map Ah)]) (fun l => l.length ≤ 1099511627) (fun l => .own 2 (l.map Ah))
noncomputable def A3q : Env := ⟨A4 Bc, A4 [], [0, 2]⟩
set_option maxRecDepth 100000 in
set_option maxHeartbeats 4000000 in
theorem A48 : Bd A3q (Az Tryz.f206) Tryz.f206.results.toList Fl := by
  intro (l : List En) hl
  have hl : l.length ≤ 1099511627 := hl
  refine ⟨trivial, ?_⟩
  repeat ((conv => whnf); refine ⟨bb, ?_⟩)
  refine ⟨trivial, rfl, ?_⟩
  simp
theorem Sq : Ay Tryz.prog 206 Fl := Aq (Ch _ _) FOk.nil mixed Tryz.func206 rfl Tryz.call206 (by decide) (by kernel_rfl) A48 (by intro _ (y : (List En)) _; exact ⟨by simp [Fl, con, Aa, A8, AV.noRd, A7, Ab, A5, A6, Ad, Ae, Ah], by simp [Fl, con, Aa, A8, AV.noRd, A7, Ab, A5, A6, Ad, Ae, Ah]⟩) (by intro (y : (List En)) _; first | (simp [Fl, con, Aa, A8, Ag, AV.free, A2, A3, A1, A6, Ad, Ae, Ah]; done) | (obtain ⟨_, _⟩ := y; simp [Fl, con, Aa, A8, Ag, AV.free, A2, A3, A1, A6, Ad, Ae, Ah]; done) | (obtain ⟨_, _, _⟩ := y; simp [Fl, con, Aa, A8, Ag, AV.free, A2, A3, A1, A6, Ad, Ae, Ah]; done))
noncomputable def Ej : Bp := con [mS 2] true (List En) (fun l => [.rd 2 (l.map Ah)]) (fun l => l.length ≤ 1099511627 ∧ szE l ≤ 4398046511104 ∧ ∀ e, e ∈ l → e.name.length ≤ 8388608) (fun l => .str (F1 l))
noncomputable def A06 : Env := ⟨A4 Bc, A4 [(207, Ew), (208, Eg)], [0, 2, 3, 4, 9]⟩
set_option maxRecDepth 100000 in
set_option maxHeartbeats 4000000 in
theorem A1d : Bd A06 (Az Tryz.f193) Tryz.f193.results.toList Ej := by
  intro (l : List En) hl
  obtain ⟨hl, hz, hs⟩ : l.length ≤ 1099511627 ∧ szE l ≤ 4398046511104 ∧ ∀ e, e ∈ l → e.name.length ≤ 8388608 := hl
  refine ⟨trivial, ?_⟩
  skip
  refine B2 (fun i : Nat => ⟨[(0, ⟨none, .rd 2 (l.map Ah)⟩), (3, ⟨none, .view 0 [] 0 (F1 (l.take i)).length⟩), (4, ⟨none, .int .i64 i⟩)], [(0, .own 1 ((F1 (l.take i)).map Ae))], 1⟩) (fun i => i ≤ l.length) (fun i => l.length - i) 0 ?_ (Nat.zero_le _) ?_
  · (refine ⟨?_, ?_, rfl⟩ <;> repeat' (first | exact rfl | exact trivial | refine ⟨?_, ?_⟩ | fail) <;> (conv => whnf))
  intro i hi
  have hi : i ≤ l.length := hi
  have hlen : (F1 (l.take i)).length ≤ szE l := by
    have h1 := Om (l.take i)
    have h2 := V8 (l.take i) (l.drop i)
    rw [List.take_append_drop] at h2
    omega
  (conv => whnf); refine ⟨fun h1 => ?_, fun h1 => ?_⟩
  · have h1 : i < l.length := by simpa using h1
    obtain ⟨b, hb⟩ := B7 h1
    have hbs := hs b (List.mem_of_getElem? hb)
    have hp := O5 b.name.length
    have hp2 := O5 b.node
    have hpt : (Qd b.name).length ≤ b.name.length + 6 := by simp [Qd]; omega
    repeat ((conv => whnf); refine ⟨Ah b, fun _ => ⟨by omega, Am hb⟩, ?_⟩)
    refine ⟨b.name, rfl, fun _ => hbs, ?_⟩
    repeat ((conv => whnf); first | refine ⟨bb, ?_⟩ | refine ⟨Ah b, fun _ => ⟨by omega, Am hb⟩, ?_⟩ | refine ⟨B2z (fun a => by simp [Ae, Ah, Ad, A6, AV.isOwn]), ?_⟩)
    refine ⟨b.node, rfl, fun _ => trivial, ?_⟩
    repeat ((conv => whnf); first | refine ⟨_, w64 (bb), ?_⟩ | refine ⟨bb, ?_⟩ | refine ⟨B2z (fun a => by simp [Ae, Ah, Ad, A6, AV.isOwn]), ?_⟩)
    refine C5 (i + 1) ?_ h1 (by first | omega | (simp; done) | (simp; omega))
    rw [Bm hb, show F1 (l.take i ++ [b]) = F1 (l.take i) ++ (Qd b.name ++ Kq b.node) by simp [F1, Qn]]
    (refine ⟨?_, ?_, rfl⟩ <;> repeat' (first | exact rfl | exact trivial | refine ⟨?_, ?_⟩ | fail) <;> (conv => whnf))
    all_goals first | rfl | exact trivial | (simp [tkM, Ae, Ad, Ah, A6, List.take_of_length_le]; done) | (simp [tkM, List.take_of_length_le]; omega)
  · have h1 : i = l.length := by have : ¬ (i < l.length) := by simpa using h1
                                 omega
    subst h1
    rw [List.take_length]
    skip
    refine ⟨F1 l, by show List.take _ _ = (F1 l).map Ae; first | rfl | exact trivial | (simp [tkM, Ae, Ad, Ah, A6, List.take_of_length_le]; done) | (simp [tkM, List.take_of_length_le]; omega), ?_⟩
    skip
    exact ⟨trivial, rfl⟩
theorem Ml : Ay Tryz.prog 193 Ej := Aq (Ch _ _) (FOk.cons Z9 (FOk.cons Rv FOk.nil)) mixed Tryz.func193 rfl Tryz.call193 (by decide) (by kernel_rfl) A1d (by intro _ (y : (List En)) _; exact ⟨by simp [Ej, con, Aa, A8, AV.noRd, A7, Ab, A5, A6, Ad, Ae, Ah], by simp [Ej, con, Aa, A8, AV.noRd, A7, Ab, A5, A6, Ad, Ae, Ah]⟩) (by intro (y : (List En)) _; first | (simp [Ej, con, Aa, A8, Ag, AV.free, A2, A3, A1, A6, Ad, Ae, Ah]; done) | (obtain ⟨_, _⟩ := y; simp [Ej, con, Aa, A8, Ag, AV.free, A2, A3, A1, A6, Ad, Ae, Ah]; done) | (obtain ⟨_, _, _⟩ := y; simp [Ej, con, Aa, A8, Ag, AV.free, A2, A3, A1, A6, Ad, Ae, Ah]; done))
end Go.GH


set_option linter.unusedVariables false
set_option linter.unusedSimpArgs false
namespace Go.GH
open Go Go.Proofs
noncomputable def E5 : Bp := con [mS 2] true (List En) (fun l => [.rd 2 (l.map Ah)]) (fun l => l.length ≤ 1099511627 ∧ szE l ≤ 4398046511104 ∧ ∀ e, e ∈ l → e.name.length ≤ 8388608) (fun l => .bool (Cz l))
noncomputable def Wt : Env := ⟨A4 Bc, A4 [(76, Co), (193, Ej), (211, Gv)], [0, 2, 3, 4, 8, 44, 47, 60]⟩
set_option maxRecDepth 100000 in
set_option maxHeartbeats 4000000 in
theorem Wm : Bd Wt (Az Tryz.f204) Tryz.f204.results.toList E5 := by
  intro (l : List En) hl
  obtain ⟨hl, hz, hs⟩ : l.length ≤ 1099511627 ∧ szE l ≤ 4398046511104 ∧ ∀ e, e ∈ l → e.name.length ≤ 8388608 := hl
  refine ⟨trivial, ?_⟩
  have hbad : ∀ {i : Nat}, i < l.length → Xy l i = false → Cz l = false := by
    intro i h e
    rw [Cz, Bool.and_eq_false_iff]
    left
    rw [List.all_eq_false]
    exact ⟨i, List.mem_range.2 h, by rw [e]; decide⟩
  skip
  refine B2 (fun i : Nat => ⟨[(0, ⟨none, .rd 2 (l.map Ah)⟩), (3, ⟨none, .int .i64 i⟩)], [], 0⟩) (fun i => i ≤ l.length ∧ ∀ j, j < i → Xy l j = true) (fun i => l.length - i) 0 ?_ ⟨Nat.zero_le _, fun j hj => absurd hj (Nat.not_lt_zero _)⟩ ?_
  · (refine ⟨?_, ?_, rfl⟩ <;> repeat' (first | exact rfl | exact trivial | refine ⟨?_, ?_⟩ | fail) <;> (conv => whnf))
  rintro i ⟨hi, hI⟩
  (conv => whnf); refine ⟨fun h1 => ?_, fun h1 => ?_⟩
  · have h1 : i < l.length := by simpa using h1
    obtain ⟨b, hb⟩ := B7 h1
    have hbs := hs b (List.mem_of_getElem? hb)
    repeat ((conv => whnf); refine ⟨Ah b, fun _ => ⟨by omega, Am hb⟩, ?_⟩)
    refine ⟨b.name, rfl, fun _ => by show b.name.length ≤ _; omega, ?_⟩
    generalize hpv : l.getD (i - 1) b = pv
    have hprev : 0 < i → l[i - 1]? = some pv := fun h => by
      rw [← hpv, List.getD_eq_getElem?_getD, List.getElem?_eq_getElem (by omega)]; rfl
    have hix : ∀ {A : Bool}, Cn (some (A && decide ((i : Int) > 0))) → (0 : Int) ≤ (i : Int) - 1 ∧ (l.map Ah)[((i : Int) - 1).toNat]? = some (Ah pv) := by
      intro A h
      have hi0 : 0 < i := by simp [Cn] at h; omega
      exact ⟨by omega, by rw [show ((i : Int) - 1).toNat = i - 1 by omega]; exact Am (hprev hi0)⟩
    repeat ((conv => whnf); first | refine ⟨fun h => h, ?_⟩ | refine ⟨(by kernel_rfl : C6 _ _ = true), ?_⟩ | refine ⟨_, w64 (bb), ?_⟩ | refine ⟨Ah b, fun _ => ⟨by omega, Am hb⟩, ?_⟩ | refine ⟨Ah pv, fun h => hix h, ?_⟩ | refine ⟨(_, _, _), rfl, fun _ => trivial, ?_⟩)
    (conv => whnf); refine ⟨fun h3 => ?_, fun h3 => ?_⟩
    · have h3 : B4g i b pv = true := h3
      skip
      exact ⟨trivial, eqB (hbad h1 (by rw [Xy, hb]; simp only [hpv, h3]; rfl)).symm⟩
    have h3 : B4g i b pv = false := h3
    skip
    refine B2 (fun k : Nat => ⟨[(0, ⟨none, .rd 2 (l.map Ah)⟩), (3, ⟨none, .int .i64 i⟩), (4, ⟨none, .int .i64 k⟩)], [], 0⟩) (fun k => k ≤ i ∧ ((l.take k).any fun x => x.node == b.node) = false) (fun k => i - k) 0 ?_ ⟨Nat.zero_le _, rfl⟩ ?_
    · (refine ⟨?_, ?_, rfl⟩ <;> repeat' (first | exact rfl | exact trivial | refine ⟨?_, ?_⟩ | fail) <;> (conv => whnf))
    rintro k ⟨hk, hK⟩
    (conv => whnf); refine ⟨fun h4 => ?_, fun h4 => ?_⟩
    · have h4 : k < i := by have h4 : decide ((k : Int) < i) = true := h4
                            simp at h4; omega
      obtain ⟨y, hy⟩ := B7 (l := l) (i := k) (by omega)
      repeat ((conv => whnf); first | refine ⟨(by kernel_rfl : C6 _ _ = true), ?_⟩ | refine ⟨Ah y, fun _ => ⟨by omega, Am hy⟩, ?_⟩ | refine ⟨Ah b, fun _ => ⟨by omega, Am hb⟩, ?_⟩)
      (conv => whnf); refine ⟨fun h5 => ?_, fun h5 => ?_⟩
      · have h5 : (y.node == b.node) = true := h5
        skip
        refine ⟨trivial, eqB (hbad h1 ?_).symm⟩
        rw [Xy, hb]
        have : ((l.take i).any fun x => x.node == b.node) = true := List.any_eq_true.2 ⟨y, by
          rw [List.mem_iff_getElem?]
          exact ⟨k, by rw [List.getElem?_take, if_pos h4]; exact hy⟩, h5⟩
        simp only [this]; simp
      · have h5 : (y.node == b.node) = false := h5
        repeat ((conv => whnf); refine ⟨_, w64 (bb), ?_⟩)
        refine C5 (k + 1) ?_ ⟨h4, ?_⟩ (by first | omega | (simp; done) | (simp; omega))
        · (refine ⟨?_, ?_, rfl⟩ <;> repeat' (first | exact rfl | exact trivial | refine ⟨?_, ?_⟩ | fail) <;> (conv => whnf))
        · rw [Bm hy, List.any_append, hK, List.any_cons, h5]; rfl
    · have h4 : k = i := by have h4 : decide ((k : Int) < i) = false := h4
                            simp at h4; omega
      subst h4
      repeat ((conv => whnf); refine ⟨_, w64 (bb), ?_⟩)
      refine C5 (k + 1) ?_ ⟨h1, fun j hj => ?_⟩ (by first | omega | (simp; done) | (simp; omega))
      · (refine ⟨?_, ?_, rfl⟩ <;> repeat' (first | exact rfl | exact trivial | refine ⟨?_, ?_⟩ | fail) <;> (conv => whnf))
      · rcases Nat.lt_or_ge j k with h | h
        · exact hI j h
        · rw [show j = k by omega, Xy, hb]; simp only [hpv, h3, hK]; rfl
  · have h1 : i = l.length := by have : ¬ (i < l.length) := by simpa using h1
                                 omega
    subst h1
    skip
    refine ⟨l, rfl, fun _ => ⟨hl, hz, hs⟩, ?_⟩
    skip
    refine ⟨trivial, eqB ?_⟩
    have : (List.range l.length).all (Xy l) = true := List.all_eq_true.2 fun j hj => hI j (List.mem_range.1 hj)
    rw [Cz, this, Bool.true_and, Bool.eq_iff_iff]
    simp
    omega
theorem P1 : Ay Tryz.prog 204 E5 := Aq (Ch _ _) (FOk.cons E1 (FOk.cons Ml (FOk.cons A11 FOk.nil))) mixed Tryz.func204 rfl Tryz.call204 (by decide) (by kernel_rfl) Wm (by intro _ (y : (List En)) _; exact ⟨by simp [E5, con, Aa, A8, AV.noRd, A7, Ab, A5, A6, Ad, Ae, Ah], by simp [E5, con, Aa, A8, AV.noRd, A7, Ab, A5, A6, Ad, Ae, Ah]⟩) (by intro (y : (List En)) _; first | (simp [E5, con, Aa, A8, Ag, AV.free, A2, A3, A1, A6, Ad, Ae, Ah]; done) | (obtain ⟨_, _⟩ := y; simp [E5, con, Aa, A8, Ag, AV.free, A2, A3, A1, A6, Ad, Ae, Ah]; done) | (obtain ⟨_, _, _⟩ := y; simp [E5, con, Aa, A8, Ag, AV.free, A2, A3, A1, A6, Ad, Ae, Ah]; done))
noncomputable def Gj : Bp := con [mC] false Str A6 (fun s => s.length ≤ 1048576) (fun s => .tup [.own 2 (((Pg s).getD []).map Ah), .bool (Pg s).isSome])
noncomputable def A9v : Env := ⟨A4 Bc, A4 [(202, F5), (203, Ev), (204, E5)], [0, 2, 3, 4, 5, 6, 7, 8, 9, 10, 11, 12, 19, 28, 38, 49]⟩
set_option maxRecDepth 100000 in
set_option maxHeartbeats 4000000 in
theorem A96 : Bd A9v (Az Tryz.f187) Tryz.f187.results.toList Gj := by
  intro (s : Str) hs
  have hs : s.length ≤ 1048576 := hs
  refine ⟨trivial, ?_⟩
  have fin : ∀ {o : Option (List En)}, o = Pg s → Gj.res s = .tup [.own 2 ((o.getD []).map Ah), .bool o.isSome] := fun h => by rw [h]; rfl
  skip
  refine B2 (fun ((a, o, f) : Nat × List En × Nat) => ⟨[(4, ⟨none, .view 0 [] 0 o.length⟩), (5, ⟨none, .view 1 [] 0 s.length⟩), (6, ⟨none, .int .i64 a⟩)], [(0, .own 2 (o.map Ah)), (1, .own 1 (s.map Ae))], 2⟩)
    (fun (a, o, f) => a ≤ s.length ∧ s.length ≤ a + f ∧ szE o ≤ 12 * a ∧ (∀ e, e ∈ o → e.name.length ≤ 1048576) ∧ Xo s f a o = Xo s s.length 0 []) (fun x => x.2.2) (0, [], s.length) ?_ ⟨Nat.zero_le _, by omega, Nat.le_refl _, fun e he => absurd he (by simp), rfl⟩ ?_
  · (refine ⟨?_, ?_, rfl⟩ <;> repeat' (first | exact rfl | exact trivial | refine ⟨?_, ?_⟩ | fail) <;> (conv => whnf))
  rintro ⟨a, o, f⟩ ⟨ha, hf, hz, hnm, hI⟩
  have hol := B4n o
  (conv => whnf); refine ⟨fun h1 => ?_, fun h1 => ?_⟩
  · have h1 : a < s.length := by have h1 : decide ((a : Int) < (s.length : Nat)) = true := h1
                                 simp at h1; omega
    obtain ⟨f, rfl⟩ : ∃ g, f = g + 1 := ⟨f - 1, by omega⟩
    rw [Xo, if_pos h1] at hI
    skip
    refine ⟨(s, (a : Int)), by (repeat' (first | refine Bn ?_ ?_ | refine Bu ?_ | refine Bh ?_ | refine Bs ?_ | exact rfl)) <;> simp [rdI, rdO, rdE, rdB, rdN, rdS, rdD, rdW, tkM], fun _ => by show s.length ≤ _; omega, ?_⟩
    have no : Xo s s.length 0 [] = none → none = Pg s := fun h => by rw [Pg, h]
    skip
    (conv => whnf); refine ⟨fun h2 => ?_, fun h2 => ?_⟩
    · have h2 : He s a = none := by
        have h2 : (!(He s a).isSome) = true := h2
        simpa using h2
      rw [h2] at hI
      skip
      rw [fin (no hI.symm)]
      exact ⟨trivial, ⟨rfl, rfl⟩, rfl, trivial⟩
    obtain ⟨nm, x, hg⟩ : ∃ nm x, He s a = some (nm, x) := by
      have h2 : (!(He s a).isSome) = false := h2
      cases h : He s a with
      | none => rw [h] at h2; cases h2
      | some r => exact ⟨r.1, r.2, rfl⟩
    have e1 : ((He s a).getD ([], 0)).1 = nm := by rw [hg]; rfl
    have e2 : ((He s a).getD ([], 0)).2 = x := by rw [hg]; rfl
    have hx := B2h hg
    rw [hg] at hI
    simp only at hI
    skip
    refine ⟨(s, (x : Int)), by rw [← e2]; exact by (repeat' (first | refine Bn ?_ ?_ | refine Bu ?_ | refine Bh ?_ | refine Bs ?_ | exact rfl)) <;> simp [rdI, rdO, rdE, rdB, rdN, rdS, rdD, rdW, tkM], fun _ => by show s.length ≤ _; omega, ?_⟩
    skip
    (conv => whnf); refine ⟨fun h3 => ?_, fun h3 => ?_⟩
    · have h3 : Ea s x = none := by
        have h3 : (!(Ea s x).isSome) = true := h3
        simpa using h3
      rw [h3] at hI
      skip
      rw [fin (no hI.symm)]
      exact ⟨trivial, ⟨rfl, rfl⟩, rfl, trivial⟩
    obtain ⟨n, y, hg2⟩ : ∃ n y, Ea s x = some (n, y) := by
      have h3 : (!(Ea s x).isSome) = false := h3
      cases h : Ea s x with
      | none => rw [h] at h3; cases h3
      | some r => exact ⟨r.1, r.2, rfl⟩
    have e3 : ((Ea s x).getD (0, 0)).1 = n := by rw [hg2]; rfl
    have e4 : ((Ea s x).getD (0, 0)).2 = y := by rw [hg2]; rfl
    have hy := Tc hg2
    rw [hg2] at hI
    simp only at hI
    repeat ((conv => whnf); first | refine ⟨bb, ?_⟩ | refine ⟨A2y (by rfl), ?_⟩)
    refine C5 (y, o ++ [⟨nm, n⟩], f) ?_ ⟨by omega, by omega, by rw [V8]; simp [szE] at hz ⊢; omega, fun e he => by
      rcases List.mem_append.1 he with he | he
      · exact hnm e he
      · rw [List.mem_singleton] at he; subst he; show nm.length ≤ _; omega, hI⟩ (by first | omega | (simp; done) | (simp; omega))
    (refine ⟨?_, ?_, rfl⟩ <;> repeat' (first | exact rfl | exact trivial | refine ⟨?_, ?_⟩ | fail) <;> (conv => whnf))
    all_goals first | (rw [e4]; done) | (show ((((Ea s x).getD (0, 0)).2 : Nat) : Int) = _; rw [e4]; done) | (simp [tkM, Ah, e1, e3, List.take_of_length_le]; done)
  · have h1 : ¬ a < s.length := by have h1 : decide ((a : Int) < (s.length : Nat)) = false := h1
                                   simp at h1; omega
    have hI2 : Xo s s.length 0 [] = some o := by
      rw [← hI]
      cases f <;> rw [Xo, if_neg h1]
    skip
    have hn : ∀ e, e ∈ o → e.name.length ≤ 8388608 := fun e he => Nat.le_trans (hnm e he) (by omega)
    refine ⟨o, by (repeat' (first | refine Bn ?_ ?_ | refine Bu ?_ | refine Bh ?_ | refine Bs ?_ | exact rfl)) <;> simp [rdI, rdO, rdE, rdB, rdN, rdS, rdD, rdW, tkM], fun _ => ⟨by omega, by omega, hn⟩, ?_⟩
    (conv => whnf); refine ⟨fun h2 => ?_, fun h2 => ?_⟩
    · have h2 : (!Cz o) = true := h2
      have hd : none = Pg s := by rw [Pg, hI2]; simp at h2; simp [h2]
      skip
      rw [fin hd]
      exact ⟨trivial, ⟨rfl, rfl⟩, rfl, trivial⟩
    · have h2 : (!Cz o) = false := h2
      have hd : some o = Pg s := by rw [Pg, hI2]; simp at h2; simp [h2]
      skip
      rw [fin hd]
      refine ⟨trivial, ⟨rfl, ?_⟩, rfl, trivial⟩
      first | rfl | exact trivial | (simp [tkM, Ae, Ad, Ah, A6, List.take_of_length_le]; done) | (simp [tkM, List.take_of_length_le]; omega)
theorem A58 : Ay Tryz.prog 187 Gj := Aq (Ch _ _) (FOk.cons Yn (FOk.cons Sl (FOk.cons P1 FOk.nil))) mixed Tryz.func187 rfl Tryz.call187 (by decide) (by kernel_rfl) A96 (by intro _ (y : Str) _; exact ⟨by simp [Gj, con, Aa, A8, AV.noRd, A7, Ab, A5, A6, Ad, Ae, Ah], by simp [Gj, con, Aa, A8, AV.noRd, A7, Ab, A5, A6, Ad, Ae, Ah]⟩) (by intro (y : Str) _; first | (simp [Gj, con, Aa, A8, Ag, AV.free, A2, A3, A1, A6, Ad, Ae, Ah]; done) | (obtain ⟨_, _⟩ := y; simp [Gj, con, Aa, A8, Ag, AV.free, A2, A3, A1, A6, Ad, Ae, Ah]; done) | (obtain ⟨_, _, _⟩ := y; simp [Gj, con, Aa, A8, Ag, AV.free, A2, A3, A1, A6, Ad, Ae, Ah]; done))
noncomputable def Eu : Bp := con [mS 2, mC, mC] false (List En × En) (fun ⟨l, e⟩ => [.rd 2 (l.map Ah), .str e.name, .int .i64 e.node]) (fun x => smE x.1 ∧ x.2.name.length ≤ 1048576) (fun ⟨l, e⟩ => .tup [.own 2 ((Gl l e).1.map Ah), .bool (Gl l e).2])
noncomputable def A4a : Env := ⟨A4 Bc, A4 [(204, E5), (206, Fl)], [0, 1, 2, 6, 7, 8, 9, 10, 17, 26, 49]⟩
set_option maxRecDepth 100000 in
set_option maxHeartbeats 4000000 in
theorem A38 : Bd A4a (Az Tryz.f205) Tryz.f205.results.toList Eu := by
  rintro ⟨l, e⟩ hl
  obtain ⟨⟨hl, hz, hs⟩, he⟩ : smE l ∧ e.name.length ≤ 1048576 := hl
  refine ⟨trivial, ?_⟩
  repeat ((conv => whnf); refine ⟨_, w64 (bb), ?_⟩)
  refine B2 (fun ((j, a) : Nat × Nat) => ⟨[(0, ⟨none, .rd 2 (l.map Ah)⟩), (1, ⟨none, .str e.name⟩), (2, ⟨none, .int .i64 e.node⟩), (8, ⟨none, .int .i64 a⟩), (9, ⟨none, .int .i64 ((j : Int) - 1)⟩)], [], 0⟩) (fun (j, a) => j ≤ l.length ∧ a = j + ((l.drop j).findIdx fun x => Dm e.name x.name)) (fun x => x.1) (l.length, l.length) ?_ ⟨Nat.le_refl _, by simp⟩ ?_
  · (refine ⟨?_, ?_, rfl⟩ <;> repeat' (first | exact rfl | exact trivial | refine ⟨?_, ?_⟩ | fail) <;> (conv => whnf))
    all_goals first | (show ((l.map Ah).length : Int) = _; simp; done) | (show ((l.map Ah).length : Int) - 1 = (l.length : Int) - 1; simp; done)
  rintro ⟨j, a⟩ ⟨hj, ha⟩
  have hj : j ≤ l.length := hj
  (conv => whnf); refine ⟨fun h1 => ?_, fun h1 => ?_⟩
  · have h1 : 1 ≤ j := by have h1 : decide ((j : Int) - 1 ≥ 0) = true := h1
                          simp at h1; omega
    obtain ⟨k, rfl⟩ : ∃ k, j = k + 1 := ⟨j - 1, by omega⟩
    obtain ⟨b, hb⟩ := B7 (l := l) (i := k) (by omega)
    have hst := B58 (s := e.name) hb
    repeat ((conv => whnf); refine ⟨Ah b, fun _ => ⟨by omega, by rw [show (((k + 1 : Nat) : Int) - 1).toNat = k by omega]; exact Am hb⟩, ?_⟩)
    (conv => whnf); refine ⟨fun h2 => ?_, fun h2 => ?_⟩
    · have h2 : Dm e.name b.name = true := h2
      rw [if_pos h2] at hst
      repeat ((conv => whnf); refine ⟨_, w64 (bb), ?_⟩)
      refine C5 (k, k) ?_ ⟨by omega, by omega⟩ (by first | omega | (simp; done) | (simp; omega))
      (refine ⟨?_, ?_, rfl⟩ <;> repeat' (first | exact rfl | exact trivial | refine ⟨?_, ?_⟩ | fail) <;> (conv => whnf))
      all_goals first | (show (((k + 1 : Nat) : Int) - 1) = _; omega) | (show (((k + 1 : Nat) : Int) - 1) - 1 = (k : Int) - 1; omega)
    · have h2 : Dm e.name b.name = false := h2
      rw [if_neg (by rw [h2]; decide)] at hst
      repeat ((conv => whnf); refine ⟨_, w64 (bb), ?_⟩)
      refine C5 (k, a) ?_ ⟨by omega, by omega⟩ (by first | omega | (simp; done) | (simp; omega))
      (refine ⟨?_, ?_, rfl⟩ <;> repeat' (first | exact rfl | exact trivial | refine ⟨?_, ?_⟩ | fail) <;> (conv => whnf))
      all_goals first | (show (((k + 1 : Nat) : Int) - 1) - 1 = (k : Int) - 1; omega)
  · have h1 : j = 0 := by have h1 : decide ((j : Int) - 1 ≥ 0) = false := h1
                          simp at h1; omega
    subst h1
    have hal := A0b l e.name
    have ha : a = Qe l e.name := by rw [ha]; simp [Qe]
    rw [← ha] at hal
    have hpl := A1z l e
    have hps := A6w l e
    have hpm := fun x (h : x ∈ L8 l e) => A2v h
    have hpe : L8 l e = l.take a ++ [e] ++ l.drop a := by rw [ha]; rfl
    have sm2 : (L8 l e).length ≤ 1099511627 ∧ szE (L8 l e) ≤ 4398046511104 ∧ ∀ x, x ∈ L8 l e → x.name.length ≤ 8388608 := ⟨by omega, by omega, fun x hx => by
      rcases hpm x hx with rfl | h
      · omega
      · have := hs x h; omega⟩
    have sm1 : l.length ≤ 1099511627 ∧ szE l ≤ 4398046511104 ∧ ∀ x, x ∈ l → x.name.length ≤ 8388608 := ⟨by omega, by omega, fun x hx => by have := hs x hx; omega⟩
    clear hpl hps hpm
    generalize hout : L8 l e = out at hpe sm2
    repeat ((conv => whnf); refine ⟨fun _ => ⟨bb, bb, bb⟩, ?_⟩)
    refine ⟨l.take a, by refine Bn (Bh ?_) rfl; show ((l.map Ah).drop 0).take _ = _; simp [List.map_take], fun _ => by show (l.take a).length ≤ _; rw [List.length_take]; omega, ?_⟩
    repeat ((conv => whnf); first | refine ⟨fun _ => ⟨bb, bb, bb⟩, ?_⟩ | refine ⟨bb, ?_⟩ | refine ⟨A2y (by rfl), ?_⟩)
    refine ⟨l, rfl, fun _ => sm1, ?_⟩
    repeat ((conv => whnf); refine ⟨fun h => h, ?_⟩)
    refine ⟨out, by
      refine Bn (Bh ?_) rfl
      rw [hpe]
      refine (congrArg Cl ?_).trans (rdE _)
      simp [List.take_of_length_le, Ah]
      exact List.take_of_length_le (by simp; omega), fun _ => sm2, ?_⟩
    repeat ((conv => whnf); refine ⟨fun h => h, ?_⟩)
    (conv => whnf); refine ⟨fun h2 => ?_, fun h2 => ?_⟩
    · have h2 : (!Cz l || !Cz out) = true := h2
      have hd : Gl l e = (l, false) := by
        rw [Gl, hout, if_neg]
        revert h2; cases Cz l <;> cases Cz out <;> simp
      skip
      refine ⟨l, rfl, fun _ => by show l.length ≤ _; omega, ?_⟩
      skip
      rw [show Eu.res (l, e) = .tup [.own 2 (l.map Ah), .bool false] by show AV.tup [.own 2 ((Gl l e).1.map Ah), .bool (Gl l e).2] = _; rw [hd]]
      exact ⟨trivial, ⟨rfl, by simp⟩, rfl, trivial⟩
    · have h2 : (!Cz l || !Cz out) = false := h2
      have hd : Gl l e = (l.take a ++ [e] ++ l.drop a, true) := by
        rw [Gl, hout, if_pos, hpe]
        revert h2; cases Cz l <;> cases Cz out <;> simp
      skip
      rw [show Eu.res (l, e) = .tup [.own 2 ((l.take a ++ [e] ++ l.drop a).map Ah), .bool true] by show AV.tup [.own 2 ((Gl l e).1.map Ah), .bool (Gl l e).2] = _; rw [hd]]
      refine ⟨trivial, ⟨rfl, ?_⟩, rfl, trivial⟩
      simp [List.take_of_length_le, Ah]
      exact List.take_of_length_le (by simp; omega)
theorem A1a : Ay Tryz.prog 205 Eu := Aq (Ch _ _) (FOk.cons P1 (FOk.cons Sq FOk.nil)) mixed Tryz.func205 rfl Tryz.call205 (by decide) (by kernel_rfl) A38 (by intro _ (y : (List En × En)) _; exact ⟨by simp [Eu, con, Aa, A8, AV.noRd, A7, Ab, A5, A6, Ad, Ae, Ah], by simp [Eu, con, Aa, A8, AV.noRd, A7, Ab, A5, A6, Ad, Ae, Ah]⟩) (by intro (y : (List En × En)) _; first | (simp [Eu, con, Aa, A8, Ag, AV.free, A2, A3, A1, A6, Ad, Ae, Ah]; done) | (obtain ⟨_, _⟩ := y; simp [Eu, con, Aa, A8, Ag, AV.free, A2, A3, A1, A6, Ad, Ae, Ah]; done) | (obtain ⟨_, _, _⟩ := y; simp [Eu, con, Aa, A8, Ag, AV.free, A2, A3, A1, A6, Ad, Ae, Ah]; done))
noncomputable def Ec : Bp := con [mS 2, mC] false (List En × Str) (fun ⟨l, s⟩ => [.rd 2 (l.map Ah), .str s]) (fun x => x.1.length ≤ 1048576) (fun ⟨l, s⟩ => .tup [.own 2 ((Gm l s).map Ah), .bool (l.any fun e => e.name == s)])
noncomputable def A0r : Env := ⟨A4 Bc, A4 [(206, Fl)], [0, 1, 4, 5, 6, 10, 19]⟩
set_option maxRecDepth 100000 in
set_option maxHeartbeats 4000000 in
theorem A10 : Bd A0r (Az Tryz.f192) Tryz.f192.results.toList Ec := by
  rintro ⟨l, s⟩ hl
  have hl : l.length ≤ 1048576 := hl
  refine ⟨trivial, ?_⟩
  skip
  refine B2 (fun i : Nat => ⟨[(0, ⟨none, .rd 2 (l.map Ah)⟩), (1, ⟨none, .str s⟩), (6, ⟨none, .int .i64 i⟩)], [], 0⟩) (fun i => i ≤ l.length ∧ ((l.take i).any fun e => e.name == s) = false) (fun i => l.length - i) 0 ?_ ⟨Nat.zero_le _, rfl⟩ ?_
  · (refine ⟨?_, ?_, rfl⟩ <;> repeat' (first | exact rfl | exact trivial | refine ⟨?_, ?_⟩ | fail) <;> (conv => whnf))
  rintro i ⟨hi, hc⟩
  (conv => whnf); refine ⟨fun h1 => ?_, fun h1 => ?_⟩
  · have h1 : i < l.length := by simpa using h1
    obtain ⟨b, hb⟩ := B7 h1
    repeat ((conv => whnf); refine ⟨Ah b, fun _ => ⟨by omega, Am hb⟩, ?_⟩)
    (conv => whnf); refine ⟨fun h2 => ?_, fun h2 => ?_⟩
    · have h2 : (b.name == s) = true := h2
      have he := B7s hb hc h2
      have ht : (l.any fun e => e.name == s) = true := List.any_eq_true.2 ⟨b, List.mem_of_getElem? hb, h2⟩
      repeat ((conv => whnf); refine ⟨fun _ => ⟨bb, bb, bb⟩, ?_⟩)
      refine ⟨l.take i, by refine Bn (Bh ?_) rfl; show ((l.map Ah).drop 0).take _ = _; simp [List.map_take], fun _ => by show (l.take i).length ≤ _; rw [List.length_take]; omega, ?_⟩
      repeat ((conv => whnf); first | refine ⟨(by kernel_rfl : C6 _ _ = true), ?_⟩ | refine ⟨_, w64 (bb), ?_⟩ | refine ⟨fun _ => ⟨bb, bb, bb⟩, ?_⟩ | refine ⟨bb, ?_⟩)
      rw [show Ec.res (l, s) = .tup [.own 2 ((l.take i ++ l.drop (i + 1)).map Ah), .bool true] by show AV.tup [.own 2 ((Gm l s).map Ah), .bool (l.any fun e => e.name == s)] = _; rw [he, ht]]
      refine ⟨trivial, ⟨rfl, ?_⟩, rfl, trivial⟩
      rw [show ((i : Int) + 1).toNat = i + 1 by omega]
      simp [List.take_of_length_le]
    · have h2 : (b.name == s) = false := h2
      repeat ((conv => whnf); refine ⟨_, w64 (bb), ?_⟩)
      refine C5 (i + 1) ?_ ⟨h1, by rw [Bm hb, List.any_append, hc, List.any_cons, h2]; rfl⟩ (by first | omega | (simp; done) | (simp; omega))
      (refine ⟨?_, ?_, rfl⟩ <;> repeat' (first | exact rfl | exact trivial | refine ⟨?_, ?_⟩ | fail) <;> (conv => whnf))
  · have h1 : i = l.length := by have : ¬ (i < l.length) := by simpa using h1
                                 omega
    subst h1
    rw [List.take_length] at hc
    have he := B7b hc
    skip
    refine ⟨l, rfl, fun _ => by show l.length ≤ _; omega, ?_⟩
    skip
    rw [show Ec.res (l, s) = .tup [.own 2 (l.map Ah), .bool false] by show AV.tup [.own 2 ((Gm l s).map Ah), .bool (l.any fun e => e.name == s)] = _; rw [he, hc]]
    exact ⟨trivial, ⟨rfl, by simp⟩, rfl, trivial⟩
theorem Z1 : Ay Tryz.prog 192 Ec := Aq (Ch _ _) (FOk.cons Sq FOk.nil) mixed Tryz.func192 rfl Tryz.call192 (by decide) (by kernel_rfl) A10 (by intro _ (y : (List En × Str)) _; exact ⟨by simp [Ec, con, Aa, A8, AV.noRd, A7, Ab, A5, A6, Ad, Ae, Ah], by simp [Ec, con, Aa, A8, AV.noRd, A7, Ab, A5, A6, Ad, Ae, Ah]⟩) (by intro (y : (List En × Str)) _; first | (simp [Ec, con, Aa, A8, Ag, AV.free, A2, A3, A1, A6, Ad, Ae, Ah]; done) | (obtain ⟨_, _⟩ := y; simp [Ec, con, Aa, A8, Ag, AV.free, A2, A3, A1, A6, Ad, Ae, Ah]; done) | (obtain ⟨_, _, _⟩ := y; simp [Ec, con, Aa, A8, Ag, AV.free, A2, A3, A1, A6, Ad, Ae, Ah]; done))
end Go.GH


set_option linter.unusedVariables false
set_option linter.unusedSimpArgs false
namespace Go.GH
open Go Go.Proofs
noncomputable def Gt : Bp := con [.rd [none, none, none, none, some 1]] true Nd (fun n => [.agg (Ap n)]) (fun n => n.blocks.length ≤ 65536) (fun n => .bool (Hy n))
noncomputable def A4s : Env := ⟨A4 Bc, A4 [(76, Co), (194, E2), (200, Hn)], [0, 1, 2, 3, 6, 56, 69, 74, 95]⟩
set_option maxRecDepth 100000 in
set_option maxHeartbeats 4000000 in
theorem A5u : Bd A4s (Az Tryz.f184) Tryz.f184.results.toList Gt := by
  intro (n : Nd) hn
  have hn : n.blocks.length ≤ 65536 := hn
  refine ⟨trivial, ?_⟩
  (conv => whnf); refine ⟨fun h1 => ?_, fun h1 => ?_⟩
  · have h1 : (n.kind == 0) = true := h1
    repeat ((conv => whnf); refine ⟨fun h => h, ?_⟩)
    refine ⟨trivial, eqB ?_⟩
    show _ = Hy n
    rw [Hy, if_pos h1]
    have e : ((((n.blocks.map Ad).length : Nat) : Int) == 0) = (n.blocks.length == 0) := by rw [List.length_map, Bool.eq_iff_iff]; simp
    show (n.gen == 0 && n.time == 0 && n.size == 0 && ((((n.blocks.map Ad).length : Nat) : Int) == 0)) = _
    rw [e]
  have h1 : (n.kind == 0) = false := h1
  have hno : Hy n = (inB n.kind 1 3 && inB n.gen 0 1000000 && inB n.time 0 100000 && inB n.size 0 80 && decide ((n.blocks.length : Int) = Fg n.size) && !(n.kind == 2 && (n.gen != 0 || n.time != 0)) && (List.range n.blocks.length).all (Ue n.blocks)) := by
    rw [Hy, if_neg (by rw [h1]; decide)]
  repeat ((conv => whnf); first | refine ⟨fun h => h, ?_⟩ | refine ⟨(by kernel_rfl : C6 _ _ = true), ?_⟩ | refine ⟨(_, _, _), rfl, fun _ => trivial, ?_⟩ | refine ⟨n.size, rfl, fun _ => trivial, ?_⟩)
  (conv => whnf); refine ⟨fun h2 => ?_, fun h2 => ?_⟩
  · have h2 : (!inB n.kind 1 3 || !inB n.gen 0 1000000 || !inB n.time 0 100000 || !inB n.size 0 80 || (((n.blocks.map Ad).length : Nat) : Int) != Fg n.size) = true := h2
    skip
    refine ⟨trivial, eqB ?_⟩
    show false = Hy n
    rw [List.length_map] at h2
    rw [hno]
    clear hno
    by_cases hb : (n.blocks.length : Int) = Fg n.size
    · simp [hb] at h2 ⊢; intros; simp_all
    · simp [hb]
  have h2 : (!inB n.kind 1 3 || !inB n.gen 0 1000000 || !inB n.time 0 100000 || !inB n.size 0 80 || (((n.blocks.map Ad).length : Nat) : Int) != Fg n.size) = false := h2
  rw [List.length_map] at h2
  simp only [Bool.or_eq_false_iff, Bool.not_eq_false', bne_eq_false_iff_eq] at h2
  obtain ⟨⟨⟨⟨p1, p2⟩, p3⟩, p4⟩, p5⟩ := h2
  rw [p1, p2, p3, p4, p5] at hno
  repeat ((conv => whnf); refine ⟨fun h => h, ?_⟩)
  (conv => whnf); refine ⟨fun h3 => ?_, fun h3 => ?_⟩
  · have h3 : ((n.kind == 2) && (n.gen != 0 || n.time != 0)) = true := h3
    skip
    refine ⟨trivial, eqB ?_⟩
    show false = Hy n
    rw [hno, h3]; simp
  have h3 : ((n.kind == 2) && (n.gen != 0 || n.time != 0)) = false := h3
  rw [h3] at hno
  have hno : Hy n = (List.range n.blocks.length).all (Ue n.blocks) := by rw [hno]; simp
  have hbad : ∀ {i : Nat}, i < n.blocks.length → Ue n.blocks i = false → false = Hy n := by
    intro i h e
    rw [hno]
    symm
    rw [List.all_eq_false]
    exact ⟨i, List.mem_range.2 h, by rw [e]; decide⟩
  skip
  refine B2 (fun i : Nat => ⟨[(1, ⟨none, .bx 0 0⟩), (3, ⟨none, .int .i64 i⟩)], [(0, .own 5 [Ap n])], 1⟩) (fun i => i ≤ n.blocks.length ∧ ∀ j, j < i → Ue n.blocks j = true) (fun i => n.blocks.length - i) 0 ?_ ⟨Nat.zero_le _, fun j hj => absurd hj (Nat.not_lt_zero _)⟩ ?_
  · (refine ⟨?_, ?_, rfl⟩ <;> repeat' (first | exact rfl | exact trivial | refine ⟨?_, ?_⟩ | fail) <;> (conv => whnf))
  rintro i ⟨hi, hI⟩
  (conv => whnf); refine ⟨fun h4 => ?_, fun h4 => ?_⟩
  · have h4 : i < n.blocks.length := by simpa using h4
    obtain ⟨b, hb⟩ := B7 h4
    repeat ((conv => whnf); first | refine ⟨fun h => h, ?_⟩ | refine ⟨fun _ => ⟨bb, bb, bb⟩, ?_⟩ | refine ⟨Ad b, fun _ => ⟨by omega, Am hb⟩, ?_⟩ | refine ⟨(_, _, _), rfl, fun _ => trivial, ?_⟩)
    refine ⟨(n.blocks.take i, b), by refine Bn (Bh ?_) rfl; simp [List.map_take], fun _ => by show (n.blocks.take i).length ≤ _; rw [List.length_take]; omega, ?_⟩
    repeat ((conv => whnf); first | refine ⟨fun h => h, ?_⟩ | refine ⟨(by kernel_rfl : C6 _ _ = true), ?_⟩)
    (conv => whnf); refine ⟨fun h5 => ?_, fun h5 => ?_⟩
    · have h5 : (!inB b 0 35 || (n.blocks.take i).contains b) = true := h5
      skip
      refine ⟨trivial, eqB (hbad h4 ?_)⟩
      rw [Ue, hb]
      show (inB b 0 35 && !(n.blocks.take i).contains b) = false
      revert h5
      cases inB b 0 35 <;> cases (n.blocks.take i).contains b <;> simp
    · have h5 : (!inB b 0 35 || (n.blocks.take i).contains b) = false := h5
      repeat ((conv => whnf); refine ⟨_, w64 (bb), ?_⟩)
      refine C5 (i + 1) ?_ ⟨h4, fun j hj => ?_⟩ (by first | omega | (simp; done) | (simp; omega))
      · (refine ⟨?_, ?_, rfl⟩ <;> repeat' (first | exact rfl | exact trivial | refine ⟨?_, ?_⟩ | fail) <;> (conv => whnf))
      · rcases Nat.lt_or_ge j i with h | h
        · exact hI j h
        · rw [show j = i by omega, Ue, hb]
          show (inB b 0 35 && !(n.blocks.take i).contains b) = true
          revert h5
          cases inB b 0 35 <;> cases (n.blocks.take i).contains b <;> simp
  · have h4 : i = n.blocks.length := by have : ¬ (i < n.blocks.length) := by simpa using h4
                                        omega
    subst h4
    skip
    exact ⟨trivial, eqB (hno.trans (List.all_eq_true.2 fun j hj => hI j (List.mem_range.1 hj))).symm⟩
theorem A1r : Ay Tryz.prog 184 Gt := Aq (Ch _ _) (FOk.cons E1 (FOk.cons Ok (FOk.cons A52 FOk.nil))) mixed Tryz.func184 rfl Tryz.call184 (by decide) (by kernel_rfl) A5u (by intro _ (y : Nd) _; exact ⟨by simp [Gt, con, Aa, A8, AV.noRd, A7, Ab, A5, A6, Ad, Ae, Ah, Ap, Al], by simp [Gt, con, Aa, A8, AV.noRd, A7, Ab, A5, A6, Ad, Ae, Ah, Ap, Al]⟩) (by intro (y : Nd) _; first | (simp [Gt, con, Aa, A8, Ag, AV.free, A2, A3, A1, A6, Ad, Ae, Ah, Ap, Al]; done) | (obtain ⟨_, _⟩ := y; simp [Gt, con, Aa, A8, Ag, AV.free, A2, A3, A1, A6, Ad, Ae, Ah, Ap, Al]; done) | (obtain ⟨_, _, _⟩ := y; simp [Gt, con, Aa, A8, Ag, AV.free, A2, A3, A1, A6, Ad, Ae, Ah, Ap, Al]; done))
noncomputable def Ep : Bp := con [.rd [some 5, some 1]] false Fs (fun f => [.agg (Al f)]) smF (fun f => .own 1 ((Ll f).map Ad))
noncomputable def A4c : Env := ⟨A4 Bc, A4 [(76, Co)], [0, 1, 2, 3, 4, 5, 6, 16, 27, 44]⟩
set_option maxRecDepth 100000 in
set_option maxHeartbeats 4000000 in
theorem A5e : Bd A4c (Az Tryz.f185) Tryz.f185.results.toList Ep := by
  intro (f : Fs) hf
  obtain ⟨hn, hd, hbl, hs⟩ : smF f := hf
  refine ⟨trivial, ?_⟩
  repeat ((conv => whnf); first | refine ⟨_, w64 (bb), ?_⟩ | refine ⟨bb, ?_⟩)
  refine B2 (fun i : Nat => ⟨[(1, ⟨none, .bx 0 0⟩), (3, ⟨none, .view 1 [] 0 (f.data.length + 1)⟩), (4, ⟨none, .int .i64 i⟩)], [(0, .own 2 [Al f]), (1, .own 1 ((Pi f.data.length (Jx (f.nodes.take i))).map Ad))], 2⟩) (fun i => i ≤ f.nodes.length) (fun i => f.nodes.length - i) 0 ?_ (Nat.zero_le _) ?_
  · (refine ⟨?_, ?_, rfl⟩ <;> repeat' (first | exact rfl | exact trivial | refine ⟨?_, ?_⟩ | fail) <;> (conv => whnf))
    all_goals first | (show ((f.data.map A6).length + 1) = _; simp; done) | (show List.replicate ((f.data.map A6).length + 1) (Ad 0) = List.map Ad (List.replicate (f.data.length + 1) 0); simp; done)
  intro i hi
  have hi : i ≤ f.nodes.length := hi
  (conv => whnf); refine ⟨fun h1 => ?_, fun h1 => ?_⟩
  · have h1 : i < f.nodes.length := by simpa using h1
    obtain ⟨n, hn⟩ := B7 h1
    have hbn := hbl n (List.mem_of_getElem? hn)
    skip
    refine B2 (fun k : Nat => ⟨[(1, ⟨none, .bx 0 0⟩), (3, ⟨none, .view 1 [] 0 (f.data.length + 1)⟩), (4, ⟨none, .int .i64 i⟩), (5, ⟨none, .int .i64 k⟩)], [(0, .own 2 [Al f]), (1, .own 1 ((Pi f.data.length (Jx (f.nodes.take i) ++ n.blocks.take k)).map Ad))], 2⟩) (fun k => k ≤ n.blocks.length) (fun k => n.blocks.length - k) 0 ?_ (Nat.zero_le _) ?_
    · (refine ⟨?_, ?_, rfl⟩ <;> repeat' (first | exact rfl | exact trivial | refine ⟨?_, ?_⟩ | fail) <;> (conv => whnf))
      all_goals simp
    intro k hk
    have hk : k ≤ n.blocks.length := hk
    repeat ((conv => whnf); refine ⟨Ap n, fun _ => ⟨by omega, Am hn⟩, ?_⟩)
    (conv => whnf); refine ⟨fun h2 => ?_, fun h2 => ?_⟩
    · have h2 : k < n.blocks.length := by simpa using h2
      obtain ⟨b, hb⟩ := B7 h2
      repeat ((conv => whnf); first | refine ⟨_, w64 (bb), ?_⟩ | refine ⟨Ap n, fun _ => ⟨by omega, Am hn⟩, ?_⟩ | refine ⟨Ad b, fun _ => ⟨by omega, Am hb⟩, ?_⟩)
      refine ⟨(b, 0, _), rfl, fun _ => trivial, ?_⟩
      have hbd := fun k' => B0h f.data.length (Jx (f.nodes.take i) ++ n.blocks.take k) k'
      have hst : Pi f.data.length (Jx (f.nodes.take i) ++ n.blocks.take (k + 1)) = Fd f.data.length (Pi f.data.length (Jx (f.nodes.take i) ++ n.blocks.take k)) b := by
        rw [Bm hb, ← List.append_assoc]; simp [Pi]
      have hul := Th f.data.length (Jx (f.nodes.take i) ++ n.blocks.take k)
      have htl : (Jx (f.nodes.take i) ++ n.blocks.take k).length ≤ 4611686018427387904 := by
        have h1 : (Jx (f.nodes.take i)).length ≤ (f.nodes.take i).length * 65536 := by
          have : ∀ (l : List Nd), (∀ n, n ∈ l → n.blocks.length ≤ 65536) → (Jx l).length ≤ l.length * 65536 := by
            intro l
            induction l with
            | nil => intro _; simp [Jx]
            | cons a l ih =>
              intro h
              have h1 := ih fun n hn => h n (by simp [hn])
              have h2 := h a (by simp)
              simp only [Jx, List.flatMap_cons, List.length_append, List.length_cons] at *
              omega
          exact this _ fun n hn => hbl n (List.mem_of_mem_take hn)
        rw [List.length_append, List.length_take]
        rw [List.length_take] at h1
        have : min i f.nodes.length * 65536 ≤ 65536 * 65536 := Nat.mul_le_mul_right _ (by omega)
        omega
      generalize Pi f.data.length (Jx (f.nodes.take i) ++ n.blocks.take k) = U at hbd hst hul ⊢
      (conv => whnf); refine ⟨fun h3 => ?_, fun h3 => ?_⟩
      · have h3 : inB b 0 ((f.data.length : Int) - 1) = true := by
          have h3 : inB b 0 (((f.data.map A6).length : Nat) - 1 : Int) = true := h3
          rw [List.length_map] at h3; exact h3
        have h3' : 0 ≤ b ∧ b ≤ (f.data.length : Int) - 1 := by simpa [inB] using h3
        have hgb := hbd b.toNat
        rw [Fd, if_pos h3] at hst
        obtain ⟨v, hv⟩ := B7 (l := U) (i := b.toNat) (by omega)
        have hv1 : U.getD b.toNat 0 = v := by rw [List.getD_eq_getElem?_getD, hv]; rfl
        rw [hv1] at hst hgb
        repeat ((conv => whnf); first | refine ⟨_, w64 (bb), ?_⟩ | refine ⟨bb, ?_⟩ | refine ⟨Ad v, fun _ => by rw [Nat.zero_add]; exact Am hv, ?_⟩ | refine ⟨Ad v, by rw [Nat.zero_add]; exact Am hv, ?_⟩)
        refine C5 (k + 1) ?_ h2 (by first | omega | (simp; done) | (simp; omega))
        rw [hst]
        (refine ⟨?_, ?_, rfl⟩ <;> repeat' (first | exact rfl | exact trivial | refine ⟨?_, ?_⟩ | fail) <;> (conv => whnf))
        all_goals (rw [List.map_set]; simp [Ad])
      · have h3 : ¬ inB b 0 ((f.data.length : Int) - 1) = true := by
          have h3 : inB b 0 (((f.data.map A6).length : Nat) - 1 : Int) = false := h3
          rw [List.length_map] at h3; rw [h3]; decide
        rw [Fd, if_neg h3] at hst
        have hgb := hbd f.data.length
        obtain ⟨v, hv⟩ := B7 (l := U) (i := f.data.length) (by omega)
        have hv1 : U.getD f.data.length 0 = v := by rw [List.getD_eq_getElem?_getD, hv]; rfl
        rw [hv1] at hst hgb
        repeat ((conv => whnf); first | refine ⟨(by kernel_rfl : C6 _ _ = true), ?_⟩ | refine ⟨_, w64 (bb), ?_⟩ | refine ⟨bb, ?_⟩ | refine ⟨Ad v, fun _ => by rw [Nat.zero_add, show ((((f.data.map A6).length : Nat) : Int)).toNat = f.data.length by simp]; exact Am hv, ?_⟩ | refine ⟨Ad v, by rw [Nat.zero_add, show ((((f.data.map A6).length : Nat) : Int)).toNat = f.data.length by simp]; exact Am hv, ?_⟩)
        refine C5 (k + 1) ?_ h2 (by first | omega | (simp; done) | (simp; omega))
        rw [hst]
        (refine ⟨?_, ?_, rfl⟩ <;> repeat' (first | exact rfl | exact trivial | refine ⟨?_, ?_⟩ | fail) <;> (conv => whnf))
        all_goals (rw [List.map_set]; simp [Ad])
    · have h2 : k = n.blocks.length := by have : ¬ (k < n.blocks.length) := by simpa using h2
                                          omega
      subst h2
      rw [List.take_length]
      repeat ((conv => whnf); refine ⟨_, w64 (bb), ?_⟩)
      refine C5 (i + 1) ?_ h1 (by first | omega | (simp; done) | (simp; omega))
      rw [Bm hn, show Jx (f.nodes.take i ++ [n]) = Jx (f.nodes.take i) ++ n.blocks by simp [Jx]]
      (refine ⟨?_, ?_, rfl⟩ <;> repeat' (first | exact rfl | exact trivial | refine ⟨?_, ?_⟩ | fail) <;> (conv => whnf))
  · have h1 : i = f.nodes.length := by have : ¬ (i < f.nodes.length) := by simpa using h1
                                       omega
    subst h1
    rw [List.take_length]
    have hul := Th f.data.length (Jx f.nodes)
    skip
    rw [show Ep.res f = .own 1 ((Pi f.data.length (Jx f.nodes)).map Ad) from rfl]
    exact ⟨trivial, rfl, by simp only [List.drop_zero]; exact List.take_of_length_le (by simp [hul])⟩
theorem Sc : Ay Tryz.prog 185 Ep := Aq (Ch _ _) (FOk.cons E1 FOk.nil) mixed Tryz.func185 rfl Tryz.call185 (by decide) (by kernel_rfl) A5e (by intro _ (y : Fs) _; exact ⟨by simp [Ep, con, Aa, A8, AV.noRd, A7, Ab, A5, A6, Ad, Ae, Ah, Ap, Al], by simp [Ep, con, Aa, A8, AV.noRd, A7, Ab, A5, A6, Ad, Ae, Ah, Ap, Al]⟩) (by intro (y : Fs) _; first | (simp [Ep, con, Aa, A8, Ag, AV.free, A2, A3, A1, A6, Ad, Ae, Ah, Ap, Al]; done) | (obtain ⟨_, _⟩ := y; simp [Ep, con, Aa, A8, Ag, AV.free, A2, A3, A1, A6, Ad, Ae, Ah, Ap, Al]; done) | (obtain ⟨_, _, _⟩ := y; simp [Ep, con, Aa, A8, Ag, AV.free, A2, A3, A1, A6, Ad, Ae, Ah, Ap, Al]; done))
end Go.GH


set_option linter.unusedVariables false
set_option linter.unusedSimpArgs false
namespace Go.GH
open Go Go.Proofs
noncomputable def Ft : Bp := con [mC, mC] true (Int × Nat) (fun ⟨s, k⟩ => [.int .i64 s, .int .i64 k]) (fun x => 0 ≤ x.1 ∧ x.1 ≤ 80 ∧ x.2 ≤ 1000000) (fun ⟨s, k⟩ => .int .i64 (X2 s k))
noncomputable def A4i : Env := ⟨A4 Bc, A4 [(201, Hl)], [0, 1, 4]⟩
set_option maxRecDepth 100000 in
set_option maxHeartbeats 4000000 in
theorem A5a : Bd A4i (Az Tryz.f186) Tryz.f186.results.toList Ft := by
  rintro ⟨s, k⟩ hs
  obtain ⟨h1, h2, h3⟩ : 0 ≤ s ∧ s ≤ 80 ∧ k ≤ 1000000 := hs
  refine ⟨trivial, ?_⟩
  repeat ((conv => whnf); refine ⟨_, w64 (bb), ?_⟩)
  refine ⟨(16, s - (k : Int) * 16), rfl, fun _ => trivial, ?_⟩
  skip
  exact ⟨trivial, rfl⟩
theorem Ra : Ay Tryz.prog 186 Ft := Aq (Ch _ _) (FOk.cons A3r FOk.nil) mixed Tryz.func186 rfl Tryz.call186 (by decide) (by kernel_rfl) A5a (by intro _ (y : (Int × Nat)) _; exact ⟨by simp [Ft, con, Aa, A8, AV.noRd, A7, Ab, A5, A6, Ad, Ae, Ah, Ap, Al, Av, Ax], by simp [Ft, con, Aa, A8, AV.noRd, A7, Ab, A5, A6, Ad, Ae, Ah, Ap, Al, Av, Ax]⟩) (by intro (y : (Int × Nat)) _; first | (simp [Ft, con, Aa, A8, Ag, AV.free, A2, A3, A1, A6, Ad, Ae, Ah, Ap, Al, Av, Ax]; done) | (obtain ⟨_, _⟩ := y; simp [Ft, con, Aa, A8, Ag, AV.free, A2, A3, A1, A6, Ad, Ae, Ah, Ap, Al, Av, Ax]; done) | (obtain ⟨_, _, _⟩ := y; simp [Ft, con, Aa, A8, Ag, AV.free, A2, A3, A1, A6, Ad, Ae, Ah, Ap, Al, Av, Ax]; done))
noncomputable def Fj : Bp := con [.rd [some 5, some 1], mC] true (Fs × Nat) (fun ⟨f, i⟩ => [.agg (Al f), .int .i64 i]) (fun x => smF x.1 ∧ inR x.1 ∧ x.2 < x.1.nodes.length) (fun ⟨f, i⟩ => .str (I0 f i))
noncomputable def A3z : Env := ⟨A4 Bc, A4 [], [0, 1, 2, 4, 5, 6, 15]⟩
set_option maxRecDepth 100000 in
set_option maxHeartbeats 4000000 in
theorem A4h : Bd A3z (Az Tryz.f161) Tryz.f161.results.toList Fj := by
  rintro ⟨f, i⟩ hf
  obtain ⟨⟨hn, hd, hbl, hs⟩, hr, hi⟩ : smF f ∧ inR f ∧ i < f.nodes.length := hf
  refine ⟨trivial, ?_⟩
  obtain ⟨n, hn⟩ := B7 hi
  have hbn := hbl n (List.mem_of_getElem? hn)
  have hrn := hr n (List.mem_of_getElem? hn)
  have hres : I0 f i = n.blocks.flatMap fun b => f.data.getD b.toNat [] := by rw [I0, hn]
  skip
  refine B2 (fun k : Nat => ⟨[(1, ⟨none, .int .i64 i⟩), (2, ⟨none, .bx 0 0⟩), (5, ⟨none, .str ((n.blocks.take k).flatMap fun b => f.data.getD b.toNat [])⟩), (6, ⟨none, .int .i64 k⟩)], [(0, .own 2 [Al f])], 1⟩) (fun k => k ≤ n.blocks.length) (fun k => n.blocks.length - k) 0 ?_ (Nat.zero_le _) ?_
  · (refine ⟨?_, ?_, rfl⟩ <;> repeat' (first | exact rfl | exact trivial | refine ⟨?_, ?_⟩ | fail) <;> (conv => whnf))
  intro k hk
  have hk : k ≤ n.blocks.length := hk
  repeat ((conv => whnf); refine ⟨Ap n, fun _ => ⟨by omega, Am hn⟩, ?_⟩)
  (conv => whnf); refine ⟨fun h2 => ?_, fun h2 => ?_⟩
  · have h2 : k < n.blocks.length := by simpa using h2
    obtain ⟨b, hb⟩ := B7 h2
    have hb2 := hrn b (List.mem_of_getElem? hb)
    obtain ⟨s, hs2⟩ := B7 (l := f.data) (i := b.toNat) (by omega)
    have hl1 := Tk hs (n.blocks.take k)
    have hl2 := hs s (List.mem_of_getElem? hs2)
    have hl3 : (n.blocks.take k).length * 4194304 ≤ 65536 * 4194304 := Nat.mul_le_mul_right _ (by rw [List.length_take]; omega)
    repeat ((conv => whnf); first | refine ⟨(by kernel_rfl : C6 _ _ = true), ?_⟩ | refine ⟨_, w64 (bb), ?_⟩ | refine ⟨bb, ?_⟩ | refine ⟨Ap n, fun _ => ⟨by omega, Am hn⟩, ?_⟩ | refine ⟨Ad b, fun _ => ⟨by omega, Am hb⟩, ?_⟩ | refine ⟨A6 s, fun _ => ⟨by omega, Am hs2⟩, ?_⟩)
    refine C5 (k + 1) ?_ h2 (by first | omega | (simp; done) | (simp; omega))
    rw [Bm hb, List.flatMap_append, show [b].flatMap (fun b => f.data.getD b.toNat []) = s by simp [List.getD_eq_getElem?_getD, hs2]]
    (refine ⟨?_, ?_, rfl⟩ <;> repeat' (first | exact rfl | exact trivial | refine ⟨?_, ?_⟩ | fail) <;> (conv => whnf))
  · have h2 : k = n.blocks.length := by have : ¬ (k < n.blocks.length) := by simpa using h2
                                        omega
    subst h2
    rw [List.take_length]
    skip
    exact ⟨trivial, eqS hres.symm⟩
theorem Rx : Ay Tryz.prog 161 Fj := Aq (Ch _ _) FOk.nil mixed Tryz.func161 rfl Tryz.call161 (by decide) (by kernel_rfl) A4h (by intro _ (y : (Fs × Nat)) _; exact ⟨by simp [Fj, con, Aa, A8, AV.noRd, A7, Ab, A5, A6, Ad, Ae, Ah, Ap, Al, Av, Ax], by simp [Fj, con, Aa, A8, AV.noRd, A7, Ab, A5, A6, Ad, Ae, Ah, Ap, Al, Av, Ax]⟩) (by intro (y : (Fs × Nat)) _; first | (simp [Fj, con, Aa, A8, Ag, AV.free, A2, A3, A1, A6, Ad, Ae, Ah, Ap, Al, Av, Ax]; done) | (obtain ⟨_, _⟩ := y; simp [Fj, con, Aa, A8, Ag, AV.free, A2, A3, A1, A6, Ad, Ae, Ah, Ap, Al, Av, Ax]; done) | (obtain ⟨_, _, _⟩ := y; simp [Fj, con, Aa, A8, Ag, AV.free, A2, A3, A1, A6, Ad, Ae, Ah, Ap, Al, Av, Ax]; done))
noncomputable def Dj : Bp := con [.rd [some 5, some 1], mC] false (Fs × Nat) (fun ⟨f, i⟩ => [.agg (Al f), .int .i64 i]) (fun x => smF x.1 ∧ inR x.1 ∧ x.2 < x.1.nodes.length ∧ (I0 x.1 x.2).length ≤ 1048576) (fun ⟨f, i⟩ => .tup [.own 2 (((H4 f i).getD []).map Ah), .bool (H4 f i).isSome])
noncomputable def A7r : Env := ⟨A4 Bc, A4 [(161, Fj), (187, Gj)], [0, 1, 2, 4, 5, 12]⟩
set_option maxRecDepth 100000 in
set_option maxHeartbeats 4000000 in
theorem A84 : Bd A7r (Az Tryz.f160) Tryz.f160.results.toList Dj := by
  rintro ⟨f, i⟩ hf
  obtain ⟨hsm, hr, hi, hl⟩ : smF f ∧ inR f ∧ i < f.nodes.length ∧ (I0 f i).length ≤ 1048576 := hf
  refine ⟨trivial, ?_⟩
  obtain ⟨n, hn⟩ := B7 hi
  have fin : ∀ {o : Option (List En)}, o = H4 f i → Dj.res (f, i) = .tup [.own 2 ((o.getD []).map Ah), .bool o.isSome] := fun h => by rw [h]; rfl
  repeat ((conv => whnf); refine ⟨Ap n, fun _ => ⟨by omega, Am hn⟩, ?_⟩)
  (conv => whnf); refine ⟨fun h1 => ?_, fun h1 => ?_⟩
  · have h1 : (n.kind != 2) = true := h1
    have hd : none = H4 f i := by rw [H4, hn]; simp only; rw [if_neg (by simpa using h1)]
    skip
    rw [fin hd]
    exact ⟨trivial, ⟨rfl, rfl⟩, rfl, trivial⟩
  · have h1 : (n.kind != 2) = false := h1
    have hd : H4 f i = Pg (I0 f i) := by rw [H4, hn]; simp only; rw [if_pos (by simpa using h1)]
    skip
    refine ⟨(f, i), by (repeat' (first | refine Bn ?_ ?_ | refine Bu ?_ | refine Bh ?_ | refine Bs ?_ | exact rfl)) <;> simp [rdI, rdO, rdE, rdB, rdN, rdS, rdD, rdW, tkM], fun _ => ⟨hsm, hr, hi⟩, ?_⟩
    skip
    refine ⟨I0 f i, rfl, fun _ => hl, ?_⟩
    skip
    rw [fin hd.symm]
    exact ⟨trivial, ⟨rfl, by simp⟩, rfl, trivial⟩
theorem Iw : Ay Tryz.prog 160 Dj := Aq (Ch _ _) (FOk.cons Rx (FOk.cons A58 FOk.nil)) mixed Tryz.func160 rfl Tryz.call160 (by decide) (by kernel_rfl) A84 (by intro _ (y : (Fs × Nat)) _; exact ⟨by simp [Dj, con, Aa, A8, AV.noRd, A7, Ab, A5, A6, Ad, Ae, Ah, Ap, Al, Av, Ax], by simp [Dj, con, Aa, A8, AV.noRd, A7, Ab, A5, A6, Ad, Ae, Ah, Ap, Al, Av, Ax]⟩) (by intro (y : (Fs × Nat)) _; first | (simp [Dj, con, Aa, A8, Ag, AV.free, A2, A3, A1, A6, Ad, Ae, Ah, Ap, Al, Av, Ax]; done) | (obtain ⟨_, _⟩ := y; simp [Dj, con, Aa, A8, Ag, AV.free, A2, A3, A1, A6, Ad, Ae, Ah, Ap, Al, Av, Ax]; done) | (obtain ⟨_, _, _⟩ := y; simp [Dj, con, Aa, A8, Ag, AV.free, A2, A3, A1, A6, Ad, Ae, Ah, Ap, Al, Av, Ax]; done))
end Go.GH


set_option linter.unusedVariables false
set_option linter.unusedSimpArgs false
namespace Go.GH
open Go Go.Proofs
noncomputable def Ef : Bp := con [.rd [some 5, some 1]] true Fs (fun f => [.agg (Al f)]) smF (fun f => .bool (E3 f))
noncomputable def A03 : Env := ⟨A4 Bc, A4 [(76, Co), (184, Gt), (185, Ep), (186, Ft)], [0, 1, 2, 3, 4, 5, 6, 7, 8, 28, 33, 42, 51, 56, 87, 92, 104, 121]⟩
set_option maxRecDepth 100000 in
set_option maxHeartbeats 4000000 in
theorem A2k : Bd A03 (Az Tryz.f158) Tryz.f158.results.toList Ef := by
  intro (f : Fs) hf
  have hsm : smF f := hf
  obtain ⟨hnl, hdl, hbl, hs⟩ := hsm
  refine ⟨trivial, ?_⟩
  generalize hhd : f.nodes.headD .zero = n0
  have hn0 : 0 < f.nodes.length → f.nodes[0]? = some n0 := fun h => by
    rw [← hhd]
    cases hq : f.nodes with
    | nil => rw [hq] at h; cases h
    | cons a l => rfl
  have hg0 : ∀ {B : Bool}, Cn (some (!(!inB (((f.nodes.map Ap).length : Nat) : Int) 2 10 || B))) → (0 : Int) ≤ 0 ∧ (f.nodes.map Ap)[(0 : Int).toNat]? = some (Ap n0) := by
    intro B h
    have h : (!(!inB (((f.nodes.map Ap).length : Nat) : Int) 2 10 || B)) = true := h
    rw [List.length_map] at h
    simp [inB] at h
    exact ⟨by omega, Am (hn0 (by omega))⟩
  repeat ((conv => whnf); first | refine ⟨fun h => h, ?_⟩ | refine ⟨(_, _, _), rfl, fun _ => trivial, ?_⟩ | refine ⟨Ap n0, fun h => hg0 h, ?_⟩)
  (conv => whnf); refine ⟨fun h1 => ?_, fun h1 => ?_⟩
  · have h1 : (!inB (((f.nodes.map Ap).length : Nat) : Int) 2 10 || !inB (((f.data.map A6).length : Nat) : Int) 1 36 || n0.kind != 2) = true := h1
    skip
    refine ⟨trivial, eqB ?_⟩
    show false = E3 f
    rw [List.length_map, List.length_map] at h1
    rw [E3, hhd]
    revert h1
    cases inB f.nodes.length 2 10 <;> cases inB f.data.length 1 36 <;> cases hk : (n0.kind == 2) <;> simp [bne, hk]
  have h1 : (!inB (((f.nodes.map Ap).length : Nat) : Int) 2 10 || !inB (((f.data.map A6).length : Nat) : Int) 1 36 || n0.kind != 2) = false := h1
  rw [List.length_map, List.length_map] at h1
  have hsh : E3 f = (f.nodes.all Hy && !decide ((Ll f).getD f.data.length 0 > 0) && (List.range f.data.length).all (Um f) && f.nodes.all (A28 f)) := by
    rw [E3, hhd]
    revert h1
    cases inB f.nodes.length 2 10 <;> cases inB f.data.length 1 36 <;> cases hk : (n0.kind == 2) <;> simp [bne, hk]
  have hnn : 2 ≤ f.nodes.length ∧ f.nodes.length ≤ 10 ∧ 1 ≤ f.data.length ∧ f.data.length ≤ 36 := by
    simp only [Bool.or_eq_false_iff, Bool.not_eq_false'] at h1
    simp [inB] at h1
    omega
  skip
  refine B2 (fun i : Nat => ⟨[(1, ⟨none, .bx 0 0⟩), (3, ⟨none, .int .i64 i⟩)], [(0, .own 2 [Al f])], 1⟩) (fun i => i ≤ f.nodes.length ∧ ∀ n, n ∈ f.nodes.take i → Hy n = true) (fun i => f.nodes.length - i) 0 ?_ ⟨Nat.zero_le _, fun n hn => absurd hn (by simp)⟩ ?_
  · (refine ⟨?_, ?_, rfl⟩ <;> repeat' (first | exact rfl | exact trivial | refine ⟨?_, ?_⟩ | fail) <;> (conv => whnf))
  rintro i ⟨hi, hI⟩
  (conv => whnf); refine ⟨fun h2 => ?_, fun h2 => ?_⟩
  · have h2 : i < f.nodes.length := by simpa using h2
    obtain ⟨n, hn⟩ := B7 h2
    repeat ((conv => whnf); refine ⟨Ap n, fun _ => ⟨by omega, Am hn⟩, ?_⟩)
    refine ⟨n, by (repeat' (first | refine Bn ?_ ?_ | refine Bu ?_ | refine Bh ?_ | refine Bs ?_ | exact rfl)) <;> simp [rdI, rdO, rdE, rdB, rdN, rdS, rdD, rdW, tkM], fun _ => hbl n (List.mem_of_getElem? hn), ?_⟩
    skip
    (conv => whnf); refine ⟨fun h3 => ?_, fun h3 => ?_⟩
    · have h3 : (!Hy n) = true := h3
      skip
      refine ⟨trivial, eqB ?_⟩
      show false = E3 f
      rw [hsh, Vd (List.mem_of_getElem? hn) (by simpa using h3)]; rfl
    · have h3 : (!Hy n) = false := h3
      repeat ((conv => whnf); refine ⟨_, w64 (bb), ?_⟩)
      refine C5 (i + 1) ?_ ⟨h2, fun m hm => ?_⟩ (by first | omega | (simp; done) | (simp; omega))
      · (refine ⟨?_, ?_, rfl⟩ <;> repeat' (first | exact rfl | exact trivial | refine ⟨?_, ?_⟩ | fail) <;> (conv => whnf))
      · rw [Bm hn, List.mem_append] at hm
        rcases hm with hm | hm
        · exact hI m hm
        · rw [List.mem_singleton] at hm; subst hm; simpa using h3
  have h2 : i = f.nodes.length := by have : ¬ (i < f.nodes.length) := by simpa using h2
                                     omega
  subst h2
  rw [List.take_length] at hI
  have hsh : E3 f = (!decide ((Ll f).getD f.data.length 0 > 0) && (List.range f.data.length).all (Um f) && f.nodes.all (A28 f)) := by
    rw [hsh, List.all_eq_true.2 hI, Bool.true_and]
  skip
  refine ⟨f, by (repeat' (first | refine Bn ?_ ?_ | refine Bu ?_ | refine Bh ?_ | refine Bs ?_ | exact rfl)) <;> simp [rdI, rdO, rdE, rdB, rdN, rdS, rdD, rdW, tkM], fun _ => ⟨hnl, hdl, hbl, hs⟩, ?_⟩
  have hul : (Ll f).length = f.data.length + 1 := Th _ _
  have hub := fun k => B0h f.data.length (Jx f.nodes) k
  obtain ⟨u0, hu0⟩ := B7 (l := Ll f) (i := f.data.length) (by omega)
  have hu1 : (Ll f).getD f.data.length 0 = u0 := by rw [List.getD_eq_getElem?_getD, hu0]; rfl
  repeat ((conv => whnf); first | refine ⟨bb, ?_⟩ | refine ⟨Ad u0, fun _ => by rw [Nat.zero_add, show ((((f.data.map A6).length : Nat) : Int)).toNat = f.data.length by simp]; exact Am hu0, ?_⟩)
  (conv => whnf); refine ⟨fun h4 => ?_, fun h4 => ?_⟩
  · have h4 : decide (u0 > 0) = true := h4
    skip
    refine ⟨trivial, eqB ?_⟩
    show false = E3 f
    rw [hsh, hu1, h4]; rfl
  have h4 : decide (u0 > 0) = false := h4
  rw [hu1, h4] at hsh
  have hr : inR f := B1p (by rw [hu1]; simpa using h4)
  skip
  refine B2 (fun k : Nat => ⟨[(1, ⟨none, .bx 0 0⟩), (4, ⟨none, .view 1 [] 0 (Ll f).length⟩), (5, ⟨none, .int .i64 k⟩)], [(0, .own 2 [Al f]), (1, .own 1 ((Ll f).map Ad))], 2⟩) (fun k => k ≤ f.data.length ∧ ∀ j, j < k → Um f j = true) (fun k => f.data.length - k) 0 ?_ ⟨Nat.zero_le _, fun j hj => absurd hj (Nat.not_lt_zero _)⟩ ?_
  · (refine ⟨?_, ?_, rfl⟩ <;> repeat' (first | exact rfl | exact trivial | refine ⟨?_, ?_⟩ | fail) <;> (conv => whnf))
    all_goals simp
  rintro k ⟨hk, hK⟩
  (conv => whnf); refine ⟨fun h5 => ?_, fun h5 => ?_⟩
  · have h5 : k < f.data.length := by simpa using h5
    obtain ⟨s, hs1⟩ := B7 h5
    obtain ⟨u, hu⟩ := B7 (l := Ll f) (i := k) (by omega)
    have hu2 : (Ll f).getD k 0 = u := by rw [List.getD_eq_getElem?_getD, hu]; rfl
    have hsl := hs s (List.mem_of_getElem? hs1)
    repeat ((conv => whnf); first | refine ⟨fun h => h, ?_⟩ | refine ⟨bb, ?_⟩ | refine ⟨Ad u, fun _ => by rw [Nat.zero_add]; exact Am hu, ?_⟩ | refine ⟨A6 s, fun _ => ⟨by omega, Am hs1⟩, ?_⟩)
    have hdc : Um f k = !(decide (u > 1) || (u == 0 && s != []) || decide ((s.length : Int) > 16)) := by rw [Um, hs1]; simp only [hu2]
    (conv => whnf); refine ⟨fun h6 => ?_, fun h6 => ?_⟩
    · have h6 : (decide (u > 1) || (u == 0 && s != []) || decide ((s.length : Int) > 16)) = true := h6
      skip
      refine ⟨trivial, eqB ?_⟩
      show false = E3 f
      rw [hsh, Vd (List.mem_range.2 h5) (by rw [hdc, h6]; rfl)]; rfl
    · have h6 : (decide (u > 1) || (u == 0 && s != []) || decide ((s.length : Int) > 16)) = false := h6
      repeat ((conv => whnf); refine ⟨_, w64 (bb), ?_⟩)
      refine C5 (k + 1) ?_ ⟨h5, fun j hj => ?_⟩ (by first | omega | (simp; done) | (simp; omega))
      · (refine ⟨?_, ?_, rfl⟩ <;> repeat' (first | exact rfl | exact trivial | refine ⟨?_, ?_⟩ | fail) <;> (conv => whnf))
      · rcases Nat.lt_or_ge j k with h | h
        · exact hK j h
        · rw [show j = k by omega, hdc, h6]; rfl
  have h5 : k = f.data.length := by have : ¬ (k < f.data.length) := by simpa using h5
                                    omega
  subst h5
  have hsh : E3 f = f.nodes.all (A28 f) := by
    rw [hsh, List.all_eq_true.2 fun j hj => hK j (List.mem_range.1 hj)]; simp
  skip
  refine B2 (fun i : Nat => ⟨[(1, ⟨none, .bx 0 0⟩), (6, ⟨none, .int .i64 i⟩)], [(0, .own 2 [Al f])], 1⟩) (fun i => i ≤ f.nodes.length ∧ ∀ n, n ∈ f.nodes.take i → A28 f n = true) (fun i => f.nodes.length - i) 0 ?_ ⟨Nat.zero_le _, fun n hn => absurd hn (by simp)⟩ ?_
  · (refine ⟨?_, ?_, rfl⟩ <;> repeat' (first | exact rfl | exact trivial | refine ⟨?_, ?_⟩ | fail) <;> (conv => whnf))
  rintro i ⟨hi, hJ⟩
  (conv => whnf); refine ⟨fun h6 => ?_, fun h6 => ?_⟩
  · have h6 : i < f.nodes.length := by simpa using h6
    obtain ⟨n, hn⟩ := B7 h6
    have hnm := List.mem_of_getElem? hn
    have hbn := hbl n hnm
    have hsz := B1m (hI n hnm)
    repeat ((conv => whnf); refine ⟨Ap n, fun _ => ⟨by omega, Am hn⟩, ?_⟩)
    refine B2 (fun k : Nat => ⟨[(1, ⟨none, .bx 0 0⟩), (6, ⟨none, .int .i64 i⟩), (7, ⟨none, .bx 1 0⟩), (8, ⟨none, .int .i64 k⟩)], [(0, .own 2 [Al f]), (1, .own 5 [Ap n])], 2⟩) (fun k => k ≤ n.blocks.length ∧ ∀ j, j < k → A8u f n j = true) (fun k => n.blocks.length - k) 0 ?_ ⟨Nat.zero_le _, fun j hj => absurd hj (Nat.not_lt_zero _)⟩ ?_
    · (refine ⟨?_, ?_, rfl⟩ <;> repeat' (first | exact rfl | exact trivial | refine ⟨?_, ?_⟩ | fail) <;> (conv => whnf))
    rintro k ⟨hk, hL⟩
    (conv => whnf); refine ⟨fun h7 => ?_, fun h7 => ?_⟩
    · have h7 : k < n.blocks.length := by simpa using h7
      obtain ⟨b, hb⟩ := B7 h7
      have hb2 := hr n hnm b (List.mem_of_getElem? hb)
      obtain ⟨s, hs1⟩ := B7 (l := f.data) (i := b.toNat) (by omega)
      have hs2 : f.data.getD b.toNat [] = s := by rw [List.getD_eq_getElem?_getD, hs1]; rfl
      have hlc : A8u f n k = decide ((s.length : Int) = X2 n.size k) := by rw [A8u, hb]; simp only [hs2]
      repeat ((conv => whnf); first | refine ⟨Ad b, fun _ => ⟨by omega, Am hb⟩, ?_⟩ | refine ⟨A6 s, fun _ => ⟨by omega, Am hs1⟩, ?_⟩)
      refine ⟨(n.size, k), rfl, fun _ => ⟨hsz.1, hsz.2, by show k ≤ 1000000; omega⟩, ?_⟩
      repeat ((conv => whnf); refine ⟨(by kernel_rfl : C6 _ _ = true), ?_⟩)
      (conv => whnf); refine ⟨fun h8 => ?_, fun h8 => ?_⟩
      · have h8 : ((s.length : Int) != X2 n.size k) = true := h8
        skip
        refine ⟨trivial, eqB ?_⟩
        show false = E3 f
        rw [hsh, Vd hnm (Vd (List.mem_range.2 h7) (by rw [hlc]; simpa using h8))]
      · have h8 : ((s.length : Int) != X2 n.size k) = false := h8
        repeat ((conv => whnf); refine ⟨_, w64 (bb), ?_⟩)
        refine C5 (k + 1) ?_ ⟨h7, fun j hj => ?_⟩ (by first | omega | (simp; done) | (simp; omega))
        · (refine ⟨?_, ?_, rfl⟩ <;> repeat' (first | exact rfl | exact trivial | refine ⟨?_, ?_⟩ | fail) <;> (conv => whnf))
        · rcases Nat.lt_or_ge j k with h | h
          · exact hL j h
          · rw [show j = k by omega, hlc]; simpa using h8
    have h7 : k = n.blocks.length := by have : ¬ (k < n.blocks.length) := by simpa using h7
                                        omega
    subst h7
    repeat ((conv => whnf); refine ⟨_, w64 (bb), ?_⟩)
    refine C5 (i + 1) ?_ ⟨h6, fun m hm => ?_⟩ (by first | omega | (simp; done) | (simp; omega))
    · (refine ⟨?_, ?_, rfl⟩ <;> repeat' (first | exact rfl | exact trivial | refine ⟨?_, ?_⟩ | fail) <;> (conv => whnf))
    · rw [Bm hn, List.mem_append] at hm
      rcases hm with hm | hm
      · exact hJ m hm
      · rw [List.mem_singleton] at hm; subst hm; exact List.all_eq_true.2 fun j hj => hL j (List.mem_range.1 hj)
  have h6 : i = f.nodes.length := by have : ¬ (i < f.nodes.length) := by simpa using h6
                                     omega
  subst h6
  rw [List.take_length] at hJ
  skip
  exact ⟨trivial, eqB (by show true = E3 f; rw [hsh, List.all_eq_true.2 hJ])⟩
theorem Mq : Ay Tryz.prog 158 Ef := Aq (Ch _ _) (FOk.cons E1 (FOk.cons A1r (FOk.cons Sc (FOk.cons Ra FOk.nil)))) mixed Tryz.func158 rfl Tryz.call158 (by decide) (by kernel_rfl) A2k (by intro _ (y : Fs) _; exact ⟨by simp [Ef, con, Aa, A8, AV.noRd, A7, Ab, A5, A6, Ad, Ae, Ah, Ap, Al, Av, Ax], by simp [Ef, con, Aa, A8, AV.noRd, A7, Ab, A5, A6, Ad, Ae, Ah, Ap, Al, Av, Ax]⟩) (by intro (y : Fs) _; first | (simp [Ef, con, Aa, A8, Ag, AV.free, A2, A3, A1, A6, Ad, Ae, Ah, Ap, Al, Av, Ax]; done) | (obtain ⟨_, _⟩ := y; simp [Ef, con, Aa, A8, Ag, AV.free, A2, A3, A1, A6, Ad, Ae, Ah, Ap, Al, Av, Ax]; done) | (obtain ⟨_, _, _⟩ := y; simp [Ef, con, Aa, A8, Ag, AV.free, A2, A3, A1, A6, Ad, Ae, Ah, Ap, Al, Av, Ax]; done))
end Go.GH


set_option linter.unusedVariables false
set_option linter.unusedSimpArgs false
namespace Go.GH
open Go Go.Proofs
noncomputable def Hs : Bp := con [.rd [some 5, some 1], mC] true (Fs × Int) (fun ⟨f, i⟩ => [.agg (Al f), .int .i64 i]) (fun x => smF x.1) (fun ⟨f, i⟩ => .bool (isN f i))
noncomputable def B26 : Env := ⟨A4 Bc, A4 [(76, Co), (158, Ef)], [0, 1, 2, 4]⟩
set_option maxRecDepth 100000 in
set_option maxHeartbeats 4000000 in
theorem B1d : Bd B26 (Az Tryz.f191) Tryz.f191.results.toList Hs := by
  rintro ⟨f, i⟩ hsm
  have hsm : smF f := hsm
  have hnl := hsm.1
  refine ⟨trivial, ?_⟩
  have hg : ∀ {A : Bool}, Cn (some (A && inB i 0 ((((f.nodes.map Ap).length : Nat) : Int) - 1))) → (0 : Int) ≤ i ∧ (f.nodes.map Ap)[i.toNat]? = some (Ap (f.nodes.getD i.toNat .zero)) := by
    intro A h
    have h : (A && inB i 0 ((((f.nodes.map Ap).length : Nat) : Int) - 1)) = true := h
    rw [List.length_map] at h
    simp [inB] at h
    refine ⟨by omega, Am ?_⟩
    rw [List.getD_eq_getElem?_getD, List.getElem?_eq_getElem (by omega)]; rfl
  skip
  refine ⟨f, by (repeat' (first | refine Bn ?_ ?_ | refine Bu ?_ | refine Bh ?_ | refine Bs ?_ | exact rfl)) <;> simp [rdI, rdO, rdE, rdB, rdN, rdS, rdD, rdW, tkM], fun _ => hsm, ?_⟩
  repeat ((conv => whnf); first | refine ⟨fun h => h, ?_⟩ | refine ⟨_, w64 (bb), ?_⟩ | refine ⟨(_, _, _), rfl, fun _ => trivial, ?_⟩ | refine ⟨Ap (f.nodes.getD i.toNat .zero), fun h => hg h, ?_⟩)
  refine ⟨trivial, eqB ?_⟩
  show (E3 f && inB i 0 ((((f.nodes.map Ap).length : Nat) : Int) - 1) && (f.nodes.getD i.toNat .zero).kind != 0) = _
  rw [List.length_map]; rfl
theorem W8 : Ay Tryz.prog 191 Hs := Aq (Ch _ _) (FOk.cons E1 (FOk.cons Mq FOk.nil)) mixed Tryz.func191 rfl Tryz.call191 (by decide) (by kernel_rfl) B1d (by intro _ (y : (Fs × Int)) _; exact ⟨by simp [Hs, con, Aa, A8, AV.noRd, A7, Ab, A5, A6, Ad, Ae, Ah, Ap, Al, Av, Ax], by simp [Hs, con, Aa, A8, AV.noRd, A7, Ab, A5, A6, Ad, Ae, Ah, Ap, Al, Av, Ax]⟩) (by intro (y : (Fs × Int)) _; first | (simp [Hs, con, Aa, A8, Ag, AV.free, A2, A3, A1, A6, Ad, Ae, Ah, Ap, Al, Av, Ax]; done) | (obtain ⟨_, _⟩ := y; simp [Hs, con, Aa, A8, Ag, AV.free, A2, A3, A1, A6, Ad, Ae, Ah, Ap, Al, Av, Ax]; done) | (obtain ⟨_, _, _⟩ := y; simp [Hs, con, Aa, A8, Ag, AV.free, A2, A3, A1, A6, Ad, Ae, Ah, Ap, Al, Av, Ax]; done))
noncomputable def Ez : Bp := con [mC, mC] true (Int × Int) (fun ⟨t, g⟩ => [.int .i64 t, .int .i64 g]) (fun _ => True) (fun ⟨t, g⟩ => .bool (inB t 0 100000 && inB g 0 1000000))
noncomputable def A22 : Env := ⟨A4 Bc, A4 [(76, Co)], [0, 1, 4]⟩
set_option maxRecDepth 100000 in
set_option maxHeartbeats 4000000 in
theorem A0n : Bd A22 (Az Tryz.f163) Tryz.f163.results.toList Ez := by
  rintro ⟨t, g⟩ _
  refine ⟨trivial, ?_⟩
  repeat ((conv => whnf); first | refine ⟨fun h => h, ?_⟩ | refine ⟨(_, _, _), rfl, fun _ => trivial, ?_⟩)
  exact ⟨trivial, rfl⟩
theorem Qx : Ay Tryz.prog 163 Ez := Aq (Ch _ _) (FOk.cons E1 FOk.nil) mixed Tryz.func163 rfl Tryz.call163 (by decide) (by kernel_rfl) A0n (by intro _ (y : (Int × Int)) _; exact ⟨by simp [Ez, con, Aa, A8, AV.noRd, A7, Ab, A5, A6, Ad, Ae, Ah, Ap, Al, Av, Ax], by simp [Ez, con, Aa, A8, AV.noRd, A7, Ab, A5, A6, Ad, Ae, Ah, Ap, Al, Av, Ax]⟩) (by intro (y : (Int × Int)) _; first | (simp [Ez, con, Aa, A8, Ag, AV.free, A2, A3, A1, A6, Ad, Ae, Ah, Ap, Al, Av, Ax]; done) | (obtain ⟨_, _⟩ := y; simp [Ez, con, Aa, A8, Ag, AV.free, A2, A3, A1, A6, Ad, Ae, Ah, Ap, Al, Av, Ax]; done) | (obtain ⟨_, _, _⟩ := y; simp [Ez, con, Aa, A8, Ag, AV.free, A2, A3, A1, A6, Ad, Ae, Ah, Ap, Al, Av, Ax]; done))
noncomputable def Dx : Bp := con [.rd [some 5, some 1]] false Fs (fun f => [.agg (Al f)]) smF (fun f => .agg (Ax f))
noncomputable def A47 : Env := ⟨A4 Bc, A4 [(130, Es)], [0, 1, 2, 3, 4, 5, 14]⟩
set_option maxRecDepth 100000 in
set_option maxHeartbeats 4000000 in
theorem A37 : Bd A47 (Az Tryz.f162) Tryz.f162.results.toList Dx := by
  intro (f : Fs) hf
  obtain ⟨hnl, hdl, hbl, hs⟩ : smF f := hf
  refine ⟨trivial, ?_⟩
  skip
  refine ⟨f.data, by (repeat' (first | refine Bn ?_ ?_ | refine Bu ?_ | refine Bh ?_ | refine Bs ?_ | exact rfl)) <;> simp [rdI, rdO, rdE, rdB, rdN, rdS, rdD, rdW, tkM], fun _ => by show f.data.length ≤ _; omega, ?_⟩
  skip
  refine B2 (fun i : Nat => ⟨[(1, ⟨none, .bx 0 0⟩), (2, ⟨none, .bx 2 0⟩), (3, ⟨none, .bx 1 0⟩), (4, ⟨none, .int .i64 i⟩)], [(0, .own 2 [Al f]), (1, .own 2 [[.own 5 ((f.nodes.take i).map Av), .own 1 (f.data.map A6)]]), (2, .own 2 [[.own 5 [], .own 1 []]])], 3⟩) (fun i => i ≤ f.nodes.length) (fun i => f.nodes.length - i) 0 ?_ (Nat.zero_le _) ?_
  · (refine ⟨?_, ?_, rfl⟩ <;> repeat' (first | exact rfl | exact trivial | refine ⟨?_, ?_⟩ | fail) <;> (conv => whnf))
    all_goals simp [tkM, Bw]
  intro i hi
  have hi : i ≤ f.nodes.length := hi
  (conv => whnf); refine ⟨fun h1 => ?_, fun h1 => ?_⟩
  · have h1 : i < f.nodes.length := by simpa using h1
    obtain ⟨n, hn⟩ := B7 h1
    have hbn := hbl n (List.mem_of_getElem? hn)
    repeat ((conv => whnf); first | refine ⟨_, w64 (bb), ?_⟩ | refine ⟨bb, ?_⟩ | refine ⟨Ap n, fun _ => ⟨by omega, Am hn⟩, ?_⟩)
    refine C5 (i + 1) ?_ h1 (by first | omega | (simp; done) | (simp; omega))
    rw [Bm hn]
    (refine ⟨?_, ?_, rfl⟩ <;> repeat' (first | exact rfl | exact trivial | refine ⟨?_, ?_⟩ | fail) <;> (conv => whnf))
    all_goals (simp [Av, List.take_of_length_le]; rfl)
  · have h1 : i = f.nodes.length := by have : ¬ (i < f.nodes.length) := by simpa using h1
                                       omega
    subst h1
    rw [List.take_length]
    skip
    exact ⟨trivial, ⟨rfl, by simp [tkM]⟩, ⟨rfl, by simp [tkM]⟩, trivial⟩
theorem Ks : Ay Tryz.prog 162 Dx := Aq (Ch _ _) (FOk.cons Nf FOk.nil) mixed Tryz.func162 rfl Tryz.call162 (by decide) (by kernel_rfl) A37 (by intro _ (y : Fs) _; exact ⟨by simp [Dx, con, Aa, A8, AV.noRd, A7, Ab, A5, A6, Ad, Ae, Ah, Ap, Al, Av, Ax], by simp [Dx, con, Aa, A8, AV.noRd, A7, Ab, A5, A6, Ad, Ae, Ah, Ap, Al, Av, Ax]⟩) (by intro (y : Fs) _; first | (simp [Dx, con, Aa, A8, Ag, AV.free, A2, A3, A1, A6, Ad, Ae, Ah, Ap, Al, Av, Ax]; done) | (obtain ⟨_, _⟩ := y; simp [Dx, con, Aa, A8, Ag, AV.free, A2, A3, A1, A6, Ad, Ae, Ah, Ap, Al, Av, Ax]; done) | (obtain ⟨_, _, _⟩ := y; simp [Dx, con, Aa, A8, Ag, AV.free, A2, A3, A1, A6, Ad, Ae, Ah, Ap, Al, Av, Ax]; done))
noncomputable def Jb : Bp := { Dx with sh := true, res := fun (f : Fs) => .agg (Al f) }
theorem K6 : Ay Tryz.prog 162 Jb := Kg _ Ks (fun _ => rfl) rfl (fun f _ => ⟨rfl, by show 2 ≤ 16; omega, by simp only [Dx, con, frz, Mb, Ax, Al, List.map_cons, List.map_nil, N2, rdW, rdS]⟩)
noncomputable def F7 : Bp := con [mC, mC] false (Int × Int) (fun ⟨n, d⟩ => [.int .i64 n, .int .i64 d]) (fun _ => True) (fun ⟨n, d⟩ => .tup [.agg (Ax (Va n d)), .bool (inB n 2 10 && inB d 1 36)])
noncomputable def A86 : Env := ⟨A4 Bc, A4 [(76, Co)], [0, 1, 4, 5, 6, 14]⟩
set_option maxRecDepth 100000 in
set_option maxHeartbeats 4000000 in
theorem A9c : Bd A86 (Az Tryz.f122) Tryz.f122.results.toList F7 := by
  rintro ⟨n, d⟩ _
  refine ⟨trivial, ?_⟩
  repeat ((conv => whnf); first | refine ⟨fun h => h, ?_⟩ | refine ⟨(_, _, _), rfl, fun _ => trivial, ?_⟩)
  (conv => whnf); refine ⟨fun h1 => ?_, fun h1 => ?_⟩
  · have h1 : (!inB n 2 10 || !inB d 1 36) = true := h1
    have h2 : (inB n 2 10 && inB d 1 36) = false := by revert h1; cases inB n 2 10 <;> cases inB d 1 36 <;> simp
    skip
    rw [show F7.res (n, d) = .tup [.agg [.own 5 [], .own 1 []], .bool false] by show AV.tup [.agg (Ax (Va n d)), .bool (inB n 2 10 && inB d 1 36)] = _; rw [Va, h2]; rfl]
    exact ⟨trivial, ⟨⟨rfl, rfl⟩, ⟨rfl, rfl⟩, trivial⟩, rfl, trivial⟩
  · have h1 : (!inB n 2 10 || !inB d 1 36) = false := h1
    have h2 : (inB n 2 10 && inB d 1 36) = true := by revert h1; cases inB n 2 10 <;> cases inB d 1 36 <;> simp
    obtain ⟨p, rfl⟩ : ∃ p : Nat, n = ((p + 2 : Nat) : Int) := ⟨(n - 2).toNat, by simp [inB] at h2; omega⟩
    obtain ⟨q, rfl⟩ : ∃ q : Nat, d = (q : Int) := ⟨d.toNat, by simp [inB] at h2; omega⟩
    have h3 : p ≤ 8 ∧ q ≤ 36 := by simp [inB] at h2; omega
    repeat ((conv => whnf); first | refine ⟨(by kernel_rfl : C6 _ _ = true), ?_⟩ | refine ⟨bb, ?_⟩)
    refine ⟨Av Nd.zero, rfl, ?_⟩
    skip
    rw [show F7.res (((p + 2 : Nat) : Int), (q : Int)) = .tup [.agg [.own 5 (Av ⟨2, 0, 0, 0, []⟩ :: List.replicate (p + 1) (Av Nd.zero)), .own 1 (List.replicate q (A6 []))], .bool true] by
      show AV.tup [.agg (Ax (Va ((p + 2 : Nat) : Int) (q : Int))), .bool (inB ((p + 2 : Nat) : Int) 2 10 && inB (q : Int) 1 36)] = _
      rw [Va, h2]
      simp [Ax]
      omega]
    refine ⟨trivial, ⟨⟨rfl, ?_⟩, ⟨rfl, ?_⟩, trivial⟩, rfl, trivial⟩
    · refine congrArg (fun r => Av ⟨2, 0, 0, 0, []⟩ :: Av Nd.zero :: r) (?_ : _ = List.replicate p (Av Nd.zero))
      simp [Av, Nd.zero]
    · simp [A6]
theorem A3m : Ay Tryz.prog 122 F7 := Aq (Ch _ _) (FOk.cons E1 FOk.nil) mixed Tryz.func122 rfl Tryz.call122 (by decide) (by kernel_rfl) A9c (by intro _ (y : (Int × Int)) _; exact ⟨by simp [F7, con, Aa, A8, AV.noRd, A7, Ab, A5, A6, Ad, Ae, Ah, Ap, Al, Av, Ax], by simp [F7, con, Aa, A8, AV.noRd, A7, Ab, A5, A6, Ad, Ae, Ah, Ap, Al, Av, Ax]⟩) (by intro (y : (Int × Int)) _; first | (simp [F7, con, Aa, A8, Ag, AV.free, A2, A3, A1, A6, Ad, Ae, Ah, Ap, Al, Av, Ax]; done) | (obtain ⟨_, _⟩ := y; simp [F7, con, Aa, A8, Ag, AV.free, A2, A3, A1, A6, Ad, Ae, Ah, Ap, Al, Av, Ax]; done) | (obtain ⟨_, _, _⟩ := y; simp [F7, con, Aa, A8, Ag, AV.free, A2, A3, A1, A6, Ad, Ae, Ah, Ap, Al, Av, Ax]; done))
noncomputable def Ts : Bp := { F7 with sh := true, res := fun ((n, d) : Int × Int) => .tup [.agg (Al (Va n d)), .bool (inB n 2 10 && inB d 1 36)] }
theorem A32 : Ay Tryz.prog 122 Ts := Kg _ A3m (fun _ => rfl) rfl (fun (n, d) _ => ⟨rfl, by show 2 ≤ 16; omega, by simp only [F7, con, frz, Mb, Ax, Al, List.map_cons, List.map_nil, N2, rdW, rdS]⟩)
end Go.GH


set_option linter.unusedVariables false
set_option linter.unusedSimpArgs false
namespace Go.GH
open Go
def T8 (n : Nd) (k : Int) : Nd := ⟨k, n.gen, n.time, n.size, n.blocks⟩
def Vq (f : Fs) : Option Nat := f.nodes.findIdx? fun n => n.kind == 0
def C2 (f : Fs) (k : Int) : Fs × Int × Bool := if E3 f && inB k 1 3 then match Vq f with
    | some i => (⟨f.nodes.set i (T8 (f.nodes.getD i .zero) k), f.data⟩, i, true)
    | none => (f, -1, false)
  else (f, -1, false)
def clr (d : List Str) (b : Int) : List Str := d.set b.toNat []
def Le (d : List Str) (l : List Int) : List Str := l.foldl clr d
def Gi (f : Fs) (i : Int) : Nd := f.nodes.getD i.toNat .zero
def Gh (f : Fs) (i : Int) : Fs × Bool := if isN f i && i != 0 then (⟨f.nodes.set i.toNat .zero, Le f.data (Gi f i).blocks⟩, true) else (f, false)
def Mx (u : List Int) (n : Nat) : List Int := ((List.range n).filter fun b => u.getD b 0 == 0).map fun b => ((b : Nat) : Int)
def X0 (s : Str) (bs : List Int) (d : List Str) (k : Nat) : List Str := d.set (bs.getD k 0).toNat ((s.drop (k * 16)).take (X2 s.length k).toNat)
def Pb (s : Str) (bs : List Int) (k : Nat) (d : List Str) : List Str := (List.range k).foldl (X0 s bs) d
def need (s : Str) : Nat := (Fg s.length).toNat
def B01 (f : Fs) (i : Int) (s : Str) : List Int := (Gi f i).blocks.take (need s)
def Hh (f : Fs) (i : Int) (s : Str) : List Int := B01 f i s ++ (Mx (Ll f) f.data.length).take (need s - (B01 f i s).length)
def Mh (f : Fs) (i : Int) (s : Str) : Bool := isN f i && decide (s.length ≤ 80) && !decide ((Hh f i s).length < need s)
def Ta (f : Fs) (i : Int) (s : Str) : List Str := Pb s (Hh f i s) (need s) (Le f.data ((Gi f i).blocks.drop (need s)))
def Zo (n : Nd) (s : Str) (l : List Int) : Nd := ⟨n.kind, n.gen, n.time, s.length, l⟩
def Ba (f : Fs) (i : Int) (s : Str) : Fs × Bool := if Mh f i s then (⟨f.nodes.set i.toNat (Zo (Gi f i) s (Hh f i s)), Ta f i s⟩, true) else (f, false)
theorem Ls : ∀ (l : List Int) (d : List Str), (Le d l).length = d.length
  | [], d => rfl
  | b :: l, d => by
    show (Le (clr d b) l).length = _
    rw [Ls l]; simp [clr]
theorem Ur (s : Str) (bs : List Int) (d : List Str) : ∀ (k : Nat), (Pb s bs k d).length = d.length
  | 0 => rfl
  | k + 1 => by rw [Pb, List.range_succ, List.foldl_append]; show (X0 s bs (Pb s bs k d) k).length = _; rw [X0, List.length_set, Ur s bs d k]
theorem Xx (s : Str) (bs : List Int) (d : List Str) (k : Nat) : Pb s bs (k + 1) d = X0 s bs (Pb s bs k d) k := by
  rw [Pb, List.range_succ, List.foldl_append]; rfl
theorem A2e (u : List Int) (b : Nat) : Mx u (b + 1) = Mx u b ++ if u.getD b 0 == 0 then [((b : Nat) : Int)] else [] := by
  rw [Mx, List.range_succ, List.filter_append, List.map_append]
  show Mx u b ++ _ = _
  cases h : (u.getD b 0 == 0) <;> simp [h] <;> simp_all
theorem B59 (u : List Int) : ∀ {b n : Nat}, b ≤ n → ∃ r, Mx u n = Mx u b ++ r
  | b, n, h => by
    induction n with
    | zero => exact ⟨[], by simp [show b = 0 by omega]⟩
    | succ n ih =>
      rcases Nat.lt_or_ge b (n + 1) with h2 | h2
      · obtain ⟨r, hr⟩ := ih (by omega)
        rw [A2e, hr, List.append_assoc]
        exact ⟨_, rfl⟩
      · exact ⟨[], by rw [show b = n + 1 by omega]; simp⟩
theorem B5e {u : List Int} {n : Nat} {b : Int} (h : b ∈ Mx u n) : 0 ≤ b ∧ b < n := by
  simp only [Mx, List.mem_map, List.mem_filter, List.mem_range] at h
  obtain ⟨k, ⟨h1, _⟩, rfl⟩ := h
  omega
theorem A7s {f : Fs} {i : Int} (h : isN f i = true) : Oc f ∧ 0 ≤ i ∧ i.toNat < f.nodes.length ∧ f.nodes[i.toNat]? = some (Gi f i) ∧ (Gi f i).kind ≠ 0 := by
  simp only [isN, Bool.and_eq_true] at h
  obtain ⟨⟨h1, h2⟩, h3⟩ := h
  simp [inB] at h2
  refine ⟨W9 h1, by omega, by omega, ?_, by simpa [Gi] using h3⟩
  rw [Gi, List.getD_eq_getElem?_getD, List.getElem?_eq_getElem (by omega)]; rfl
theorem Tn {f : Fs} {i : Int} {s : Str} (h : isN f i = true) : ∀ b, b ∈ Hh f i s → 0 ≤ b ∧ b < f.data.length := by
  obtain ⟨hs, _, _, hn, _⟩ := A7s h
  intro b hb
  rcases List.mem_append.1 hb with hb | hb
  · exact hs.inr _ (List.mem_of_getElem? hn) b (List.mem_of_mem_take hb)
  · exact B5e (List.mem_of_mem_take hb)
theorem B9k {l : List Int} {k nd : Nat} {b : Int} (h : l[k]? = some b) (hk : k < nd) : (l.take (k + 1)).take nd = (l.take k).take nd ++ [b] ∧ (l.take (k + 1)).drop nd = (l.take k).drop nd := by
  have hl := (List.getElem?_eq_some_iff.1 h).1
  rw [Bm h]
  constructor
  · have a1 : (l.take k ++ [b]).take nd = l.take k ++ [b] := List.take_of_length_le (by simp; omega)
    have a2 : (l.take k).take nd = l.take k := List.take_of_length_le (by simp; omega)
    rw [a1, a2]
  · have a1 : (l.take k ++ [b]).drop nd = [] := List.drop_of_length_le (by simp; omega)
    have a2 : (l.take k).drop nd = [] := List.drop_of_length_le (by simp; omega)
    rw [a1, a2]
theorem B9l {l : List Int} {k nd : Nat} {b : Int} (h : l[k]? = some b) (hk : nd ≤ k) : (l.take (k + 1)).take nd = (l.take k).take nd ∧ (l.take (k + 1)).drop nd = (l.take k).drop nd ++ [b] := by
  have hl := (List.getElem?_eq_some_iff.1 h).1
  rw [Bm h]
  have h1 : (l.take k).length = k := by rw [List.length_take]; omega
  constructor
  · rw [List.take_append_of_le_length (by omega)]
  · rw [List.drop_append_of_le_length (by omega)]
theorem B5w (d : List Str) (l : List Int) (b : Int) : Le d (l ++ [b]) = (Le d l).set b.toNat [] := by rw [Le, List.foldl_append]; rfl
theorem B68 {u : List Int} {n b m : Nat} (h : b ≤ n) (hm : (Mx u b).length ≤ m) (hx : (Mx u b).length = m ∨ b = n) : Mx u b = (Mx u n).take m := by
  rcases hx with hx | rfl
  · obtain ⟨r, hr⟩ := B59 u h
    rw [hr, List.take_append_of_le_length (by omega), List.take_of_length_le (by omega)]
  · rw [List.take_of_length_le hm]
theorem B4k {s : Str} {k : Nat} (hs : s.length ≤ 80) (hk : k < need s) : 0 ≤ X2 s.length k ∧ k * 16 + (X2 s.length k).toNat ≤ s.length ∧ (X2 s.length k).toNat ≤ 16 := by
  have h1 : 16 * k < s.length := by
    unfold need at hk
    unfold Fg at hk
    split at hk
    · omega
    · split at hk
      · omega
      · rw [Int.tdiv_eq_ediv_of_nonneg (by omega)] at hk; omega
  unfold X2
  split <;> omega
theorem C00 {l : List Int} {k : Nat} (h : k < l.length) : l[k]? = some (l.getD k 0) := by
  rw [List.getD_eq_getElem?_getD, List.getElem?_eq_getElem h]; rfl
def Mp (f : Fs) (s : List Int) : Prop := s.length = f.nodes.length ∧ ∀ k, 0 ≤ s.getD k 0 ∧ s.getD k 0 ≤ 1
theorem B4a {f : Fs} {s : List Int} {i : Nat} (h : Mp f s) (h1 : ¬ (Na s i).getD i 0 > 1) : Mp f (Na s i) := by
  refine ⟨by rw [Na, List.length_set]; exact h.1, fun k => ?_⟩
  have hk := h.2 k
  have hi := h.2 i
  unfold Na at h1 ⊢
  rw [Sw] at h1 ⊢
  by_cases e : i = k ∧ k < s.length
  · obtain ⟨rfl, e⟩ := e
    rw [if_pos ⟨rfl, e⟩] at h1 ⊢
    omega
  · rw [if_neg e]; exact hk
theorem B1h {rec : Nat → List Int → List Int × Bool} {f : Fs} {i : Nat} (hr : ∀ i s, Mp f s → (rec i s).2 = true → Mp f (rec i s).1) : ∀ {l : List En} {o : List Int}, Mp f o → (Rj rec f i l o).2 = true → Mp f (Rj rec f i l o).1
  | [], o, ho, h => ho
  | e :: l, o, ho, h => by
    rw [Rj] at h ⊢
    split
    · exact ho
    · rename_i h1
      rw [if_neg h1] at h
      split
      · rename_i h2
        rw [if_pos h2] at h
        exact B1h hr (hr _ _ ho h2) h
      · exact ho
theorem A1h {f : Fs} : ∀ {d i : Nat} {s : List Int}, Mp f s → (G6 f d i s).2 = true → Mp f (G6 f d i s).1
  | 0, i, s, hs, h => by cases h
  | d + 1, i, s, hs, h => by
    rw [G6] at h ⊢
    split
    · rename_i h1; rw [if_pos h1] at h; cases h
    · rename_i h1
      rw [if_neg h1] at h
      have hb := B4a hs h1
      split
      · exact hb
      · rename_i h2
        rw [if_neg h2] at h
        split
        · exact hb
        · rename_i l hl
          rw [hl] at h
          exact B1h (fun i s hs h => A1h hs h) hb h
theorem Mg {f : Fs} {i : Nat} {n : Nd} (h : f.nodes[i]? = some n) : Jt f i = n.kind := by
  rw [Jt, List.getD_eq_getElem?_getD, h]; rfl
theorem B0o (f : Fs) : Mp f (zrs f.nodes.length) := ⟨by simp [zrs], fun k => by rw [zrs, Ti]; omega⟩
theorem T6 {f : Fs} {i : Nat} (h : (H4 f i).isSome = true) : H4 f i = some ((H4 f i).getD []) := by
  cases hd : H4 f i with
  | none => rw [hd] at h; cases h
  | some l => rfl
end Go.GH


set_option linter.unusedVariables false
set_option linter.unusedSimpArgs false
namespace Go.GH
open Go Go.Proofs
noncomputable def Dy : Bp := con [.rd [some 5, some 1], mC] false (Fs × Int) (fun ⟨f, k⟩ => [.agg (Al f), .int .i64 k]) (fun x => smF x.1) (fun ⟨f, k⟩ => .tup [.agg (Ax (C2 f k).1), .int .i64 (C2 f k).2.1, .bool (C2 f k).2.2])
noncomputable def Z3 : Env := ⟨A4 Bc, A4 [(76, Co), (158, Ef), (162, Dx)], [0, 1, 2, 4, 5, 6, 7, 8, 18, 24, 33]⟩
set_option maxRecDepth 100000 in
set_option maxHeartbeats 4000000 in
theorem Yx : Bd Z3 (Az Tryz.f189) Tryz.f189.results.toList Dy := by
  rintro ⟨f, kd⟩ hsm
  have hsm : smF f := hsm
  have hnl := hsm.1
  refine ⟨trivial, ?_⟩
  have fin : ∀ {r : Fs × Int × Bool}, r = C2 f kd → Dy.res (f, kd) = .tup [.agg (Ax r.1), .int .i64 r.2.1, .bool r.2.2] := fun h => by rw [h]; rfl
  skip
  refine ⟨f, by (repeat' (first | refine Bn ?_ ?_ | refine Bu ?_ | refine Bh ?_ | refine Bs ?_ | exact rfl)) <;> simp [rdI, rdO, rdE, rdB, rdN, rdS, rdD, rdW, tkM], fun _ => hsm, ?_⟩
  skip
  refine ⟨f, by (repeat' (first | refine Bn ?_ ?_ | refine Bu ?_ | refine Bh ?_ | refine Bs ?_ | exact rfl)) <;> simp [rdI, rdO, rdE, rdB, rdN, rdS, rdD, rdW, tkM], fun _ => hsm, ?_⟩
  repeat ((conv => whnf); first | refine ⟨fun h => h, ?_⟩ | refine ⟨(_, _, _), rfl, fun _ => trivial, ?_⟩)
  (conv => whnf); refine ⟨fun h1 => ?_, fun h1 => ?_⟩
  · have h1 : (!E3 f || !inB kd 1 3) = true := h1
    have hd : (f, -1, false) = C2 f kd := by rw [C2, if_neg]; revert h1; cases E3 f <;> cases inB kd 1 3 <;> simp
    skip
    rw [fin hd]
    exact ⟨trivial, ⟨⟨rfl, by simp [tkM]⟩, ⟨rfl, by simp [tkM]⟩, trivial⟩, rfl, rfl, trivial⟩
  have h1 : (!E3 f || !inB kd 1 3) = false := h1
  have h1' : (E3 f && inB kd 1 3) = true := by revert h1; cases E3 f <;> cases inB kd 1 3 <;> simp
  have hnm : C2 f kd = match Vq f with
    | some i => (⟨f.nodes.set i (T8 (f.nodes.getD i .zero) kd), f.data⟩, i, true)
    | none => (f, -1, false) := by rw [C2, if_pos h1'] <;> (cases Vq f <;> rfl)
  skip
  refine B2 (fun i : Nat => ⟨[(1, ⟨none, .int .i64 kd⟩), (2, ⟨none, .bx 0 0⟩), (4, ⟨none, .bx 1 0⟩), (7, ⟨none, .bx 2 0⟩), (8, ⟨none, .int .i64 i⟩)], [(0, .own 2 [Al f]), (1, .own 2 [[.own 5 [], .own 1 []]]), (2, .own 2 [Ax f])], 3⟩) (fun i => i ≤ f.nodes.length ∧ ∀ n, n ∈ f.nodes.take i → (n.kind == 0) = false) (fun i => f.nodes.length - i) 0 ?_ ⟨Nat.zero_le _, fun n hn => absurd hn (by simp)⟩ ?_
  · (refine ⟨?_, ?_, rfl⟩ <;> repeat' (first | exact rfl | exact trivial | refine ⟨?_, ?_⟩ | fail) <;> (conv => whnf))
    all_goals simp [tkM, Bw, Ax]
  rintro i ⟨hi, hI⟩
  (conv => whnf); refine ⟨fun h2 => ?_, fun h2 => ?_⟩
  · have h2 : i < f.nodes.length := by simpa using h2
    obtain ⟨n, hn⟩ := B7 h2
    repeat ((conv => whnf); refine ⟨Ap n, fun _ => ⟨by omega, Am hn⟩, ?_⟩)
    (conv => whnf); refine ⟨fun h3 => ?_, fun h3 => ?_⟩
    · have h3 : (n.kind == 0) = true := h3
      have hfr : Vq f = some i := by
        rw [Vq, List.findIdx?_eq_some_iff_getElem]
        refine ⟨h2, ?_, fun j hj => ?_⟩
        · rw [List.getElem?_eq_getElem h2] at hn
          rw [Option.some.inj hn]; exact h3
        · have := hI f.nodes[j] (by rw [List.mem_iff_getElem?]; exact ⟨j, by rw [List.getElem?_take, if_pos hj, List.getElem?_eq_getElem]⟩)
          rw [this]; decide
      have hd : (⟨f.nodes.set i (T8 n kd), f.data⟩, (i : Int), true) = C2 f kd := by
        rw [hnm, hfr]
        simp only [List.getD_eq_getElem?_getD, hn]; rfl
      repeat ((conv => whnf); first | refine ⟨bb, ?_⟩ | refine ⟨Av n, by rw [Nat.zero_add]; exact Am hn, ?_⟩)
      rw [fin hd]
      refine ⟨trivial, ⟨⟨rfl, ?_⟩, ⟨rfl, ?_⟩, trivial⟩, rfl, rfl, trivial⟩
      all_goals simp [tkM, List.map_set, Av, T8, List.take_of_length_le]
    · have h3 : (n.kind == 0) = false := h3
      repeat ((conv => whnf); refine ⟨_, w64 (bb), ?_⟩)
      refine C5 (i + 1) ?_ ⟨h2, fun m hm => ?_⟩ (by first | omega | (simp; done) | (simp; omega))
      · (refine ⟨?_, ?_, rfl⟩ <;> repeat' (first | exact rfl | exact trivial | refine ⟨?_, ?_⟩ | fail) <;> (conv => whnf))
      · rw [Bm hn, List.mem_append] at hm
        rcases hm with hm | hm
        · exact hI m hm
        · rw [List.mem_singleton] at hm; subst hm; exact h3
  have h2 : i = f.nodes.length := by have : ¬ (i < f.nodes.length) := by simpa using h2
                                     omega
  subst h2
  rw [List.take_length] at hI
  have hfr : Vq f = none := by rw [Vq, List.findIdx?_eq_none_iff]; exact hI
  have hd : (f, -1, false) = C2 f kd := by rw [hnm, hfr]
  skip
  rw [fin hd]
  exact ⟨trivial, ⟨⟨rfl, by simp [tkM]⟩, ⟨rfl, by simp [tkM]⟩, trivial⟩, rfl, rfl, trivial⟩
theorem Xa : Ay Tryz.prog 189 Dy := Aq (Ch _ _) (FOk.cons E1 (FOk.cons Mq (FOk.cons Ks FOk.nil))) mixed Tryz.func189 rfl Tryz.call189 (by decide) (by kernel_rfl) Yx (by intro _ (y : (Fs × Int)) _; exact ⟨by simp [Dy, con, Aa, A8, AV.noRd, A7, Ab, A5, A6, Ad, Ae, Ah, Ap, Al, Av, Ax], by simp [Dy, con, Aa, A8, AV.noRd, A7, Ab, A5, A6, Ad, Ae, Ah, Ap, Al, Av, Ax]⟩) (by intro (y : (Fs × Int)) _; first | (simp [Dy, con, Aa, A8, Ag, AV.free, A2, A3, A1, A6, Ad, Ae, Ah, Ap, Al, Av, Ax]; done) | (obtain ⟨_, _⟩ := y; simp [Dy, con, Aa, A8, Ag, AV.free, A2, A3, A1, A6, Ad, Ae, Ah, Ap, Al, Av, Ax]; done) | (obtain ⟨_, _, _⟩ := y; simp [Dy, con, Aa, A8, Ag, AV.free, A2, A3, A1, A6, Ad, Ae, Ah, Ap, Al, Av, Ax]; done))
noncomputable def Ps : Bp := { Dy with sh := true, res := fun ((f, k) : Fs × Int) => .tup [.agg (Al (C2 f k).1), .int .i64 (C2 f k).2.1, .bool (C2 f k).2.2] }
theorem W3 : Ay Tryz.prog 189 Ps := Kg _ Xa (fun _ => rfl) rfl (fun (f, k) _ => ⟨rfl, by show 2 ≤ 16; omega, by simp only [Dy, con, frz, Mb, Ax, Al, List.map_cons, List.map_nil, N2, rdW, rdS]⟩)
noncomputable def Ds : Bp := con [.rd [some 5, some 1], mC] false (Fs × Int) (fun ⟨f, k⟩ => [.agg (Al f), .int .i64 k]) (fun x => smF x.1) (fun ⟨f, k⟩ => .tup [.agg (Ax (Gh f k).1), .bool (Gh f k).2])
noncomputable def Yh : Env := ⟨A4 Bc, A4 [(162, Dx), (191, Hs)], [0, 1, 2, 4, 5, 6, 7, 17, 27]⟩
set_option maxRecDepth 100000 in
set_option maxHeartbeats 4000000 in
theorem Yl : Bd Yh (Az Tryz.f169) Tryz.f169.results.toList Ds := by
  rintro ⟨f, i⟩ hsm
  have hsm : smF f := hsm
  have hnl := hsm.1
  refine ⟨trivial, ?_⟩
  have fin : ∀ {r : Fs × Bool}, r = Gh f i → Ds.res (f, i) = .tup [.agg (Ax r.1), .bool r.2] := fun h => by rw [h]; rfl
  skip
  refine ⟨f, by (repeat' (first | refine Bn ?_ ?_ | refine Bu ?_ | refine Bh ?_ | refine Bs ?_ | exact rfl)) <;> simp [rdI, rdO, rdE, rdB, rdN, rdS, rdD, rdW, tkM], fun _ => hsm, ?_⟩
  skip
  refine ⟨(f, i), by (repeat' (first | refine Bn ?_ ?_ | refine Bu ?_ | refine Bh ?_ | refine Bs ?_ | exact rfl)) <;> simp [rdI, rdO, rdE, rdB, rdN, rdS, rdD, rdW, tkM], fun _ => hsm, ?_⟩
  repeat ((conv => whnf); refine ⟨fun h => h, ?_⟩)
  (conv => whnf); refine ⟨fun h1 => ?_, fun h1 => ?_⟩
  · have h1 : (!isN f i || i == 0) = true := h1
    have hd : (f, false) = Gh f i := by rw [Gh, if_neg]; revert h1; cases isN f i <;> cases hi : (i == 0) <;> simp [bne, hi]
    skip
    rw [fin hd]
    exact ⟨trivial, ⟨⟨rfl, by simp [tkM]⟩, ⟨rfl, by simp [tkM]⟩, trivial⟩, rfl, trivial⟩
  have h1 : (!isN f i || i == 0) = false := h1
  have h1' : (isN f i && i != 0) = true := by revert h1; cases isN f i <;> cases hi : (i == 0) <;> simp [bne, hi]
  have hin : isN f i = true := by revert h1'; cases isN f i <;> simp
  have hd : (⟨f.nodes.set i.toNat .zero, Le f.data (Gi f i).blocks⟩, true) = Gh f i := by rw [Gh, if_pos h1']
  obtain ⟨hsh, hi0, hil, hn, hk⟩ := A7s hin
  generalize Gi f i = n at hn hk hd
  obtain ⟨j, rfl⟩ : ∃ j : Nat, i = j := ⟨i.toNat, by omega⟩
  rw [Int.toNat_natCast] at hil hn hd
  have hbn := hsm.2.2.1 n (List.mem_of_getElem? hn)
  have hrn := hsh.inr n (List.mem_of_getElem? hn)
  skip
  refine B2 (fun k : Nat => ⟨[(1, ⟨none, .int .i64 j⟩), (2, ⟨none, .bx 0 0⟩), (4, ⟨none, .bx 1 0⟩), (6, ⟨none, .bx 2 0⟩), (7, ⟨none, .int .i64 k⟩)], [(0, .own 2 [Al f]), (1, .own 2 [[.own 5 [], .own 1 []]]), (2, .own 2 [[.own 5 (f.nodes.map Av), .own 1 ((Le f.data (n.blocks.take k)).map A6)]])], 3⟩) (fun k => k ≤ n.blocks.length) (fun k => n.blocks.length - k) 0 ?_ (Nat.zero_le _) ?_
  · (refine ⟨?_, ?_, rfl⟩ <;> repeat' (first | exact rfl | exact trivial | refine ⟨?_, ?_⟩ | fail) <;> (conv => whnf))
    all_goals simp [tkM, Le, Bw]
  intro k hk
  have hk : k ≤ n.blocks.length := hk
  have hdl := Ls (n.blocks.take k) f.data
  repeat ((conv => whnf); refine ⟨Ap n, fun _ => ⟨by omega, Am hn⟩, ?_⟩)
  (conv => whnf); refine ⟨fun h2 => ?_, fun h2 => ?_⟩
  · have h2 : k < n.blocks.length := by simpa using h2
    obtain ⟨b, hb⟩ := B7 h2
    have hb2 := hrn b (List.mem_of_getElem? hb)
    obtain ⟨s, hs1⟩ := B7 (l := Le f.data (n.blocks.take k)) (i := b.toNat) (by omega)
    have hst : Le f.data (n.blocks.take (k + 1)) = (Le f.data (n.blocks.take k)).set b.toNat [] := by rw [Bm hb, Le, List.foldl_append]; rfl
    repeat ((conv => whnf); first | refine ⟨(by kernel_rfl : C6 _ _ = true), ?_⟩ | refine ⟨_, w64 (bb), ?_⟩ | refine ⟨bb, ?_⟩ | refine ⟨Ap n, fun _ => ⟨by omega, Am hn⟩, ?_⟩ | refine ⟨Ad b, fun _ => ⟨by omega, Am hb⟩, ?_⟩ | refine ⟨A6 s, by rw [Nat.zero_add]; exact Am hs1, ?_⟩)
    refine C5 (k + 1) ?_ h2 (by first | omega | (simp; done) | (simp; omega))
    rw [hst]
    (refine ⟨?_, ?_, rfl⟩ <;> repeat' (first | exact rfl | exact trivial | refine ⟨?_, ?_⟩ | fail) <;> (conv => whnf))
    all_goals (rw [List.map_set, show 0 + b.toNat = b.toNat from Nat.zero_add _]; rfl)
  have h2 : k = n.blocks.length := by have : ¬ (k < n.blocks.length) := by simpa using h2
                                      omega
  subst h2
  rw [List.take_length]
  repeat ((conv => whnf); first | refine ⟨bb, ?_⟩ | refine ⟨Av n, by rw [Nat.zero_add]; exact Am hn, ?_⟩)
  rw [fin hd]
  refine ⟨trivial, ⟨⟨rfl, ?_⟩, ⟨rfl, ?_⟩, trivial⟩, rfl, trivial⟩ <;> simp [tkM, List.map_set, Av, Nd.zero, List.take_of_length_le, Bw]
theorem Xe : Ay Tryz.prog 169 Ds := Aq (Ch _ _) (FOk.cons Ks (FOk.cons W8 FOk.nil)) mixed Tryz.func169 rfl Tryz.call169 (by decide) (by kernel_rfl) Yl (by intro _ (y : (Fs × Int)) _; exact ⟨by simp [Ds, con, Aa, A8, AV.noRd, A7, Ab, A5, A6, Ad, Ae, Ah, Ap, Al, Av, Ax], by simp [Ds, con, Aa, A8, AV.noRd, A7, Ab, A5, A6, Ad, Ae, Ah, Ap, Al, Av, Ax]⟩) (by intro (y : (Fs × Int)) _; first | (simp [Ds, con, Aa, A8, Ag, AV.free, A2, A3, A1, A6, Ad, Ae, Ah, Ap, Al, Av, Ax]; done) | (obtain ⟨_, _⟩ := y; simp [Ds, con, Aa, A8, Ag, AV.free, A2, A3, A1, A6, Ad, Ae, Ah, Ap, Al, Av, Ax]; done) | (obtain ⟨_, _, _⟩ := y; simp [Ds, con, Aa, A8, Ag, AV.free, A2, A3, A1, A6, Ad, Ae, Ah, Ap, Al, Av, Ax]; done))
noncomputable def Pw : Bp := { Ds with sh := true, res := fun ((f, k) : Fs × Int) => .tup [.agg (Al (Gh f k).1), .bool (Gh f k).2] }
theorem Vp : Ay Tryz.prog 169 Pw := Kg _ Xe (fun _ => rfl) rfl (fun (f, k) _ => ⟨rfl, by show 2 ≤ 16; omega, by simp only [Ds, con, frz, Mb, Ax, Al, List.map_cons, List.map_nil, N2, rdW, rdS]⟩)
end Go.GH


set_option linter.unusedVariables false
set_option linter.unusedSimpArgs false
namespace Go.GH
open Go Go.Proofs
noncomputable def D4 : Bp := con [.rd [some 5, some 1], mC, mC] false (Fs × Int × Str) (fun ⟨f, i, s⟩ => [.agg (Al f), .int .i64 i, .str s]) (fun x => smF x.1 ∧ x.2.2.length ≤ 4611686018427387904) (fun ⟨f, i, s⟩ => .tup [.agg (Ax (Ba f i s).1), .bool (Ba f i s).2])
noncomputable def Xk : Env := ⟨A4 Bc, A4 [(162, Dx), (185, Ep), (186, Ft), (191, Hs), (194, E2)], [0, 1, 2, 3, 6, 7, 8, 9, 10, 11, 12, 13, 14, 15, 26, 42, 47, 82, 89, 97, 102]⟩
set_option maxRecDepth 100000 in
set_option maxHeartbeats 4000000 in
theorem Wi : Bd Xk (Az Tryz.f171) Tryz.f171.results.toList D4 := by
  rintro ⟨f, i, s⟩ hx
  obtain ⟨hsm, hsl⟩ : smF f ∧ s.length ≤ 4611686018427387904 := hx
  have hnl := hsm.1
  have hdl0 := hsm.2.1
  refine ⟨trivial, ?_⟩
  have fin : ∀ {r : Fs × Bool}, r = Ba f i s → D4.res (f, i, s) = .tup [.agg (Ax r.1), .bool r.2] := fun h => by rw [h]; rfl
  skip
  refine ⟨f, by (repeat' (first | refine Bn ?_ ?_ | refine Bu ?_ | refine Bh ?_ | refine Bs ?_ | exact rfl)) <;> simp [rdI, rdO, rdE, rdB, rdN, rdS, rdD, rdW, tkM], fun _ => hsm, ?_⟩
  skip
  refine ⟨(f, i), by (repeat' (first | refine Bn ?_ ?_ | refine Bu ?_ | refine Bh ?_ | refine Bs ?_ | exact rfl)) <;> simp [rdI, rdO, rdE, rdB, rdN, rdS, rdD, rdW, tkM], fun _ => hsm, ?_⟩
  repeat ((conv => whnf); refine ⟨fun h => h, ?_⟩)
  (conv => whnf); refine ⟨fun h1 => ?_, fun h1 => ?_⟩
  · have h1 : (!isN f i || decide ((s.length : Int) > 80)) = true := h1
    have hd : (f, false) = Ba f i s := by
      rw [Ba, if_neg]
      rw [Mh]
      by_cases h2 : s.length ≤ 80
      · have : isN f i = false := by
          rw [Bool.or_eq_true] at h1
          rcases h1 with h1 | h1
          · simpa using h1
          · simp at h1; omega
        rw [this]; simp
      · simp [h2]
    skip
    rw [fin hd]
    exact ⟨trivial, ⟨⟨rfl, by simp [tkM]⟩, ⟨rfl, by simp [tkM]⟩, trivial⟩, rfl, trivial⟩
  have h1 : (!isN f i || decide ((s.length : Int) > 80)) = false := h1
  rw [Bool.or_eq_false_iff] at h1
  obtain ⟨h1, h2⟩ := h1
  have hin : isN f i = true := by simpa using h1
  have hs80 : s.length ≤ 80 := by simp at h2; omega
  have hcw : Mh f i s = !decide ((Hh f i s).length < need s) := by rw [Mh, hin]; simp [hs80]
  have hnb := fun b hb => Tn (s := s) hin b hb
  have hbf := Q8 (s.length : Int)
  have hneed : (need s : Int) = Fg (s.length : Int) := by rw [need]; omega
  obtain ⟨hsh, hi0, hil, hn, hk⟩ := A7s hin
  have hkp : B01 f i s = (Gi f i).blocks.take (need s) := rfl
  have hnbd : Hh f i s = B01 f i s ++ (Mx (Ll f) f.data.length).take (need s - (B01 f i s).length) := rfl
  have hndd : Ta f i s = Pb s (Hh f i s) (need s) (Le f.data ((Gi f i).blocks.drop (need s))) := rfl
  have hnn : Ba f i s = if Mh f i s then (⟨f.nodes.set i.toNat (Zo (Gi f i) s (Hh f i s)), Ta f i s⟩, true) else (f, false) := rfl
  generalize Ta f i s = ND at hndd hnn
  generalize Hh f i s = NB at hnb hnbd hndd hnn hcw
  generalize B01 f i s = KP at hkp hnbd
  generalize Gi f i = n at hn hk hkp hndd hnn
  obtain ⟨j, rfl⟩ : ∃ j : Nat, i = j := ⟨i.toNat, by omega⟩
  rw [Int.toNat_natCast] at hil hn hnn
  have hbn := Q2 (hsh.all n (List.mem_of_getElem? hn))
  have hrn := hsh.inr n (List.mem_of_getElem? hn)
  skip
  refine ⟨f, by (repeat' (first | refine Bn ?_ ?_ | refine Bu ?_ | refine Bh ?_ | refine Bs ?_ | exact rfl)) <;> simp [rdI, rdO, rdE, rdB, rdN, rdS, rdD, rdW, tkM], fun _ => hsm, ?_⟩
  skip
  refine ⟨(s.length : Int), rfl, fun _ => trivial, ?_⟩
  skip
  refine B2
    (fun ((k, bl, dt) : Nat × List Int × List Str) => ⟨[(1, ⟨none, .int .i64 j⟩), (2, ⟨none, .str s⟩), (3, ⟨none, .bx 0 0⟩), (6, ⟨none, .bx 1 0⟩), (8, ⟨none, .bx 2 0⟩), (9, ⟨none, .view 3 [] 0 (Ll f).length⟩), (10, ⟨none, .int .i64 (need s)⟩), (11, ⟨none, .view 4 [] 0 bl.length⟩), (12, ⟨none, .int .i64 k⟩)], [(0, .own 2 [Al f]), (1, .own 2 [[.own 5 [], .own 1 []]]), (2, .own 2 [[.own 5 (f.nodes.map Av), .own 1 (dt.map A6)]]), (3, .own 1 ((Ll f).map Ad)), (4, .own 1 (bl.map Ad))], 5⟩)
    (fun (k, bl, dt) => k ≤ n.blocks.length ∧ bl = (n.blocks.take k).take (need s) ∧ dt = Le f.data ((n.blocks.take k).drop (need s))) (fun x => n.blocks.length - x.1) (0, [], f.data) ?_ ⟨Nat.zero_le _, by simp, by simp [Le]⟩ ?_
  · (refine ⟨?_, ?_, rfl⟩ <;> repeat' (first | exact rfl | exact trivial | refine ⟨?_, ?_⟩ | fail) <;> (conv => whnf))
    all_goals first | exact hneed.symm | simp [tkM, Bw]
  rintro ⟨k, bl, dt⟩ ⟨hk, hbl, hdt⟩
  have hbl5 : bl.length ≤ 5 := by rw [hbl]; simp; omega
  repeat ((conv => whnf); refine ⟨Ap n, fun _ => ⟨by omega, Am hn⟩, ?_⟩)
  (conv => whnf); refine ⟨fun h3 => ?_, fun h3 => ?_⟩
  · have h3 : k < n.blocks.length := by simpa using h3
    obtain ⟨b, hb⟩ := B7 h3
    have hb2 := hrn b (List.mem_of_getElem? hb)
    skip
    (conv => whnf); refine ⟨fun h4 => ?_, fun h4 => ?_⟩
    · have h4 : k < need s := by have h4 : decide ((k : Int) < (need s : Nat)) = true := h4
                                 simp at h4; omega
      obtain ⟨e1, e2⟩ := B9k hb h4
      repeat ((conv => whnf); first | refine ⟨_, w64 (bb), ?_⟩ | refine ⟨bb, ?_⟩ | refine ⟨fun (r : List AV) hr c hc => by simp [A6] at hr; (try subst hr); simp at hc; (try subst hc); rfl, ?_⟩ | refine ⟨Ap n, fun _ => ⟨by omega, Am hn⟩, ?_⟩ | refine ⟨Ad b, fun _ => ⟨by omega, Am hb⟩, ?_⟩)
      refine C5 (k + 1, bl ++ [b], dt) ?_ ⟨h3, by rw [e1, hbl], by rw [e2, hdt]⟩ (by first | omega | (simp; done) | (simp; omega))
      (refine ⟨?_, ?_, rfl⟩ <;> repeat' (first | exact rfl | exact trivial | refine ⟨?_, ?_⟩ | fail) <;> (conv => whnf))
      all_goals simp [tkM, Ad]
    · have h4 : need s ≤ k := by have h4 : decide ((k : Int) < (need s : Nat)) = false := h4
                                 simp at h4; omega
      obtain ⟨e1, e2⟩ := B9l hb h4
      have hdl := Ls ((n.blocks.take k).drop (need s)) f.data
      rw [← hdt] at hdl
      obtain ⟨x, hx⟩ := B7 (l := dt) (i := b.toNat) (by omega)
      repeat ((conv => whnf); first | refine ⟨(by kernel_rfl : C6 _ _ = true), ?_⟩ | refine ⟨_, w64 (bb), ?_⟩ | refine ⟨bb, ?_⟩ | refine ⟨Ap n, fun _ => ⟨by omega, Am hn⟩, ?_⟩ | refine ⟨Ad b, fun _ => ⟨by omega, Am hb⟩, ?_⟩ | refine ⟨A6 x, by rw [Nat.zero_add]; exact Am hx, ?_⟩)
      refine C5 (k + 1, bl, dt.set b.toNat []) ?_ ⟨h3, by rw [e1, hbl], by rw [e2, B5w, hdt]⟩ (by first | omega | (simp; done) | (simp; omega))
      (refine ⟨?_, ?_, rfl⟩ <;> repeat' (first | exact rfl | exact trivial | refine ⟨?_, ?_⟩ | fail) <;> (conv => whnf))
      all_goals (rw [List.map_set, show 0 + b.toNat = b.toNat from Nat.zero_add _]; rfl)
  have h3 : k = n.blocks.length := by have : ¬ (k < n.blocks.length) := by simpa using h3
                                      omega
  subst h3
  rw [List.take_length] at hbl hdt
  rw [← hdt] at hndd
  rw [← hkp] at hbl
  subst hbl
  have hdl := Ls (n.blocks.drop (need s)) f.data
  rw [← hdt] at hdl
  have hul : (Ll f).length = f.data.length + 1 := Th _ _
  have hkl : bl.length ≤ need s := by rw [hkp, List.length_take]; omega
  have hn5 : need s ≤ 5 := by omega
  skip
  refine B2
    (fun ((k, bl, dt) : Nat × List Int × List Str) => ⟨[(1, ⟨none, .int .i64 j⟩), (2, ⟨none, .str s⟩), (3, ⟨none, .bx 0 0⟩), (6, ⟨none, .bx 1 0⟩), (8, ⟨none, .bx 2 0⟩), (9, ⟨none, .view 3 [] 0 (Ll f).length⟩), (10, ⟨none, .int .i64 (need s)⟩), (11, ⟨none, .view 4 [] 0 bl.length⟩), (13, ⟨none, .int .i64 k⟩)], [(0, .own 2 [Al f]), (1, .own 2 [[.own 5 [], .own 1 []]]), (2, .own 2 [[.own 5 (f.nodes.map Av), .own 1 (dt.map A6)]]), (3, .own 1 ((Ll f).map Ad)), (4, .own 1 (bl.map Ad))], 5⟩)
    (fun (b, l, d) => b ≤ f.data.length ∧ l = bl ++ Mx (Ll f) b ∧ l.length ≤ need s ∧ d = dt) (fun x => f.data.length - x.1) (0, bl, dt) ?_ ⟨Nat.zero_le _, by simp [Mx], hkl, rfl⟩ ?_
  · (refine ⟨?_, ?_, rfl⟩ <;> repeat' (first | exact rfl | exact trivial | refine ⟨?_, ?_⟩ | fail) <;> (conv => whnf))
  rintro ⟨b, l, d⟩ ⟨hb, hl, hll, rfl⟩
  repeat ((conv => whnf); refine ⟨fun h => h, ?_⟩)
  (conv => whnf); refine ⟨fun h4 => ?_, fun h4 => ?_⟩
  · have h4 : b < f.data.length ∧ l.length < need s := by
      have h4 : (decide ((b : Int) < ((f.data.map A6).length : Nat)) && decide ((l.length : Int) < (need s : Nat))) = true := h4
      simp at h4; omega
    obtain ⟨u, hu⟩ := B7 (l := Ll f) (i := b) (by omega)
    have hu2 : (Ll f).getD b 0 = u := by rw [List.getD_eq_getElem?_getD, hu]; rfl
    have hfs := A2e (Ll f) b
    rw [hu2] at hfs
    repeat ((conv => whnf); first | refine ⟨bb, ?_⟩ | refine ⟨Ad u, fun _ => by rw [Nat.zero_add]; exact Am hu, ?_⟩)
    (conv => whnf); refine ⟨fun h5 => ?_, fun h5 => ?_⟩
    · have h5 : (u == 0) = true := h5
      rw [h5, if_pos rfl] at hfs
      repeat ((conv => whnf); first | refine ⟨_, w64 (bb), ?_⟩ | refine ⟨bb, ?_⟩ | refine ⟨fun (r : List AV) hr c hc => by simp [A6] at hr; (try subst hr); simp at hc; (try subst hc); rfl, ?_⟩)
      refine C5 (b + 1, l ++ [(b : Int)], d) ?_ ⟨h4.1, by rw [hfs, hl, List.append_assoc], by simp; omega, rfl⟩ (by first | omega | (simp; done) | (simp; omega))
      (refine ⟨?_, ?_, rfl⟩ <;> repeat' (first | exact rfl | exact trivial | refine ⟨?_, ?_⟩ | fail) <;> (conv => whnf))
      all_goals simp [tkM, Ad]
    · have h5 : (u == 0) = false := h5
      rw [h5] at hfs
      repeat ((conv => whnf); refine ⟨_, w64 (bb), ?_⟩)
      refine C5 (b + 1, l, d) ?_ ⟨h4.1, by rw [hfs, hl]; simp, hll, rfl⟩ (by first | omega | (simp; done) | (simp; omega))
      (refine ⟨?_, ?_, rfl⟩ <;> repeat' (first | exact rfl | exact trivial | refine ⟨?_, ?_⟩ | fail) <;> (conv => whnf))
  have h4 : b = f.data.length ∨ l.length = need s := by
    have h4 : (decide ((b : Int) < ((f.data.map A6).length : Nat)) && decide ((l.length : Int) < (need s : Nat))) = false := h4
    simp at h4; omega
  have hNB : NB = l := by
    rw [hnbd, hl]
    congr 1
    rw [hl] at hll h4
    rw [List.length_append] at hll h4
    exact (B68 hb (by omega) (by omega)).symm
  subst hNB
  skip
  (conv => whnf); refine ⟨fun h5 => ?_, fun h5 => ?_⟩
  · have h5 : NB.length < need s := by have h5 : decide ((NB.length : Int) < (need s : Nat)) = true := h5
                                       simp at h5; omega
    have hd : (f, false) = Ba f j s := by rw [hnn, hcw]; simp [h5]
    skip
    refine ⟨f, by (repeat' (first | refine Bn ?_ ?_ | refine Bu ?_ | refine Bh ?_ | refine Bs ?_ | exact rfl)) <;> simp [rdI, rdO, rdE, rdB, rdN, rdS, rdD, rdW, tkM], fun _ => hsm, ?_⟩
    skip
    rw [fin hd]
    exact ⟨trivial, ⟨⟨rfl, by simp [tkM]⟩, ⟨rfl, by simp [tkM]⟩, trivial⟩, rfl, trivial⟩
  have h5 : ¬ NB.length < need s := by have h5 : decide ((NB.length : Int) < (need s : Nat)) = false := h5
                                       simp at h5; omega
  have hd : (⟨f.nodes.set j (Zo n s NB), ND⟩, true) = Ba f j s := by rw [hnn, hcw]; simp [h5]
  skip
  refine B2
    (fun ((k, bl, dt) : Nat × List Int × List Str) => ⟨[(1, ⟨none, .int .i64 j⟩), (2, ⟨none, .str s⟩), (3, ⟨none, .bx 0 0⟩), (6, ⟨none, .bx 1 0⟩), (8, ⟨none, .bx 2 0⟩), (9, ⟨none, .view 3 [] 0 (Ll f).length⟩), (10, ⟨none, .int .i64 (need s)⟩), (11, ⟨none, .view 4 [] 0 bl.length⟩), (14, ⟨none, .int .i64 k⟩)], [(0, .own 2 [Al f]), (1, .own 2 [[.own 5 [], .own 1 []]]), (2, .own 2 [[.own 5 (f.nodes.map Av), .own 1 (dt.map A6)]]), (3, .own 1 ((Ll f).map Ad)), (4, .own 1 (bl.map Ad))], 5⟩)
    (fun (k, l, d') => k ≤ need s ∧ l = NB ∧ d' = Pb s NB k d) (fun x => need s - x.1) (0, NB, d) ?_ ⟨Nat.zero_le _, rfl, rfl⟩ ?_
  · (refine ⟨?_, ?_, rfl⟩ <;> repeat' (first | exact rfl | exact trivial | refine ⟨?_, ?_⟩ | fail) <;> (conv => whnf))
  rintro ⟨k, l, d'⟩ ⟨hk, rfl, hd'⟩
  (conv => whnf); refine ⟨fun h6 => ?_, fun h6 => ?_⟩
  · have h6 : k < need s := by have h6 : decide ((k : Int) < (need s : Nat)) = true := h6
                               simp at h6; omega
    obtain ⟨p1, p2, p3⟩ := B4k hs80 h6
    have hb := C00 (l := l) (k := k) (by omega)
    have hps := Xx s l d k
    rw [← hd', X0] at hps
    generalize l.getD k 0 = b at hb hps
    have hb2 := hnb b (List.mem_of_getElem? hb)
    have hdl2 := Ur s l d k
    rw [← hd'] at hdl2
    obtain ⟨x, hx⟩ := B7 (l := d') (i := b.toNat) (by omega)
    repeat ((conv => whnf); first | refine ⟨_, w64 (bb), ?_⟩ | refine ⟨bb, ?_⟩ | refine ⟨Ad b, fun _ => by rw [Nat.zero_add]; exact Am hb, ?_⟩)
    refine ⟨((s.length : Int), k), rfl, fun _ => ⟨by show (0 : Int) ≤ (s.length : Int); omega, by show (s.length : Int) ≤ 80; omega, by show k ≤ 1000000; omega⟩, ?_⟩
    repeat ((conv => whnf); first | refine ⟨(by kernel_rfl : C6 _ _ = true), ?_⟩ | refine ⟨_, w64 (bb), ?_⟩ | refine ⟨fun _ => ⟨bb, bb, bb⟩, ?_⟩ | refine ⟨bb, ?_⟩ | refine ⟨A6 x, by rw [Nat.zero_add]; exact Am hx, ?_⟩)
    refine C5 (k + 1, l, d'.set b.toNat ((s.drop (k * 16)).take (X2 s.length k).toNat)) ?_ ⟨h6, rfl, hps.symm⟩ (by first | omega | (simp; done) | (simp; omega))
    (refine ⟨?_, ?_, rfl⟩ <;> repeat' (first | exact rfl | exact trivial | refine ⟨?_, ?_⟩ | fail) <;> (conv => whnf))
    all_goals (rw [List.map_set, show 0 + b.toNat = b.toNat from Nat.zero_add _, show ((k : Int) * 16 + X2 (s.length : Int) k).toNat - ((k : Int) * 16).toNat = (X2 (s.length : Int) k).toNat by omega, show ((k : Int) * 16).toNat = k * 16 by omega]; rfl)
  have h6 : k = need s := by have h6 : decide ((k : Int) < (need s : Nat)) = false := h6
                             simp at h6; omega
  subst h6
  repeat ((conv => whnf); first | refine ⟨bb, ?_⟩ | refine ⟨Av n, by rw [Nat.zero_add]; exact Am hn, ?_⟩ | refine ⟨fun _ => ⟨by omega, by rw [List.length_set, List.length_map]; omega⟩, ?_⟩ | refine ⟨(Av n).set (0 + 3) (AV.int IntKind.i64 (s.length : Int)), by simp [hil], ?_⟩)
  rw [fin hd]
  refine ⟨trivial, ⟨⟨rfl, ?_⟩, ⟨rfl, ?_⟩, trivial⟩, rfl, trivial⟩
  · simp [List.map_set, Av, Zo, Bw, List.take_of_length_le, tkM]
  · show _ = ND.map A6
    rw [hndd, ← hd']
    simp [tkM]
theorem P3 : Ay Tryz.prog 171 D4 := Aq (Ch _ _) (FOk.cons Ks (FOk.cons Sc (FOk.cons Ra (FOk.cons W8 (FOk.cons Ok FOk.nil))))) mixed Tryz.func171 rfl Tryz.call171 (by decide) (by kernel_rfl) Wi (by intro _ (y : (Fs × Int × Str)) _; exact ⟨by simp [D4, con, Aa, A8, AV.noRd, A7, Ab, A5, A6, Ad, Ae, Ah, Ap, Al, Av, Ax], by simp [D4, con, Aa, A8, AV.noRd, A7, Ab, A5, A6, Ad, Ae, Ah, Ap, Al, Av, Ax]⟩) (by intro (y : (Fs × Int × Str)) _; first | (simp [D4, con, Aa, A8, Ag, AV.free, A2, A3, A1, A6, Ad, Ae, Ah, Ap, Al, Av, Ax]; done) | (obtain ⟨_, _⟩ := y; simp [D4, con, Aa, A8, Ag, AV.free, A2, A3, A1, A6, Ad, Ae, Ah, Ap, Al, Av, Ax]; done) | (obtain ⟨_, _, _⟩ := y; simp [D4, con, Aa, A8, Ag, AV.free, A2, A3, A1, A6, Ad, Ae, Ah, Ap, Al, Av, Ax]; done))
noncomputable def J4 : Bp := { D4 with sh := true, res := fun ((f, i, s) : Fs × Int × Str) => .tup [.agg (Al (Ba f i s).1), .bool (Ba f i s).2] }
theorem Ki : Ay Tryz.prog 171 J4 := Kg _ P3 (fun _ => rfl) rfl (fun (f, i, s) _ => ⟨rfl, by show 2 ≤ 16; omega, by simp only [D4, con, frz, Mb, Ax, Al, List.map_cons, List.map_nil, N2, rdW, rdS]⟩)
end Go.GH


set_option linter.unusedVariables false
set_option linter.unusedSimpArgs false
namespace Go.GH
open Go Go.Proofs
noncomputable def Er (d : Nat) : Bp := con [.rd [some 5, some 1], mC, mC, mS 1] false (Fs × Nat × List Int) (fun ⟨f, i, s⟩ => [.agg (Al f), .int .i64 i, .int .i64 (6 - (d : Int)), .rd 1 (s.map Ad)]) (fun x => d ≠ 0 ∧ d ≤ 6 ∧ Oc x.1 ∧ x.2.1 < x.1.nodes.length ∧ Mp x.1 x.2.2) (fun ⟨f, i, s⟩ => .tup [.own 1 ((G6 f (d - 1) i s).1.map Ad), .bool (G6 f (d - 1) i s).2])
noncomputable def A4v (d : Nat) : Env := ⟨A4 Bc, A4 [(159, Er d), (160, Dj)], [0, 1, 2, 3, 4, 8, 9, 10, 11, 12, 13, 14, 15, 16, 36, 44, 53, 58, 79, 99, 111]⟩
set_option maxRecDepth 100000 in
set_option maxHeartbeats 4000000 in
theorem A5p (d : Nat) : Bd (A4v d) (Az Tryz.f159) Tryz.f159.results.toList (Er (d + 1)) := by
  rintro ⟨f, i, s⟩ hx
  obtain ⟨_, hd6, hsh, hi, hs⟩ : d + 1 ≠ 0 ∧ d + 1 ≤ 6 ∧ Oc f ∧ i < f.nodes.length ∧ Mp f s := hx
  have hsm := hsh.sm
  have hnl := hsm.1
  have hnn := hsh.nn
  obtain ⟨hs1, hs2⟩ := hs
  refine ⟨trivial, ?_⟩
  have fin : ∀ {r : List Int × Bool}, r = G6 f d i s → (Er (d + 1)).res (f, i, s) = .tup [.own 1 (r.1.map Ad), .bool r.2] := fun h => by rw [h]; rfl
  obtain ⟨v, hv⟩ := B7 (l := s) (i := i) (by omega)
  have hv1 : s.getD i 0 = v := by rw [List.getD_eq_getElem?_getD, hv]; rfl
  have hvb := hs2 i
  rw [hv1] at hvb
  have hbp : Na s i = s.set i (v + 1) := by rw [Na, hv1]
  have hbl : (Na s i).length = s.length := by rw [Na, List.length_set]
  have hbi : (Na s i).getD i 0 = v + 1 := by rw [hbp, Sw, if_pos ⟨rfl, by omega⟩]
  have hbi2 : (Na s i)[i]? = some (v + 1) := by rw [hbp]; exact List.getElem?_set_self (by omega)
  obtain ⟨n, hn⟩ := B7 hi
  have hkn := Mg hn
  have q1 : (List.take 0 (List.drop 0 ([] : List (List AV))) ++ s.map Ad)[0 + ((i : Int)).toNat]? = some (Ad v) := by simp [hv]
  have q2 : ((List.take 0 (List.drop 0 ([] : List (List AV))) ++ s.map Ad).set (0 + ((i : Int)).toNat) ((Ad v).set 0 (.int .i64 (v + 1))))[0 + ((i : Int)).toNat]? = some (Ad (v + 1)) := by
    simp only [List.take_zero, List.nil_append, Nat.zero_add, Int.toNat_natCast]
    rw [List.getElem?_set_self (by rw [List.length_map]; omega)]; rfl
  have hend : List.take ((List.take 0 (List.drop 0 ([] : List (List AV)))).length + (s.map Ad).length) (List.drop 0 ((List.take 0 (List.drop 0 ([] : List (List AV))) ++ s.map Ad).set (0 + ((i : Int)).toNat) ((Ad v).set 0 (.int .i64 (v + 1))))) = (s.set i (v + 1)).map Ad := by simp [List.map_set, Ad, List.take_of_length_le]
  repeat ((conv => whnf); first | refine ⟨fun h => h, ?_⟩ | refine ⟨_, w64 (bb), ?_⟩ | refine ⟨bb, ?_⟩ | refine ⟨Ad v, fun _ => q1, ?_⟩ | refine ⟨Ad v, q1, ?_⟩ | refine ⟨Ad (v + 1), fun _ => q2, ?_⟩)
  (conv => whnf); refine ⟨fun h1 => ?_, fun h1 => ?_⟩
  · have h1 : (decide (v + 1 > 1) || decide (6 - ((d + 1 : Nat) : Int) > 4)) = true := h1
    have hd : (Na s i, false) = G6 f d i s := by
      cases d with
      | zero => rfl
      | succ d =>
        have : v + 1 > 1 := by simp at h1; omega
        rw [G6, hbi, if_pos this]
    skip
    rw [fin hd]
    refine ⟨trivial, ⟨rfl, ?_⟩, rfl, trivial⟩
    rw [hbp]
    exact hend
  have h1 : (decide (v + 1 > 1) || decide (6 - ((d + 1 : Nat) : Int) > 4)) = false := h1
  obtain ⟨e, rfl⟩ : ∃ e, d = e + 1 := ⟨d - 1, by simp at h1; omega⟩
  have hv1' : ¬ v + 1 > 1 := by simp at h1; omega
  have hsg : G6 f (e + 1) i s = if Jt f i != 2 then (Na s i, true) else match H4 f i with
    | none => (Na s i, false)
    | some l => Rj (G6 f e) f i l (Na s i) := by rw [G6, hbi, if_neg hv1'] <;> (cases H4 f i <;> rfl)
  rw [hkn] at hsg
  repeat ((conv => whnf); refine ⟨Ap n, fun _ => ⟨by omega, Am hn⟩, ?_⟩)
  (conv => whnf); refine ⟨fun h2 => ?_, fun h2 => ?_⟩
  · have h2 : (n.kind != 2) = true := h2
    have hd : (Na s i, true) = G6 f (e + 1) i s := by rw [hsg, if_pos h2]
    skip
    rw [fin hd]
    refine ⟨trivial, ⟨rfl, ?_⟩, rfl, trivial⟩
    rw [hbp]
    exact hend
  have h2 : (n.kind != 2) = false := h2
  rw [if_neg (by rw [h2]; decide)] at hsg
  have hrl := M9 hsh i
  skip
  refine ⟨(f, i), by (repeat' (first | refine Bn ?_ ?_ | refine Bu ?_ | refine Bh ?_ | refine Bs ?_ | exact rfl)) <;> simp [rdI, rdO, rdE, rdB, rdN, rdS, rdD, rdW, tkM], fun _ => ⟨hsm, hsh.inr, hi, by show (I0 f i).length ≤ _; omega⟩, ?_⟩
  skip
  (conv => whnf); refine ⟨fun h3 => ?_, fun h3 => ?_⟩
  · have h3 : (!(H4 f i).isSome) = true := h3
    have hd : (Na s i, false) = G6 f (e + 1) i s := by rw [hsg]; simp at h3; rw [h3]
    skip
    rw [fin hd]
    refine ⟨trivial, ⟨rfl, ?_⟩, rfl, trivial⟩
    rw [hbp]
    exact hend
  have h3 : (!(H4 f i).isSome) = false := h3
  have hdn := T6 (f := f) (i := i) (by simpa using h3)
  have hlo := Ow hdn
  have hll := M8 hlo
  rw [hdn] at hsg
  generalize hl : (H4 f i).getD [] = l at hsg hdn hlo hll
  have hem := fun x (hx : x ∈ l) => (Hu hlo hx).2
  have hb0 := B4a ⟨hs1, hs2⟩ (by rw [hbi]; exact hv1')
  skip
  refine B2 (fun ((k, o) : Nat × List Int) => ⟨[(1, ⟨none, .int .i64 i⟩), (2, ⟨none, .int .i64 (6 - ((e + 1 + 1 : Nat) : Int))⟩), (4, ⟨none, .bx 0 0⟩), (10, ⟨none, .view 1 [] 0 o.length⟩), (11, ⟨none, .view 2 [] 0 l.length⟩), (13, ⟨none, .int .i64 k⟩)], [(0, .own 2 [Al f]), (1, .own 1 (o.map Ad)), (2, .own 2 (l.map Ah))], 3⟩)
    (fun (k, o) => k ≤ l.length ∧ Mp f o ∧ Rj (G6 f e) f i (l.drop k) o = G6 f (e + 1) i s) (fun x => l.length - x.1) (0, Na s i) ?_ ⟨Nat.zero_le _, hb0, by rw [List.drop_zero, hsg]⟩ ?_
  · (refine ⟨?_, ?_, rfl⟩ <;> repeat' (first | exact rfl | exact trivial | refine ⟨?_, ?_⟩ | fail) <;> (conv => whnf))
    all_goals first | (rw [hbl]; simp; done) | (simp; done) | (rw [hbp]; simp [List.map_set, Ad])
  rintro ⟨k, o⟩ ⟨hk, ho, hI⟩
  have hol := ho.1
  (conv => whnf); refine ⟨fun h4 => ?_, fun h4 => ?_⟩
  · have h4 : k < l.length := by have h4 : decide ((k : Int) < ((l.length : Nat) : Int)) = true := h4
                                 simp at h4; omega
    obtain ⟨b, hb⟩ := B7 h4
    obtain ⟨hb1, hb9⟩ := hem b (List.mem_of_getElem? hb)
    have hdr : l.drop k = b :: l.drop (k + 1) := by
      rw [List.drop_eq_getElem_cons h4]
      rw [List.getElem?_eq_getElem h4] at hb
      rw [Option.some.inj hb]
    rw [hdr, Rj] at hI
    have hg : ∀ {A : Bool}, Cn (some (!(decide (b.node ≥ (((f.nodes.map Ap).length : Nat) : Int))))) → (0 : Int) ≤ b.node ∧ (f.nodes.map Ap)[b.node.toNat]? = some (Ap (f.nodes.getD b.node.toNat .zero)) := by
      intro A h
      have h : (!(decide (b.node ≥ (((f.nodes.map Ap).length : Nat) : Int)))) = true := h
      rw [List.length_map] at h
      simp at h
      refine ⟨by omega, Am ?_⟩
      rw [List.getD_eq_getElem?_getD, List.getElem?_eq_getElem (by omega)]; rfl
    repeat ((conv => whnf); first | refine ⟨fun h => h, ?_⟩ | refine ⟨bb, ?_⟩ | refine ⟨Ah b, fun _ => by rw [Nat.zero_add]; exact Am hb, ?_⟩ | refine ⟨Ap (f.nodes.getD b.node.toNat .zero), fun h => hg (A := true) h, ?_⟩)
    have hbE : B8q f i b = (decide (b.node ≥ (f.nodes.length : Int)) || (f.nodes.getD b.node.toNat .zero).kind == 0 || (b.name == hid && (i != 0 || (f.nodes.getD b.node.toNat .zero).kind != 1))) := rfl
    (conv => whnf); refine ⟨fun h5 => ?_, fun h5 => ?_⟩
    · have h5 : (decide (b.node ≥ (((f.nodes.map Ap).length : Nat) : Int)) || (f.nodes.getD b.node.toNat .zero).kind == 0) = true := h5
      rw [List.length_map] at h5
      rw [h5, Bool.true_or] at hbE
      rw [hbE, if_pos rfl] at hI
      skip
      rw [fin hI]
      refine ⟨trivial, ⟨rfl, ?_⟩, rfl, trivial⟩
      simp [tkM]
    have h5 : (decide (b.node ≥ (((f.nodes.map Ap).length : Nat) : Int)) || (f.nodes.getD b.node.toNat .zero).kind == 0) = false := h5
    rw [List.length_map] at h5
    rw [h5, Bool.false_or] at hbE
    have hbl2 : b.node < f.nodes.length := by
      rw [Bool.or_eq_false_iff] at h5
      simpa using h5.1
    obtain ⟨y, hy⟩ := B7 (l := f.nodes) (i := b.node.toNat) (by omega)
    have hy2 : f.nodes.getD b.node.toNat .zero = y := by rw [List.getD_eq_getElem?_getD, hy]; rfl
    rw [hy2] at hbE
    repeat ((conv => whnf); first | refine ⟨fun h => h, ?_⟩ | refine ⟨bb, ?_⟩ | refine ⟨Ah b, fun _ => by rw [Nat.zero_add]; exact Am hb, ?_⟩ | refine ⟨Ap y, fun _ => ⟨by omega, Am hy⟩, ?_⟩)
    (conv => whnf); refine ⟨fun h6 => ?_, fun h6 => ?_⟩
    · have h6 : (b.name == hid && (i != 0 || y.kind != 1)) = true := by
        have h6 : (b.name == hid && ((((i : Int)) != 0) || y.kind != 1)) = true := h6
        rw [show (((i : Int)) != 0) = (i != 0) by rw [Bool.eq_iff_iff]; simp] at h6
        exact h6
      rw [h6] at hbE
      rw [hbE, if_pos rfl] at hI
      skip
      rw [fin hI]
      refine ⟨trivial, ⟨rfl, ?_⟩, rfl, trivial⟩
      simp [tkM]
    have h6 : (b.name == hid && (i != 0 || y.kind != 1)) = false := by
      have h6 : (b.name == hid && ((((i : Int)) != 0) || y.kind != 1)) = false := h6
      rw [show (((i : Int)) != 0) = (i != 0) by rw [Bool.eq_iff_iff]; simp] at h6
      exact h6
    rw [h6] at hbE
    rw [hbE, if_neg (by decide)] at hI
    repeat ((conv => whnf); refine ⟨_, w64 (bb), ?_⟩)
    refine ⟨(f, b.node.toNat, o), by
      refine Bn ?_ (Bn ?_ (Bn ?_ (Bn ?_ rfl)))
      · exact by (repeat' (first | refine Bn ?_ ?_ | refine Bu ?_ | refine Bh ?_ | refine Bs ?_ | exact rfl)) <;> simp [rdI, rdO, rdE, rdB, rdN, rdS, rdD, rdW, tkM]
      · show AV.int .i64 b.node = .int .i64 ((b.node.toNat : Nat) : Int); rw [Int.toNat_of_nonneg (by omega)]
      · show AV.int .i64 (6 - ((e + 1 + 1 : Nat) : Int) + 1) = .int .i64 (6 - ((e + 1 : Nat) : Int)); congr 1; omega
      · exact by (repeat' (first | refine Bn ?_ ?_ | refine Bu ?_ | refine Bh ?_ | refine Bs ?_ | exact rfl)) <;> simp [rdI, rdO, rdE, rdB, rdN, rdS, rdD, rdW, tkM], fun _ => ⟨by omega, by show e + 1 ≤ 6; omega, hsh, by show b.node.toNat < f.nodes.length; omega, ho⟩, ?_⟩
    have hso := A1h (d := e) (i := b.node.toNat) ho
    skip
    (conv => whnf); refine ⟨fun h7 => ?_, fun h7 => ?_⟩
    · have h7 : (!(G6 f e b.node.toNat o).2) = true := h7
      rw [if_neg (by simpa using h7)] at hI
      skip
      rw [fin hI]
      refine ⟨trivial, ⟨rfl, ?_⟩, rfl, trivial⟩
      simp [tkM]
    have h7 : (G6 f e b.node.toNat o).2 = true := by
      have h7 : (!(G6 f e b.node.toNat o).2) = false := h7
      simpa using h7
    rw [if_pos h7] at hI
    repeat ((conv => whnf); refine ⟨_, w64 (bb), ?_⟩)
    refine C5 (k + 1, (G6 f e b.node.toNat o).1) ?_ ⟨h4, hso h7, hI⟩ (by first | omega | (simp; done) | (simp; omega))
    (refine ⟨?_, ?_, rfl⟩ <;> repeat' (first | exact rfl | exact trivial | refine ⟨?_, ?_⟩ | fail) <;> (conv => whnf))
    all_goals simp
  have h4 : k = l.length := by have h4 : decide ((k : Int) < ((l.length : Nat) : Int)) = false := h4
                               simp at h4; omega
  subst h4
  rw [List.drop_length, Rj] at hI
  skip
  rw [fin hI]
  refine ⟨trivial, ⟨rfl, ?_⟩, rfl, trivial⟩
  simp
theorem T0 : ∀ d : Nat, Ay Tryz.prog 159 (Er d)
  | 0 => fun x hx => absurd rfl hx.1
  | d + 1 => Aq (Ch _ _) (FOk.cons (T0 d) (FOk.cons Iw FOk.nil)) mixed Tryz.func159 rfl Tryz.call159 (Nat.le_of_ble_eq_true rfl) (by kernel_rfl) (A5p d) (by intro _ (y : (Fs × Nat × List Int)) _; exact ⟨by simp [Er, con, Aa, A8, AV.noRd, A7, Ab, A5, A6, Ad, Ae, Ah, Ap, Al, Av, Ax], by simp [Er, con, Aa, A8, AV.noRd, A7, Ab, A5, A6, Ad, Ae, Ah, Ap, Al, Av, Ax]⟩) (by intro (y : (Fs × Nat × List Int)) _; first | (simp [Er, con, Aa, A8, Ag, AV.free, A2, A3, A1, A6, Ad, Ae, Ah, Ap, Al, Av, Ax]; done) | (obtain ⟨_, _⟩ := y; simp [Er, con, Aa, A8, Ag, AV.free, A2, A3, A1, A6, Ad, Ae, Ah, Ap, Al, Av, Ax]; done) | (obtain ⟨_, _, _⟩ := y; simp [Er, con, Aa, A8, Ag, AV.free, A2, A3, A1, A6, Ad, Ae, Ah, Ap, Al, Av, Ax]; done))
noncomputable def Fb : Bp := con [.rd [some 5, some 1]] true Fs (fun f => [.agg (Al f)]) smF (fun f => .bool (Iu f))
noncomputable def B1i : Env := ⟨A4 Bc, A4 [(158, Ef), (159, Er 6)], [0, 1, 2, 3, 4, 5, 8, 19, 24, 39]⟩
set_option maxRecDepth 100000 in
set_option maxHeartbeats 4000000 in
theorem B18 : Bd B1i (Az Tryz.f120) Tryz.f120.results.toList Fb := by
  intro (f : Fs) hsm
  have hsm : smF f := hsm
  have hnl := hsm.1
  refine ⟨trivial, ?_⟩
  skip
  refine ⟨f, by (repeat' (first | refine Bn ?_ ?_ | refine Bu ?_ | refine Bh ?_ | refine Bs ?_ | exact rfl)) <;> simp [rdI, rdO, rdE, rdB, rdN, rdS, rdD, rdW, tkM], fun _ => hsm, ?_⟩
  skip
  (conv => whnf); refine ⟨fun h1 => ?_, fun h1 => ?_⟩
  · have h1 : (!E3 f) = true := h1
    skip
    exact ⟨trivial, eqB (by show false = Iu f; rw [Iu]; simp at h1; rw [h1]; rfl)⟩
  have h1 : E3 f = true := by have h1 : (!E3 f) = false := h1
                              simpa using h1
  have hsh := W9 h1
  have hnn := hsh.nn
  have hfo : Iu f = ((G6 f 5 0 (zrs f.nodes.length)).2 && (List.range f.nodes.length).all fun i => ((G6 f 5 0 (zrs f.nodes.length)).1.getD i 0 == 1) == (Jt f i != 0)) := by rw [Iu, h1, Bool.true_and]
  repeat ((conv => whnf); refine ⟨bb, ?_⟩)
  refine ⟨(f, 0, zrs f.nodes.length), by
    refine Bn ?_ (Bn rfl (Bn rfl (Bn (Bh ?_) rfl)))
    · exact by (repeat' (first | refine Bn ?_ ?_ | refine Bu ?_ | refine Bh ?_ | refine Bs ?_ | exact rfl)) <;> simp [rdI, rdO, rdE, rdB, rdN, rdS, rdD, rdW, tkM]
    · refine (congrArg Cl (?_ : _ = (zrs f.nodes.length).map Ad)).trans (rdN _)
      simp [zrs, Ad], fun _ => ⟨by omega, by omega, hsh, by show 0 < f.nodes.length; omega, B0o f⟩, ?_⟩
  have hso := A1h (d := 5) (i := 0) (B0o f)
  repeat ((conv => whnf); refine ⟨(by kernel_rfl : C6 _ _ = true), ?_⟩)
  (conv => whnf); refine ⟨fun h2 => ?_, fun h2 => ?_⟩
  · have h2 : (!(G6 f 5 0 (zrs f.nodes.length)).2) = true := h2
    skip
    exact ⟨trivial, eqB (by show false = Iu f; rw [hfo]; simp at h2; rw [h2]; rfl)⟩
  have h2 : (G6 f 5 0 (zrs f.nodes.length)).2 = true := by
    have h2 : (!(G6 f 5 0 (zrs f.nodes.length)).2) = false := h2
    simpa using h2
  rw [h2, Bool.true_and] at hfo
  have hso := (hso h2).1
  skip
  refine B2 (fun i : Nat => ⟨[(1, ⟨none, .bx 0 0⟩), (3, ⟨none, .view 1 [] 0 (G6 f 5 0 (zrs f.nodes.length)).1.length⟩), (5, ⟨none, .int .i64 i⟩)], [(0, .own 2 [Al f]), (1, .own 1 ((G6 f 5 0 (zrs f.nodes.length)).1.map Ad))], 2⟩) (fun i => i ≤ f.nodes.length ∧ ∀ j, j < i → (((G6 f 5 0 (zrs f.nodes.length)).1.getD j 0 == 1) == (Jt f j != 0)) = true) (fun i => f.nodes.length - i) 0 ?_ ⟨Nat.zero_le _, fun j hj => absurd hj (Nat.not_lt_zero _)⟩ ?_
  · (refine ⟨?_, ?_, rfl⟩ <;> repeat' (first | exact rfl | exact trivial | refine ⟨?_, ?_⟩ | fail) <;> (conv => whnf))
    all_goals simp
  rintro i ⟨hi, hI⟩
  (conv => whnf); refine ⟨fun h3 => ?_, fun h3 => ?_⟩
  · have h3 : i < f.nodes.length := by simpa using h3
    obtain ⟨n, hn⟩ := B7 h3
    obtain ⟨v, hv⟩ := B7 (l := (G6 f 5 0 (zrs f.nodes.length)).1) (i := i) (by omega)
    have hv1 : (G6 f 5 0 (zrs f.nodes.length)).1.getD i 0 = v := by rw [List.getD_eq_getElem?_getD, hv]; rfl
    have hkn := Mg hn
    repeat ((conv => whnf); first | refine ⟨(by kernel_rfl : C6 _ _ = true), ?_⟩ | refine ⟨bb, ?_⟩ | refine ⟨Ap n, fun _ => ⟨by omega, Am hn⟩, ?_⟩ | refine ⟨Ad v, fun _ => by rw [Nat.zero_add]; exact Am hv, ?_⟩)
    (conv => whnf); refine ⟨fun h4 => ?_, fun h4 => ?_⟩
    · have h4 : (!((v == 1) == (n.kind != 0))) = true := h4
      skip
      refine ⟨trivial, eqB ?_⟩
      show false = Iu f
      rw [hfo, Vd (List.mem_range.2 h3) (by rw [hv1, hkn]; simpa using h4)]
    have h4 : ((v == 1) == (n.kind != 0)) = true := by
      have h4 : (!((v == 1) == (n.kind != 0))) = false := h4
      simpa using h4
    repeat ((conv => whnf); refine ⟨_, w64 (bb), ?_⟩)
    refine C5 (i + 1) ?_ ⟨h3, fun j hj => ?_⟩ (by first | omega | (simp; done) | (simp; omega))
    · (refine ⟨?_, ?_, rfl⟩ <;> repeat' (first | exact rfl | exact trivial | refine ⟨?_, ?_⟩ | fail) <;> (conv => whnf))
    · rcases Nat.lt_or_ge j i with h | h
      · exact hI j h
      · rw [show j = i by omega, hv1, hkn]; exact h4
  have h3 : i = f.nodes.length := by have : ¬ (i < f.nodes.length) := by simpa using h3
                                     omega
  subst h3
  skip
  exact ⟨trivial, eqB (by show true = Iu f; rw [hfo, List.all_eq_true.2 fun j hj => hI j (List.mem_range.1 hj)])⟩
theorem Ld : Ay Tryz.prog 120 Fb := Aq (Ch _ _) (FOk.cons Mq (FOk.cons (T0 6) FOk.nil)) mixed Tryz.func120 rfl Tryz.call120 (by decide) (by kernel_rfl) B18 (by intro _ (y : Fs) _; exact ⟨by simp [Fb, con, Aa, A8, AV.noRd, A7, Ab, A5, A6, Ad, Ae, Ah, Ap, Al, Av, Ax], by simp [Fb, con, Aa, A8, AV.noRd, A7, Ab, A5, A6, Ad, Ae, Ah, Ap, Al, Av, Ax]⟩) (by intro (y : Fs) _; first | (simp [Fb, con, Aa, A8, Ag, AV.free, A2, A3, A1, A6, Ad, Ae, Ah, Ap, Al, Av, Ax]; done) | (obtain ⟨_, _⟩ := y; simp [Fb, con, Aa, A8, Ag, AV.free, A2, A3, A1, A6, Ad, Ae, Ah, Ap, Al, Av, Ax]; done) | (obtain ⟨_, _, _⟩ := y; simp [Fb, con, Aa, A8, Ag, AV.free, A2, A3, A1, A6, Ad, Ae, Ah, Ap, Al, Av, Ax]; done))
end Go.GH


set_option linter.unusedVariables false
set_option linter.unusedSimpArgs false
namespace Go.GH
open Go
def O9 : Nat → Nat
  | 0 => 0
  | 1 => 0
  | d + 2 => 26 * (1 + O9 (d + 1))
def smI (t : Tr) : Prop := ∀ x, x ∈ t → x.path.length ≤ 4194304 ∧ x.data.length ≤ 4194304
def B0v (l : List Str) : Prop := l.length ≤ 20 ∧ ∀ s, s ∈ l → s.length ≤ 6
theorem B7k {l : List Str} {m : Nat} (h : ∀ s, s ∈ l → s.length ≤ m) : (l.map List.length).sum ≤ l.length * m := by
  induction l with
  | nil => simp
  | cons a l ih =>
    have h1 := ih fun s hs => h s (by simp [hs])
    have h2 := h a (by simp)
    simp only [List.map_cons, List.sum_cons, List.length_cons, Nat.add_mul]
    omega
theorem B10 {l : List Str} (h : B0v l) : l.length + (l.map List.length).sum ≤ 140 := by
  have h1 := B7k h.2
  have h2 : l.length * 6 ≤ 20 * 6 := Nat.mul_le_mul_right _ h.1
  have := h.1
  omega
theorem Vg {l : List Str} {s : Str} (h : B0v l) (hl : l.length ≤ 19) (hs : s.length ≤ 6) : B0v (l ++ [s]) := ⟨by simp; omega, fun a ha => by
  rcases List.mem_append.1 ha with ha | ha
  · exact h.2 a ha
  · rw [List.mem_singleton] at ha; subst ha; exact hs⟩
theorem B9e {t : Tr} {x : It} (h : smI t) (hx : x.path.length ≤ 4194304 ∧ x.data.length ≤ 4194304) : smI (Ut t x) := fun y hy => by
  rcases B6k hy with rfl | h2
  · exact hx
  · exact h y h2
theorem A68 {rec : Nat → List Str → Tr → Tr} {f : Fs} {ns : List Str} {t : Tr} {e : En} {c : Nat} (hsh : Oc f) (hn : B0v ns) (hnl : ns.length ≤ 19) (he : e.name.length ≤ 6)
    (hr : ∀ t, smI t → (rec e.node.toNat (ns ++ [e.name]) t).length ≤ t.length + c ∧ smI (rec e.node.toNat (ns ++ [e.name]) t)) (ht : smI t) :
    (Ja rec f ns t e).length ≤ t.length + (1 + c) ∧ smI (Ja rec f ns t e) := by
  have hp : (Dl (ns ++ [e.name])).length ≤ 4194304 := by
    have h1 := A0v (ns ++ [e.name])
    have h2 := B10 (Vg hn hnl he)
    omega
  unfold Ja
  split
  · exact ⟨by omega, ht⟩
  split
  · have hq := B9e (x := ⟨Dl (ns ++ [e.name]), 2, [], 0⟩) ht ⟨hp, by simp⟩
    have hl := Xh (x := ⟨Dl (ns ++ [e.name]), 2, [], 0⟩) (l := t)
    obtain ⟨h1, h2⟩ := hr _ hq
    exact ⟨by omega, h2⟩
  · have hq := B9e (x := ⟨Dl (ns ++ [e.name]), Jt f e.node.toNat, I0 f e.node.toNat, (f.nodes.getD e.node.toNat .zero).time⟩) ht ⟨hp, by have := M9 hsh e.node.toNat; show (I0 f e.node.toNat).length ≤ _; omega⟩
    have hl := Xh (x := ⟨Dl (ns ++ [e.name]), Jt f e.node.toNat, I0 f e.node.toNat, (f.nodes.getD e.node.toNat .zero).time⟩) (l := t)
    exact ⟨by omega, hq⟩
theorem Wo {f : Fs} (hsh : Oc f) : ∀ {d i : Nat} {ns : List Str} {t : Tr}, Uf f d i → B0v ns → ns.length + d ≤ 20 → smI t → (Gn f d i ns t).length ≤ t.length + O9 d ∧ smI (Gn f d i ns t)
  | 0, i, ns, t, h, hn, hd, ht => absurd rfl (K4 h).1
  | d + 1, i, ns, t, h, hn, hd, ht => by
    rw [Gn]
    cases hl : H4 f i with
    | none => simp only [Option.getD_none, List.foldl_nil]; exact ⟨by omega, ht⟩
    | some l =>
      have hm := (K4 h).2 l hl
      have hlo := Ow hl
      have hll := M8 hlo
      simp only [Option.getD_some]
      have key : ∀ (m : List En) (t : Tr), (∀ e, e ∈ m → e ∈ l) → smI t → (m.foldl (Ja (Gn f d) f ns) t).length ≤ t.length + m.length * (1 + O9 d) ∧ smI (m.foldl (Ja (Gn f d) f ns) t) := by
        intro m
        induction m with
        | nil => intro t _ ht; exact ⟨by simp, ht⟩
        | cons e m ih =>
          intro t hmem ht
          have he := hmem e (by simp)
          have hen := Nh (Hu hlo he).1
          have hok := (hm e he).2.2.2
          rw [Nat.add_sub_cancel] at hok
          have hns := Vg hn (by omega) hen.2
          obtain ⟨h1, h2⟩ := A68 (rec := Gn f d) (c := O9 d) hsh hn (by omega) hen.2 (fun t ht => Wo hsh hok hns (by simp; omega) ht) ht
          obtain ⟨h3, h4⟩ := ih _ (fun x hx => hmem x (by simp [hx])) h2
          refine ⟨?_, h4⟩
          rw [List.foldl_cons, List.length_cons, Nat.add_mul]
          omega
      obtain ⟨h1, h2⟩ := key l t (fun e he => he) ht
      refine ⟨?_, h2⟩
      cases d with
      | zero =>
        have : l = [] := by
          cases l with
          | nil => rfl
          | cons e l => exact absurd rfl (K4 (hm e (by simp)).2.2.2).1
        subst this
        exact Nat.le_refl _
      | succ d =>
        have : l.length * (1 + O9 (d + 1)) ≤ 26 * (1 + O9 (d + 1)) := Nat.mul_le_mul_right _ hll
        show _ ≤ t.length + 26 * (1 + O9 (d + 1))
        omega
theorem B5m : ∀ {d : Nat}, d ≤ 5 → O9 d ≤ 475254
  | 0, _ | 1, _ | 2, _ | 3, _ | 4, _ | 5, _ => by decide
theorem Xl (f : Fs) : smT (Fy f) ∧ (Fy f).length ≤ 475254 := by
  unfold Fy
  split
  · rename_i h
    obtain ⟨hsh, _, hok⟩ := On h
    obtain ⟨h1, h2⟩ := Wo (ns := []) (t := []) hsh hok ⟨by simp, by simp⟩ (by simp) (fun x hx => by cases hx)
    have := B5m (d := 5) (by omega)
    simp only [List.length_nil] at h1
    exact ⟨⟨by omega, h2⟩, by omega⟩
  · exact ⟨⟨by simp, by simp⟩, by simp⟩
theorem Yf {f : Fs} {d : Nat} {ns : List Str} {l : List En} {k : Nat} {e : En} {t : Tr} (h : l[k]? = some e) : (l.take (k + 1)).foldl (Ja (Gn f d) f ns) t = Ja (Gn f d) f ns ((l.take k).foldl (Ja (Gn f d) f ns) t) e := Qb h
theorem B3k {f : Fs} {e : Nat} {ns : List Str} {l : List En} {t0 : Tr} (hsh : Oc f) (hn : B0v ns) (hnl : ns.length + (e + 2) ≤ 20) (hll : l.length ≤ 26) (hlm : ∀ x, x ∈ l → x.name.length ≤ 6 ∧ 1 ≤ x.node ∧ x.node < f.nodes.length ∧ Uf f e x.node.toNat) (ht : smI t0) (htl : t0.length + O9 (e + 1) ≤ 4194304) (k : Nat) (hk : k ≤ l.length) :
    ((l.take k).foldl (Ja (Gn f e) f ns) t0).length ≤ 4194304 ∧ (k < l.length → ((l.take k).foldl (Ja (Gn f e) f ns) t0).length + (1 + O9 e) ≤ 4194304) ∧ smI ((l.take k).foldl (Ja (Gn f e) f ns) t0) := by
  have hc : l.length * (1 + O9 e) ≤ O9 (e + 1) := by
    cases e with
    | zero =>
      have : l = [] := by
        cases l with
        | nil => rfl
        | cons x l => exact absurd rfl (K4 (hlm x (by simp)).2.2.2).1
      subst this
      exact Nat.zero_le _
    | succ d => exact Nat.mul_le_mul_right _ hll
  have key : ∀ k, k ≤ l.length → ((l.take k).foldl (Ja (Gn f e) f ns) t0).length ≤ t0.length + k * (1 + O9 e) ∧ smI ((l.take k).foldl (Ja (Gn f e) f ns) t0) := by
    intro k
    induction k with
    | zero => intro _; exact ⟨by simp, ht⟩
    | succ k ih =>
      intro hk
      obtain ⟨h1, h2⟩ := ih (by omega)
      obtain ⟨b, hb⟩ := B7 (l := l) (i := k) (by omega)
      obtain ⟨q1, _, _, q4⟩ := hlm b (List.mem_of_getElem? hb)
      rw [Yf hb]
      obtain ⟨h3, h4⟩ := A68 (rec := Gn f e) (c := O9 e) hsh hn (by omega) q1 (fun t ht => Wo hsh q4 (Vg hn (by omega) q1) (by simp; omega) ht) h2
      refine ⟨?_, h4⟩
      rw [Nat.add_mul]
      omega
  obtain ⟨h1, h2⟩ := key k hk
  have h3 : k * (1 + O9 e) ≤ l.length * (1 + O9 e) := Nat.mul_le_mul_right _ hk
  refine ⟨by omega, fun hkl => ?_, h2⟩
  have h4 : (k + 1) * (1 + O9 e) ≤ l.length * (1 + O9 e) := Nat.mul_le_mul_right _ hkl
  rw [Nat.add_mul] at h4
  omega
end Go.GH


set_option linter.unusedVariables false
set_option linter.unusedSimpArgs false
namespace Go.Proofs
open Go.Shelf Go.RowKit Go.Lib Go.Sort
end Go.Proofs


set_option linter.unusedVariables false
set_option linter.unusedSimpArgs false
namespace Go.GH
open Go Go.Proofs
noncomputable def Gx : Bp := con [mS 4, .rd [none, none, none, none]] false (Tr × It) (fun ⟨l, x⟩ => [.rd 4 (l.map Ao), .agg (Ao x)]) (fun x => smT x.1) (fun x => .own 4 ((Ut x.1 x.2).map Ao))
noncomputable def A54 : Env := ⟨A4 Bc, A4 [], [0, 1, 3, 4, 5, 6, 7, 12, 26, 38, 47]⟩
set_option maxRecDepth 100000 in
set_option maxHeartbeats 4000000 in
theorem A59 : Bd A54 (Az Tryz.f68) Tryz.f68.results.toList Gx := by
  rintro ⟨l, x⟩ hs
  obtain ⟨hs1, hs2⟩ : smT l := hs
  refine ⟨trivial, ?_⟩
  skip
  refine B2 (fun i : Nat => ⟨[(0, ⟨none, .rd 4 (l.map Ao)⟩), (3, ⟨none, .bx 0 0⟩), (5, ⟨none, .view 1 [] 0 ((Mw (l.take i) x).1.map Ao).length⟩), (6, ⟨none, .bool (Mw (l.take i) x).2⟩), (7, ⟨none, .int .i64 i⟩)], [(1, .own 4 ((Mw (l.take i) x).1.map Ao)), (0, .own 4 [Ao x])], 2⟩)
    (fun i => i ≤ l.length) (fun i => l.length - i) 0 ?_ (by omega) ?_
  · (refine ⟨?_, ?_, rfl⟩ <;> repeat' (first | exact rfl | exact trivial | refine ⟨?_, ?_⟩ | fail) <;> (conv => whnf))
    all_goals simp [Mw]
  intro i hi
  have hi : i ≤ l.length := hi
  have hlen := A79 (x := x) (l := l.take i) (out := []) (d := false)
  have hlen : (Mw (l.take i) x).1.length ≤ 8388608 := by
    have h3 : (l.take i).length ≤ l.length := by simp; omega
    simp only [List.length_nil] at hlen
    show (List.foldl (E7 x) ([], false) (l.take i)).1.length ≤ _
    omega
  (conv => whnf); refine ⟨fun h2 => ?_, fun h2 => ?_⟩
  · have h2 : i < l.length := by simpa using h2
    obtain ⟨y, hy⟩ := B7 h2
    have hnx := B3l (x := x) hy
    generalize hst : Mw (l.take i) x = st at hlen hnx ⊢
    obtain ⟨out, d⟩ := st
    have hlen : out.length ≤ 8388608 := hlen
    repeat ((conv => whnf); first | refine ⟨fun h => h, ?_⟩ | refine ⟨(by kernel_rfl : C6 _ _ = true), ?_⟩ | refine ⟨Ao y, fun _ => ⟨by omega, Am hy⟩, ?_⟩)
    (conv => whnf); refine ⟨fun h3 => ?_, fun h3 => ?_⟩
    · have h3 : (!d && Dm x.path y.path) = true := h3
      repeat ((conv => whnf); first | refine ⟨(by kernel_rfl : C6 _ _ = true), ?_⟩ | refine ⟨bb, ?_⟩ | refine ⟨A2y (by rfl), ?_⟩ | refine ⟨Ao y, fun _ => ⟨by omega, Am hy⟩, ?_⟩)
      (conv => whnf); refine ⟨fun h4 => ?_, fun h4 => ?_⟩
      · have h4 : (!(y.path == x.path)) = true := h4
        have hn : E7 x (out, d) y = (out ++ [x] ++ [y], true) := by simp only [E7, h3, h4, if_true, Bool.true_or]
        repeat ((conv => whnf); first | refine ⟨_, w64 (bb), ?_⟩ | refine ⟨bb, ?_⟩ | refine ⟨A2y (by rfl), ?_⟩ | refine ⟨Ao y, fun _ => ⟨by omega, Am hy⟩, ?_⟩)
        refine C5 (i + 1) ?_ h2 (by first | omega | (simp; done) | (simp; omega))
        rw [hnx, hn]
        (refine ⟨?_, ?_, rfl⟩ <;> repeat' (first | exact rfl | exact trivial | refine ⟨?_, ?_⟩ | fail) <;> (conv => whnf))
        all_goals first | (simp [Ao]; done) | (simp [Ao]; rw [List.take_of_length_le (by simp)]; simp)
      · have h4 : (!(y.path == x.path)) = false := h4
        have hn : E7 x (out, d) y = (out ++ [x], true) := by simp [E7, h3, h4]
        repeat ((conv => whnf); refine ⟨_, w64 (bb), ?_⟩)
        refine C5 (i + 1) ?_ h2 (by first | omega | (simp; done) | (simp; omega))
        rw [hnx, hn]
        (refine ⟨?_, ?_, rfl⟩ <;> repeat' (first | exact rfl | exact trivial | refine ⟨?_, ?_⟩ | fail) <;> (conv => whnf))
        all_goals simp [Ao]
    have h3 : (!d && Dm x.path y.path) = false := h3
    repeat ((conv => whnf); first | refine ⟨(by kernel_rfl : C6 _ _ = true), ?_⟩ | refine ⟨Ao y, fun _ => ⟨by omega, Am hy⟩, ?_⟩)
    (conv => whnf); refine ⟨fun h4 => ?_, fun h4 => ?_⟩
    · have h4 : (!(y.path == x.path)) = true := h4
      have hn : E7 x (out, d) y = (out ++ [y], d) := by simp only [E7, h3, h4]; simp
      repeat ((conv => whnf); first | refine ⟨_, w64 (bb), ?_⟩ | refine ⟨bb, ?_⟩ | refine ⟨A2y (by rfl), ?_⟩ | refine ⟨Ao y, fun _ => ⟨by omega, Am hy⟩, ?_⟩)
      refine C5 (i + 1) ?_ h2 (by first | omega | (simp; done) | (simp; omega))
      rw [hnx, hn]
      (refine ⟨?_, ?_, rfl⟩ <;> repeat' (first | exact rfl | exact trivial | refine ⟨?_, ?_⟩ | fail) <;> (conv => whnf))
      all_goals simp [Ao]
    · have h4 : (!(y.path == x.path)) = false := h4
      have hn : E7 x (out, d) y = (out, d) := by simp [E7, h3, h4]
      repeat ((conv => whnf); refine ⟨_, w64 (bb), ?_⟩)
      refine C5 (i + 1) ?_ h2 (by first | omega | (simp; done) | (simp; omega))
      rw [hnx, hn]
      (refine ⟨?_, ?_, rfl⟩ <;> repeat' (first | exact rfl | exact trivial | refine ⟨?_, ?_⟩ | fail) <;> (conv => whnf))
      all_goals simp [Ao]
  · have h2 : i = l.length := by
      have : ¬ i < l.length := by simpa using h2
      omega
    subst h2
    rw [List.take_length] at hlen ⊢
    have hp : Ut l x = if (Mw l x).2 then (Mw l x).1 else (Mw l x).1 ++ [x] := rfl
    generalize hst : Mw l x = st at hlen hp ⊢
    obtain ⟨out, d⟩ := st
    have hlen : out.length ≤ 8388608 := hlen
    skip
    (conv => whnf); refine ⟨fun h5 => ?_, fun h5 => ?_⟩
    · have h5 : d = false := by simpa using h5
      repeat ((conv => whnf); first | refine ⟨bb, ?_⟩ | refine ⟨A2y (by rfl), ?_⟩)
      exact ⟨trivial, Y2 (by show _ = (Ut l x).map Ao; rw [hp, h5]; simp [Ao]; rw [List.take_of_length_le (by simp)])⟩
    · have h5 : d = true := by simpa using h5
      skip
      exact ⟨trivial, Y2 (by show _ = (Ut l x).map Ao; rw [hp, h5]; simp)⟩
theorem A0k : Ay Tryz.prog 68 Gx := Aq (Ch _ _) FOk.nil mixed Tryz.func68 rfl Tryz.call68 (by decide) (by kernel_rfl) A59 (by intro _ (y : (Tr × It)) _; exact ⟨by simp [Gx, con, Aa, A8, AV.noRd, A7, Ab, A5, A6, Ao], by simp [Gx, con, Aa, A8, AV.noRd, A7, Ab, A5, A6, Ao]⟩) (by intro (y : (Tr × It)) _; first | (simp [Gx, con, Aa, A8, Ag, AV.free, A2, A3, A1, A6, Ao]; done) | (obtain ⟨_, _⟩ := y; simp [Gx, con, Aa, A8, Ag, AV.free, A2, A3, A1, A6, Ao]; done) | (obtain ⟨_, _, _⟩ := y; simp [Gx, con, Aa, A8, Ag, AV.free, A2, A3, A1, A6, Ao]; done))
end Go.GH


set_option linter.unusedVariables false
set_option linter.unusedSimpArgs false
namespace Go.GH
open Go Go.Proofs
noncomputable def Dw : Bp := con [.rd [some 5, some 1], mS 1] true (Fs × List Str) (fun ⟨f, l⟩ => [.agg (Al f), .rd 1 (l.map A6)]) (fun x => Iu x.1 = true ∧ x.2.length ≤ 1048576) (fun ⟨f, l⟩ => .int .i64 (Dk f 0 l))
noncomputable def A65 : Env := ⟨A4 Bc, A4 [(160, Dj), (188, F3)], [0, 1, 2, 4, 5, 6, 7, 8, 12, 22, 30]⟩
set_option maxRecDepth 100000 in
set_option maxHeartbeats 4000000 in
theorem A5c : Bd A65 (Az Tryz.f164) Tryz.f164.results.toList Dw := by
  rintro ⟨f, l⟩ hx
  obtain ⟨hok, hl⟩ : Iu f = true ∧ l.length ≤ 1048576 := hx
  obtain ⟨hsh, _, hat⟩ := On hok
  have hsm := hsh.sm
  have hnn := hsh.nn
  refine ⟨trivial, ?_⟩
  have fin : ∀ {r : Int}, r = Dk f 0 l → Dw.res (f, l) = .int .i64 r := fun h => by rw [h]; rfl
  skip
  refine B2 (fun ((k, i) : Nat × Nat) => ⟨[(1, ⟨none, .rd 1 (l.map A6)⟩), (2, ⟨none, .bx 0 0⟩), (5, ⟨none, .int .i64 i⟩), (6, ⟨none, .int .i64 k⟩)], [(0, .own 2 [Al f])], 1⟩)
    (fun (k, i) => k ≤ l.length ∧ i < f.nodes.length ∧ (∃ d, Uf f d i) ∧ Dk f i (l.drop k) = Dk f 0 l) (fun x => l.length - x.1) (0, 0) ?_ ⟨Nat.zero_le _, by show 0 < f.nodes.length; omega, ⟨5, hat⟩, by rw [List.drop_zero]⟩ ?_
  · (refine ⟨?_, ?_, rfl⟩ <;> repeat' (first | exact rfl | exact trivial | refine ⟨?_, ?_⟩ | fail) <;> (conv => whnf))
  rintro ⟨k, i⟩ ⟨hk, hi, ⟨d, hd⟩, hI⟩
  (conv => whnf); refine ⟨fun h1 => ?_, fun h1 => ?_⟩
  · have h1 : k < l.length := by simpa using h1
    obtain ⟨s, hs⟩ := B7 h1
    have hdr : l.drop k = s :: l.drop (k + 1) := by
      rw [List.drop_eq_getElem_cons h1]
      rw [List.getElem?_eq_getElem h1] at hs
      rw [Option.some.inj hs]
    rw [hdr, Dk] at hI
    have hrl := M9 hsh i
    skip
    refine ⟨(f, i), by (repeat' (first | refine Bn ?_ ?_ | refine Bu ?_ | refine Bh ?_ | refine Bs ?_ | exact rfl)) <;> simp [rdI, rdO, rdE, rdB, rdN, rdS, rdD, rdW, tkM], fun _ => ⟨hsm, hsh.inr, hi, by show (I0 f i).length ≤ _; omega⟩, ?_⟩
    skip
    (conv => whnf); refine ⟨fun h3 => ?_, fun h3 => ?_⟩
    · have h3 : (!(H4 f i).isSome) = true := h3
      have h3 : H4 f i = none := by simpa using h3
      rw [h3] at hI
      skip
      rw [fin hI]
      exact ⟨trivial, rfl⟩
    have h3 : (!(H4 f i).isSome) = false := h3
    have hdn := T6 (f := f) (i := i) (by simpa using h3)
    have hlo := Ow hdn
    have hll := M8 hlo
    rw [hdn] at hI
    generalize (H4 f i).getD [] = m at hI hdn hlo hll
    simp only at hI
    repeat ((conv => whnf); refine ⟨A6 s, fun _ => ⟨by omega, Am hs⟩, ?_⟩)
    refine ⟨(m, s), by (repeat' (first | refine Bn ?_ ?_ | refine Bu ?_ | refine Bh ?_ | refine Bs ?_ | exact rfl)) <;> simp [rdI, rdO, rdE, rdB, rdN, rdS, rdD, rdW, tkM], fun _ => by show m.length ≤ _; omega, ?_⟩
    have hdm := Od (l := m) (s := s)
    generalize hq : F0 m s = q at hI hdm
    skip
    (conv => whnf); refine ⟨fun h4 => ?_, fun h4 => ?_⟩
    · have h4 : decide (F0 m s < 0) = true := h4
      rw [hq] at h4
      rw [if_pos (by simpa using h4)] at hI
      skip
      rw [fin hI]
      exact ⟨trivial, rfl⟩
    have h4 : decide (F0 m s < 0) = false := h4
    rw [hq] at h4
    have h4 : ¬ q < 0 := by simpa using h4
    rw [if_neg h4] at hI
    obtain ⟨hqn, hqd⟩ : q.toNat < f.nodes.length ∧ Uf f (d - 1) q.toNat := by
      rcases hdm with e | ⟨e, he, _, e1⟩
      · omega
      · have := (K4 hd).2 m hdn e he
        rw [e1]
        have h9 := (Hu hlo he).2
        exact ⟨by omega, this.2.2.2⟩
    repeat ((conv => whnf); refine ⟨_, w64 (bb), ?_⟩)
    refine C5 (k + 1, q.toNat) ?_ ⟨h1, hqn, ⟨_, hqd⟩, hI⟩ (by first | omega | (simp; done) | (simp; omega))
    (refine ⟨?_, ?_, rfl⟩ <;> repeat' (first | exact rfl | exact trivial | refine ⟨?_, ?_⟩ | fail) <;> (conv => whnf))
    all_goals (show F0 m s = ((q.toNat : Nat) : Int); rw [hq]; omega)
  have h1 : k = l.length := by have : ¬ (k < l.length) := by simpa using h1
                               omega
  subst h1
  rw [List.drop_length, Dk] at hI
  skip
  rw [fin hI]
  exact ⟨trivial, rfl⟩
theorem Kt : Ay Tryz.prog 164 Dw := Aq (Ch _ _) (FOk.cons Iw (FOk.cons Qs FOk.nil)) mixed Tryz.func164 rfl Tryz.call164 (by decide) (by kernel_rfl) A5c (by intro _ (y : (Fs × List Str)) _; exact ⟨by simp [Dw, con, Aa, A8, AV.noRd, A7, Ab, A5, A6, Ad, Ae, Ah, Ap, Al, Av, Ax, Ao], by simp [Dw, con, Aa, A8, AV.noRd, A7, Ab, A5, A6, Ad, Ae, Ah, Ap, Al, Av, Ax, Ao]⟩) (by intro (y : (Fs × List Str)) _; first | (simp [Dw, con, Aa, A8, Ag, AV.free, A2, A3, A1, A6, Ao, Ad, Ae, Ah, Ap, Al, Av, Ax]; done) | (obtain ⟨_, _⟩ := y; simp [Dw, con, Aa, A8, Ag, AV.free, A2, A3, A1, A6, Ao, Ad, Ae, Ah, Ap, Al, Av, Ax]; done) | (obtain ⟨_, _, _⟩ := y; simp [Dw, con, Aa, A8, Ag, AV.free, A2, A3, A1, A6, Ao, Ad, Ae, Ah, Ap, Al, Av, Ax]; done))
noncomputable def Dv (d : Nat) : Bp := con [.rd [some 5, some 1], mC, mS 1, .co [some 4]] false (Fs × Nat × List Str × Tr) (fun ⟨f, i, ns, t⟩ => [.agg (Al f), .int .i64 i, .rd 1 (ns.map A6), .own 4 (t.map Ao)]) (fun x => d ≠ 0 ∧ d ≤ 6 ∧ Oc x.1 ∧ Uf x.1 (d - 1) x.2.1 ∧ x.2.1 < x.1.nodes.length ∧ B0v x.2.2.1 ∧ x.2.2.1.length + d ≤ 20 ∧ smI x.2.2.2 ∧ x.2.2.2.length + O9 (d - 1) ≤ 4194304) (fun ⟨f, i, ns, t⟩ => .own 4 ((Gn f (d - 1) i ns t).map Ao))
noncomputable def Yt (d : Nat) : Env := ⟨A4 Bc, A4 [(121, Dv d), (68, Gx), (119, Fn), (130, Es), (160, Dj), (161, Fj)], [0, 1, 2, 3, 4, 8, 9, 11, 12, 13, 14, 24, 32, 58]⟩
set_option maxRecDepth 100000 in
set_option maxHeartbeats 4000000 in
theorem Yk (d : Nat) : Bd (Yt d) (Az Tryz.f121) Tryz.f121.results.toList (Dv (d + 1)) := by
  rintro ⟨f, i, ns, t0⟩ hx
  obtain ⟨_, hd6, hsh, hat, hi, hns, hnd, hti, htl⟩ : d + 1 ≠ 0 ∧ d + 1 ≤ 6 ∧ Oc f ∧ Uf f d i ∧ i < f.nodes.length ∧ B0v ns ∧ ns.length + (d + 1) ≤ 20 ∧ smI t0 ∧ t0.length + O9 d ≤ 4194304 := hx
  obtain ⟨e, rfl⟩ : ∃ e, d = e + 1 := ⟨d - 1, by have := (K4 hat).1; omega⟩
  have hsm := hsh.sm
  have hnn := hsh.nn
  have hmm := (K4 hat).2
  rw [Nat.add_sub_cancel] at hmm
  have hnsl := hns.1
  refine ⟨trivial, ?_⟩
  have fin : ∀ {r : Tr}, r = Gn f (e + 1) i ns t0 → (Dv (e + 1 + 1)).res (f, i, ns, t0) = .own 4 (r.map Ao) := fun h => by rw [h]; rfl
  have hrl := M9 hsh i
  skip
  refine ⟨(f, i), by (repeat' (first | refine Bn ?_ ?_ | refine Bu ?_ | refine Bh ?_ | refine Bs ?_ | exact rfl)) <;> simp [rdI, rdO, rdE, rdB, rdN, rdS, rdD, rdW, tkM], fun _ => ⟨hsm, hsh.inr, hi, by show (I0 f i).length ≤ _; omega⟩, ?_⟩
  have hbn : Gn f (e + 1) i ns t0 = ((H4 f i).getD []).foldl (Ja (Gn f e) f ns) t0 := rfl
  obtain ⟨hll, hlm⟩ : ((H4 f i).getD []).length ≤ 26 ∧ ∀ x, x ∈ (H4 f i).getD [] → x.name.length ≤ 6 ∧ 1 ≤ x.node ∧ x.node < f.nodes.length ∧ Uf f e x.node.toNat := by
    cases hdn : H4 f i with
    | none => exact ⟨by simp, fun x hx => by cases hx⟩
    | some l =>
      have hlo := Ow hdn
      refine ⟨M8 hlo, fun x hx => ?_⟩
      have h1 := hmm l hdn x hx
      have h2 := Hu hlo hx
      exact ⟨(Nh h2.1).2, h2.2.1, h1.1, h1.2.2.2⟩
  generalize hl : (H4 f i).getD [] = l at hbn hll hlm
  have hsz := B3k hsh hns (by omega) hll hlm hti htl
  have htk := fun {k : Nat} {x : En} (h : l[k]? = some x) => Yf (f := f) (d := e) (ns := ns) (t := t0) h
  skip
  refine B2 (fun ((k, t) : Nat × Tr) => ⟨[(1, ⟨none, .int .i64 i⟩), (2, ⟨none, .rd 1 (ns.map A6)⟩), (3, ⟨none, .view 1 [] 0 t.length⟩), (4, ⟨none, .bx 2 0⟩), (9, ⟨none, .view 3 [] 0 l.length⟩), (11, ⟨none, .int .i64 k⟩)], [(1, .own 4 (t.map Ao)), (2, .own 2 [Al f]), (3, .own 2 (l.map Ah))], 4⟩)
    (fun (k, t) => k ≤ l.length ∧ t = (l.take k).foldl (Ja (Gn f e) f ns) t0) (fun x => l.length - x.1) (0, t0) ?_ ⟨Nat.zero_le _, by simp⟩ ?_
  · (refine ⟨?_, ?_, rfl⟩ <;> repeat' (first | exact rfl | exact trivial | refine ⟨?_, ?_⟩ | fail) <;> (conv => whnf))
    all_goals simp [hl]
  rintro ⟨k, t⟩ ⟨hk, ht⟩
  (conv => whnf); refine ⟨fun h1 => ?_, fun h1 => ?_⟩
  · have h1 : k < l.length := by have h1 : decide ((k : Int) < ((l.length : Nat) : Int)) = true := h1
                                 simp at h1; omega
    obtain ⟨b, hb⟩ := B7 h1
    obtain ⟨hb6, hb1, hbl, hbk⟩ := hlm b (List.mem_of_getElem? hb)
    obtain ⟨_, hs2, hs3⟩ := hsz k hk
    have hs2 := hs2 h1
    have hnx := htk hb
    rw [← ht] at hs2 hs3 hnx
    have hsmt : smT t := ⟨by omega, hs3⟩
    obtain ⟨y, hy⟩ := B7 (l := f.nodes) (i := b.node.toNat) (by omega)
    have hy2 : f.nodes.getD b.node.toNat .zero = y := by rw [List.getD_eq_getElem?_getD, hy]; rfl
    have hky : Jt f b.node.toNat = y.kind := Mg hy
    unfold Ja at hnx
    rw [hky, hy2] at hnx
    have hnn2 := Vg hns (by omega) hb6
    have hpl := B10 hnn2
    repeat ((conv => whnf); first | refine ⟨bb, ?_⟩ | refine ⟨Ah b, fun _ => by rw [Nat.zero_add]; exact Am hb, ?_⟩)
    (conv => whnf); refine ⟨fun h2 => ?_, fun h2 => ?_⟩
    · have h2 : (b.name == hid) = true := h2
      rw [if_pos h2] at hnx
      repeat ((conv => whnf); refine ⟨_, w64 (bb), ?_⟩)
      refine C5 (k + 1, t) ?_ ⟨h1, hnx.symm⟩ (by first | omega | (simp; done) | (simp; omega))
      (refine ⟨?_, ?_, rfl⟩ <;> repeat' (first | exact rfl | exact trivial | refine ⟨?_, ?_⟩ | fail) <;> (conv => whnf))
    have h2 : (b.name == hid) = false := h2
    rw [if_neg (by rw [h2]; decide)] at hnx
    repeat ((conv => whnf); first | refine ⟨(by kernel_rfl : C6 _ _ = true), ?_⟩ | refine ⟨bb, ?_⟩ | refine ⟨Ah b, fun _ => by rw [Nat.zero_add]; exact Am hb, ?_⟩ | refine ⟨Ap y, fun _ => ⟨by omega, Am hy⟩, ?_⟩)
    refine ⟨ns, by (repeat' (first | refine Bn ?_ ?_ | refine Bu ?_ | refine Bh ?_ | refine Bs ?_ | exact rfl)) <;> simp [rdI, rdO, rdE, rdB, rdN, rdS, rdD, rdW, tkM], fun _ => by show ns.length ≤ _; omega, ?_⟩
    repeat ((conv => whnf); first | refine ⟨(by kernel_rfl : C6 _ _ = true), ?_⟩ | refine ⟨bb, ?_⟩ | refine ⟨fun (r : List AV) hr c hc => by simp [A6] at hr; (try subst hr); simp at hc; (try subst hc); rfl, ?_⟩ | refine ⟨Ah b, fun _ => by rw [Nat.zero_add]; exact Am hb, ?_⟩)
    refine ⟨ns ++ [b.name], by
      refine Bn (Bh ?_) rfl
      refine (congrArg Cl (?_ : _ = (ns ++ [b.name]).map A6)).trans (rdS _)
      simp [tkM, A6, List.take_of_length_le], fun _ => by show (ns ++ [b.name]).length + ((ns ++ [b.name]).map List.length).sum < 4194304; omega, ?_⟩
    repeat ((conv => whnf); refine ⟨(by kernel_rfl : C6 _ _ = true), ?_⟩)
    have hnode : AV.int .i64 b.node = .int .i64 ((b.node.toNat : Nat) : Int) := by rw [Int.toNat_of_nonneg (by omega)]
    have hpo : (Dl (ns ++ [b.name])).length ≤ 4194304 := by
      have := A0v (ns ++ [b.name])
      omega
    (conv => whnf); refine ⟨fun h3 => ?_, fun h3 => ?_⟩
    · have h3 : (y.kind == 2) = true := h3
      have hk2 : y.kind = 2 := by simpa using h3
      rw [if_pos h3] at hnx
      have hpl1 := Xh (x := ⟨Dl (ns ++ [b.name]), 2, [], 0⟩) (l := t)
      have hpi := B9e (x := ⟨Dl (ns ++ [b.name]), 2, [], 0⟩) hs3 ⟨hpo, by simp⟩
      repeat ((conv => whnf); first | refine ⟨bb, ?_⟩ | refine ⟨Ah b, fun _ => by rw [Nat.zero_add]; exact Am hb, ?_⟩)
      refine ⟨(t, ⟨Dl (ns ++ [b.name]), 2, [], 0⟩), by
        refine Bn (Bh ?_) (Bn ?_ rfl)
        · refine (congrArg Cl (?_ : _ = t.map Ao)).trans (rdI _)
          simp [tkM]
        · show AV.agg [.str (Dl (ns ++ [b.name])), .int .i64 y.kind, .str [], .int .i64 0] = _
          rw [hk2]; rfl, fun _ => hsmt, ?_⟩
      skip
      refine ⟨(f, b.node.toNat, ns ++ [b.name], Ut t ⟨Dl (ns ++ [b.name]), 2, [], 0⟩), by
        refine Bn ?_ (Bn hnode (Bn (Bh ?_) (Bn (Bs ?_) rfl)))
        · exact by (repeat' (first | refine Bn ?_ ?_ | refine Bu ?_ | refine Bh ?_ | refine Bs ?_ | exact rfl)) <;> simp [rdI, rdO, rdE, rdB, rdN, rdS, rdD, rdW, tkM]
        · refine (congrArg Cl (?_ : _ = (ns ++ [b.name]).map A6)).trans (rdS _)
          simp [tkM, A6, List.take_of_length_le]
        · simp [tkM], fun _ => ⟨by omega, by show e + 1 ≤ 6; omega, hsh, hbk, by show b.node.toNat < f.nodes.length; omega, hnn2, by show (ns ++ [b.name]).length + (e + 1) ≤ 20; simp; omega, hpi, by show (Ut t _).length + O9 e ≤ 4194304; omega⟩, ?_⟩
      repeat ((conv => whnf); first | refine ⟨(by kernel_rfl : C6 _ _ = true), ?_⟩ | refine ⟨_, w64 (bb), ?_⟩)
      refine C5 (k + 1, Gn f e b.node.toNat (ns ++ [b.name]) (Ut t ⟨Dl (ns ++ [b.name]), 2, [], 0⟩)) ?_ ⟨h1, hnx.symm⟩ (by first | omega | (simp; done) | (simp; omega))
      (refine ⟨?_, ?_, rfl⟩ <;> repeat' (first | exact rfl | exact trivial | refine ⟨?_, ?_⟩ | fail) <;> (conv => whnf))
      all_goals simp
    have h3 : (y.kind == 2) = false := h3
    rw [if_neg (by rw [h3]; decide)] at hnx
    have hrl := M9 hsh b.node.toNat
    repeat ((conv => whnf); first | refine ⟨bb, ?_⟩ | refine ⟨Ah b, fun _ => by rw [Nat.zero_add]; exact Am hb, ?_⟩)
    refine ⟨(f, b.node.toNat), Bn (by (repeat' (first | refine Bn ?_ ?_ | refine Bu ?_ | refine Bh ?_ | refine Bs ?_ | exact rfl)) <;> simp [rdI, rdO, rdE, rdB, rdN, rdS, rdD, rdW, tkM]) (Bn hnode rfl), fun _ => ⟨hsm, hsh.inr, by show b.node.toNat < f.nodes.length; omega⟩, ?_⟩
    repeat ((conv => whnf); refine ⟨(by kernel_rfl : C6 _ _ = true), ?_⟩)
    refine ⟨(t, ⟨Dl (ns ++ [b.name]), y.kind, I0 f b.node.toNat, y.time⟩), by
      refine Bn (Bh ?_) (Bn ?_ rfl)
      · refine (congrArg Cl (?_ : _ = t.map Ao)).trans (rdI _)
        simp [tkM]
      · rfl, fun _ => hsmt, ?_⟩
    repeat ((conv => whnf); refine ⟨_, w64 (bb), ?_⟩)
    refine C5 (k + 1, Ut t ⟨Dl (ns ++ [b.name]), y.kind, I0 f b.node.toNat, y.time⟩) ?_ ⟨h1, hnx.symm⟩ (by first | omega | (simp; done) | (simp; omega))
    (refine ⟨?_, ?_, rfl⟩ <;> repeat' (first | exact rfl | exact trivial | refine ⟨?_, ?_⟩ | fail) <;> (conv => whnf))
    all_goals simp
  have h1 : k = l.length := by have h1 : decide ((k : Int) < ((l.length : Nat) : Int)) = false := h1
                               simp at h1; omega
  subst h1
  rw [List.take_length] at ht
  skip
  rw [fin (ht.trans hbn.symm)]
  exact ⟨trivial, rfl, by simp⟩
theorem Po : ∀ d : Nat, Ay Tryz.prog 121 (Dv d)
  | 0 => fun x hx => absurd rfl hx.1
  | d + 1 => Aq (Ch _ _) (FOk.cons (Po d) (FOk.cons A0k (FOk.cons Rn (FOk.cons Nf (FOk.cons Iw (FOk.cons Rx FOk.nil)))))) mixed Tryz.func121 rfl Tryz.call121 (Nat.le_of_ble_eq_true rfl) (by kernel_rfl) (Yk d) (by intro _ (y : (Fs × Nat × List Str × Tr)) _; exact ⟨by simp [Dv, con, Aa, A8, AV.noRd, A7, Ab, A5, A6, Ad, Ae, Ah, Ap, Al, Av, Ax, Ao], by simp [Dv, con, Aa, A8, AV.noRd, A7, Ab, A5, A6, Ad, Ae, Ah, Ap, Al, Av, Ax, Ao]⟩) (by intro (y : (Fs × Nat × List Str × Tr)) _; first | (simp [Dv, con, Aa, A8, Ag, AV.free, A2, A3, A1, A6, Ao, Ad, Ae, Ah, Ap, Al, Av, Ax]; done) | (obtain ⟨_, _⟩ := y; simp [Dv, con, Aa, A8, Ag, AV.free, A2, A3, A1, A6, Ao, Ad, Ae, Ah, Ap, Al, Av, Ax]; done) | (obtain ⟨_, _, _⟩ := y; simp [Dv, con, Aa, A8, Ag, AV.free, A2, A3, A1, A6, Ao, Ad, Ae, Ah, Ap, Al, Av, Ax]; done))
noncomputable def Fo : Bp := con [.rd [some 5, some 1]] false Fs (fun f => [.agg (Al f)]) smF (fun f => .agg [.own 4 ((Fy f).map Ao)])
noncomputable def A5h : Env := ⟨A4 Bc, A4 [(120, Fb), (121, Dv 6)], [0, 1, 2, 5]⟩
set_option maxRecDepth 100000 in
set_option maxHeartbeats 4000000 in
theorem A34 : Bd A5h (Az Tryz.f78) Tryz.f78.results.toList Fo := by
  intro (f : Fs) hsm
  have hsm : smF f := hsm
  refine ⟨trivial, ?_⟩
  have fin : ∀ {r : Tr}, r = Fy f → Fo.res f = .agg [.own 4 (r.map Ao)] := fun h => by rw [h]; rfl
  skip
  refine ⟨f, by (repeat' (first | refine Bn ?_ ?_ | refine Bu ?_ | refine Bh ?_ | refine Bs ?_ | exact rfl)) <;> simp [rdI, rdO, rdE, rdB, rdN, rdS, rdD, rdW, tkM], fun _ => hsm, ?_⟩
  skip
  (conv => whnf); refine ⟨fun h1 => ?_, fun h1 => ?_⟩
  · have h1 : (!Iu f) = true := h1
    skip
    rw [fin (r := []) (by rw [Fy]; simp at h1; rw [h1]; rfl)]
    exact ⟨trivial, ⟨rfl, rfl⟩, trivial⟩
  have h1 : Iu f = true := by have h1 : (!Iu f) = false := h1
                              simpa using h1
  obtain ⟨hsh, _, hok⟩ := On h1
  have hnn := hsh.nn
  skip
  refine ⟨(f, 0, [], []), by
    refine Bn ?_ (Bn rfl (Bn rfl (Bn rfl rfl)))
    exact by (repeat' (first | refine Bn ?_ ?_ | refine Bu ?_ | refine Bh ?_ | refine Bs ?_ | exact rfl)) <;> simp [rdI, rdO, rdE, rdB, rdN, rdS, rdD, rdW, tkM], fun _ => ⟨by omega, by omega, hsh, hok, by show 0 < f.nodes.length; omega, ⟨by simp, by simp⟩, by simp, (fun x hx => absurd hx (by simp)), by show 0 + O9 5 ≤ 4194304; decide⟩, ?_⟩
  skip
  rw [fin (r := Gn f 5 0 [] []) (by rw [Fy, if_pos h1])]
  refine ⟨trivial, ⟨rfl, ?_⟩, trivial⟩
  simp
theorem A2l : Ay Tryz.prog 78 Fo := Aq (Ch _ _) (FOk.cons Ld (FOk.cons (Po 6) FOk.nil)) mixed Tryz.func78 rfl Tryz.call78 (by decide) (by kernel_rfl) A34 (by intro _ (y : Fs) _; exact ⟨by simp [Fo, con, Aa, A8, AV.noRd, A7, Ab, A5, A6, Ad, Ae, Ah, Ap, Al, Av, Ax, Ao], by simp [Fo, con, Aa, A8, AV.noRd, A7, Ab, A5, A6, Ad, Ae, Ah, Ap, Al, Av, Ax, Ao]⟩) (by intro (y : Fs) _; first | (simp [Fo, con, Aa, A8, Ag, AV.free, A2, A3, A1, A6, Ao, Ad, Ae, Ah, Ap, Al, Av, Ax]; done) | (obtain ⟨_, _⟩ := y; simp [Fo, con, Aa, A8, Ag, AV.free, A2, A3, A1, A6, Ao, Ad, Ae, Ah, Ap, Al, Av, Ax]; done) | (obtain ⟨_, _, _⟩ := y; simp [Fo, con, Aa, A8, Ag, AV.free, A2, A3, A1, A6, Ao, Ad, Ae, Ah, Ap, Al, Av, Ax]; done))
end Go.GH


set_option linter.unusedVariables false
set_option linter.unusedSimpArgs false
namespace Go.GH
open Go
structure Wk (f : Fs) : Prop where
  nn : f.nodes.length ≤ 10
  nd : f.data.length ≤ 36
  inr : inR f
  bl : ∀ n, n ∈ f.nodes → n.blocks.length ≤ 5
  dat : ∀ s, s ∈ f.data → s.length ≤ 16
theorem Wk.sm {f : Fs} (h : Wk f) : smF f := ⟨by have := h.nn; omega, by have := h.nd; omega, fun n hn => by have := h.bl n hn; omega, fun s hs => by have := h.dat s hs; omega⟩
theorem Oc.wk {f : Fs} (h : Oc f) : Wk f := ⟨h.nn.2, h.nd.2, h.inr, fun n hn => Q2 (h.all n hn), h.dat⟩
theorem Wk.read {f : Fs} (h : Wk f) (i : Nat) : (I0 f i).length ≤ 80 := by
  unfold I0
  cases hn : f.nodes[i]? with
  | none => simp
  | some n =>
    have h1 := Tk h.dat n.blocks
    have h2 := h.bl n (List.mem_of_getElem? hn)
    have h3 : n.blocks.length * 16 ≤ 5 * 16 := Nat.mul_le_mul_right _ h2
    show (n.blocks.flatMap _).length ≤ _
    omega
theorem Kp {α : Type} {l : List α} {i : Nat} {a x : α} (h : x ∈ l.set i a) : x = a ∨ x ∈ l := by
  rcases List.mem_or_eq_of_mem_set h with h | h
  · exact .inr h
  · exact .inl h
theorem A6r {d : List Str} : ∀ {l : List Int} {s : Str}, s ∈ Le d l → s = [] ∨ s ∈ d := by
  intro l
  induction l generalizing d with
  | nil => intro s h; exact .inr h
  | cons b l ih =>
    intro s h
    rcases ih (d := clr d b) h with h | h
    · exact .inl h
    · exact Kp h
theorem A2n {s : Str} {bs : List Int} {d : List Str} (hs : s.length ≤ 80) : ∀ {k : Nat}, k ≤ need s → ∀ x, x ∈ Pb s bs k d → x.length ≤ 16 ∨ x ∈ d
  | 0, _, x, h => .inr h
  | k + 1, hk, x, h => by
    rw [Xx, X0] at h
    rcases Kp h with rfl | h
    · left
      have := (B4k hs (k := k) (by omega)).2.2
      rw [List.length_take]; omega
    · exact A2n hs (by omega) x h
theorem B3w {f : Fs} {k : Int} (h : Wk f) : Wk (C2 f k).1 := by
  unfold C2
  split
  · split
    · rename_i i hi
      refine ⟨by simp; exact h.nn, h.nd, fun n hn b hb => ?_, fun n hn => ?_, h.dat⟩
      · rcases Kp hn with rfl | hn
        · simp only [T8] at hb
          rw [List.getD_eq_getElem?_getD] at hb
          cases hq : f.nodes[i]? with
          | none => rw [hq] at hb; cases hb
          | some m => rw [hq] at hb; exact h.inr m (List.mem_of_getElem? hq) b hb
        · exact h.inr n hn b hb
      · rcases Kp hn with rfl | hn
        · simp only [T8]
          rw [List.getD_eq_getElem?_getD]
          cases hq : f.nodes[i]? with
          | none => decide
          | some m => exact h.bl m (List.mem_of_getElem? hq)
        · exact h.bl n hn
    · exact h
  · exact h
theorem B4b {f : Fs} {i : Int} (h : Wk f) : Wk (Gh f i).1 := by
  unfold Gh
  split
  · refine ⟨by simp; exact h.nn, by rw [Ls]; exact h.nd, fun n hn b hb => ?_, fun n hn => ?_, fun s hs => ?_⟩
    · rcases Kp hn with rfl | hn
      · cases hb
      · rw [Ls]; exact h.inr n hn b hb
    · rcases Kp hn with rfl | hn
      · decide
      · exact h.bl n hn
    · rcases A6r hs with rfl | hs
      · simp
      · exact h.dat s hs
  · exact h
theorem A4g (f : Fs) (i : Int) (s : Str) : (Hh f i s).length ≤ need s := by
  have h1 : (B01 f i s).length ≤ need s := by rw [B01, List.length_take]; omega
  rw [Hh, List.length_append, List.length_take]
  omega
theorem B8g (s : Str) : need s ≤ 5 := by have := Q8 (s.length : Int); rw [need]; omega
theorem Yd (f : Fs) (i : Int) (s : Str) : (Ta f i s).length = f.data.length := by rw [Ta, Ur, Ls]
theorem Rd {f : Fs} {i : Int} {s : Str} (h : Wk f) : Wk (Ba f i s).1 := by
  unfold Ba
  split
  · rename_i hc
    simp only [Mh, Bool.and_eq_true, decide_eq_true_eq] at hc
    obtain ⟨⟨hc1, hc2⟩, _⟩ := hc
    refine ⟨by simp; exact h.nn, by rw [Yd]; exact h.nd, fun n hn b hb => ?_, fun n hn => ?_, fun x hx => ?_⟩
    · rw [Yd]
      rcases Kp hn with rfl | hn
      · exact Tn hc1 b hb
      · exact h.inr n hn b hb
    · rcases Kp hn with rfl | hn
      · have := A4g f i s; have := B8g s; show (Hh f i s).length ≤ 5; omega
      · exact h.bl n hn
    · rcases A2n hc2 (Nat.le_refl _) x hx with h1 | h1
      · exact h1
      · rcases A6r h1 with rfl | h1
        · simp
        · exact h.dat x h1
  · exact h
theorem A69 (f : Fs) (i : Int) (s : Str) : (Ba f i s).1.nodes.length = f.nodes.length := by unfold Ba; split <;> simp
theorem B11 (f : Fs) (k : Int) : (C2 f k).1.nodes.length = f.nodes.length := by
  unfold C2
  split
  · split <;> simp
  · rfl
theorem B7r (f : Fs) (i : Int) : (Gh f i).1.nodes.length = f.nodes.length := by unfold Gh; split <;> simp
def Ff (f : Fs) (i : Nat) : List En := (H4 f i).getD []
theorem A93 (f : Fs) (i : Nat) : (Ff f i).length ≤ 26 ∧ (∀ e, e ∈ Ff f i → e.name.length ≤ 6) ∧ szE (Ff f i) ≤ 468 := by
  unfold Ff
  cases hd : H4 f i with
  | none => exact ⟨by simp, fun e he => absurd he (by simp), by simp [szE]⟩
  | some l =>
    have hlo := Ow hd
    have h1 := M8 hlo
    have h2 : ∀ e, e ∈ l → e.name.length ≤ 6 := fun e he => (Nh (Hu hlo he).1).2
    refine ⟨h1, h2, ?_⟩
    show szE l ≤ 468
    have key : ∀ (l : List En), (∀ e, e ∈ l → e.name.length ≤ 6) → szE l ≤ l.length * 18 := by
      intro l
      induction l with
      | nil => intro _; simp [szE]
      | cons a l ih =>
        intro h
        have h1 := ih fun e he => h e (by simp [he])
        have h2 := h a (by simp)
        rw [T4, List.length_cons, Nat.add_mul]
        omega
    have h3 := key l h2
    have h4 : l.length * 18 ≤ 26 * 18 := Nat.mul_le_mul_right _ h1
    omega
def enter (f : Fs) (i : Nat) (e : En) : Fs × Bool := if (Gl (Ff f i) e).2 then Ba f i (F1 (Gl (Ff f i) e).1) else (f, false)
def B8u (f : Fs) (i : Nat) (s : Str) : Fs := (Ba f i (F1 (Gm (Ff f i) s))).1
def Io (f : Fs) (i : Nat) (s : Str) (k : Int) : Fs × Int × Bool := if (C2 f k).2.2 then ((enter (C2 f k).1 i ⟨s, (C2 f k).2.1⟩).1, (C2 f k).2.1, (enter (C2 f k).1 i ⟨s, (C2 f k).2.1⟩).2) else (f, -1, false)
def down : Fs → Nat → List Str → Fs × Int × Int
  | f, i, [] => if Jt f i != 2 then (f, -1, 4) else (f, i, 0)
  | f, i, s :: r => if !(H4 f i).isSome then (f, -1, 4) else if F0 (Ff f i) s < 0 then (if (Io f i s 2).2.2 then down (Io f i s 2).1 (Io f i s 2).2.1.toNat r else (f, -1, 5)) else down f (F0 (Ff f i) s).toNat r
def A7d (n : Nd) (t g : Int) : Nd := ⟨n.kind, g, t, n.size, n.blocks⟩
def I2 (f : Fs) (i : Int) (s : Str) (t g : Int) : Fs × Bool := if (Ba f i s).2 then (⟨(Ba f i s).1.nodes.set i.toNat (A7d (Gi (Ba f i s).1 i) t g), (Ba f i s).1.data⟩, true) else (f, false)
def A78 (t g : Int) : Bool := inB t 0 100000 && inB g 0 1000000
def wr2 (f : Fs) (w : Fs × Bool) : Fs × Int := if !w.2 then (f, 5) else (w.1, 0)
def mk3 (f : Fs) (n : Fs × Int × Bool) (s : Str) (t g : Int) : Fs × Int := if !n.2.2 then (f, 5) else wr2 f (I2 n.1 n.2.1 s t g)
def mk2 (f : Fs) (d : Fs × Int × Int) (p : Str) (k : Int) (s : Str) (t g : Int) : Fs × Int := if d.2.2 != 0 then (f, d.2.2) else mk3 f (Io d.1 d.2.1.toNat (Ji p) k) s t g
def up (p : Str) : List Str := (names p).take ((names p).length - 1)
def Mn (f : Fs) (p : Str) (k : Int) (s : Str) (t g : Int) : Fs × Int :=
  if !Iu f || !inB k 1 3 || !A78 t g || (k == 2 && (!(s == []) || t != 0 || g != 0)) then (f, 10)
  else if !Aw p || p == sl then (f, 1)
  else if decide ((s.length : Int) > 80) then (f, 9)
  else if decide (Dk f 0 (names p) ≥ 0) then (f, 3)
  else mk2 f (down f 0 (up p)) p k s t g
def Xw (f : Fs) (p : Str) (s : Str) (t g : Int) : Fs × Int :=
  if !Iu f || !A78 t g then (f, 10)
  else if !Aw p then (f, 1)
  else if decide (Dk f 0 (names p) < 0) then (f, 2)
  else if Jt f (Dk f 0 (names p)).toNat == 2 then (f, 4)
  else if decide ((s.length : Int) > 80) then (f, 9)
  else wr2 f (I2 f (Dk f 0 (names p)) s t g)
def Sx (f : Fs) (p : Str) : Fs × Int :=
  if !Iu f then (f, 10)
  else if !Aw p || p == sl then (f, 1)
  else if decide (Dk f 0 (names p) < 0) then (f, 2)
  else if (Gi f (Dk f 0 (names p))).kind == 2 && decide ((Gi f (Dk f 0 (names p))).size > 0) then (f, 8)
  else (B8u (Gh f (Dk f 0 (names p))).1 (Dk f 0 (up p)).toNat (Ji p), 0)
def hd3 (f : Fs) (n : Fs × Int × Bool) (s : Str) : Fs × Int := if !n.2.2 then (f, 5) else wr2 f (Ba n.1 n.2.1 s)
def P8 (f : Fs) (s : Str) : Fs × Int :=
  if !Iu f then (f, 10)
  else if decide ((s.length : Int) > 80) then (f, 9)
  else if decide (Dk f 0 [hid] < 0) then hd3 f (Io f 0 hid 1) s
  else wr2 f (Ba f (Dk f 0 [hid]) s)
theorem B6c {f : Fs} {i : Nat} {e : En} (h : Wk f) : Wk (enter f i e).1 := by
  unfold enter
  split
  · exact Rd h
  · exact h
theorem B5q (f : Fs) (i : Nat) (e : En) : (enter f i e).1.nodes.length = f.nodes.length := by
  unfold enter
  split
  · exact A69 _ _ _
  · rfl
theorem Qi {f : Fs} {i : Nat} {s : Str} {k : Int} (h : Wk f) : Wk (Io f i s k).1 := by
  unfold Io
  split
  · exact B6c (B3w h)
  · exact h
theorem B0g (f : Fs) (i : Nat) (s : Str) (k : Int) : (Io f i s k).1.nodes.length = f.nodes.length := by
  unfold Io
  split
  · rw [B5q, B11]
  · rfl
theorem B4z {f : Fs} {k : Int} (h : (C2 f k).2.2 = true) : ∃ j : Nat, Oc f ∧ j < f.nodes.length ∧ f.nodes[j]? = some Nd.zero ∧ C2 f k = (⟨f.nodes.set j ⟨k, 0, 0, 0, []⟩, f.data⟩, (j : Int), true) := by
  unfold C2 at h ⊢
  split at h
  · rename_i hc
    rw [if_pos hc]
    simp only [Bool.and_eq_true] at hc
    have hsh := W9 hc.1
    cases hf : Vq f with
    | none => rw [hf] at h; cases h
    | some j =>
      simp only
      rw [Vq, List.findIdx?_eq_some_iff_getElem] at hf
      obtain ⟨hj, h2, _⟩ := hf
      have hz : f.nodes[j] = Nd.zero := B1u (hsh.all _ (List.getElem_mem hj)) (by simpa using h2)
      refine ⟨j, hsh, hj, by rw [List.getElem?_eq_getElem hj, hz], ?_⟩
      rw [List.getD_eq_getElem?_getD, List.getElem?_eq_getElem hj, Option.getD_some, hz]
      rfl
  · cases h
theorem B7j {f : Fs} {i : Nat} {l : List En} (h : H4 f i = some l) : Jt f i = 2 := by
  unfold H4 at h
  split at h
  · cases h
  · rename_i n hn
    split at h
    · rename_i hk; rw [Mg hn]; simpa using hk
    · cases h
theorem B44 {f : Fs} {i : Nat} {s : Str} {k : Int} {l : List En} (h : (Io f i s k).2.2 = true) (hd : H4 f i = some l) :
    ∃ j : Nat, (Io f i s k).2.1 = (j : Int) ∧ j < f.nodes.length ∧ I0 (Io f i s k).1 j = [] ∧ Jt (Io f i s k).1 j = k := by
  unfold Io at h ⊢
  split at h
  · rename_i hm
    rw [if_pos hm]
    obtain ⟨j, hsh, hj, hz, e⟩ := B4z hm
    rw [e] at h ⊢
    simp only at h ⊢
    refine ⟨j, rfl, hj, ?_⟩
    have hij : i ≠ j := by
      intro e2
      subst e2
      have := B7j hd
      rw [Mg hz] at this
      cases this
    have key : (enter ⟨f.nodes.set j ⟨k, 0, 0, 0, []⟩, f.data⟩ i ⟨s, (j : Int)⟩).1.nodes[j]? = some ⟨k, 0, 0, 0, []⟩ := by
      unfold enter
      split
      · unfold Ba
        split
        · simp only [Int.toNat_natCast]
          rw [List.getElem?_set_ne hij, List.getElem?_set_self hj]
        · exact List.getElem?_set_self hj
      · exact List.getElem?_set_self hj
    exact ⟨by rw [I0, key]; rfl, Mg key⟩
  · cases h
def R5 (f : Fs) (i : Int) (s : Str) (t g : Int) : List AV := if (I2 f i s t g).2 then Ax (I2 f i s t g).1 else Al f
theorem B5l (n : Nd) : A2 (Av n) := by simp [A1, Av, A2, AV.free, Ad]
theorem B5g (n : Nd) : A2 (Ap n) := by simp [A1, Ap, A2, AV.free, Ad]
theorem B3 (f : Fs) (i : Int) (s : Str) (t g : Int) : A2 (R5 f i s t g) := by
  unfold R5
  split <;> simp [Ax, Al, A2, AV.free, B5l, B5g, A1, A6]
theorem B6s {f : Fs} {i : Int} {s : Str} {t g : Int} (h : (I2 f i s t g).2 = false) : (I2 f i s t g).1 = f := by
  unfold I2 at h ⊢
  split
  · rename_i h1; rw [if_pos h1] at h; cases h
  · rfl
theorem B54 (f : Fs) (i : Int) (s : Str) (t g : Int) : (AV.tup [.agg (R5 f i s t g), .bool (I2 f i s t g).2]).okT = true ∧ A7g (AV.tup [.agg (R5 f i s t g), .bool (I2 f i s t g).2]) ≤ 16 ∧ frz (AV.tup [.agg (R5 f i s t g), .bool (I2 f i s t g).2]) = .tup [.agg (Al (I2 f i s t g).1), .bool (I2 f i s t g).2] := by
  cases h : (I2 f i s t g).2 with
  | true =>
    rw [R5, h, if_pos rfl]
    exact ⟨rfl, by show 2 ≤ 16; omega, by simp only [frz, Mb, Ax, Al, List.map_cons, List.map_nil, N2, rdW, rdS]⟩
  | false =>
    rw [R5, h, if_neg (by decide), B6s h]
    exact ⟨rfl, by show 0 ≤ 16; omega, rfl⟩
theorem A7u : ∀ {l : List Str} {f : Fs} {i : Nat}, Wk f → i < f.nodes.length → ((∃ d, Uf f d i) ∨ I0 f i = []) → (down f i l).2.2 = 0 → Wk (down f i l).1 ∧ 0 ≤ (down f i l).2.1 ∧ (down f i l).2.1.toNat < (down f i l).1.nodes.length
  | [], f, i, hw, hi, hph, h => by
    rw [down] at h ⊢
    split
    · rename_i h1; rw [if_pos h1] at h; cases h
    · exact ⟨hw, by simp, by simpa using hi⟩
  | s :: r, f, i, hw, hi, hph, h => by
    rw [down] at h ⊢
    split
    · rename_i h1; rw [if_pos h1] at h; cases h
    rename_i h1
    rw [if_neg h1] at h
    have hdn := T6 (f := f) (i := i) (by cases hq : (H4 f i).isSome <;> simp_all)
    split
    · rename_i h2
      rw [if_pos h2] at h
      split
      · rename_i h3
        rw [if_pos h3] at h
        obtain ⟨j, hj1, hj2, hj3, _⟩ := B44 h3 hdn
        have hnl := B0g f i s 2
        rw [hj1, Int.toNat_natCast] at h ⊢
        exact A7u (Qi hw) (by omega) (.inr hj3) h
      · rename_i h3; rw [if_neg h3] at h; cases h
    · rename_i h2
      rw [if_neg h2] at h
      rcases Od (l := Ff f i) (s := s) with e | ⟨e, he, _, e1⟩
      · omega
      · rcases hph with ⟨d, hd⟩ | hr
        · have h8 := (K4 hd).2 _ hdn e he
          have h9 := (Hu (Ow hdn) he).2
          rw [e1] at h ⊢
          exact A7u hw (by omega) (.inl ⟨_, h8.2.2.2⟩) h
        · exfalso
          have : Ff f i = [] := by
            unfold Ff H4
            cases hq : f.nodes[i]? with
            | none => rfl
            | some n =>
              simp only [hr]
              split <;> rfl
          rw [this] at he
          cases he
theorem B1a {f : Fs} : ∀ {l r : List Str} {i : Nat}, Dk f i l < 0 → Dk f i (l ++ r) < 0
  | [], r, i, h => by rw [Dk] at h; omega
  | s :: l, r, i, h => by
    rw [Dk] at h
    rw [List.cons_append, Dk]
    split
    · omega
    · rename_i m hm
      rw [hm] at h
      simp only at h
      split
      · omega
      · rename_i h2
        rw [if_neg h2] at h
        exact B1a h
theorem B81 {f : Fs} {p : Str} (h : ¬ Dk f 0 (names p) < 0) : ¬ Dk f 0 (up p) < 0 := fun hu => h (by
  have := B1a (f := f) (l := up p) (r := (names p).drop ((names p).length - 1)) (i := 0) hu
  rwa [up, List.take_append_drop] at this)
theorem B0n {p : Str} (h1 : Aw p = true) (h2 : (p == sl) = false) : 1 ≤ (names p).length := by
  have := (Jk h1 h2).2
  exact List.length_pos_iff.2 this
theorem Tj {p : Str} : (∀ s, s ∈ names p → s.length ≤ 6) := fun s hs => by
  have := List.all_eq_true.1 (N7 (p := p)) s hs
  exact (Nh (by simp [Uu, this])).2
theorem A31 (p : Str) : (Ji p).length ≤ 6 := by
  unfold Ji
  rw [List.getLastD_eq_getLast?]
  cases h : (names p).getLast? with
  | none => simp
  | some s => exact Tj s (List.mem_of_getLast? h)
end Go.GH


