import Derived.Test.YtpbpaijjpglmlaaGreatSB
import Derived.Lib.Strings
set_option linter.unusedVariables false
set_option linter.unusedSimpArgs false
set_option linter.unusedSimpArgs false
namespace Go.GH
open Go Go.Proofs
noncomputable def D0 : Bi := A8 true [.rd [some 5, some 1], mC, mC, mC] (Fs × Nat × En) (fun ⟨f, i, e⟩ => [.agg (Ap f), .int .i64 i, .str e.name, .int .i64 e.node]) (fun x => Wk x.1 ∧ x.2.1 < x.1.nodes.length ∧ x.2.2.name.length ≤ 1048576) (fun ⟨f, i, e⟩ => .tup [.agg (Ap (enter f i e).1), .bool (enter f i e).2]) (fun _ => [])
noncomputable def A13 : Env := ⟨A4 Ba, A4 [(160, E5), (171, Jv), (193, Eu), (205, Fc)], [0, 1, 2, 3, 4, 8, 9, 10, 12, 13, 28]⟩
set_option maxRecDepth 100000 in
set_option maxHeartbeats 4000000 in
theorem A11 : Bb A13 (Ax Tryz.f190) Tryz.f190.results.toList D0 := by
  rintro ⟨f, i, e⟩ hx
  obtain ⟨hw, hi, hn⟩ : Wk f ∧ i < f.nodes.length ∧ e.name.length ≤ 1048576 := hx
  have hsm := hw.sm
  have hnn := hw.nn
  have hr := hw.read i
  obtain ⟨d1, d2, d3⟩ := B20 f i
  have hdl : G4 f i = (Hr f i).getD [] := rfl
  have hae : smE (G4 f i) ∧ e.name.length ≤ 1048576 := ⟨⟨by omega, by omega, fun x hx => by have := d2 x hx; omega⟩, hn⟩
  obtain ⟨a1, a2, a3⟩ : (Ha (G4 f i) e).1.length ≤ 1099511627 ∧ szE (Ha (G4 f i) e).1 ≤ 4398046511104 ∧ ∀ x, x ∈ (Ha (G4 f i) e).1 → x.name.length ≤ 8388608 := by
    unfold Ha
    split
    · have h1 := A2y (G4 f i) e
      have h2 := A96 (G4 f i) e
      refine ⟨by simp only; omega, by simp only; omega, fun x hx => ?_⟩
      rcases A2d hx with rfl | h
      · omega
      · have := d2 x h; omega
    · exact ⟨by simp only; omega, by simp only; omega, fun x hx => by have := d2 x hx; omega⟩
  refine ⟨trivial, ?_⟩
  have fin : ∀ {r : Fs × Bool}, r = enter f i e → D0.res (f, i, e) = .tup [.agg (Ap r.1), .bool r.2] := fun h => by rw [h]; rfl
  skip
  refine ⟨(f, i), by (repeat' (first | refine Bu ?_ ?_ | refine Bz ?_ | refine Bq ?_ | refine Bx ?_ | exact rfl)) <;> simp [rdI, rdO, rdE, rdB, rdN, rdS, rdD, rdW, tkM], fun _ => ⟨hsm, hw.inr, hi, by show (Il f i).length ≤ _; omega⟩, ?_⟩
  skip
  refine ⟨(G4 f i, e), by rw [hdl]; exact by (repeat' (first | refine Bu ?_ ?_ | refine Bz ?_ | refine Bq ?_ | refine Bx ?_ | exact rfl)) <;> simp [rdI, rdO, rdE, rdB, rdN, rdS, rdD, rdW, tkM], fun _ => hae, ?_⟩
  skip
  (conv => whnf); refine ⟨fun h1 => ?_, fun h1 => ?_⟩
  · have h1 : (!(Ha (G4 f i) e).2) = true := h1
    have hd : (f, false) = enter f i e := by rw [enter]; simp at h1; rw [h1]; rfl
    skip
    rw [fin hd]
    exact ⟨trivial, ⟨rfl, rfl, trivial⟩, rfl, trivial⟩
  have h1 : (Ha (G4 f i) e).2 = true := by
    have h1 : (!(Ha (G4 f i) e).2) = false := h1
    simpa using h1
  have hd : Bd f i (Fr (Ha (G4 f i) e).1) = enter f i e := by rw [enter, if_pos h1]
  have hdt := Pq (Ha (G4 f i) e).1
  skip
  refine ⟨(Ha (G4 f i) e).1, by (repeat' (first | refine Bu ?_ ?_ | refine Bz ?_ | refine Bq ?_ | refine Bx ?_ | exact rfl)) <;> simp [rdI, rdO, rdE, rdB, rdN, rdS, rdD, rdW, tkM], fun _ => ⟨a1, a2, a3⟩, ?_⟩
  skip
  refine ⟨(f, (i : Int), Fr (Ha (G4 f i) e).1), by (repeat' (first | refine Bu ?_ ?_ | refine Bz ?_ | refine Bq ?_ | refine Bx ?_ | exact rfl)) <;> simp [rdI, rdO, rdE, rdB, rdN, rdS, rdD, rdW, tkM], fun _ => ⟨hsm, by show (Fr (Ha (G4 f i) e).1).length ≤ _; omega⟩, ?_⟩
  repeat ((conv => whnf); refine ⟨(by kernel_rfl : Bw _ _ = true), ?_⟩)
  rw [fin hd]
  exact ⟨trivial, ⟨rfl, rfl, trivial⟩, rfl, trivial⟩
theorem Zo : Av Tryz.prog 190 D0 := Dd (Ca _ _) (FOk.cons Jp (FOk.cons L6 (FOk.cons Nn (FOk.cons A41 FOk.nil)))) mixed Tryz.func190 rfl Tryz.call190 (by decide) (by kernel_rfl) A11 (fun h => by cases h) (by intro (y : (Fs × Nat × En)) _; first | exact ⟨by simp [D0, con, A9, A8, Ad, AV.free, A2, A3, A1, A6, Ae, Ag, Ai, At, Ap, Az, B1, B5], by simp [D0, con, A9, A8, Ad, AV.free, A2, A3, A1, A6, Ae, Ag, Ai, At, Ap, Az, B1, B5]⟩ | (obtain ⟨_, _⟩ := y; exact ⟨by simp [D0, con, A9, A8, Ad, AV.free, A2, A3, A1, A6, Ae, Ag, Ai, At, Ap, Az, B1, B5], by simp [D0, con, A9, A8, Ad, AV.free, A2, A3, A1, A6, Ae, Ag, Ai, At, Ap, Az, B1, B5]⟩) | (obtain ⟨_, _, _⟩ := y; exact ⟨by simp [D0, con, A9, A8, Ad, AV.free, A2, A3, A1, A6, Ae, Ag, Ai, At, Ap, Az, B1, B5], by simp [D0, con, A9, A8, Ad, AV.free, A2, A3, A1, A6, Ae, Ag, Ai, At, Ap, Az, B1, B5]⟩)) (by intro (y : (Fs × Nat × En)) _; first | (simp [D0, con, A9, A8, Ad, AV.free, A2, A3, A1, A6, Ae, Ag, Ai, At, Ap, Az, B1, B5]; done) | (obtain ⟨_, _⟩ := y; simp [D0, con, A9, A8, Ad, AV.free, A2, A3, A1, A6, Ae, Ag, Ai, At, Ap, Az, B1, B5]; done) | (obtain ⟨_, _, _⟩ := y; simp [D0, con, A9, A8, Ad, AV.free, A2, A3, A1, A6, Ae, Ag, Ai, At, Ap, Az, B1, B5]; done))
noncomputable def Dc : Bi := A8 true [.rd [some 5, some 1], mC, mC] (Fs × Nat × Str) (fun ⟨f, i, s⟩ => [.agg (Ap f), .int .i64 i, .str s]) (fun x => Wk x.1 ∧ x.2.1 < x.1.nodes.length) (fun ⟨f, i, s⟩ => .agg (Ap (C2w f i s))) (fun _ => [])
noncomputable def A19 : Env := ⟨A4 Ba, A4 [(160, E5), (171, Jv), (192, Er), (193, Eu)], [0, 1, 2, 3, 6, 7, 9, 11]⟩
set_option maxRecDepth 100000 in
set_option maxHeartbeats 4000000 in
theorem A0l : Bb A19 (Ax Tryz.f170) Tryz.f170.results.toList Dc := by
  rintro ⟨f, i, s⟩ hx
  obtain ⟨hw, hi⟩ : Wk f ∧ i < f.nodes.length := hx
  have hsm := hw.sm
  have hnn := hw.nn
  have hr := hw.read i
  obtain ⟨d1, d2, d3⟩ := B20 f i
  have hdl : G4 f i = (Hr f i).getD [] := rfl
  have hsb : (Hb (G4 f i) s).Sublist (G4 f i) := List.eraseP_sublist
  have hm2 : ∀ x, x ∈ Hb (G4 f i) s → x ∈ G4 f i := fun x hx => hsb.subset hx
  have hl2 : (Hb (G4 f i) s).length ≤ (G4 f i).length := hsb.length_le
  have hz : szE (Hb (G4 f i) s) ≤ 468 := by
    have key : ∀ {l m : List En}, l.Sublist m → szE l ≤ szE m := by
      intro l m h
      induction h with
      | slnil => exact Nat.le_refl _
      | cons a _ ih => rw [U5]; omega
      | cons_cons a _ ih => rw [U5, U5]; omega
    have := key hsb
    omega
  refine ⟨trivial, ?_⟩
  skip
  refine ⟨(f, i), by (repeat' (first | refine Bu ?_ ?_ | refine Bz ?_ | refine Bq ?_ | refine Bx ?_ | exact rfl)) <;> simp [rdI, rdO, rdE, rdB, rdN, rdS, rdD, rdW, tkM], fun _ => ⟨hsm, hw.inr, hi, by show (Il f i).length ≤ _; omega⟩, ?_⟩
  skip
  refine ⟨(G4 f i, s), by rw [hdl]; exact by (repeat' (first | refine Bu ?_ ?_ | refine Bz ?_ | refine Bq ?_ | refine Bx ?_ | exact rfl)) <;> simp [rdI, rdO, rdE, rdB, rdN, rdS, rdD, rdW, tkM], fun _ => by show (G4 f i).length ≤ _; omega, ?_⟩
  have hdt := Pq (Hb (G4 f i) s)
  skip
  refine ⟨Hb (G4 f i) s, by (repeat' (first | refine Bu ?_ ?_ | refine Bz ?_ | refine Bq ?_ | refine Bx ?_ | exact rfl)) <;> simp [rdI, rdO, rdE, rdB, rdN, rdS, rdD, rdW, tkM], fun _ => ⟨by omega, by omega, fun x hx => by have := d2 x (hm2 x hx); omega⟩, ?_⟩
  skip
  refine ⟨(f, (i : Int), Fr (Hb (G4 f i) s)), by (repeat' (first | refine Bu ?_ ?_ | refine Bz ?_ | refine Bq ?_ | refine Bx ?_ | exact rfl)) <;> simp [rdI, rdO, rdE, rdB, rdN, rdS, rdD, rdW, tkM], fun _ => ⟨hsm, by show (Fr (Hb (G4 f i) s)).length ≤ _; omega⟩, ?_⟩
  repeat ((conv => whnf); refine ⟨(by kernel_rfl : Bw _ _ = true), ?_⟩)
  exact ⟨trivial, rfl, rfl, trivial⟩
theorem Yp : Av Tryz.prog 170 Dc := Dd (Ca _ _) (FOk.cons Jp (FOk.cons L6 (FOk.cons A0u (FOk.cons Nn FOk.nil)))) mixed Tryz.func170 rfl Tryz.call170 (by decide) (by kernel_rfl) A0l (fun h => by cases h) (by intro (y : (Fs × Nat × Str)) _; first | exact ⟨by simp [Dc, con, A9, A8, Ad, AV.free, A2, A3, A1, A6, Ae, Ag, Ai, At, Ap, Az, B1, B5], by simp [Dc, con, A9, A8, Ad, AV.free, A2, A3, A1, A6, Ae, Ag, Ai, At, Ap, Az, B1, B5]⟩ | (obtain ⟨_, _⟩ := y; exact ⟨by simp [Dc, con, A9, A8, Ad, AV.free, A2, A3, A1, A6, Ae, Ag, Ai, At, Ap, Az, B1, B5], by simp [Dc, con, A9, A8, Ad, AV.free, A2, A3, A1, A6, Ae, Ag, Ai, At, Ap, Az, B1, B5]⟩) | (obtain ⟨_, _, _⟩ := y; exact ⟨by simp [Dc, con, A9, A8, Ad, AV.free, A2, A3, A1, A6, Ae, Ag, Ai, At, Ap, Az, B1, B5], by simp [Dc, con, A9, A8, Ad, AV.free, A2, A3, A1, A6, Ae, Ag, Ai, At, Ap, Az, B1, B5]⟩)) (by intro (y : (Fs × Nat × Str)) _; first | (simp [Dc, con, A9, A8, Ad, AV.free, A2, A3, A1, A6, Ae, Ag, Ai, At, Ap, Az, B1, B5]; done) | (obtain ⟨_, _⟩ := y; simp [Dc, con, A9, A8, Ad, AV.free, A2, A3, A1, A6, Ae, Ag, Ai, At, Ap, Az, B1, B5]; done) | (obtain ⟨_, _, _⟩ := y; simp [Dc, con, A9, A8, Ad, AV.free, A2, A3, A1, A6, Ae, Ag, Ai, At, Ap, Az, B1, B5]; done))
noncomputable def D6 : Bi := A8 true [.rd [some 5, some 1], mC, mC, mC] (Fs × Nat × Str × Int) (fun ⟨f, i, s, k⟩ => [.agg (Ap f), .int .i64 i, .str s, .int .i64 k]) (fun x => Wk x.1 ∧ x.2.1 < x.1.nodes.length ∧ x.2.2.1.length ≤ 1048576) (fun ⟨f, i, s, k⟩ => .tup [.agg (Ap (Jf f i s k).1), .int .i64 (Jf f i s k).2.1, .bool (Jf f i s k).2.2]) (fun _ => [])
noncomputable def A5q : Env := ⟨A4 Ba, A4 [(189, Qp), (190, D0)], [0, 1, 2, 3, 4, 8, 9, 10, 11, 12, 13, 14, 15, 24]⟩
set_option maxRecDepth 100000 in
set_option maxHeartbeats 4000000 in
theorem A80 : Bb A5q (Ax Tryz.f166) Tryz.f166.results.toList D6 := by
  rintro ⟨f, i, s, k⟩ hx
  obtain ⟨hw, hi, hn⟩ : Wk f ∧ i < f.nodes.length ∧ s.length ≤ 1048576 := hx
  have hsm := hw.sm
  refine ⟨trivial, ?_⟩
  have fin : ∀ {r : Fs × Int × Bool}, r = Jf f i s k → D6.res (f, i, s, k) = .tup [.agg (Ap r.1), .int .i64 r.2.1, .bool r.2.2] := fun h => by rw [h]; rfl
  skip
  refine ⟨(f, k), by (repeat' (first | refine Bu ?_ ?_ | refine Bz ?_ | refine Bq ?_ | refine Bx ?_ | exact rfl)) <;> simp [rdI, rdO, rdE, rdB, rdN, rdS, rdD, rdW, tkM], fun _ => hsm, ?_⟩
  skip
  (conv => whnf); refine ⟨fun h1 => ?_, fun h1 => ?_⟩
  · have h1 : (!(C5 f k).2.2) = true := h1
    have hd : (f, -1, false) = Jf f i s k := by rw [Jf]; simp at h1; rw [h1]; rfl
    skip
    rw [fin hd]
    exact ⟨trivial, ⟨rfl, rfl, trivial⟩, rfl, rfl, trivial⟩
  have h1 : (C5 f k).2.2 = true := by
    have h1 : (!(C5 f k).2.2) = false := h1
    simpa using h1
  have hd : ((enter (C5 f k).1 i ⟨s, (C5 f k).2.1⟩).1, (C5 f k).2.1, (enter (C5 f k).1 i ⟨s, (C5 f k).2.1⟩).2) = Jf f i s k := by rw [Jf, if_pos h1]
  have hml := B45 f k
  skip
  refine ⟨((C5 f k).1, i, ⟨s, (C5 f k).2.1⟩), by (repeat' (first | refine Bu ?_ ?_ | refine Bz ?_ | refine Bq ?_ | refine Bx ?_ | exact rfl)) <;> simp [rdI, rdO, rdE, rdB, rdN, rdS, rdD, rdW, tkM], fun _ => ⟨B7f hw, by show i < (C5 f k).1.nodes.length; omega, hn⟩, ?_⟩
  skip
  rw [fin hd]
  exact ⟨trivial, ⟨rfl, rfl, trivial⟩, rfl, rfl, trivial⟩
theorem Oe : Av Tryz.prog 166 D6 := Dd (Ca _ _) (FOk.cons Wo (FOk.cons Zo FOk.nil)) mixed Tryz.func166 rfl Tryz.call166 (by decide) (by kernel_rfl) A80 (fun h => by cases h) (by intro (y : (Fs × Nat × Str × Int)) _; first | exact ⟨by simp [D6, con, A9, A8, Ad, AV.free, A2, A3, A1, A6, Ae, Ag, Ai, At, Ap, Az, B1, B5], by simp [D6, con, A9, A8, Ad, AV.free, A2, A3, A1, A6, Ae, Ag, Ai, At, Ap, Az, B1, B5]⟩ | (obtain ⟨_, _⟩ := y; exact ⟨by simp [D6, con, A9, A8, Ad, AV.free, A2, A3, A1, A6, Ae, Ag, Ai, At, Ap, Az, B1, B5], by simp [D6, con, A9, A8, Ad, AV.free, A2, A3, A1, A6, Ae, Ag, Ai, At, Ap, Az, B1, B5]⟩) | (obtain ⟨_, _, _⟩ := y; exact ⟨by simp [D6, con, A9, A8, Ad, AV.free, A2, A3, A1, A6, Ae, Ag, Ai, At, Ap, Az, B1, B5], by simp [D6, con, A9, A8, Ad, AV.free, A2, A3, A1, A6, Ae, Ag, Ai, At, Ap, Az, B1, B5]⟩)) (by intro (y : (Fs × Nat × Str × Int)) _; first | (simp [D6, con, A9, A8, Ad, AV.free, A2, A3, A1, A6, Ae, Ag, Ai, At, Ap, Az, B1, B5]; done) | (obtain ⟨_, _⟩ := y; simp [D6, con, A9, A8, Ad, AV.free, A2, A3, A1, A6, Ae, Ag, Ai, At, Ap, Az, B1, B5]; done) | (obtain ⟨_, _, _⟩ := y; simp [D6, con, A9, A8, Ad, AV.free, A2, A3, A1, A6, Ae, Ag, Ai, At, Ap, Az, B1, B5]; done))
noncomputable def D1 : Bi := A8 true [.rd [some 5, some 1], mC, mC, mC, mC] (Fs × Int × Str × Int × Int) (fun ⟨f, i, s, t, g⟩ => [.agg (Ap f), .int .i64 i, .str s, .int .i64 t, .int .i64 g]) (fun x => smF x.1 ∧ x.2.2.1.length ≤ 4611686018427387904) (fun ⟨f, i, s, t, g⟩ => .tup [.agg (Sd f i s t g), .bool (Ij f i s t g).2]) (fun _ => [])
noncomputable def A3h : Env := ⟨A4 Ba, A4 [(171, Df)], [0, 1, 2, 3, 4, 5, 10, 11, 12, 13, 22]⟩
set_option maxRecDepth 100000 in
set_option maxHeartbeats 4000000 in
theorem A2p : Bb A3h (Ax Tryz.f168) Tryz.f168.results.toList D1 := by
  rintro ⟨f, i, s, t, g⟩ hx
  obtain ⟨hsm, hn⟩ : smF f ∧ s.length ≤ 4611686018427387904 := hx
  refine ⟨trivial, ?_⟩
  skip
  refine ⟨(f, i, s), by (repeat' (first | refine Bu ?_ ?_ | refine Bz ?_ | refine Bq ?_ | refine Bx ?_ | exact rfl)) <;> simp [rdI, rdO, rdE, rdB, rdN, rdS, rdD, rdW, tkM], fun _ => ⟨hsm, hn⟩, ?_⟩
  skip
  (conv => whnf); refine ⟨fun h1 => ?_, fun h1 => ?_⟩
  · have h1 : (!(Bd f i s).2) = true := h1
    have hd : (Ij f i s t g).2 = false := by rw [Ij]; simp at h1; rw [h1]; rfl
    skip
    rw [show D1.res (f, i, s, t, g) = .tup [.agg (Ap f), .bool false] by
      show AV.tup [.agg (Sd f i s t g), .bool (Ij f i s t g).2] = _
      rw [Sd, hd]; rfl]
    exact ⟨trivial, ⟨rfl, rfl, trivial⟩, rfl, trivial⟩
  have h1 : (Bd f i s).2 = true := by
    have h1 : (!(Bd f i s).2) = false := h1
    simpa using h1
  have hin : N7 f i s = true := by
    unfold Bd at h1
    split at h1
    · assumption
    · cases h1
  have hin2 : isN f i = true := by
    simp only [N7, Bool.and_eq_true] at hin
    exact hin.1.1
  obtain ⟨hsh, hi0, hil, hni, _⟩ := B2d hin2
  have hfn : Ij f i s t g = (⟨(Bd f i s).1.nodes.set i.toNat (A9j (Hd (Bd f i s).1 i) t g), (Bd f i s).1.data⟩, true) := by rw [Ij, if_pos h1]
  have hwl := A9l f i s
  obtain ⟨y, hy⟩ := B8 (l := (Bd f i s).1.nodes) (i := i.toNat) (by omega)
  have hy2 : Hd (Bd f i s).1 i = y := by rw [Hd, List.getD_eq_getElem?_getD, hy]; rfl
  rw [hy2] at hfn
  have hy3 : (((Bd f i s).1.nodes.map Az).drop 0).take (((Bd f i s).1.nodes.map Az)).length = (Bd f i s).1.nodes.map Az := by simp
  have hsl : i.toNat < ((Bd f i s).1.nodes.map Az).length := by rw [List.length_map]; omega
  repeat ((conv => whnf); first | refine ⟨bb, ?_⟩ | refine ⟨Az y, by rw [hy3, Nat.zero_add]; exact Am hy, ?_⟩ | refine ⟨fun _ => ⟨by omega, by rw [List.length_set, hy3]; omega⟩, ?_⟩ | refine ⟨(Az y).set (0 + 2) (.int .i64 t), by rw [hy3, Nat.zero_add]; exact List.getElem?_set_self hsl, ?_⟩)
  rw [show D1.res (f, i, s, t, g) = .tup [.agg [.own 5 (((Bd f i s).1.nodes.map Az).set i.toNat (Az (A9j y t g))), .own 1 ((Bd f i s).1.data.map A6)], .bool true] by
    show AV.tup [.agg (Sd f i s t g), .bool (Ij f i s t g).2] = _
    rw [Sd, hfn, if_pos rfl, B1, List.map_set]]
  refine ⟨trivial, ⟨⟨rfl, ?_⟩, ⟨rfl, ?_⟩, trivial⟩, rfl, trivial⟩
  all_goals simp [List.take_of_length_le, Az, A9j]
theorem A1h : Av Tryz.prog 168 D1 := Dd (Ca _ _) (FOk.cons Ph FOk.nil) mixed Tryz.func168 rfl Tryz.call168 (by decide) (by kernel_rfl) A2p (fun h => by cases h) (by intro (y : (Fs × Int × Str × Int × Int)) _; first | exact ⟨by simp [D1, con, A9, A8, Ad, AV.free, A2, A3, A1, A6, Ae, Ag, Ai, At, Ap, Az, B1, B5], by simp [D1, con, A9, A8, Ad, AV.free, A2, A3, A1, A6, Ae, Ag, Ai, At, Ap, Az, B1, B5]⟩ | (obtain ⟨_, _⟩ := y; exact ⟨by simp [D1, con, A9, A8, Ad, AV.free, A2, A3, A1, A6, Ae, Ag, Ai, At, Ap, Az, B1, B5], by simp [D1, con, A9, A8, Ad, AV.free, A2, A3, A1, A6, Ae, Ag, Ai, At, Ap, Az, B1, B5]⟩) | (obtain ⟨_, _, _⟩ := y; exact ⟨by simp [D1, con, A9, A8, Ad, AV.free, A2, A3, A1, A6, Ae, Ag, Ai, At, Ap, Az, B1, B5], by simp [D1, con, A9, A8, Ad, AV.free, A2, A3, A1, A6, Ae, Ag, Ai, At, Ap, Az, B1, B5]⟩)) (by intro (y : (Fs × Int × Str × Int × Int)) _; first | (simp [D1, con, A9, A8, Ad, AV.free, A2, A3, A1, A6, Ae, Ag, Ai, At, Ap, Az, B1, B5]; done) | (obtain ⟨_, _⟩ := y; simp [D1, con, A9, A8, Ad, AV.free, A2, A3, A1, A6, Ae, Ag, Ai, At, Ap, Az, B1, B5]; done) | (obtain ⟨_, _, _⟩ := y; simp [D1, con, A9, A8, Ad, AV.free, A2, A3, A1, A6, Ae, Ag, Ai, At, Ap, Az, B1, B5]; done))
noncomputable def No : Bi := { D1 with sh := true, res := fun ((f, i, s, t, g) : Fs × Int × Str × Int × Int) => .tup [.agg (Ap (Ij f i s t g).1), .bool (Ij f i s t g).2] }
theorem Qf : Av Tryz.prog 168 No := J6 _ A1h (fun _ => rfl) rfl (fun (f, i, s, t, g) _ => B8m f i s t g)
noncomputable def Dg : Bi := A8 true [.rd [some 5, some 1], mS 1] (Fs × List Str) (fun ⟨f, l⟩ => [.agg (Ap f), .rd 1 (l.map A6)]) (fun x => Jh x.1 = true ∧ x.2.length ≤ 1048576 ∧ ∀ s, s ∈ x.2 → s.length ≤ 1048576) (fun ⟨f, l⟩ => .tup [.agg (Ap (down f 0 l).1), .int .i64 (down f 0 l).2.1, .int .i64 (down f 0 l).2.2]) (fun _ => [])
noncomputable def A47 : Env := ⟨A4 Ba, A4 [(160, E5), (166, D6), (188, Fq)], [0, 1, 2, 4, 5, 6, 7, 8, 9, 10, 11, 12, 13, 14, 18, 28, 37, 50, 61]⟩
set_option maxRecDepth 100000 in
set_option maxHeartbeats 4000000 in
theorem A2n : Bb A47 (Ax Tryz.f165) Tryz.f165.results.toList Dg := by
  rintro ⟨f, l⟩ hx
  obtain ⟨hok, hl, hls⟩ : Jh f = true ∧ l.length ≤ 1048576 ∧ ∀ s, s ∈ l → s.length ≤ 1048576 := hx
  obtain ⟨hsh, _, hat⟩ := Pt hok
  have hnn := hsh.nn
  refine ⟨trivial, ?_⟩
  have fin : ∀ {r : Fs × Int × Int}, r = down f 0 l → Dg.res (f, l) = .tup [.agg (Ap r.1), .int .i64 r.2.1, .int .i64 r.2.2] := fun h => by rw [h]; rfl
  skip
  refine B0 (fun ((k, f', i) : Nat × Fs × Nat) => ⟨[(1, ⟨none, .rd 1 (l.map A6)⟩), (2, ⟨none, .bx 0 0⟩), (4, ⟨none, .bx 1 0⟩), (7, ⟨none, .int .i64 i⟩), (8, ⟨none, .int .i64 k⟩)], [(0, .own 2 [Ap f']), (1, .own 2 [[.own 5 [], .own 1 []]])], 2⟩)
    (fun (k, f', i) => k ≤ l.length ∧ Wk f' ∧ i < f'.nodes.length ∧ ((∃ d, W4 f' d i) ∨ Il f' i = []) ∧ down f' i (l.drop k) = down f 0 l) (fun x => l.length - x.1) (0, f, 0) ?_ ⟨Nat.zero_le _, hsh.wk, by show 0 < f.nodes.length; omega, .inl ⟨5, hat⟩, by rw [List.drop_zero]⟩ ?_
  · (refine ⟨?_, ?_, rfl⟩ <;> repeat' (first | exact rfl | exact trivial | refine ⟨?_, ?_⟩ | fail) <;> (conv => whnf))
  rintro ⟨k, f', i⟩ ⟨hk, hw, hi, hph, hI⟩
  have hwn := hw.nn
  (conv => whnf); refine ⟨fun h1 => ?_, fun h1 => ?_⟩
  · have h1 : k < l.length := by simpa using h1
    obtain ⟨s, hs⟩ := B8 h1
    have hss := hls s (List.mem_of_getElem? hs)
    have hdr : l.drop k = s :: l.drop (k + 1) := by
      rw [List.drop_eq_getElem_cons h1]
      rw [List.getElem?_eq_getElem h1] at hs
      rw [Option.some.inj hs]
    rw [hdr, down] at hI
    have hrl := hw.read i
    obtain ⟨d1, d2, d3⟩ := B20 f' i
    have hdl : G4 f' i = (Hr f' i).getD [] := rfl
    skip
    refine ⟨(f', i), by (repeat' (first | refine Bu ?_ ?_ | refine Bz ?_ | refine Bq ?_ | refine Bx ?_ | exact rfl)) <;> simp [rdI, rdO, rdE, rdB, rdN, rdS, rdD, rdW, tkM], fun _ => ⟨hw.sm, hw.inr, hi, by show (Il f' i).length ≤ _; omega⟩, ?_⟩
    skip
    (conv => whnf); refine ⟨fun h3 => ?_, fun h3 => ?_⟩
    · have h3 : (!(Hr f' i).isSome) = true := h3
      rw [if_pos h3] at hI
      skip
      rw [fin hI]
      exact ⟨trivial, ⟨rfl, rfl, trivial⟩, rfl, rfl, trivial⟩
    have h3 : (!(Hr f' i).isSome) = false := h3
    rw [if_neg (by rw [h3]; decide)] at hI
    have hdn := Uu (f := f') (i := i) (by simpa using h3)
    repeat ((conv => whnf); refine ⟨A6 s, fun _ => ⟨by omega, Am hs⟩, ?_⟩)
    refine ⟨(G4 f' i, s), by rw [hdl]; exact by (repeat' (first | refine Bu ?_ ?_ | refine Bz ?_ | refine Bq ?_ | refine Bx ?_ | exact rfl)) <;> simp [rdI, rdO, rdE, rdB, rdN, rdS, rdD, rdW, tkM], fun _ => by show (G4 f' i).length ≤ _; omega, ?_⟩
    have hdm := Pb (l := G4 f' i) (s := s)
    skip
    (conv => whnf); refine ⟨fun h4 => ?_, fun h4 => ?_⟩
    · have h4 : decide (Fj (G4 f' i) s < 0) = true := h4
      rw [if_pos (by simpa using h4)] at hI
      repeat ((conv => whnf); refine ⟨A6 s, fun _ => ⟨by omega, Am hs⟩, ?_⟩)
      refine ⟨(f', i, s, 2), by (repeat' (first | refine Bu ?_ ?_ | refine Bz ?_ | refine Bq ?_ | refine Bx ?_ | exact rfl)) <;> simp [rdI, rdO, rdE, rdB, rdN, rdS, rdD, rdW, tkM], fun _ => ⟨hw, hi, hss⟩, ?_⟩
      have hno := B7s (f := f') (i := i) (s := s) (k := 2) (l := (Hr f' i).getD [])
      have hnw := Rk (i := i) (s := s) (k := 2) hw
      have hnl := B41 f' i s 2
      repeat ((conv => whnf); refine ⟨(by kernel_rfl : Bw _ _ = true), ?_⟩)
      (conv => whnf); refine ⟨fun h5 => ?_, fun h5 => ?_⟩
      · have h5 : (!(Jf f' i s 2).2.2) = true := h5
        rw [if_neg (by simpa using h5)] at hI
        skip
        rw [fin hI]
        exact ⟨trivial, ⟨rfl, rfl, trivial⟩, rfl, rfl, trivial⟩
      have h5 : (Jf f' i s 2).2.2 = true := by
        have h5 : (!(Jf f' i s 2).2.2) = false := h5
        simpa using h5
      rw [if_pos h5] at hI
      obtain ⟨j, hj1, hj2, hj3, hj4⟩ := hno h5 hdn
      rw [hj1, Int.toNat_natCast] at hI
      repeat ((conv => whnf); refine ⟨_, w64 (bb), ?_⟩)
      refine C2 (k + 1, (Jf f' i s 2).1, j) ?_ ⟨h1, hnw, by show j < (Jf f' i s 2).1.nodes.length; omega, .inr hj3, hI⟩ (by first | omega | (simp; done) | (simp; omega))
      (refine ⟨?_, ?_, rfl⟩ <;> repeat' (first | exact rfl | exact trivial | refine ⟨?_, ?_⟩ | fail) <;> (conv => whnf))
      all_goals exact hj1
    have h4 : decide (Fj (G4 f' i) s < 0) = false := h4
    have h4' : ¬ Fj (G4 f' i) s < 0 := by simpa using h4
    rw [if_neg h4'] at hI
    obtain ⟨hq1, hq2⟩ : (Fj (G4 f' i) s).toNat < f'.nodes.length ∧ ∃ d, W4 f' d (Fj (G4 f' i) s).toNat := by
      rcases hdm with e | ⟨e, he, _, e1⟩
      · omega
      · rcases hph with ⟨d, hd⟩ | hr
        · have h8 := (Km hd).2 _ hdn e he
          rw [e1]
          have h9 := (Ig (Q4 hdn) he).2
          exact ⟨by omega, _, h8.2.2.2⟩
        · exfalso
          have : G4 f' i = [] := by
            unfold G4 Hr
            cases hq : f'.nodes[i]? with
            | none => rfl
            | some n =>
              simp only [hr]
              split <;> rfl
          rw [this] at he
          cases he
    repeat ((conv => whnf); refine ⟨_, w64 (bb), ?_⟩)
    refine C2 (k + 1, f', (Fj (G4 f' i) s).toNat) ?_ ⟨h1, hw, hq1, .inl hq2, hI⟩ (by first | omega | (simp; done) | (simp; omega))
    (refine ⟨?_, ?_, rfl⟩ <;> repeat' (first | exact rfl | exact trivial | refine ⟨?_, ?_⟩ | fail) <;> (conv => whnf))
    all_goals (show Fj (G4 f' i) s = (((Fj (G4 f' i) s).toNat : Nat) : Int); omega)
  have h1 : k = l.length := by have : ¬ (k < l.length) := by simpa using h1
                               omega
  subst h1
  rw [List.drop_length, down] at hI
  obtain ⟨n, hn⟩ := B8 hi
  rw [N6 hn] at hI
  repeat ((conv => whnf); refine ⟨At n, fun _ => ⟨by omega, Am hn⟩, ?_⟩)
  (conv => whnf); refine ⟨fun h2 => ?_, fun h2 => ?_⟩
  · have h2 : (n.kind != 2) = true := h2
    rw [if_pos h2] at hI
    skip
    rw [fin hI]
    exact ⟨trivial, ⟨rfl, rfl, trivial⟩, rfl, rfl, trivial⟩
  have h2 : (n.kind != 2) = false := h2
  rw [if_neg (by rw [h2]; decide)] at hI
  skip
  rw [fin hI]
  exact ⟨trivial, ⟨rfl, rfl, trivial⟩, rfl, rfl, trivial⟩
theorem A0n : Av Tryz.prog 165 Dg := Dd (Ca _ _) (FOk.cons Jp (FOk.cons Oe (FOk.cons Sk FOk.nil))) mixed Tryz.func165 rfl Tryz.call165 (by decide) (by kernel_rfl) A2n (fun h => by cases h) (by intro (y : (Fs × List Str)) _; first | exact ⟨by simp [Dg, con, A9, A8, Ad, AV.free, A2, A3, A1, A6, Ae, Ag, Ai, At, Ap, Az, B1, B5], by simp [Dg, con, A9, A8, Ad, AV.free, A2, A3, A1, A6, Ae, Ag, Ai, At, Ap, Az, B1, B5]⟩ | (obtain ⟨_, _⟩ := y; exact ⟨by simp [Dg, con, A9, A8, Ad, AV.free, A2, A3, A1, A6, Ae, Ag, Ai, At, Ap, Az, B1, B5], by simp [Dg, con, A9, A8, Ad, AV.free, A2, A3, A1, A6, Ae, Ag, Ai, At, Ap, Az, B1, B5]⟩) | (obtain ⟨_, _, _⟩ := y; exact ⟨by simp [Dg, con, A9, A8, Ad, AV.free, A2, A3, A1, A6, Ae, Ag, Ai, At, Ap, Az, B1, B5], by simp [Dg, con, A9, A8, Ad, AV.free, A2, A3, A1, A6, Ae, Ag, Ai, At, Ap, Az, B1, B5]⟩)) (by intro (y : (Fs × List Str)) _; first | (simp [Dg, con, A9, A8, Ad, AV.free, A2, A3, A1, A6, Ae, Ag, Ai, At, Ap, Az, B1, B5]; done) | (obtain ⟨_, _⟩ := y; simp [Dg, con, A9, A8, Ad, AV.free, A2, A3, A1, A6, Ae, Ag, Ai, At, Ap, Az, B1, B5]; done) | (obtain ⟨_, _, _⟩ := y; simp [Dg, con, A9, A8, Ad, AV.free, A2, A3, A1, A6, Ae, Ag, Ai, At, Ap, Az, B1, B5]; done))
end Go.GH


set_option linter.unusedVariables false
set_option linter.unusedSimpArgs false
namespace Go.GH
open Go Go.Proofs
noncomputable def Hj : Bi := con [mC] true Str A6 (fun l => sml l.length) (fun l => .str (O3 l))
noncomputable def B3e : Env := ⟨A4 Ba, A4 [(85, E2)], [0, 2, 3, 8]⟩
set_option maxRecDepth 100000 in
set_option maxHeartbeats 4000000 in
theorem B2w : Bb B3e (Ax Tryz.f167) Tryz.f167.results.toList Hj := by
  intro (s : Str) hs
  have hs : s.length ≤ 4194304 := hs
  refine ⟨trivial, ?_⟩
  conv => whnf
  refine ⟨s, rfl, fun _ => hs, ?_⟩
  skip
  have hnl := I1 (p := s)
  (conv => whnf); refine ⟨fun h1 => ?_, fun h1 => ?_⟩
  · have h1 : names s = [] := by simpa using h1
    skip
    exact ⟨trivial, eqS (by show _ = O3 s; rw [O3, h1]; rfl)⟩
  have h1 : names s ≠ [] := by simpa using h1
  have hp := List.length_pos_iff.2 h1
  obtain ⟨b, hb⟩ := B8 (l := names s) (i := (names s).length - 1) (by omega)
  have hl : O3 s = b := by rw [O3, List.getLastD_eq_getLast?, List.getLast?_eq_getElem?, hb]; rfl
  have hml : ((names s).map A6).length = (names s).length := List.length_map _
  repeat ((conv => whnf); first | refine ⟨_, w64 (bb), ?_⟩ | refine ⟨bb, ?_⟩ | refine ⟨A6 b, fun _ => by show ((names s).map A6)[0 + (((((names s).map A6).length : Nat) : Int) - 1).toNat]? = _; rw [hml, show 0 + (((names s).length : Int) - 1).toNat = (names s).length - 1 by omega]; exact Am hb, ?_⟩)
  exact ⟨trivial, eqS hl.symm⟩
theorem Rw : Av Tryz.prog 167 Hj := Ao (Ca _ _) (FOk.cons Jm FOk.nil) mixed Tryz.func167 rfl Tryz.call167 (by decide) (by kernel_rfl) B2w (by intro _ (y : Str) _; exact ⟨by simp [Hj, con, A9, A8, AV.noRd, A7, Ab, A5, A6], by simp [Hj, con, A9, A8, AV.noRd, A7, Ab, A5, A6]⟩) (by intro (y : Str) _; first | (simp [Hj, con, A9, A8, Ad, AV.free, A2, A3, A1, A6]; done) | (obtain ⟨_, _⟩ := y; simp [Hj, con, A9, A8, Ad, AV.free, A2, A3, A1, A6]; done) | (obtain ⟨_, _, _⟩ := y; simp [Hj, con, A9, A8, Ad, AV.free, A2, A3, A1, A6]; done))
end Go.GH


set_option linter.unusedVariables false
set_option linter.unusedSimpArgs false
namespace Go.GH
open Go Go.Proofs
noncomputable def N0 : Bi := { E2 with sh := true, res := fun (s : Str) => .rd 1 ((names s).map A6) }
theorem P5 : Av Tryz.prog 85 N0 := J6 _ Jm (fun _ => rfl) rfl (fun s _ => ⟨rfl, by show 1 ≤ 16; omega, by simp only [E2, con, frz, M6, Mj, rdS]⟩)
noncomputable def Dw : Bi := A8 true [.rd [some 5, some 1], mC, mC, mC, mC, mC] (Fs × Str × Int × Str × Int × Int) (fun ⟨f, p, k, s, t, g⟩ => [.agg (Ap f), .str p, .int .i64 k, .str s, .int .i64 t, .int .i64 g]) (fun x => smF x.1 ∧ x.2.1.length ≤ 1048576 ∧ x.2.2.2.1.length ≤ 1048576) (fun ⟨f, p, k, s, t, g⟩ => .tup [.agg (Ap (Nm f p k s t g).1), .int .i64 (Nm f p k s t g).2]) (fun _ => [])
noncomputable def A5r : Env := ⟨A4 Ba, A4 [(75, Cu), (76, Ch), (85, N0), (120, Fy), (162, K8), (163, Fv), (164, Ed), (165, Dg), (166, D6), (167, Hj), (168, No)], [0, 1, 2, 3, 4, 5, 6, 12, 13, 14, 15, 16, 17, 18, 19, 20, 52, 60, 64, 71, 85, 100, 113]⟩
set_option maxRecDepth 100000 in
set_option maxHeartbeats 4000000 in
theorem A5t : Bb A5r (Ax Tryz.f124) Tryz.f124.results.toList Dw := by
  rintro ⟨f, p, k, s, t, g⟩ hx
  obtain ⟨hsm, hpl, hsl⟩ : smF f ∧ p.length ≤ 1048576 ∧ s.length ≤ 1048576 := hx
  have hnl := hsm.1
  refine ⟨trivial, ?_⟩
  have fin : ∀ {r : Fs × Int}, r = Nm f p k s t g → Dw.res (f, p, k, s, t, g) = .tup [.agg (Ap r.1), .int .i64 r.2] := fun h => by rw [h]; rfl
  have hI := (Nm.eq_1 f p k s t g).symm
  skip
  refine ⟨f, by (repeat' (first | refine Bu ?_ ?_ | refine Bz ?_ | refine Bq ?_ | refine Bx ?_ | exact rfl)) <;> simp [rdI, rdO, rdE, rdB, rdN, rdS, rdD, rdW, tkM], fun _ => hsm, ?_⟩
  skip
  refine ⟨f, by (repeat' (first | refine Bu ?_ ?_ | refine Bz ?_ | refine Bq ?_ | refine Bx ?_ | exact rfl)) <;> simp [rdI, rdO, rdE, rdB, rdN, rdS, rdD, rdW, tkM], fun _ => hsm, ?_⟩
  repeat ((conv => whnf); first | refine ⟨fun h => h, ?_⟩ | refine ⟨(_, _, _), rfl, fun _ => trivial, ?_⟩ | refine ⟨(_, _), rfl, fun _ => trivial, ?_⟩)
  (conv => whnf); refine ⟨fun h1 => ?_, fun h1 => ?_⟩
  · have h1 : (!Jh f || !inB k 1 3 || !A8x t g || (k == 2 && (!(s == []) || t != 0 || g != 0))) = true := h1
    rw [if_pos h1] at hI
    skip
    rw [fin hI]
    exact ⟨trivial, ⟨rfl, rfl, trivial⟩, rfl, trivial⟩
  have h1 : (!Jh f || !inB k 1 3 || !A8x t g || (k == 2 && (!(s == []) || t != 0 || g != 0))) = false := h1
  rw [if_neg (by rw [h1]; decide)] at hI
  have hok : Jh f = true := by revert h1; cases Jh f <;> simp
  skip
  refine ⟨p, rfl, fun _ => by show p.length ≤ _; omega, ?_⟩
  repeat ((conv => whnf); refine ⟨fun h => h, ?_⟩)
  (conv => whnf); refine ⟨fun h2 => ?_, fun h2 => ?_⟩
  · have h2 : (!Bh p || p == sl) = true := h2
    rw [if_pos h2] at hI
    skip
    rw [fin hI]
    exact ⟨trivial, ⟨rfl, rfl, trivial⟩, rfl, trivial⟩
  have h2 : (!Bh p || p == sl) = false := h2
  rw [if_neg (by rw [h2]; decide)] at hI
  rw [Bool.or_eq_false_iff] at h2
  have hn1 := B40 (by simpa using h2.1) h2.2
  have hn4 := I1 (p := p)
  have hn6 := Z4 (p := p)
  skip
  (conv => whnf); refine ⟨fun h3 => ?_, fun h3 => ?_⟩
  · have h3 : decide ((s.length : Int) > 80) = true := h3
    rw [if_pos h3] at hI
    skip
    rw [fin hI]
    exact ⟨trivial, ⟨rfl, rfl, trivial⟩, rfl, trivial⟩
  have h3 : decide ((s.length : Int) > 80) = false := h3
  rw [if_neg (by rw [h3]; decide)] at hI
  skip
  refine ⟨p, rfl, fun _ => by show p.length ≤ _; omega, ?_⟩
  skip
  refine ⟨(f, names p), by (repeat' (first | refine Bu ?_ ?_ | refine Bz ?_ | refine Bq ?_ | refine Bx ?_ | exact rfl)) <;> simp [rdI, rdO, rdE, rdB, rdN, rdS, rdD, rdW, tkM], fun _ => ⟨hok, by show (names p).length ≤ _; omega⟩, ?_⟩
  skip
  (conv => whnf); refine ⟨fun h4 => ?_, fun h4 => ?_⟩
  · have h4 : decide (E1 f 0 (names p) ≥ 0) = true := h4
    rw [if_pos h4] at hI
    skip
    rw [fin hI]
    exact ⟨trivial, ⟨rfl, rfl, trivial⟩, rfl, trivial⟩
  have h4 : decide (E1 f 0 (names p) ≥ 0) = false := h4
  rw [if_neg (by rw [h4]; decide)] at hI
  obtain ⟨hsh, _, hat⟩ := Pt hok
  have hnn := hsh.nn
  have hup : ∀ x, x ∈ up p → x.length ≤ 6 := fun x hx => hn6 x (List.mem_of_mem_take hx)
  have hul : (up p).length ≤ 4 := by rw [up, List.length_take]; omega
  repeat ((conv => whnf); first | refine ⟨_, w64 (bb), ?_⟩ | refine ⟨fun _ => ⟨bb, bb, bb⟩, ?_⟩)
  refine ⟨(f, up p), by
    refine Bu ?_ (Bu (Bq ?_) rfl)
    · exact by (repeat' (first | refine Bu ?_ ?_ | refine Bz ?_ | refine Bq ?_ | refine Bx ?_ | exact rfl)) <;> simp [rdI, rdO, rdE, rdB, rdN, rdS, rdD, rdW, tkM]
    · rw [show (((((names p).map A6).length : Nat) : Int) - 1).toNat = (names p).length - 1 by rw [List.length_map]; omega]
      simp [up, List.map_take], fun _ => ⟨hok, by show (up p).length ≤ _; omega, fun x hx => by have := hup x hx; omega⟩, ?_⟩
  have hdk := B1r (l := up p) hsh.wk (i := 0) (by omega) (.inl ⟨5, hat⟩)
  repeat ((conv => whnf); refine ⟨(by kernel_rfl : Bw _ _ = true), ?_⟩)
  (conv => whnf); refine ⟨fun h5 => ?_, fun h5 => ?_⟩
  · have h5 : ((down f 0 (up p)).2.2 != 0) = true := h5
    rw [mk2, if_pos h5] at hI
    skip
    refine ⟨f, by (repeat' (first | refine Bu ?_ ?_ | refine Bz ?_ | refine Bq ?_ | refine Bx ?_ | exact rfl)) <;> simp [rdI, rdO, rdE, rdB, rdN, rdS, rdD, rdW, tkM], fun _ => hsm, ?_⟩
    skip
    rw [fin hI]
    exact ⟨trivial, ⟨rfl, rfl, trivial⟩, rfl, trivial⟩
  have h5 : ((down f 0 (up p)).2.2 != 0) = false := h5
  rw [mk2, if_neg (by rw [h5]; decide)] at hI
  obtain ⟨w1, w2, w3⟩ := hdk (by simpa using h5)
  have hl6 := B9z p
  skip
  refine ⟨p, rfl, fun _ => by show p.length ≤ _; omega, ?_⟩
  skip
  refine ⟨((down f 0 (up p)).1, (down f 0 (up p)).2.1.toNat, O3 p, k), by
    refine Bu ?_ (Bu ?_ (Bu rfl (Bu rfl rfl)))
    · exact by (repeat' (first | refine Bu ?_ ?_ | refine Bz ?_ | refine Bq ?_ | refine Bx ?_ | exact rfl)) <;> simp [rdI, rdO, rdE, rdB, rdN, rdS, rdD, rdW, tkM]
    · show AV.int .i64 (down f 0 (up p)).2.1 = .int .i64 (((down f 0 (up p)).2.1.toNat : Nat) : Int); congr 1; omega, fun _ => ⟨w1, w3, by show (O3 p).length ≤ _; omega⟩, ?_⟩
  have hnw := Rk (i := (down f 0 (up p)).2.1.toNat) (s := O3 p) (k := k) w1
  repeat ((conv => whnf); refine ⟨(by kernel_rfl : Bw _ _ = true), ?_⟩)
  (conv => whnf); refine ⟨fun h6 => ?_, fun h6 => ?_⟩
  · have h6 : (!(Jf (down f 0 (up p)).1 (down f 0 (up p)).2.1.toNat (O3 p) k).2.2) = true := h6
    rw [mk3, if_pos h6] at hI
    skip
    refine ⟨f, by (repeat' (first | refine Bu ?_ ?_ | refine Bz ?_ | refine Bq ?_ | refine Bx ?_ | exact rfl)) <;> simp [rdI, rdO, rdE, rdB, rdN, rdS, rdD, rdW, tkM], fun _ => hsm, ?_⟩
    skip
    rw [fin hI]
    exact ⟨trivial, ⟨rfl, rfl, trivial⟩, rfl, trivial⟩
  have h6 : (!(Jf (down f 0 (up p)).1 (down f 0 (up p)).2.1.toNat (O3 p) k).2.2) = false := h6
  rw [mk3, if_neg (by rw [h6]; decide)] at hI
  generalize hN : Jf (down f 0 (up p)).1 (down f 0 (up p)).2.1.toNat (O3 p) k = N at hI hnw
  skip
  refine ⟨(N.1, N.2.1, s, t, g), by rw [← hN]; exact by (repeat' (first | refine Bu ?_ ?_ | refine Bz ?_ | refine Bq ?_ | refine Bx ?_ | exact rfl)) <;> simp [rdI, rdO, rdE, rdB, rdN, rdS, rdD, rdW, tkM], fun _ => ⟨hnw.sm, by show s.length ≤ _; omega⟩, ?_⟩
  skip
  (conv => whnf); refine ⟨fun h7 => ?_, fun h7 => ?_⟩
  · have h7 : (!(Ij N.1 N.2.1 s t g).2) = true := h7
    rw [wr2, if_pos h7] at hI
    skip
    refine ⟨f, by (repeat' (first | refine Bu ?_ ?_ | refine Bz ?_ | refine Bq ?_ | refine Bx ?_ | exact rfl)) <;> simp [rdI, rdO, rdE, rdB, rdN, rdS, rdD, rdW, tkM], fun _ => hsm, ?_⟩
    skip
    rw [fin hI]
    exact ⟨trivial, ⟨rfl, rfl, trivial⟩, rfl, trivial⟩
  have h7 : (!(Ij N.1 N.2.1 s t g).2) = false := h7
  rw [wr2, if_neg (by rw [h7]; decide)] at hI
  skip
  rw [fin hI]
  exact ⟨trivial, ⟨rfl, rfl, trivial⟩, rfl, trivial⟩
theorem A4s : Av Tryz.prog 124 Dw := Dd (Ca _ _) (FOk.cons Fn (FOk.cons Db (FOk.cons P5 (FOk.cons Lv (FOk.cons Ku (FOk.cons Si (FOk.cons Lt (FOk.cons A0n (FOk.cons Oe (FOk.cons Rw (FOk.cons Qf FOk.nil))))))))))) mixed Tryz.func124 rfl Tryz.call124 (by decide) (by kernel_rfl) A5t (fun h => by cases h) (by intro (y : (Fs × Str × Int × Str × Int × Int)) _; first | exact ⟨by simp [Dw, con, A9, A8, Ad, AV.free, A2, A3, A1, A6, Ae, Ag, Ai, At, Ap, Az, B1], by simp [Dw, con, A9, A8, Ad, AV.free, A2, A3, A1, A6, Ae, Ag, Ai, At, Ap, Az, B1]⟩ | (obtain ⟨_, _⟩ := y; exact ⟨by simp [Dw, con, A9, A8, Ad, AV.free, A2, A3, A1, A6, Ae, Ag, Ai, At, Ap, Az, B1], by simp [Dw, con, A9, A8, Ad, AV.free, A2, A3, A1, A6, Ae, Ag, Ai, At, Ap, Az, B1]⟩) | (obtain ⟨_, _, _⟩ := y; exact ⟨by simp [Dw, con, A9, A8, Ad, AV.free, A2, A3, A1, A6, Ae, Ag, Ai, At, Ap, Az, B1], by simp [Dw, con, A9, A8, Ad, AV.free, A2, A3, A1, A6, Ae, Ag, Ai, At, Ap, Az, B1]⟩)) (by intro (y : (Fs × Str × Int × Str × Int × Int)) _; first | (simp [Dw, con, A9, A8, Ad, AV.free, A2, A3, A1, A6, Ae, Ag, Ai, At, Ap, Az, B1]; done) | (obtain ⟨_, _⟩ := y; simp [Dw, con, A9, A8, Ad, AV.free, A2, A3, A1, A6, Ae, Ag, Ai, At, Ap, Az, B1]; done) | (obtain ⟨_, _, _⟩ := y; simp [Dw, con, A9, A8, Ad, AV.free, A2, A3, A1, A6, Ae, Ag, Ai, At, Ap, Az, B1]; done))
noncomputable def Ej : Bi := A8 true [.rd [some 5, some 1], mC, mC, mC, mC] (Fs × Str × Str × Int × Int) (fun ⟨f, p, s, t, g⟩ => [.agg (Ap f), .str p, .str s, .int .i64 t, .int .i64 g]) (fun x => smF x.1 ∧ x.2.1.length ≤ 1048576 ∧ x.2.2.1.length ≤ 1048576) (fun ⟨f, p, s, t, g⟩ => .tup [.agg (Ap (Zu f p s t g).1), .int .i64 (Zu f p s t g).2]) (fun _ => [])
noncomputable def B29 : Env := ⟨A4 Ba, A4 [(75, Cu), (85, N0), (120, Fy), (162, K8), (163, Fv), (164, Ed), (168, No)], [0, 1, 2, 3, 4, 5, 10, 11, 12, 13, 14, 15, 26, 30, 37, 45, 49, 61]⟩
set_option maxRecDepth 100000 in
set_option maxHeartbeats 4000000 in
theorem B07 : Bb B29 (Ax Tryz.f125) Tryz.f125.results.toList Ej := by
  rintro ⟨f, p, s, t, g⟩ hx
  obtain ⟨hsm, hpl, hsl⟩ : smF f ∧ p.length ≤ 1048576 ∧ s.length ≤ 1048576 := hx
  have hnl := hsm.1
  refine ⟨trivial, ?_⟩
  have fin : ∀ {r : Fs × Int}, r = Zu f p s t g → Ej.res (f, p, s, t, g) = .tup [.agg (Ap r.1), .int .i64 r.2] := fun h => by rw [h]; rfl
  have hI := (Zu.eq_1 f p s t g).symm
  skip
  refine ⟨f, by (repeat' (first | refine Bu ?_ ?_ | refine Bz ?_ | refine Bq ?_ | refine Bx ?_ | exact rfl)) <;> simp [rdI, rdO, rdE, rdB, rdN, rdS, rdD, rdW, tkM], fun _ => hsm, ?_⟩
  skip
  refine ⟨f, by (repeat' (first | refine Bu ?_ ?_ | refine Bz ?_ | refine Bq ?_ | refine Bx ?_ | exact rfl)) <;> simp [rdI, rdO, rdE, rdB, rdN, rdS, rdD, rdW, tkM], fun _ => hsm, ?_⟩
  repeat ((conv => whnf); first | refine ⟨fun h => h, ?_⟩ | refine ⟨(_, _), rfl, fun _ => trivial, ?_⟩)
  (conv => whnf); refine ⟨fun h1 => ?_, fun h1 => ?_⟩
  · have h1 : (!Jh f || !A8x t g) = true := h1
    rw [if_pos h1] at hI
    skip
    rw [fin hI]
    exact ⟨trivial, ⟨rfl, rfl, trivial⟩, rfl, trivial⟩
  have h1 : (!Jh f || !A8x t g) = false := h1
  rw [if_neg (by rw [h1]; decide)] at hI
  have hok : Jh f = true := by revert h1; cases Jh f <;> simp
  obtain ⟨hsh, _, hat⟩ := Pt hok
  have hnn := hsh.nn
  skip
  refine ⟨p, rfl, fun _ => by show p.length ≤ _; omega, ?_⟩
  skip
  (conv => whnf); refine ⟨fun h2 => ?_, fun h2 => ?_⟩
  · have h2 : (!Bh p) = true := h2
    rw [if_pos h2] at hI
    skip
    rw [fin hI]
    exact ⟨trivial, ⟨rfl, rfl, trivial⟩, rfl, trivial⟩
  have h2 : (!Bh p) = false := h2
  rw [if_neg (by rw [h2]; decide)] at hI
  have hn4 := I1 (p := p)
  have hwk := Tv (l := names p) hat (by omega)
  skip
  refine ⟨p, rfl, fun _ => by show p.length ≤ _; omega, ?_⟩
  skip
  refine ⟨(f, names p), by (repeat' (first | refine Bu ?_ ?_ | refine Bz ?_ | refine Bq ?_ | refine Bx ?_ | exact rfl)) <;> simp [rdI, rdO, rdE, rdB, rdN, rdS, rdD, rdW, tkM], fun _ => ⟨hok, by show (names p).length ≤ _; omega⟩, ?_⟩
  repeat ((conv => whnf); refine ⟨(by kernel_rfl : Bw _ _ = true), ?_⟩)
  generalize hW : E1 f 0 (names p) = W at hI hwk
  (conv => whnf); refine ⟨fun h4 => ?_, fun h4 => ?_⟩
  · have h4 : decide (E1 f 0 (names p) < 0) = true := h4
    rw [hW] at h4
    rw [if_pos h4] at hI
    skip
    rw [fin hI]
    exact ⟨trivial, ⟨rfl, rfl, trivial⟩, rfl, trivial⟩
  have h4 : decide (E1 f 0 (names p) < 0) = false := h4
  rw [hW] at h4
  rw [if_neg (by rw [h4]; decide)] at hI
  obtain ⟨n, hn⟩ := B8 (l := f.nodes) (i := W.toNat) (by simp at h4; omega)
  rw [N6 hn] at hI
  repeat ((conv => whnf); refine ⟨At n, fun _ => by rw [hW]; exact ⟨by simp at h4; omega, Am hn⟩, ?_⟩)
  (conv => whnf); refine ⟨fun h5 => ?_, fun h5 => ?_⟩
  · have h5 : (n.kind == 2) = true := h5
    rw [if_pos h5] at hI
    skip
    rw [fin hI]
    exact ⟨trivial, ⟨rfl, rfl, trivial⟩, rfl, trivial⟩
  have h5 : (n.kind == 2) = false := h5
  rw [if_neg (by rw [h5]; decide)] at hI
  skip
  (conv => whnf); refine ⟨fun h3 => ?_, fun h3 => ?_⟩
  · have h3 : decide ((s.length : Int) > 80) = true := h3
    rw [if_pos h3] at hI
    skip
    rw [fin hI]
    exact ⟨trivial, ⟨rfl, rfl, trivial⟩, rfl, trivial⟩
  have h3 : decide ((s.length : Int) > 80) = false := h3
  rw [if_neg (by rw [h3]; decide)] at hI
  skip
  refine ⟨(f, W, s, t, g), by rw [← hW]; exact by (repeat' (first | refine Bu ?_ ?_ | refine Bz ?_ | refine Bq ?_ | refine Bx ?_ | exact rfl)) <;> simp [rdI, rdO, rdE, rdB, rdN, rdS, rdD, rdW, tkM], fun _ => ⟨hsm, by show s.length ≤ _; omega⟩, ?_⟩
  skip
  (conv => whnf); refine ⟨fun h7 => ?_, fun h7 => ?_⟩
  · have h7 : (!(Ij f W s t g).2) = true := h7
    rw [wr2, if_pos h7] at hI
    skip
    refine ⟨f, by (repeat' (first | refine Bu ?_ ?_ | refine Bz ?_ | refine Bq ?_ | refine Bx ?_ | exact rfl)) <;> simp [rdI, rdO, rdE, rdB, rdN, rdS, rdD, rdW, tkM], fun _ => hsm, ?_⟩
    skip
    rw [fin hI]
    exact ⟨trivial, ⟨rfl, rfl, trivial⟩, rfl, trivial⟩
  have h7 : (!(Ij f W s t g).2) = false := h7
  rw [wr2, if_neg (by rw [h7]; decide)] at hI
  skip
  rw [fin hI]
  exact ⟨trivial, ⟨rfl, rfl, trivial⟩, rfl, trivial⟩
theorem A7o : Av Tryz.prog 125 Ej := Dd (Ca _ _) (FOk.cons Fn (FOk.cons P5 (FOk.cons Lv (FOk.cons Ku (FOk.cons Si (FOk.cons Lt (FOk.cons Qf FOk.nil))))))) mixed Tryz.func125 rfl Tryz.call125 (by decide) (by kernel_rfl) B07 (fun h => by cases h) (by intro (y : (Fs × Str × Str × Int × Int)) _; first | exact ⟨by simp [Ej, con, A9, A8, Ad, AV.free, A2, A3, A1, A6, Ae, Ag, Ai, At, Ap, Az, B1], by simp [Ej, con, A9, A8, Ad, AV.free, A2, A3, A1, A6, Ae, Ag, Ai, At, Ap, Az, B1]⟩ | (obtain ⟨_, _⟩ := y; exact ⟨by simp [Ej, con, A9, A8, Ad, AV.free, A2, A3, A1, A6, Ae, Ag, Ai, At, Ap, Az, B1], by simp [Ej, con, A9, A8, Ad, AV.free, A2, A3, A1, A6, Ae, Ag, Ai, At, Ap, Az, B1]⟩) | (obtain ⟨_, _, _⟩ := y; exact ⟨by simp [Ej, con, A9, A8, Ad, AV.free, A2, A3, A1, A6, Ae, Ag, Ai, At, Ap, Az, B1], by simp [Ej, con, A9, A8, Ad, AV.free, A2, A3, A1, A6, Ae, Ag, Ai, At, Ap, Az, B1]⟩)) (by intro (y : (Fs × Str × Str × Int × Int)) _; first | (simp [Ej, con, A9, A8, Ad, AV.free, A2, A3, A1, A6, Ae, Ag, Ai, At, Ap, Az, B1]; done) | (obtain ⟨_, _⟩ := y; simp [Ej, con, A9, A8, Ad, AV.free, A2, A3, A1, A6, Ae, Ag, Ai, At, Ap, Az, B1]; done) | (obtain ⟨_, _, _⟩ := y; simp [Ej, con, A9, A8, Ad, AV.free, A2, A3, A1, A6, Ae, Ag, Ai, At, Ap, Az, B1]; done))
noncomputable def Dy : Bi := A8 true [.rd [some 5, some 1], mC] (Fs × Str) (fun ⟨f, p⟩ => [.agg (Ap f), .str p]) (fun x => smF x.1 ∧ x.2.length ≤ 1048576) (fun ⟨f, p⟩ => .tup [.agg (Ap (Tw f p).1), .int .i64 (Tw f p).2]) (fun _ => [])
noncomputable def A6x : Env := ⟨A4 Ba, A4 [(75, Cu), (85, N0), (120, Fy), (162, K8), (164, Ed), (167, Hj), (169, Qn), (170, Dc)], [0, 1, 2, 4, 5, 6, 7, 8, 9, 15, 23, 31, 48]⟩
set_option maxRecDepth 100000 in
set_option maxHeartbeats 4000000 in
theorem A6s : Bb A6x (Ax Tryz.f127) Tryz.f127.results.toList Dy := by
  rintro ⟨f, p⟩ hx
  obtain ⟨hsm, hpl⟩ : smF f ∧ p.length ≤ 1048576 := hx
  have hnl := hsm.1
  refine ⟨trivial, ?_⟩
  have fin : ∀ {r : Fs × Int}, r = Tw f p → Dy.res (f, p) = .tup [.agg (Ap r.1), .int .i64 r.2] := fun h => by rw [h]; rfl
  have hI := (Tw.eq_1 f p).symm
  skip
  refine ⟨f, by (repeat' (first | refine Bu ?_ ?_ | refine Bz ?_ | refine Bq ?_ | refine Bx ?_ | exact rfl)) <;> simp [rdI, rdO, rdE, rdB, rdN, rdS, rdD, rdW, tkM], fun _ => hsm, ?_⟩
  skip
  refine ⟨f, by (repeat' (first | refine Bu ?_ ?_ | refine Bz ?_ | refine Bq ?_ | refine Bx ?_ | exact rfl)) <;> simp [rdI, rdO, rdE, rdB, rdN, rdS, rdD, rdW, tkM], fun _ => hsm, ?_⟩
  skip
  (conv => whnf); refine ⟨fun h1 => ?_, fun h1 => ?_⟩
  · have h1 : (!Jh f) = true := h1
    rw [if_pos h1] at hI
    skip
    rw [fin hI]
    exact ⟨trivial, ⟨rfl, rfl, trivial⟩, rfl, trivial⟩
  have h1 : (!Jh f) = false := h1
  rw [if_neg (by rw [h1]; decide)] at hI
  have hok : Jh f = true := by revert h1; cases Jh f <;> simp
  obtain ⟨hsh, _, hat⟩ := Pt hok
  have hnn := hsh.nn
  skip
  refine ⟨p, rfl, fun _ => by show p.length ≤ _; omega, ?_⟩
  repeat ((conv => whnf); refine ⟨fun h => h, ?_⟩)
  (conv => whnf); refine ⟨fun h2 => ?_, fun h2 => ?_⟩
  · have h2 : (!Bh p || p == sl) = true := h2
    rw [if_pos h2] at hI
    skip
    rw [fin hI]
    exact ⟨trivial, ⟨rfl, rfl, trivial⟩, rfl, trivial⟩
  have h2 : (!Bh p || p == sl) = false := h2
  rw [if_neg (by rw [h2]; decide)] at hI
  rw [Bool.or_eq_false_iff] at h2
  have hn1 := B40 (by simpa using h2.1) h2.2
  have hn4 := I1 (p := p)
  have hn6 := Z4 (p := p)
  have hwk := Tv (l := names p) hat (by omega)
  have hwu := C2o (f := f) (p := p)
  have hwk2 := Tv (l := up p) hat (by omega)
  have hup : ∀ x, x ∈ up p → x.length ≤ 6 := fun x hx => hn6 x (List.mem_of_mem_take hx)
  have hul : (up p).length ≤ 4 := by rw [up, List.length_take]; omega
  skip
  refine ⟨p, rfl, fun _ => by show p.length ≤ _; omega, ?_⟩
  skip
  refine ⟨(f, names p), by (repeat' (first | refine Bu ?_ ?_ | refine Bz ?_ | refine Bq ?_ | refine Bx ?_ | exact rfl)) <;> simp [rdI, rdO, rdE, rdB, rdN, rdS, rdD, rdW, tkM], fun _ => ⟨hok, by show (names p).length ≤ _; omega⟩, ?_⟩
  skip
  generalize hW : E1 f 0 (names p) = W at hI hwk hwu
  (conv => whnf); refine ⟨fun h4 => ?_, fun h4 => ?_⟩
  · have h4 : decide (E1 f 0 (names p) < 0) = true := h4
    rw [hW] at h4
    rw [if_pos h4] at hI
    skip
    rw [fin hI]
    exact ⟨trivial, ⟨rfl, rfl, trivial⟩, rfl, trivial⟩
  have h4 : decide (E1 f 0 (names p) < 0) = false := h4
  rw [hW] at h4
  rw [if_neg (by rw [h4]; decide)] at hI
  have h4 : ¬ W < 0 := by simpa using h4
  have hwu := hwu h4
  obtain ⟨n, hn⟩ := B8 (l := f.nodes) (i := W.toNat) (by omega)
  have hna : Hd f W = n := by rw [Hd, List.getD_eq_getElem?_getD, hn]; rfl
  rw [hna] at hI
  repeat ((conv => whnf); first | refine ⟨fun h => h, ?_⟩ | refine ⟨At n, fun _ => by rw [hW]; exact ⟨by omega, Am hn⟩, ?_⟩)
  (conv => whnf); refine ⟨fun h5 => ?_, fun h5 => ?_⟩
  · have h5 : (n.kind == 2 && decide (n.size > 0)) = true := h5
    rw [if_pos h5] at hI
    skip
    rw [fin hI]
    exact ⟨trivial, ⟨rfl, rfl, trivial⟩, rfl, trivial⟩
  have h5 : (n.kind == 2 && decide (n.size > 0)) = false := h5
  rw [if_neg (by rw [h5]; decide)] at hI
  have hdw := B7e (i := W) hsh.wk
  have hdl := C1k f W
  skip
  refine ⟨(f, W), by rw [← hW]; exact by (repeat' (first | refine Bu ?_ ?_ | refine Bz ?_ | refine Bq ?_ | refine Bx ?_ | exact rfl)) <;> simp [rdI, rdO, rdE, rdB, rdN, rdS, rdD, rdW, tkM], fun _ => hsm, ?_⟩
  repeat ((conv => whnf); first | refine ⟨_, w64 (bb), ?_⟩ | refine ⟨fun _ => ⟨bb, bb, bb⟩, ?_⟩)
  refine ⟨(f, up p), by
    refine Bu ?_ (Bu (Bq ?_) rfl)
    · exact by (repeat' (first | refine Bu ?_ ?_ | refine Bz ?_ | refine Bq ?_ | refine Bx ?_ | exact rfl)) <;> simp [rdI, rdO, rdE, rdB, rdN, rdS, rdD, rdW, tkM]
    · rw [show (((((names p).map A6).length : Nat) : Int) - 1).toNat = (names p).length - 1 by rw [List.length_map]; omega]
      simp [up, List.map_take], fun _ => ⟨hok, by show (up p).length ≤ _; omega⟩, ?_⟩
  skip
  refine ⟨p, rfl, fun _ => by show p.length ≤ _; omega, ?_⟩
  skip
  refine ⟨((H7 f W).1, (E1 f 0 (up p)).toNat, O3 p), by
    refine Bu ?_ (Bu ?_ (Bu rfl rfl))
    · exact by (repeat' (first | refine Bu ?_ ?_ | refine Bz ?_ | refine Bq ?_ | refine Bx ?_ | exact rfl)) <;> simp [rdI, rdO, rdE, rdB, rdN, rdS, rdD, rdW, tkM]
    · show AV.int .i64 (E1 f 0 (up p)) = .int .i64 (((E1 f 0 (up p)).toNat : Nat) : Int); congr 1; omega, fun _ => ⟨hdw, by show (E1 f 0 (up p)).toNat < (H7 f W).1.nodes.length; omega⟩, ?_⟩
  repeat ((conv => whnf); refine ⟨(by kernel_rfl : Bw _ _ = true), ?_⟩)
  rw [fin hI]
  exact ⟨trivial, ⟨rfl, rfl, trivial⟩, rfl, trivial⟩
theorem A4b : Av Tryz.prog 127 Dy := Dd (Ca _ _) (FOk.cons Fn (FOk.cons P5 (FOk.cons Lv (FOk.cons Ku (FOk.cons Lt (FOk.cons Rw (FOk.cons Wu (FOk.cons Yp FOk.nil)))))))) mixed Tryz.func127 rfl Tryz.call127 (by decide) (by kernel_rfl) A6s (fun h => by cases h) (by intro (y : (Fs × Str)) _; first | exact ⟨by simp [Dy, con, A9, A8, Ad, AV.free, A2, A3, A1, A6, Ae, Ag, Ai, At, Ap, Az, B1], by simp [Dy, con, A9, A8, Ad, AV.free, A2, A3, A1, A6, Ae, Ag, Ai, At, Ap, Az, B1]⟩ | (obtain ⟨_, _⟩ := y; exact ⟨by simp [Dy, con, A9, A8, Ad, AV.free, A2, A3, A1, A6, Ae, Ag, Ai, At, Ap, Az, B1], by simp [Dy, con, A9, A8, Ad, AV.free, A2, A3, A1, A6, Ae, Ag, Ai, At, Ap, Az, B1]⟩) | (obtain ⟨_, _, _⟩ := y; exact ⟨by simp [Dy, con, A9, A8, Ad, AV.free, A2, A3, A1, A6, Ae, Ag, Ai, At, Ap, Az, B1], by simp [Dy, con, A9, A8, Ad, AV.free, A2, A3, A1, A6, Ae, Ag, Ai, At, Ap, Az, B1]⟩)) (by intro (y : (Fs × Str)) _; first | (simp [Dy, con, A9, A8, Ad, AV.free, A2, A3, A1, A6, Ae, Ag, Ai, At, Ap, Az, B1]; done) | (obtain ⟨_, _⟩ := y; simp [Dy, con, A9, A8, Ad, AV.free, A2, A3, A1, A6, Ae, Ag, Ai, At, Ap, Az, B1]; done) | (obtain ⟨_, _, _⟩ := y; simp [Dy, con, A9, A8, Ad, AV.free, A2, A3, A1, A6, Ae, Ag, Ai, At, Ap, Az, B1]; done))
noncomputable def Dt : Bi := A8 true [.rd [some 5, some 1], mC] (Fs × Str) (fun ⟨f, s⟩ => [.agg (Ap f), .str s]) (fun x => smF x.1 ∧ x.2.length ≤ 1048576) (fun ⟨f, s⟩ => .tup [.agg (Ap (Qb f s).1), .int .i64 (Qb f s).2]) (fun _ => [])
noncomputable def A6d : Env := ⟨A4 Ba, A4 [(120, Fy), (162, K8), (164, Ed), (166, D6), (171, Jv)], [0, 1, 2, 4, 5, 6, 7, 8, 9, 10, 11, 12, 17, 21, 28, 36, 49]⟩
set_option maxRecDepth 100000 in
set_option maxHeartbeats 4000000 in
theorem A6u : Bb A6d (Ax Tryz.f128) Tryz.f128.results.toList Dt := by
  rintro ⟨f, s⟩ hx
  obtain ⟨hsm, hsl⟩ : smF f ∧ s.length ≤ 1048576 := hx
  have hnl := hsm.1
  refine ⟨trivial, ?_⟩
  have fin : ∀ {r : Fs × Int}, r = Qb f s → Dt.res (f, s) = .tup [.agg (Ap r.1), .int .i64 r.2] := fun h => by rw [h]; rfl
  have hI := (Qb.eq_1 f s).symm
  skip
  refine ⟨f, by (repeat' (first | refine Bu ?_ ?_ | refine Bz ?_ | refine Bq ?_ | refine Bx ?_ | exact rfl)) <;> simp [rdI, rdO, rdE, rdB, rdN, rdS, rdD, rdW, tkM], fun _ => hsm, ?_⟩
  skip
  refine ⟨f, by (repeat' (first | refine Bu ?_ ?_ | refine Bz ?_ | refine Bq ?_ | refine Bx ?_ | exact rfl)) <;> simp [rdI, rdO, rdE, rdB, rdN, rdS, rdD, rdW, tkM], fun _ => hsm, ?_⟩
  skip
  (conv => whnf); refine ⟨fun h1 => ?_, fun h1 => ?_⟩
  · have h1 : (!Jh f) = true := h1
    rw [if_pos h1] at hI
    skip
    rw [fin hI]
    exact ⟨trivial, ⟨rfl, rfl, trivial⟩, rfl, trivial⟩
  have h1 : (!Jh f) = false := h1
  rw [if_neg (by rw [h1]; decide)] at hI
  have hok : Jh f = true := by revert h1; cases Jh f <;> simp
  obtain ⟨hsh, _, hat⟩ := Pt hok
  have hnn := hsh.nn
  skip
  (conv => whnf); refine ⟨fun h3 => ?_, fun h3 => ?_⟩
  · have h3 : decide ((s.length : Int) > 80) = true := h3
    rw [if_pos h3] at hI
    skip
    rw [fin hI]
    exact ⟨trivial, ⟨rfl, rfl, trivial⟩, rfl, trivial⟩
  have h3 : decide ((s.length : Int) > 80) = false := h3
  rw [if_neg (by rw [h3]; decide)] at hI
  have hwk := Tv (l := [hid]) hat (by omega)
  skip
  refine ⟨(f, [hid]), by
    refine Bu ?_ (Bu (Bq ?_) rfl)
    · exact by (repeat' (first | refine Bu ?_ ?_ | refine Bz ?_ | refine Bq ?_ | refine Bx ?_ | exact rfl)) <;> simp [rdI, rdO, rdE, rdB, rdN, rdS, rdD, rdW, tkM]
    · rfl, fun _ => ⟨hok, by show 1 ≤ _; omega⟩, ?_⟩
  skip
  (conv => whnf); refine ⟨fun h4 => ?_, fun h4 => ?_⟩
  · have h4 : decide (E1 f 0 [hid] < 0) = true := h4
    rw [if_pos h4] at hI
    skip
    refine ⟨(f, 0, hid, 1), by refine Bu ?_ (Bu rfl (Bu rfl (Bu rfl rfl))); exact by (repeat' (first | refine Bu ?_ ?_ | refine Bz ?_ | refine Bq ?_ | refine Bx ?_ | exact rfl)) <;> simp [rdI, rdO, rdE, rdB, rdN, rdS, rdD, rdW, tkM], fun _ => ⟨hsh.wk, by show 0 < f.nodes.length; omega, by show hid.length ≤ _; decide⟩, ?_⟩
    have hnw := Rk (i := 0) (s := hid) (k := 1) hsh.wk
    skip
    (conv => whnf); refine ⟨fun h6 => ?_, fun h6 => ?_⟩
    · have h6 : (!(Jf f 0 hid 1).2.2) = true := h6
      rw [hd3, if_pos h6] at hI
      skip
      refine ⟨f, by (repeat' (first | refine Bu ?_ ?_ | refine Bz ?_ | refine Bq ?_ | refine Bx ?_ | exact rfl)) <;> simp [rdI, rdO, rdE, rdB, rdN, rdS, rdD, rdW, tkM], fun _ => hsm, ?_⟩
      skip
      rw [fin hI]
      exact ⟨trivial, ⟨rfl, rfl, trivial⟩, rfl, trivial⟩
    have h6 : (!(Jf f 0 hid 1).2.2) = false := h6
    rw [hd3, if_neg (by rw [h6]; decide)] at hI
    skip
    refine ⟨((Jf f 0 hid 1).1, (Jf f 0 hid 1).2.1, s), by (repeat' (first | refine Bu ?_ ?_ | refine Bz ?_ | refine Bq ?_ | refine Bx ?_ | exact rfl)) <;> simp [rdI, rdO, rdE, rdB, rdN, rdS, rdD, rdW, tkM], fun _ => ⟨hnw.sm, by show s.length ≤ _; omega⟩, ?_⟩
    skip
    (conv => whnf); refine ⟨fun h7 => ?_, fun h7 => ?_⟩
    · have h7 : (!(Bd (Jf f 0 hid 1).1 (Jf f 0 hid 1).2.1 s).2) = true := h7
      rw [wr2, if_pos h7] at hI
      skip
      refine ⟨f, by (repeat' (first | refine Bu ?_ ?_ | refine Bz ?_ | refine Bq ?_ | refine Bx ?_ | exact rfl)) <;> simp [rdI, rdO, rdE, rdB, rdN, rdS, rdD, rdW, tkM], fun _ => hsm, ?_⟩
      skip
      rw [fin hI]
      exact ⟨trivial, ⟨rfl, rfl, trivial⟩, rfl, trivial⟩
    have h7 : (!(Bd (Jf f 0 hid 1).1 (Jf f 0 hid 1).2.1 s).2) = false := h7
    rw [wr2, if_neg (by rw [h7]; decide)] at hI
    skip
    rw [fin hI]
    exact ⟨trivial, ⟨rfl, rfl, trivial⟩, rfl, trivial⟩
  have h4 : decide (E1 f 0 [hid] < 0) = false := h4
  rw [if_neg (by rw [h4]; decide)] at hI
  skip
  refine ⟨(f, E1 f 0 [hid], s), by (repeat' (first | refine Bu ?_ ?_ | refine Bz ?_ | refine Bq ?_ | refine Bx ?_ | exact rfl)) <;> simp [rdI, rdO, rdE, rdB, rdN, rdS, rdD, rdW, tkM], fun _ => ⟨hsm, by show s.length ≤ _; omega⟩, ?_⟩
  skip
  (conv => whnf); refine ⟨fun h7 => ?_, fun h7 => ?_⟩
  · have h7 : (!(Bd f (E1 f 0 [hid]) s).2) = true := h7
    rw [wr2, if_pos h7] at hI
    skip
    refine ⟨f, by (repeat' (first | refine Bu ?_ ?_ | refine Bz ?_ | refine Bq ?_ | refine Bx ?_ | exact rfl)) <;> simp [rdI, rdO, rdE, rdB, rdN, rdS, rdD, rdW, tkM], fun _ => hsm, ?_⟩
    skip
    rw [fin hI]
    exact ⟨trivial, ⟨rfl, rfl, trivial⟩, rfl, trivial⟩
  have h7 : (!(Bd f (E1 f 0 [hid]) s).2) = false := h7
  rw [wr2, if_neg (by rw [h7]; decide)] at hI
  skip
  rw [fin hI]
  exact ⟨trivial, ⟨rfl, rfl, trivial⟩, rfl, trivial⟩
theorem A33 : Av Tryz.prog 128 Dt := Dd (Ca _ _) (FOk.cons Lv (FOk.cons Ku (FOk.cons Lt (FOk.cons Oe (FOk.cons L6 FOk.nil))))) mixed Tryz.func128 rfl Tryz.call128 (by decide) (by kernel_rfl) A6u (fun h => by cases h) (by intro (y : (Fs × Str)) _; first | exact ⟨by simp [Dt, con, A9, A8, Ad, AV.free, A2, A3, A1, A6, Ae, Ag, Ai, At, Ap, Az, B1], by simp [Dt, con, A9, A8, Ad, AV.free, A2, A3, A1, A6, Ae, Ag, Ai, At, Ap, Az, B1]⟩ | (obtain ⟨_, _⟩ := y; exact ⟨by simp [Dt, con, A9, A8, Ad, AV.free, A2, A3, A1, A6, Ae, Ag, Ai, At, Ap, Az, B1], by simp [Dt, con, A9, A8, Ad, AV.free, A2, A3, A1, A6, Ae, Ag, Ai, At, Ap, Az, B1]⟩) | (obtain ⟨_, _, _⟩ := y; exact ⟨by simp [Dt, con, A9, A8, Ad, AV.free, A2, A3, A1, A6, Ae, Ag, Ai, At, Ap, Az, B1], by simp [Dt, con, A9, A8, Ad, AV.free, A2, A3, A1, A6, Ae, Ag, Ai, At, Ap, Az, B1]⟩)) (by intro (y : (Fs × Str)) _; first | (simp [Dt, con, A9, A8, Ad, AV.free, A2, A3, A1, A6, Ae, Ag, Ai, At, Ap, Az, B1]; done) | (obtain ⟨_, _⟩ := y; simp [Dt, con, A9, A8, Ad, AV.free, A2, A3, A1, A6, Ae, Ag, Ai, At, Ap, Az, B1]; done) | (obtain ⟨_, _, _⟩ := y; simp [Dt, con, A9, A8, Ad, AV.free, A2, A3, A1, A6, Ae, Ag, Ai, At, Ap, Az, B1]; done))
end Go.GH


set_option linter.unusedVariables false
set_option linter.unusedSimpArgs false
namespace Go.GH
open Go Go.Proofs
noncomputable def Eh : Bi := A8 true [.mp] Cur (fun c => [.own 3 [B4 c]]) D5 (fun c => .int .i64 (Ox c)) (fun c => [.own 3 [B4 (Gt c)]])
noncomputable def A77 : Env := ⟨A4 Ba, A4 [], [0, 2, 3, 34]⟩
set_option maxRecDepth 100000 in
set_option maxHeartbeats 4000000 in
theorem A5k : Bb A77 (Ax Tryz.f82) Tryz.f82.results.toList Eh := by
  intro (c : Cur) hc
  obtain ⟨hc1, hc2⟩ : D5 c := hc
  refine ⟨⟨⟨_, _, _, rfl, rfl, by simp⟩, trivial⟩, ?_⟩
  skip
  refine ⟨C2g c.h 6364136223846793005, rfl, ?_⟩
  skip
  refine ⟨Oo c.h, rfl, ?_⟩
  repeat ((conv => whnf); refine ⟨bb, ?_⟩)
  refine ⟨(Oo c.h).fdiv (2 ^ min (33 : Int).toNat IntKind.i64.bits), rfl, ?_⟩
  repeat ((conv => whnf); refine ⟨bb, ?_⟩)
  refine ⟨(Oo c.h).fdiv (2 ^ min (45 : Int).toNat IntKind.i64.bits), rfl, ?_⟩
  skip
  refine ⟨C3w ((Oo c.h).fdiv (2 ^ min (33 : Int).toNat IntKind.i64.bits)) ((Oo c.h).fdiv (2 ^ min (45 : Int).toNat IntKind.i64.bits)), rfl, ?_⟩
  skip
  refine ⟨x0 (Oo c.h), rfl, ?_⟩
  have hx0 := C2r (Oo c.h)
  repeat ((conv => whnf); refine ⟨(by kernel_rfl : Bw _ _ = true), ?_⟩)
  (conv => whnf); refine ⟨fun h1 => ?_, fun h1 => ?_⟩
  · have h1 : c.i < c.b.length := by simpa using h1
    obtain ⟨y, hy⟩ := B8 h1
    have hX : Ox c = B1t (x0 (Oo c.h) + y.toNat) 255 := by rw [Ox, hy]
    have hN : Gt c = ⟨c.b, c.i + 1, Oo c.h⟩ := by rw [Gt, if_pos h1]
    have hyl := y.toNat_lt
    skip
    refine ⟨Ag y, fun _ => ⟨by omega, Am hy⟩, ?_⟩
    repeat ((conv => whnf); refine ⟨_, w64 (bb), ?_⟩)
    refine ⟨B1t (x0 (Oo c.h) + y.toNat) 255, rfl, ?_⟩
    repeat ((conv => whnf); first | refine ⟨(by kernel_rfl : Bw _ _ = true), ?_⟩ | refine ⟨_, w64 (bb), ?_⟩)
    exact ⟨⟨by rw [hN]; rfl, trivial⟩, Nr hX.symm⟩
  · have h1 : ¬ c.i < c.b.length := by simpa using h1
    have hX : Ox c = x0 (Oo c.h) := by rw [Ox, List.getElem?_eq_none (by omega)]
    have hN : Gt c = ⟨c.b, c.i, Oo c.h⟩ := by rw [Gt, if_neg h1]
    skip
    exact ⟨⟨by rw [hN]; rfl, trivial⟩, Nr hX.symm⟩
theorem A30 : Av Tryz.prog 82 Eh := Dd (Ca _ _) FOk.nil mixed Tryz.func82 rfl Tryz.call82 (by decide) (by kernel_rfl) A5k (fun h => by cases h) (by intro (y : Cur) _; first | exact ⟨by simp [Eh, con, A9, A8, Ad, AV.free, A2, A3, A1, A6, B4, Ag], by simp [Eh, con, A9, A8, Ad, AV.free, A2, A3, A1, A6, B4, Ag]⟩ | (obtain ⟨_, _⟩ := y; exact ⟨by simp [Eh, con, A9, A8, Ad, AV.free, A2, A3, A1, A6, B4, Ag], by simp [Eh, con, A9, A8, Ad, AV.free, A2, A3, A1, A6, B4, Ag]⟩) | (obtain ⟨_, _, _⟩ := y; exact ⟨by simp [Eh, con, A9, A8, Ad, AV.free, A2, A3, A1, A6, B4, Ag], by simp [Eh, con, A9, A8, Ad, AV.free, A2, A3, A1, A6, B4, Ag]⟩)) (by intro (y : Cur) _; first | (simp [Eh, con, A9, A8, Ad, AV.free, A2, A3, A1, A6, B4, Ag]; done) | (obtain ⟨_, _⟩ := y; simp [Eh, con, A9, A8, Ad, AV.free, A2, A3, A1, A6, B4, Ag]; done) | (obtain ⟨_, _, _⟩ := y; simp [Eh, con, A9, A8, Ad, AV.free, A2, A3, A1, A6, B4, Ag]; done))
noncomputable def C9 : Bi := A8 true [.mp, mC] (Cur × Int) (fun ⟨c, n⟩ => [.own 3 [B4 c], .int .i64 n]) (fun x => D5 x.1) (fun ⟨c, n⟩ => .int .i64 (C0 c n)) (fun ⟨c, n⟩ => [.own 3 [B4 (Ak c n)]])
noncomputable def A32 : Env := ⟨A4 Ba, A4 [(82, Eh)], [0, 1, 4, 5, 6, 7, 8, 10, 12]⟩
set_option maxRecDepth 100000 in
set_option maxHeartbeats 4000000 in
theorem A3y : Bb A32 (Ax Tryz.f42) Tryz.f42.results.toList C9 := by
  rintro ⟨c, n⟩ hc
  have hc : D5 c := hc
  refine ⟨⟨⟨_, _, _, rfl, rfl, by simp⟩, trivial⟩, ?_⟩
  (conv => whnf); refine ⟨fun h1 => ?_, fun h1 => ?_⟩
  · have h1 : n ≤ 0 := by simpa using h1
    have hX : C0 c n = 0 := by rw [C0, if_pos h1]
    have hN : Ak c n = c := by rw [Ak, if_pos h1]
    skip
    exact ⟨⟨by rw [hN]; rfl, trivial⟩, Nr hX.symm⟩
  have h1 : ¬ n ≤ 0 := by simpa using h1
  skip
  (conv => whnf); refine ⟨fun h2 => ?_, fun h2 => ?_⟩
  · have h2 : n ≤ 256 := by simpa using h2
    have hX : C0 c n = (Ox c).tmod n := by rw [C0, if_neg h1, if_pos h2]
    have hN : Ak c n = Gt c := by rw [Ak, if_neg h1, if_pos h2]
    skip
    refine ⟨c, rfl, fun _ => hc, ?_⟩
    repeat ((conv => whnf); refine ⟨bb, ?_⟩)
    refine ⟨(Ox c).tmod n, rfl, ?_⟩
    skip
    exact ⟨⟨by rw [hN]; rfl, trivial⟩, Nr hX.symm⟩
  · have h2 : ¬ n ≤ 256 := by simpa using h2
    have hX : C0 c n = (Ox c * 16777216 + Ox (Gt c) * 65536 + Ox (Gt (Gt c)) * 256 + Ox (Gt (Gt (Gt c)))).tmod n := by rw [C0, if_neg h1, if_neg h2]
    have hN : Ak c n = Gt (Gt (Gt (Gt c))) := by rw [Ak, if_neg h1, if_neg h2]
    skip
    refine ⟨c, rfl, fun _ => hc, ?_⟩
    skip
    refine ⟨Gt c, rfl, fun _ => Lu hc, ?_⟩
    skip
    refine ⟨Gt (Gt c), rfl, fun _ => Lu (Lu hc), ?_⟩
    skip
    refine ⟨Gt (Gt (Gt c)), rfl, fun _ => Lu (Lu (Lu hc)), ?_⟩
    have c0 := Q5 c
    have c1 := Q5 (Gt c)
    have c2 := Q5 (Gt (Gt c))
    have c3 := Q5 (Gt (Gt (Gt c)))
    repeat ((conv => whnf); first | refine ⟨_, w64 (bb), ?_⟩ | refine ⟨bb, ?_⟩)
    refine ⟨(Ox c * 16777216 + Ox (Gt c) * 65536 + Ox (Gt (Gt c)) * 256 + Ox (Gt (Gt (Gt c)))).tmod n, rfl, ?_⟩
    skip
    exact ⟨⟨by rw [hN]; rfl, trivial⟩, Nr hX.symm⟩
theorem H0 : Av Tryz.prog 42 C9 := Dd (Ca _ _) (FOk.cons A30 FOk.nil) mixed Tryz.func42 rfl Tryz.call42 (by decide) (by kernel_rfl) A3y (fun h => by cases h) (by intro (y : (Cur × Int)) _; first | exact ⟨by simp [C9, con, A9, A8, Ad, AV.free, A2, A3, A1, A6, B4, Ag], by simp [C9, con, A9, A8, Ad, AV.free, A2, A3, A1, A6, B4, Ag]⟩ | (obtain ⟨_, _⟩ := y; exact ⟨by simp [C9, con, A9, A8, Ad, AV.free, A2, A3, A1, A6, B4, Ag], by simp [C9, con, A9, A8, Ad, AV.free, A2, A3, A1, A6, B4, Ag]⟩) | (obtain ⟨_, _, _⟩ := y; exact ⟨by simp [C9, con, A9, A8, Ad, AV.free, A2, A3, A1, A6, B4, Ag], by simp [C9, con, A9, A8, Ad, AV.free, A2, A3, A1, A6, B4, Ag]⟩)) (by intro (y : (Cur × Int)) _; first | (simp [C9, con, A9, A8, Ad, AV.free, A2, A3, A1, A6, B4, Ag]; done) | (obtain ⟨_, _⟩ := y; simp [C9, con, A9, A8, Ad, AV.free, A2, A3, A1, A6, B4, Ag]; done) | (obtain ⟨_, _, _⟩ := y; simp [C9, con, A9, A8, Ad, AV.free, A2, A3, A1, A6, B4, Ag]; done))
noncomputable def Ja : Bi := Ad [mS 1] Str (fun s => [.rd 1 (s.map Ag)]) (fun s => s.length ≤ 1048576) (fun s => .own 3 [B4 (K9 s)])
noncomputable def B24 : Env := ⟨A4 Ba, A4 [], [0, 2, 3, 4, 15]⟩
set_option maxRecDepth 100000 in
set_option maxHeartbeats 4000000 in
theorem B01 : C0g B24 (Ax Tryz.f39) Tryz.f39.results.toList Ja := by
  intro (s : Str) (hs : s.length ≤ 1048576)
  refine ⟨rfl, ?_⟩
  repeat ((conv => whnf); refine ⟨_, w64 (bb), ?_⟩)
  refine B0 (fun i : Nat => ⟨[(0, ⟨none, .rd 1 (s.map Ag)⟩), (3, ⟨none, .int .i64 ((s.take i).foldl C2s (26583 + s.length))⟩), (4, ⟨none, .int .i64 i⟩)], [], 0⟩)
    (fun i => i ≤ s.length ∧ i ≤ 4000) (fun i => s.length - i) 0 ?_ ⟨by omega, by omega⟩ ?_
  · (refine ⟨?_, ?_, rfl⟩ <;> repeat' (first | exact rfl | exact trivial | refine ⟨?_, ?_⟩ | fail) <;> (conv => whnf))
    all_goals simp
  rintro i ⟨hi, hi2⟩
  repeat ((conv => whnf); refine ⟨fun h => h, ?_⟩)
  (conv => whnf); refine ⟨fun h1 => ?_, fun h1 => ?_⟩
  · have h1 : i < s.length ∧ i < 4000 := by
      have h1 : (decide ((i : Int) < (s.map Ag).length) && decide ((i : Int) < 4000)) = true := h1
      simp at h1; omega
    obtain ⟨y, hy⟩ := B8 h1.1
    have hyl := y.toNat_lt
    skip
    refine ⟨C2g _ 131, rfl, ?_⟩
    skip
    refine ⟨Ag y, fun _ => ⟨by omega, Am hy⟩, ?_⟩
    repeat ((conv => whnf); refine ⟨_, w64 (bb), ?_⟩)
    refine ⟨C1e _ y.toNat, rfl, ?_⟩
    skip
    refine ⟨C1e _ 7, rfl, ?_⟩
    skip
    refine ⟨B1t _ 1073741823, rfl, ?_⟩
    repeat ((conv => whnf); refine ⟨_, w64 (bb), ?_⟩)
    refine C2 (i + 1) ?_ ⟨h1.1, h1.2⟩ (by first | omega | (simp; done) | (simp; omega))
    (refine ⟨?_, ?_, rfl⟩ <;> repeat' (first | exact rfl | exact trivial | refine ⟨?_, ?_⟩ | fail) <;> (conv => whnf))
    rw [B6o hy]; rfl
  · have h1 : i = s.length ∨ i = 4000 := by
      have h1 : (decide ((i : Int) < (s.map Ag).length) && decide ((i : Int) < 4000)) = false := h1
      simp at h1; omega
    have ht : s.take i = s.take 4000 := by
      rcases h1 with h1 | h1
      · subst h1; rw [List.take_length, List.take_of_length_le hi2]
      · rw [h1]
    rw [ht]
    skip
    exact ⟨rfl, by simp [Ja, Ad, B4, Ag, AV.free, A3, A1, A2], 3, _, rfl⟩
theorem A5l : Av Tryz.prog 39 Ja := B91 (Ca _ _) FOk.nil mixed Tryz.func39 rfl Tryz.call39 (by decide) (by kernel_rfl) B01 (by intro (y : Str) _; first | (simp [Ja, con, A9, A8, Ad, AV.free, A2, A3, A1, A6, B4, Ag]; done) | (obtain ⟨_, _⟩ := y; simp [Ja, con, A9, A8, Ad, AV.free, A2, A3, A1, A6, B4, Ag]; done) | (obtain ⟨_, _, _⟩ := y; simp [Ja, con, A9, A8, Ad, AV.free, A2, A3, A1, A6, B4, Ag]; done))
noncomputable def K1 : Bi := con [mS 1] true Str (fun s => [.rd 1 (s.map Ag)]) (fun _ => True) (fun s => .bool (decide (1048576 < s.length)))
noncomputable def B6p : Env := ⟨A4 Ba, A4 [], [0, 2]⟩
set_option maxRecDepth 100000 in
set_option maxHeartbeats 4000000 in
theorem B6b : Bb B6p (Ax Tryz.f7) Tryz.f7.results.toList K1 := by
  intro (s : Str) _
  refine ⟨trivial, ?_⟩
  skip
  exact ⟨trivial, eqB (by simp; omega)⟩
theorem B4m : Av Tryz.prog 7 K1 := Ao (Ca _ _) FOk.nil mixed Tryz.func7 rfl Tryz.call7 (by decide) (by kernel_rfl) B6b (by intro _ (y : Str) _; exact ⟨by simp [K1, con, A9, A8, AV.noRd, A7, Ab, A5, A6, B4, Ag], by simp [K1, con, A9, A8, AV.noRd, A7, Ab, A5, A6, B4, Ag]⟩) (by intro (y : Str) _; first | (simp [K1, con, A9, A8, Ad, AV.free, A2, A3, A1, A6, B4, Ag]; done) | (obtain ⟨_, _⟩ := y; simp [K1, con, A9, A8, Ad, AV.free, A2, A3, A1, A6, B4, Ag]; done) | (obtain ⟨_, _, _⟩ := y; simp [K1, con, A9, A8, Ad, AV.free, A2, A3, A1, A6, B4, Ag]; done))
end Go.GH


set_option linter.unusedVariables false
set_option linter.unusedSimpArgs false
namespace Go.GH
open Go Go.Proofs
noncomputable def Dj : Bi := A8 true [.mp, mC] (Cur × Int) (fun ⟨c, n⟩ => [.own 3 [B4 c], .int .i64 n]) (fun x => D5 x.1) (fun ⟨c, n⟩ => .bool (C0 c n == 0)) (fun ⟨c, n⟩ => [.own 3 [B4 (Ak c n)]])
noncomputable def A8g : Env := ⟨A4 Ba, A4 [(42, C9)], [0, 1, 4]⟩
set_option maxRecDepth 100000 in
set_option maxHeartbeats 4000000 in
theorem A5n : Bb A8g (Ax Tryz.f41) Tryz.f41.results.toList Dj := by
  rintro ⟨c, n⟩ hc
  refine ⟨⟨⟨_, _, _, rfl, rfl, by simp⟩, trivial⟩, ?_⟩
  conv => whnf
  refine ⟨(c, n), rfl, fun _ => hc, ?_⟩
  skip
  exact ⟨⟨rfl, trivial⟩, rfl⟩
theorem Og : Av Tryz.prog 41 Dj := Dd (Ca _ _) (FOk.cons H0 FOk.nil) mixed Tryz.func41 rfl Tryz.call41 (by decide) (by kernel_rfl) A5n (fun h => by cases h) (by intro (y : (Cur × Int)) _; first | exact ⟨by simp [Dj, con, A9, A8, Ad, AV.free, A2, A3, A1, A6, Au, B4, Ag, Ae], by simp [Dj, con, A9, A8, Ad, AV.free, A2, A3, A1, A6, Au, B4, Ag, Ae]⟩ | (obtain ⟨_, _⟩ := y; exact ⟨by simp [Dj, con, A9, A8, Ad, AV.free, A2, A3, A1, A6, Au, B4, Ag, Ae], by simp [Dj, con, A9, A8, Ad, AV.free, A2, A3, A1, A6, Au, B4, Ag, Ae]⟩) | (obtain ⟨_, _, _⟩ := y; exact ⟨by simp [Dj, con, A9, A8, Ad, AV.free, A2, A3, A1, A6, Au, B4, Ag, Ae], by simp [Dj, con, A9, A8, Ad, AV.free, A2, A3, A1, A6, Au, B4, Ag, Ae]⟩)) (by intro (y : (Cur × Int)) _; first | (simp [Dj, con, A9, A8, Ad, AV.free, A2, A3, A1, A6, Au, B4, Ag, Ae]; done) | (obtain ⟨_, _⟩ := y; simp [Dj, con, A9, A8, Ad, AV.free, A2, A3, A1, A6, Au, B4, Ag, Ae]; done) | (obtain ⟨_, _, _⟩ := y; simp [Dj, con, A9, A8, Ad, AV.free, A2, A3, A1, A6, Au, B4, Ag, Ae]; done))
noncomputable def Cb : Bi := A8 true [.mp, .co [some 1]] (Cur × List Int) (fun ⟨c, l⟩ => [.own 3 [B4 c], .own 1 (l.map Ae)]) (fun x => D5 x.1 ∧ 0 < x.2.length ∧ x.2.length ≤ 1000) (fun ⟨c, l⟩ => .int .i64 (G8 c l)) (fun ⟨c, l⟩ => [.own 3 [B4 (Ak c l.length)]])
noncomputable def Z3 : Env := ⟨A4 Ba, A4 [(42, C9)], [0, 1, 4]⟩
set_option maxRecDepth 100000 in
set_option maxHeartbeats 4000000 in
theorem Yb : Bb Z3 (Ax Tryz.f81) Tryz.f81.results.toList Cb := by
  rintro ⟨c, l⟩ hc
  obtain ⟨hc, hl0, hl1⟩ : D5 c ∧ 0 < l.length ∧ l.length ≤ 1000 := hc
  refine ⟨⟨⟨_, _, _, rfl, rfl, by simp⟩, trivial⟩, ?_⟩
  have hb := Pz c l.length
  have hb2 := hb.2 (by omega)
  skip
  refine ⟨(c, (l.length : Int)), by show [AV.own 3 [B4 c], AV.int .i64 ((l.map Ae).length : Int)] = _; rw [List.length_map]; rfl, fun _ => hc, ?_⟩
  repeat ((conv => whnf); refine ⟨bb, ?_⟩)
  refine ⟨Ae (G8 c l), fun _ => by show (l.map Ae)[0 + (C0 c (l.length : Int)).toNat]? = _; rw [Nat.zero_add]; exact Am (B00 hl0), ?_⟩
  skip
  exact ⟨⟨rfl, trivial⟩, rfl⟩
theorem Jw : Av Tryz.prog 81 Cb := Dd (Ca _ _) (FOk.cons H0 FOk.nil) mixed Tryz.func81 rfl Tryz.call81 (by decide) (by kernel_rfl) Yb (fun h => by cases h) (by intro (y : (Cur × List Int)) _; first | exact ⟨by simp [Cb, con, A9, A8, Ad, AV.free, A2, A3, A1, A6, Au, B4, Ag, Ae], by simp [Cb, con, A9, A8, Ad, AV.free, A2, A3, A1, A6, Au, B4, Ag, Ae]⟩ | (obtain ⟨_, _⟩ := y; exact ⟨by simp [Cb, con, A9, A8, Ad, AV.free, A2, A3, A1, A6, Au, B4, Ag, Ae], by simp [Cb, con, A9, A8, Ad, AV.free, A2, A3, A1, A6, Au, B4, Ag, Ae]⟩) | (obtain ⟨_, _, _⟩ := y; exact ⟨by simp [Cb, con, A9, A8, Ad, AV.free, A2, A3, A1, A6, Au, B4, Ag, Ae], by simp [Cb, con, A9, A8, Ad, AV.free, A2, A3, A1, A6, Au, B4, Ag, Ae]⟩)) (by intro (y : (Cur × List Int)) _; first | (simp [Cb, con, A9, A8, Ad, AV.free, A2, A3, A1, A6, Au, B4, Ag, Ae]; done) | (obtain ⟨_, _⟩ := y; simp [Cb, con, A9, A8, Ad, AV.free, A2, A3, A1, A6, Au, B4, Ag, Ae]; done) | (obtain ⟨_, _, _⟩ := y; simp [Cb, con, A9, A8, Ad, AV.free, A2, A3, A1, A6, Au, B4, Ag, Ae]; done))
noncomputable def Dm : Bi := A8 true [.mp, .co [some 1]] (Cur × List Str) (fun ⟨c, l⟩ => [.own 3 [B4 c], .own 1 (l.map A6)]) (fun x => D5 x.1 ∧ 0 < x.2.length ∧ x.2.length ≤ 1000) (fun ⟨c, l⟩ => .str (Hi c l)) (fun ⟨c, l⟩ => [.own 3 [B4 (Ak c l.length)]])
noncomputable def A72 : Env := ⟨A4 Ba, A4 [(42, C9)], [0, 1, 4]⟩
set_option maxRecDepth 100000 in
set_option maxHeartbeats 4000000 in
theorem A6z : Bb A72 (Ax Tryz.f43) Tryz.f43.results.toList Dm := by
  rintro ⟨c, l⟩ hc
  obtain ⟨hc, hl0, hl1⟩ : D5 c ∧ 0 < l.length ∧ l.length ≤ 1000 := hc
  refine ⟨⟨⟨_, _, _, rfl, rfl, by simp⟩, trivial⟩, ?_⟩
  have hb := Pz c l.length
  have hb2 := hb.2 (by omega)
  skip
  refine ⟨(c, (l.length : Int)), by show [AV.own 3 [B4 c], AV.int .i64 ((l.map A6).length : Int)] = _; rw [List.length_map]; rfl, fun _ => hc, ?_⟩
  repeat ((conv => whnf); refine ⟨bb, ?_⟩)
  refine ⟨A6 (Hi c l), fun _ => by show (l.map A6)[0 + (C0 c (l.length : Int)).toNat]? = _; rw [Nat.zero_add]; exact Am (A9g hl0), ?_⟩
  skip
  exact ⟨⟨rfl, trivial⟩, rfl⟩
theorem On : Av Tryz.prog 43 Dm := Dd (Ca _ _) (FOk.cons H0 FOk.nil) mixed Tryz.func43 rfl Tryz.call43 (by decide) (by kernel_rfl) A6z (fun h => by cases h) (by intro (y : (Cur × List Str)) _; first | exact ⟨by simp [Dm, con, A9, A8, Ad, AV.free, A2, A3, A1, A6, Au, B4, Ag, Ae], by simp [Dm, con, A9, A8, Ad, AV.free, A2, A3, A1, A6, Au, B4, Ag, Ae]⟩ | (obtain ⟨_, _⟩ := y; exact ⟨by simp [Dm, con, A9, A8, Ad, AV.free, A2, A3, A1, A6, Au, B4, Ag, Ae], by simp [Dm, con, A9, A8, Ad, AV.free, A2, A3, A1, A6, Au, B4, Ag, Ae]⟩) | (obtain ⟨_, _, _⟩ := y; exact ⟨by simp [Dm, con, A9, A8, Ad, AV.free, A2, A3, A1, A6, Au, B4, Ag, Ae], by simp [Dm, con, A9, A8, Ad, AV.free, A2, A3, A1, A6, Au, B4, Ag, Ae]⟩)) (by intro (y : (Cur × List Str)) _; first | (simp [Dm, con, A9, A8, Ad, AV.free, A2, A3, A1, A6, Au, B4, Ag, Ae]; done) | (obtain ⟨_, _⟩ := y; simp [Dm, con, A9, A8, Ad, AV.free, A2, A3, A1, A6, Au, B4, Ag, Ae]; done) | (obtain ⟨_, _, _⟩ := y; simp [Dm, con, A9, A8, Ad, AV.free, A2, A3, A1, A6, Au, B4, Ag, Ae]; done))
noncomputable def Fo : Bi := con [] false Unit (fun _ => []) (fun _ => True) (fun _ => .own 1 (Ce.map A6))
noncomputable def A2j : Env := ⟨A4 Ba, A4 [], [0]⟩
set_option maxRecDepth 100000 in
set_option maxHeartbeats 4000000 in
theorem A31 : Bb A2j (Ax Tryz.f123) Tryz.f123.results.toList Fo := by
  rintro x _
  refine ⟨trivial, ?_⟩
  skip
  exact ⟨trivial, rfl, rfl⟩
theorem Sb : Av Tryz.prog 123 Fo := Ao (Ca _ _) FOk.nil mixed Tryz.func123 rfl Tryz.call123 (by decide) (by kernel_rfl) A31 (by intro _ (y : Unit) _; exact ⟨by simp [Fo, con, A9, A8, AV.noRd, A7, Ab, A5, A6, B4, Ag, Ae, Au], by simp [Fo, con, A9, A8, AV.noRd, A7, Ab, A5, A6, B4, Ag, Ae, Au]⟩) (by intro (y : Unit) _; first | (simp [Fo, con, A9, A8, Ad, AV.free, A2, A3, A1, A6, Au, B4, Ag, Ae]; done) | (obtain ⟨_, _⟩ := y; simp [Fo, con, A9, A8, Ad, AV.free, A2, A3, A1, A6, Au, B4, Ag, Ae]; done) | (obtain ⟨_, _, _⟩ := y; simp [Fo, con, A9, A8, Ad, AV.free, A2, A3, A1, A6, Au, B4, Ag, Ae]; done))
noncomputable def Dv : Bi := A8 true [.mp] Cur (fun c => [.own 3 [B4 c]]) D5 (fun c => .str (Mf c)) (fun c => [.own 3 [B4 (Nc c)]])
noncomputable def A81 : Env := ⟨A4 Ba, A4 [(41, Dj), (43, Dm), (123, Fo)], [0, 2, 4]⟩
set_option maxRecDepth 100000 in
set_option maxHeartbeats 4000000 in
theorem A5d : Bb A81 (Ax Tryz.f80) Tryz.f80.results.toList Dv := by
  intro (c : Cur) hc
  have hc : D5 c := hc
  refine ⟨⟨⟨_, _, _, rfl, rfl, by simp⟩, trivial⟩, ?_⟩
  conv => whnf
  refine ⟨(c, 12), rfl, fun _ => hc, ?_⟩
  (conv => whnf); refine ⟨fun h1 => ?_, fun h1 => ?_⟩
  · have h1 : C0 c 12 = 0 := by
      have h1 : (C0 c 12 == 0) = true := h1
      simpa using h1
    have hX : Mf c = Hi (Ak c 12) Sp := by rw [Mf, if_pos h1]
    have hN : Nc c = Ak (Ak c 12) 12 := by rw [Nc, if_pos h1]
    skip
    refine ⟨(Ak c 12, Sp), rfl, fun _ => ⟨Be hc, (by decide : 0 < Sp.length ∧ Sp.length ≤ 1000)⟩, ?_⟩
    skip
    exact ⟨⟨by rw [hN]; rfl, trivial⟩, eqS hX.symm⟩
  · have h1 : ¬ C0 c 12 = 0 := by
      have h1 : (C0 c 12 == 0) = false := h1
      simpa using h1
    have hX : Mf c = Hi (Ak c 12) Ce := by rw [Mf, if_neg h1]
    have hN : Nc c = Ak (Ak c 12) 10 := by rw [Nc, if_neg h1]
    skip
    refine ⟨(), rfl, fun _ => trivial, ?_⟩
    skip
    refine ⟨(Ak c 12, Ce), rfl, fun _ => ⟨Be hc, (by decide : 0 < Ce.length ∧ Ce.length ≤ 1000)⟩, ?_⟩
    skip
    exact ⟨⟨by rw [hN]; rfl, trivial⟩, eqS hX.symm⟩
theorem Td : Av Tryz.prog 80 Dv := Dd (Ca _ _) (FOk.cons Og (FOk.cons On (FOk.cons Sb FOk.nil))) mixed Tryz.func80 rfl Tryz.call80 (by decide) (by kernel_rfl) A5d (fun h => by cases h) (by intro (y : Cur) _; first | exact ⟨by simp [Dv, con, A9, A8, Ad, AV.free, A2, A3, A1, A6, Au, B4, Ag, Ae], by simp [Dv, con, A9, A8, Ad, AV.free, A2, A3, A1, A6, Au, B4, Ag, Ae]⟩ | (obtain ⟨_, _⟩ := y; exact ⟨by simp [Dv, con, A9, A8, Ad, AV.free, A2, A3, A1, A6, Au, B4, Ag, Ae], by simp [Dv, con, A9, A8, Ad, AV.free, A2, A3, A1, A6, Au, B4, Ag, Ae]⟩) | (obtain ⟨_, _, _⟩ := y; exact ⟨by simp [Dv, con, A9, A8, Ad, AV.free, A2, A3, A1, A6, Au, B4, Ag, Ae], by simp [Dv, con, A9, A8, Ad, AV.free, A2, A3, A1, A6, Au, B4, Ag, Ae]⟩)) (by intro (y : Cur) _; first | (simp [Dv, con, A9, A8, Ad, AV.free, A2, A3, A1, A6, Au, B4, Ag, Ae]; done) | (obtain ⟨_, _⟩ := y; simp [Dv, con, A9, A8, Ad, AV.free, A2, A3, A1, A6, Au, B4, Ag, Ae]; done) | (obtain ⟨_, _, _⟩ := y; simp [Dv, con, A9, A8, Ad, AV.free, A2, A3, A1, A6, Au, B4, Ag, Ae]; done))
noncomputable def Dx : Bi := A8 true [.mp] Cur (fun c => [.own 3 [B4 c]]) D5 (fun c => .str (Qc c)) (fun c => [.own 3 [B4 (Me c)]])
noncomputable def A7n : Env := ⟨A4 Ba, A4 [(42, C9), (81, Cb)], [0, 2, 3, 4, 5, 11]⟩
set_option maxRecDepth 100000 in
set_option maxHeartbeats 4000000 in
theorem A61 : Bb A7n (Ax Tryz.f126) Tryz.f126.results.toList Dx := by
  intro (c : Cur) hc
  have hc : D5 c := hc
  refine ⟨⟨⟨_, _, _, rfl, rfl, by simp⟩, trivial⟩, ?_⟩
  skip
  refine ⟨(c, Kw), rfl, fun _ => ⟨hc, (by decide : 0 < Kw.length ∧ Kw.length ≤ 1000)⟩, ?_⟩
  have hp := B2o c
  have hp2 : G8 c Kw = (Va c : Int) := by unfold Va; omega
  skip
  refine B0 (fun ((i, c', s) : Nat × Cur × Str) => ⟨[(0, ⟨none, .bx 0 0⟩), (3, ⟨none, .str s⟩), (4, ⟨none, .int .i64 (G8 c Kw)⟩), (5, ⟨none, .int .i64 i⟩)], [(0, .own 3 [B4 c'])], 1⟩)
    (fun (i, c', s) => i ≤ Va c ∧ D5 c' ∧ s.length = i ∧ U8 (Va c - i) i c' s = U8 (Va c) 0 (Ak c 10) []) (fun x => Va c - x.1) (0, Ak c 10, []) ?_ ⟨by omega, Be hc, rfl, by rw [Nat.sub_zero]⟩ ?_
  · (refine ⟨?_, ?_, rfl⟩ <;> repeat' (first | exact rfl | exact trivial | refine ⟨?_, ?_⟩ | fail) <;> (conv => whnf))
  rintro ⟨i, c', s⟩ ⟨hi, hc', hs, hI⟩
  (conv => whnf); refine ⟨fun h1 => ?_, fun h1 => ?_⟩
  · have h1 : i < Va c := by
      have : (i : Int) < G8 c Kw := by simpa using h1
      omega
    have hb := Pz c' 2
    have hb2 := hb.2 (by decide)
    obtain ⟨m, hm⟩ : ∃ m, Va c - i = m + 1 := ⟨Va c - i - 1, by omega⟩
    have hm2 : Va c - (i + 1) = m := by omega
    rw [hm, U8] at hI
    skip
    refine ⟨(c', 2), rfl, fun _ => hc', ?_⟩
    obtain ⟨q, hq⟩ : ∃ q, q = (i + (C0 c' 2).toNat) % 26 := ⟨_, rfl⟩
    repeat ((conv => whnf); first | refine ⟨_, w64 (bb), ?_⟩ | refine ⟨bb, ?_⟩)
    refine ⟨(q : Int), by
      show ((i : Int) + C0 c' 2).tmod 26 = _
      rw [hq, show (i : Int) + C0 c' 2 = ((i + (C0 c' 2).toNat : Nat) : Int) by omega]; rfl, ?_⟩
    repeat ((conv => whnf); refine ⟨_, w64 (bb), ?_⟩)
    refine ⟨((97 + q : Nat) : Int), by show Int.ofNat ((97 + q) % 256) = _; rw [Nat.mod_eq_of_lt (by omega)]; rfl, ?_⟩
    skip
    refine ⟨[UInt8.ofNat (97 + q)], by
      have e : (UInt8.ofNat (97 + q)).toNat = 97 + q := by rw [UInt8.toNat_ofNat']; omega
      rw [List.map_cons, List.map_nil, e]; rfl, ?_⟩
    repeat ((conv => whnf); first | refine ⟨_, w64 (bb), ?_⟩ | refine ⟨bb, ?_⟩)
    refine C2 (i + 1, Ak c' 2, s ++ [UInt8.ofNat (97 + q)]) ?_ ⟨h1, Be hc', by simp [hs], by rw [hm2, ← hI, hq]⟩ (by show Va c - (i + 1) < Va c - i; omega)
    (refine ⟨?_, ?_, rfl⟩ <;> repeat' (first | exact rfl | exact trivial | refine ⟨?_, ?_⟩ | fail) <;> (conv => whnf))
  · have h1 : i = Va c := by
      have : ¬ (i : Int) < G8 c Kw := by simpa using h1
      omega
    subst h1
    rw [Nat.sub_self, U8] at hI
    have hX : Qc c = s := by rw [Qc, ← hI]
    have hN : Me c = c' := by rw [Me, ← hI]
    skip
    exact ⟨⟨by rw [hN]; rfl, trivial⟩, eqS hX.symm⟩
theorem Tc : Av Tryz.prog 126 Dx := Dd (Ca _ _) (FOk.cons H0 (FOk.cons Jw FOk.nil)) mixed Tryz.func126 rfl Tryz.call126 (by decide) (by kernel_rfl) A61 (fun h => by cases h) (by intro (y : Cur) _; first | exact ⟨by simp [Dx, con, A9, A8, Ad, AV.free, A2, A3, A1, A6, Au, B4, Ag, Ae], by simp [Dx, con, A9, A8, Ad, AV.free, A2, A3, A1, A6, Au, B4, Ag, Ae]⟩ | (obtain ⟨_, _⟩ := y; exact ⟨by simp [Dx, con, A9, A8, Ad, AV.free, A2, A3, A1, A6, Au, B4, Ag, Ae], by simp [Dx, con, A9, A8, Ad, AV.free, A2, A3, A1, A6, Au, B4, Ag, Ae]⟩) | (obtain ⟨_, _, _⟩ := y; exact ⟨by simp [Dx, con, A9, A8, Ad, AV.free, A2, A3, A1, A6, Au, B4, Ag, Ae], by simp [Dx, con, A9, A8, Ad, AV.free, A2, A3, A1, A6, Au, B4, Ag, Ae]⟩)) (by intro (y : Cur) _; first | (simp [Dx, con, A9, A8, Ad, AV.free, A2, A3, A1, A6, Au, B4, Ag, Ae]; done) | (obtain ⟨_, _⟩ := y; simp [Dx, con, A9, A8, Ad, AV.free, A2, A3, A1, A6, Au, B4, Ag, Ae]; done) | (obtain ⟨_, _, _⟩ := y; simp [Dx, con, A9, A8, Ad, AV.free, A2, A3, A1, A6, Au, B4, Ag, Ae]; done))
end Go.GH


set_option linter.unusedVariables false
set_option linter.unusedSimpArgs false
namespace Go.GH
open Go
def qs : Str := [47, 113]
def Oj (c : Cur) (f : Fs) : Cur × Fs :=
  if C0 (Ak c 10) 6 = 0 then (Ak (Ak c 10) 6, (Nm f (Hi c Ce) 2 [] 0 0).1)
  else if C0 (Ak c 10) 6 = 1 then (Ak (Ak (Ak (Ak c 10) 6) 9) 5, (Nm f (Hi c Ce) 3 qs (C0 (Ak (Ak c 10) 6) 9) (C0 (Ak (Ak (Ak c 10) 6) 9) 5)).1)
  else if C0 (Ak c 10) 6 = 2 then (Ak (Ak (Me (Ak (Ak c 10) 6)) 9) 5, (Zu f (Hi c Ce) (Qc (Ak (Ak c 10) 6)) (C0 (Me (Ak (Ak c 10) 6)) 9) (C0 (Ak (Me (Ak (Ak c 10) 6)) 9) 5)).1)
  else if C0 (Ak c 10) 6 = 3 then (Ak (Ak c 10) 6, (Tw f (Hi c Ce)).1)
  else (Ak (Ak (Me (Ak (Ak c 10) 6)) 9) 5, (Nm f (Hi c Ce) 1 (Qc (Ak (Ak c 10) 6)) (C0 (Me (Ak (Ak c 10) 6)) 9) (C0 (Ak (Me (Ak (Ak c 10) 6)) 9) 5)).1)
def rGo : Nat → Cur → Fs → Cur × Fs
  | 0, c, f => (c, f)
  | n + 1, c, f => rGo n (Oj c f).1 (Oj c f).2
def nds : List Int := [4, 7, 10]
def dts : List Int := [6, 14, 30]
def rC (c : Cur) : Cur := Ak (Ak (Ak c 3) 3) 9
def rN (c : Cur) : Nat := (C0 (Ak (Ak c 3) 3) 9).toNat
def rF (c : Cur) : Fs := Xh (G8 c nds) (G8 (Ak c 3) dts)
def A3j (c : Cur) : Cur × Fs := rGo (rN c) (rC c) (rF c)
def right (c : Cur) : Cur × Fs := if C0 (A3j c).1 12 = 0 then (Me (Ak (A3j c).1 12), (Qb (A3j c).2 (Qc (Ak (A3j c).1 12))).1) else (Ak (A3j c).1 12, (A3j c).2)
theorem B2h {f : Fs} {i : Int} {s : Str} {t g : Int} (h : Wk f) : Wk (Ij f i s t g).1 := by
  unfold Ij
  split
  · have hw := Uk (i := i) (s := s) h
    refine ⟨by simp; exact hw.nn, hw.nd, fun n hn b hb => ?_, fun n hn => ?_, hw.dat⟩
    · rcases Lq hn with rfl | hn
      · simp only [A9j, Hd] at hb
        rw [List.getD_eq_getElem?_getD] at hb
        cases hq : (Bd f i s).1.nodes[i.toNat]? with
        | none => rw [hq] at hb; cases hb
        | some m => rw [hq] at hb; exact hw.inr m (List.mem_of_getElem? hq) b hb
      · exact hw.inr n hn b hb
    · rcases Lq hn with rfl | hn
      · simp only [A9j, Hd]
        rw [List.getD_eq_getElem?_getD]
        cases hq : (Bd f i s).1.nodes[i.toNat]? with
        | none => decide
        | some m => exact hw.bl m (List.mem_of_getElem? hq)
      · exact hw.bl n hn
  · exact h
theorem B1j : ∀ {l : List Str} {f : Fs} {i : Nat}, Wk f → Wk (down f i l).1
  | [], f, i, h => by
    rw [down]
    split
    · exact h
    · exact h
  | s :: r, f, i, h => by
    rw [down]
    split
    · exact h
    split
    · split
      · exact B1j (Rk h)
      · exact h
    · exact B1j h
theorem B0c {f : Fs} {w : Fs × Bool} (h : Wk f) (hw : Wk w.1) : Wk (wr2 f w).1 := by unfold wr2; split <;> assumption
theorem Yf {f : Fs} {p : Str} {k : Int} {s : Str} {t g : Int} (h : Wk f) : Wk (Nm f p k s t g).1 := by
  unfold Nm
  split
  · exact h
  split
  · exact h
  split
  · exact h
  split
  · exact h
  unfold mk2
  split
  · exact h
  unfold mk3
  split
  · exact h
  exact B0c h (B2h (Rk (B1j h)))
theorem C1g {f : Fs} {p : Str} {s : Str} {t g : Int} (h : Wk f) : Wk (Zu f p s t g).1 := by
  unfold Zu
  split
  · exact h
  split
  · exact h
  split
  · exact h
  split
  · exact h
  split
  · exact h
  exact B0c h (B2h h)
theorem B9d {f : Fs} {p : Str} (h : Wk f) : Wk (Tw f p).1 := by
  unfold Tw
  split
  · exact h
  split
  · exact h
  split
  · exact h
  split
  · exact h
  exact Uk (B7e h)
theorem B8l {f : Fs} {s : Str} (h : Wk f) : Wk (Qb f s).1 := by
  unfold Qb
  split
  · exact h
  split
  · exact h
  split
  · unfold hd3
    split
    · exact h
    · exact B0c h (Uk (Rk h))
  · exact B0c h (Uk h)
theorem B2u (n d : Int) : Wk (Xh n d) := by
  unfold Xh
  split
  · rename_i h
    simp [inB] at h
    refine ⟨by simp; omega, by simp; omega, fun x hx b hb => ?_, fun x hx => ?_, fun s hs => ?_⟩
    · rcases List.mem_cons.1 hx with rfl | hx
      · cases hb
      · rw [List.eq_of_mem_replicate hx] at hb; cases hb
    · rcases List.mem_cons.1 hx with rfl | hx
      · decide
      · rw [List.eq_of_mem_replicate hx]; decide
    · rw [List.eq_of_mem_replicate hs]; decide
  · exact ⟨by simp, by simp, fun x hx => (by cases hx), fun x hx => (by cases hx), fun x hx => (by cases hx)⟩
theorem A36 {c : Cur} {f : Fs} (hc : D5 c) (hf : Wk f) : D5 (Oj c f).1 ∧ Wk (Oj c f).2 := by
  unfold Oj
  split
  · exact ⟨Be (Be hc), Yf hf⟩
  split
  · exact ⟨Be (Be (Be (Be hc))), Yf hf⟩
  split
  · exact ⟨Be (Be (Ut (Be (Be hc)))), C1g hf⟩
  split
  · exact ⟨Be (Be hc), B9d hf⟩
  · exact ⟨Be (Be (Ut (Be (Be hc)))), Yf hf⟩
theorem B9h : ∀ {n : Nat} {c : Cur} {f : Fs}, D5 c → Wk f → D5 (rGo n c f).1 ∧ Wk (rGo n c f).2
  | 0, c, f, hc, hf => ⟨hc, hf⟩
  | n + 1, c, f, hc, hf => by
    rw [rGo]
    exact B9h (A36 hc hf).1 (A36 hc hf).2
theorem C1t {c : Cur} (hc : D5 c) : D5 (A3j c).1 ∧ Wk (A3j c).2 := B9h (Be (Be (Be hc))) (B2u _ _)
theorem B2v {c : Cur} (hc : D5 c) : D5 (right c).1 ∧ Wk (right c).2 := by
  have h := C1t hc
  unfold right
  split
  · exact ⟨Ut (Be h.1), B8l h.2⟩
  · exact ⟨Be h.1, h.2⟩
def Kn (x : It) (k : Int) : It := ⟨x.path, k, x.data, x.time⟩
def Ko (x : It) (t : Int) : It := ⟨x.path, x.kind, x.data, t⟩
def tms : List Int := [-1, 100000, 100001]
def Ps (t : Tr) (c : Cur) : Cur × Tr :=
  if C0 c 10 = 0 then (Ak (Nc (Ak c 10)) 5, t ++ [⟨Mf (Ak c 10), C0 (Nc (Ak c 10)) 5, [], 0⟩])
  else if C0 c 10 = 1 then (if 0 < t.length then (Ak (Ak (Ak c 10) t.length) 4, t.set (C0 (Ak c 10) t.length).toNat (Kn (t.getD (C0 (Ak c 10) t.length).toNat It.none) (C0 (Ak (Ak c 10) t.length) 4))) else (Ak c 10, t))
  else if C0 c 10 = 2 then (if 1 < t.length then (Ak c 10, t.set 0 (t.getD 1 It.none)) else (Ak c 10, t))
  else if C0 c 10 = 3 then (if 0 < t.length then (Ak (Ak (Ak c 10) t.length) 3, t.set (C0 (Ak c 10) t.length).toNat (Ko (t.getD (C0 (Ak c 10) t.length).toNat It.none) (G8 (Ak (Ak c 10) t.length) tms))) else (Ak c 10, t))
  else (Ak c 10, t)
def Da (c : Cur) : Cur × Tr := Ps (Gp (right c).2) (right c).1
theorem B0d {t : Tr} {i : Nat} {x : It} (h : smT t) (hx : x.path.length ≤ 4194304 ∧ x.data.length ≤ 4194304) : smT (t.set i x) := ⟨by rw [List.length_set]; exact h.1, fun y hy => by
  rcases Lq hy with rfl | hy
  · exact hx
  · exact h.2 y hy⟩
theorem A3k {t : Tr} {i : Nat} (h : smT t) : (t.getD i It.none).path.length ≤ 4194304 ∧ (t.getD i It.none).data.length ≤ 4194304 := by
  rw [List.getD_eq_getElem?_getD]
  cases hq : t[i]? with
  | none => decide
  | some y => exact h.2 y (List.mem_of_getElem? hq)
theorem B9x {t : Tr} {c : Cur} (hc : D5 c) (h0 : smT t) (hl : t.length ≤ 475254) : D5 (Ps t c).1 ∧ smT (Ps t c).2 ∧ (Ps t c).2.length ≤ 475255 := by
  have hcc : D5 (Ak c 10) := Be hc
  have hp := Zl (Ak c 10)
  unfold Ps
  split
  · refine ⟨Be (Ui hcc), ⟨?_, fun x hx => ?_⟩, ?_⟩
    · rw [List.length_append, List.length_singleton]; omega
    · rcases List.mem_append.1 hx with hx | hx
      · exact h0.2 x hx
      · rw [List.mem_singleton] at hx; subst hx; exact ⟨by show (Mf (Ak c 10)).length ≤ _; omega, Nat.zero_le _⟩
    · rw [List.length_append, List.length_singleton]; omega
  split
  · split
    · exact ⟨Be (Be hcc), B0d h0 (A3k h0), by rw [List.length_set]; omega⟩
    · exact ⟨hcc, h0, Nat.le_succ_of_le hl⟩
  split
  · split
    · exact ⟨hcc, B0d h0 (A3k h0), by rw [List.length_set]; omega⟩
    · exact ⟨hcc, h0, Nat.le_succ_of_le hl⟩
  split
  · split
    · exact ⟨Be (Be hcc), B0d h0 (A3k h0), by rw [List.length_set]; omega⟩
    · exact ⟨hcc, h0, Nat.le_succ_of_le hl⟩
  · exact ⟨hcc, h0, Nat.le_succ_of_le hl⟩
theorem Xm {c : Cur} (hc : D5 c) : D5 (Da c).1 ∧ smT (Da c).2 ∧ (Da c).2.length ≤ 475255 :=
  B9x (B2v hc).1 (Zm _).1 (Zm _).2
end Go.GH


set_option linter.unusedVariables false
set_option linter.unusedSimpArgs false
namespace Go.GH
open Go Go.Proofs
noncomputable def Cp : Bi := A8 true [.mp] Cur (fun c => [.own 3 [B4 c]]) D5 (fun c => .agg (Ap (right c).2)) (fun c => [.own 3 [B4 (right c).1]])
noncomputable def A14 : Env := ⟨A4 Ba, A4 [(41, Dj), (42, C9), (43, Dm), (81, Cb), (122, Vr), (123, Fo), (124, Dw), (125, Ej), (126, Dx), (127, Dy), (128, Dt)], [0, 2, 3, 5, 6, 7, 22, 29, 42, 50, 62, 76, 85]⟩
set_option maxRecDepth 100000 in
set_option maxHeartbeats 4000000 in
theorem A1b : Bb A14 (Ax Tryz.f79) Tryz.f79.results.toList Cp := by
  intro (c : Cur) hc
  have hc : D5 c := hc
  refine ⟨⟨⟨_, _, _, rfl, rfl, by simp⟩, trivial⟩, ?_⟩
  have hp1 := A93 (c := c) (l := nds) (by decide)
  skip
  refine ⟨(c, nds), rfl, fun _ => ⟨hc, (by decide : 0 < nds.length ∧ nds.length ≤ 1000)⟩, ?_⟩
  skip
  refine ⟨(Ak c 3, dts), rfl, fun _ => ⟨Be hc, (by decide : 0 < dts.length ∧ dts.length ≤ 1000)⟩, ?_⟩
  skip
  refine ⟨(G8 c nds, G8 (Ak c 3) dts), rfl, fun _ => trivial, ?_⟩
  skip
  refine ⟨(Ak (Ak c 3) 3, 9), rfl, fun _ => Be (Be hc), ?_⟩
  have hb9 := Pz (Ak (Ak c 3) 3) 9
  have hrn : C0 (Ak (Ak c 3) 3) 9 = ((rN c : Nat) : Int) := by unfold rN; omega
  have hrl : rN c ≤ 8 := by have := hb9.2 (by omega); omega
  skip
  refine B0 (fun ((i, c', f) : Nat × Cur × Fs) => ⟨[(0, ⟨none, .bx 0 0⟩), (2, ⟨none, .bx 1 0⟩), (3, ⟨none, .bx 2 0⟩), (5, ⟨none, .int .i64 (rN c)⟩), (6, ⟨none, .int .i64 i⟩)], [(0, .own 3 [B4 c']), (1, .own 2 [[.own 5 [], .own 1 []]]), (2, .own 2 [Ap f])], 3⟩)
    (fun (i, c', f) => i ≤ rN c ∧ D5 c' ∧ Wk f ∧ rGo (rN c - i) c' f = A3j c) (fun x => rN c - x.1) (0, rC c, rF c) ?_ ⟨Nat.zero_le _, Be (Be (Be hc)), B2u _ _, rfl⟩ ?_
  · (refine ⟨?_, ?_, rfl⟩ <;> repeat' (first | exact rfl | exact trivial | refine ⟨?_, ?_⟩ | fail) <;> (conv => whnf))
    all_goals exact hrn
  rintro ⟨i, c', f⟩ ⟨hi, hc', hf, hI⟩
  have hf' := hf
  (conv => whnf); refine ⟨fun h1 => ?_, fun h1 => ?_⟩
  · have h1 : i < rN c := by have h1 : decide ((i : Int) < (rN c : Nat)) = true := h1
                             simp at h1; omega
    obtain ⟨m, hm⟩ : ∃ m, rN c - i = m + 1 := ⟨rN c - i - 1, by omega⟩
    have hm2 : rN c - (i + 1) = m := by omega
    rw [hm, rGo] at hI
    have hso := A36 hc' hf
    have hpp := V7 (c := c') (l := Ce) (k := 20) (by decide) (by decide)
    skip
    refine ⟨(), rfl, fun _ => trivial, ?_⟩
    skip
    refine ⟨(c', Ce), rfl, fun _ => ⟨hc', (by decide : 0 < Ce.length ∧ Ce.length ≤ 1000)⟩, ?_⟩
    skip
    refine ⟨(Ak c' 10, 6), rfl, fun _ => Be hc', ?_⟩
    have hk6 : D5 (Ak (Ak c' 10) 6) := Be (Be hc')
    skip
    (conv => whnf); refine ⟨fun k0 => ?_, fun k0 => ?_⟩
    · skip
      have k0 : C0 (Ak c' 10) 6 = 0 := by
        have k0 : (C0 (Ak c' 10) 6 == 0) = true := k0
        simpa using k0
      have hst : Oj c' f = (Ak (Ak c' 10) 6, (Nm f (Hi c' Ce) 2 [] 0 0).1) := by rw [Oj, if_pos k0]
      skip
      refine ⟨(f, Hi c' Ce, 2, [], 0, 0), by (repeat' (first | refine Bu ?_ ?_ | refine Bz ?_ | refine Bq ?_ | refine Bx ?_ | exact rfl)) <;> simp [rdI, rdO, rdE, rdB, rdN, rdS, rdD, rdW, tkM], fun _ => ⟨hf.sm, by show (Hi c' Ce).length ≤ _; omega, by show 0 ≤ 1048576; omega⟩, ?_⟩
      rw [hst] at hI hso
      repeat ((conv => whnf); refine ⟨_, w64 (bb), ?_⟩)
      refine C2 (i + 1, _, _) ?_ ⟨h1, hso.1, hso.2, by rw [hm2]; exact hI⟩ (by show rN c - (i + 1) < rN c - i; omega)
      (refine ⟨?_, ?_, rfl⟩ <;> repeat' (first | exact rfl | exact trivial | refine ⟨?_, ?_⟩ | fail) <;> (conv => whnf))
    have k0 : ¬ C0 (Ak c' 10) 6 = 0 := by
      have k0 : (C0 (Ak c' 10) 6 == 0) = false := k0
      simpa using k0
    skip
    (conv => whnf); refine ⟨fun k1 => ?_, fun k1 => ?_⟩
    · skip
      have k1 : C0 (Ak c' 10) 6 = 1 := by
        have k1 : (C0 (Ak c' 10) 6 == 1) = true := k1
        simpa using k1
      have hst : Oj c' f = (Ak (Ak (Ak (Ak c' 10) 6) 9) 5, (Nm f (Hi c' Ce) 3 qs (C0 (Ak (Ak c' 10) 6) 9) (C0 (Ak (Ak (Ak c' 10) 6) 9) 5)).1) := by rw [Oj, if_neg k0, if_pos k1]
      skip
      refine ⟨(Ak (Ak c' 10) 6, 9), rfl, fun _ => hk6, ?_⟩
      skip
      refine ⟨(Ak (Ak (Ak c' 10) 6) 9, 5), rfl, fun _ => Be hk6, ?_⟩
      skip
      refine ⟨(f, Hi c' Ce, 3, qs, C0 (Ak (Ak c' 10) 6) 9, C0 (Ak (Ak (Ak c' 10) 6) 9) 5), by (repeat' (first | refine Bu ?_ ?_ | refine Bz ?_ | refine Bq ?_ | refine Bx ?_ | exact rfl)) <;> simp [rdI, rdO, rdE, rdB, rdN, rdS, rdD, rdW, tkM], fun _ => ⟨hf.sm, by show (Hi c' Ce).length ≤ _; omega, by show qs.length ≤ 1048576; decide⟩, ?_⟩
      rw [hst] at hI hso
      repeat ((conv => whnf); first | refine ⟨(by kernel_rfl : Bw _ _ = true), ?_⟩ | refine ⟨_, w64 (bb), ?_⟩)
      refine C2 (i + 1, _, _) ?_ ⟨h1, hso.1, hso.2, by rw [hm2]; exact hI⟩ (by show rN c - (i + 1) < rN c - i; omega)
      (refine ⟨?_, ?_, rfl⟩ <;> repeat' (first | exact rfl | exact trivial | refine ⟨?_, ?_⟩ | fail) <;> (conv => whnf))
    have k1 : ¬ C0 (Ak c' 10) 6 = 1 := by
      have k1 : (C0 (Ak c' 10) 6 == 1) = false := k1
      simpa using k1
    skip
    (conv => whnf); refine ⟨fun k2 => ?_, fun k2 => ?_⟩
    · skip
      have k2 : C0 (Ak c' 10) 6 = 2 := by
        have k2 : (C0 (Ak c' 10) 6 == 2) = true := k2
        simpa using k2
      have hst : Oj c' f = (Ak (Ak (Me (Ak (Ak c' 10) 6)) 9) 5, (Zu f (Hi c' Ce) (Qc (Ak (Ak c' 10) 6)) (C0 (Me (Ak (Ak c' 10) 6)) 9) (C0 (Ak (Me (Ak (Ak c' 10) 6)) 9) 5)).1) := by rw [Oj, if_neg k0, if_neg k1, if_pos k2]
      skip
      refine ⟨Ak (Ak c' 10) 6, rfl, fun _ => hk6, ?_⟩
      have hkt := Ut hk6
      have htl := Xo (Ak (Ak c' 10) 6)
      skip
      refine ⟨(Me (Ak (Ak c' 10) 6), 9), rfl, fun _ => hkt, ?_⟩
      skip
      refine ⟨(Ak (Me (Ak (Ak c' 10) 6)) 9, 5), rfl, fun _ => Be hkt, ?_⟩
      skip
      refine ⟨(f, Hi c' Ce, Qc (Ak (Ak c' 10) 6), C0 (Me (Ak (Ak c' 10) 6)) 9, C0 (Ak (Me (Ak (Ak c' 10) 6)) 9) 5), by (repeat' (first | refine Bu ?_ ?_ | refine Bz ?_ | refine Bq ?_ | refine Bx ?_ | exact rfl)) <;> simp [rdI, rdO, rdE, rdB, rdN, rdS, rdD, rdW, tkM], fun _ => ⟨hf.sm, by show (Hi c' Ce).length ≤ _; omega, by show (Qc (Ak (Ak c' 10) 6)).length ≤ _; omega⟩, ?_⟩
      rw [hst] at hI hso
      repeat ((conv => whnf); first | refine ⟨(by kernel_rfl : Bw _ _ = true), ?_⟩ | refine ⟨_, w64 (bb), ?_⟩)
      refine C2 (i + 1, _, _) ?_ ⟨h1, hso.1, hso.2, by rw [hm2]; exact hI⟩ (by show rN c - (i + 1) < rN c - i; omega)
      (refine ⟨?_, ?_, rfl⟩ <;> repeat' (first | exact rfl | exact trivial | refine ⟨?_, ?_⟩ | fail) <;> (conv => whnf))
    have k2 : ¬ C0 (Ak c' 10) 6 = 2 := by
      have k2 : (C0 (Ak c' 10) 6 == 2) = false := k2
      simpa using k2
    skip
    (conv => whnf); refine ⟨fun k3 => ?_, fun k3 => ?_⟩
    · skip
      have k3 : C0 (Ak c' 10) 6 = 3 := by
        have k3 : (C0 (Ak c' 10) 6 == 3) = true := k3
        simpa using k3
      have hst : Oj c' f = (Ak (Ak c' 10) 6, (Tw f (Hi c' Ce)).1) := by rw [Oj, if_neg k0, if_neg k1, if_neg k2, if_pos k3]
      skip
      refine ⟨(f, Hi c' Ce), by (repeat' (first | refine Bu ?_ ?_ | refine Bz ?_ | refine Bq ?_ | refine Bx ?_ | exact rfl)) <;> simp [rdI, rdO, rdE, rdB, rdN, rdS, rdD, rdW, tkM], fun _ => ⟨hf.sm, by show (Hi c' Ce).length ≤ _; omega⟩, ?_⟩
      rw [hst] at hI hso
      repeat ((conv => whnf); refine ⟨_, w64 (bb), ?_⟩)
      refine C2 (i + 1, _, _) ?_ ⟨h1, hso.1, hso.2, by rw [hm2]; exact hI⟩ (by show rN c - (i + 1) < rN c - i; omega)
      (refine ⟨?_, ?_, rfl⟩ <;> repeat' (first | exact rfl | exact trivial | refine ⟨?_, ?_⟩ | fail) <;> (conv => whnf))
    have k3 : ¬ C0 (Ak c' 10) 6 = 3 := by
      have k3 : (C0 (Ak c' 10) 6 == 3) = false := k3
      simpa using k3
    have hst : Oj c' f = (Ak (Ak (Me (Ak (Ak c' 10) 6)) 9) 5, (Nm f (Hi c' Ce) 1 (Qc (Ak (Ak c' 10) 6)) (C0 (Me (Ak (Ak c' 10) 6)) 9) (C0 (Ak (Me (Ak (Ak c' 10) 6)) 9) 5)).1) := by rw [Oj, if_neg k0, if_neg k1, if_neg k2, if_neg k3]
    skip
    refine ⟨Ak (Ak c' 10) 6, rfl, fun _ => hk6, ?_⟩
    have hkt := Ut hk6
    have htl := Xo (Ak (Ak c' 10) 6)
    skip
    refine ⟨(Me (Ak (Ak c' 10) 6), 9), rfl, fun _ => hkt, ?_⟩
    skip
    refine ⟨(Ak (Me (Ak (Ak c' 10) 6)) 9, 5), rfl, fun _ => Be hkt, ?_⟩
    skip
    refine ⟨(f, Hi c' Ce, 1, Qc (Ak (Ak c' 10) 6), C0 (Me (Ak (Ak c' 10) 6)) 9, C0 (Ak (Me (Ak (Ak c' 10) 6)) 9) 5), by (repeat' (first | refine Bu ?_ ?_ | refine Bz ?_ | refine Bq ?_ | refine Bx ?_ | exact rfl)) <;> simp [rdI, rdO, rdE, rdB, rdN, rdS, rdD, rdW, tkM], fun _ => ⟨hf.sm, by show (Hi c' Ce).length ≤ _; omega, by show (Qc (Ak (Ak c' 10) 6)).length ≤ _; omega⟩, ?_⟩
    rw [hst] at hI hso
    repeat ((conv => whnf); first | refine ⟨(by kernel_rfl : Bw _ _ = true), ?_⟩ | refine ⟨_, w64 (bb), ?_⟩)
    refine C2 (i + 1, _, _) ?_ ⟨h1, hso.1, hso.2, by rw [hm2]; exact hI⟩ (by show rN c - (i + 1) < rN c - i; omega)
    (refine ⟨?_, ?_, rfl⟩ <;> repeat' (first | exact rfl | exact trivial | refine ⟨?_, ?_⟩ | fail) <;> (conv => whnf))
  have h1 : i = rN c := by have h1 : decide ((i : Int) < (rN c : Nat)) = false := h1
                           simp at h1; omega
  subst h1
  rw [Nat.sub_self, rGo] at hI
  have hc0 : (A3j c).1 = c' := by rw [← hI]
  have hf0 : (A3j c).2 = f := by rw [← hI]
  have hrt : right c = if C0 c' 12 = 0 then (Me (Ak c' 12), (Qb f (Qc (Ak c' 12))).1) else (Ak c' 12, f) := by rw [right, hc0, hf0]
  skip
  refine ⟨(c', 12), rfl, fun _ => hc', ?_⟩
  have hk12 : D5 (Ak c' 12) := Be hc'
  have htl := Xo (Ak c' 12)
  skip
  (conv => whnf); refine ⟨fun k0 => ?_, fun k0 => ?_⟩
  · skip
    have k0 : C0 c' 12 = 0 := by
      have k0 : (C0 c' 12 == 0) = true := k0
      simpa using k0
    rw [if_pos k0] at hrt
    skip
    refine ⟨Ak c' 12, rfl, fun _ => hk12, ?_⟩
    skip
    refine ⟨(f, Qc (Ak c' 12)), by (repeat' (first | refine Bu ?_ ?_ | refine Bz ?_ | refine Bq ?_ | refine Bx ?_ | exact rfl)) <;> simp [rdI, rdO, rdE, rdB, rdN, rdS, rdD, rdW, tkM], fun _ => ⟨hf'.sm, by show (Qc (Ak c' 12)).length ≤ _; omega⟩, ?_⟩
    repeat ((conv => whnf); refine ⟨(by kernel_rfl : Bw _ _ = true), ?_⟩)
    have e1 : (right c).1 = Me (Ak c' 12) := by rw [hrt]
    have e2 : (right c).2 = (Qb f (Qc (Ak c' 12))).1 := by rw [hrt]
    rw [show Cp.res c = .agg (Ap (Qb f (Qc (Ak c' 12))).1) by show AV.agg (Ap (right c).2) = _; rw [e2]]
    exact ⟨⟨by rw [e1]; rfl, trivial⟩, rfl, rfl, trivial⟩
  have k0 : ¬ C0 c' 12 = 0 := by
    have k0 : (C0 c' 12 == 0) = false := k0
    simpa using k0
  rw [if_neg k0] at hrt
  skip
  have e1 : (right c).1 = Ak c' 12 := by rw [hrt]
  have e2 : (right c).2 = f := by rw [hrt]
  rw [show Cp.res c = .agg (Ap f) by show AV.agg (Ap (right c).2) = _; rw [e2]]
  exact ⟨⟨by rw [e1]; rfl, trivial⟩, rfl, rfl, trivial⟩
theorem Zp : Av Tryz.prog 79 Cp := Dd (Ca _ _) (FOk.cons Og (FOk.cons H0 (FOk.cons On (FOk.cons Jw (FOk.cons A3g (FOk.cons Sb (FOk.cons A4s (FOk.cons A7o (FOk.cons Tc (FOk.cons A4b (FOk.cons A33 FOk.nil))))))))))) mixed Tryz.func79 rfl Tryz.call79 (by decide) (by kernel_rfl) A1b (fun h => by cases h) (by intro (y : Cur) _; first | exact ⟨by simp [Cp, con, A9, A8, Ad, AV.free, A2, A3, A1, A6, Ae, Ag, B4, Ai, At, Ap, Az, B1], by simp [Cp, con, A9, A8, Ad, AV.free, A2, A3, A1, A6, Ae, Ag, B4, Ai, At, Ap, Az, B1]⟩ | (obtain ⟨_, _⟩ := y; exact ⟨by simp [Cp, con, A9, A8, Ad, AV.free, A2, A3, A1, A6, Ae, Ag, B4, Ai, At, Ap, Az, B1], by simp [Cp, con, A9, A8, Ad, AV.free, A2, A3, A1, A6, Ae, Ag, B4, Ai, At, Ap, Az, B1]⟩) | (obtain ⟨_, _, _⟩ := y; exact ⟨by simp [Cp, con, A9, A8, Ad, AV.free, A2, A3, A1, A6, Ae, Ag, B4, Ai, At, Ap, Az, B1], by simp [Cp, con, A9, A8, Ad, AV.free, A2, A3, A1, A6, Ae, Ag, B4, Ai, At, Ap, Az, B1]⟩)) (by intro (y : Cur) _; first | (simp [Cp, con, A9, A8, Ad, AV.free, A2, A3, A1, A6, Ae, Ag, B4, Ai, At, Ap, Az, B1]; done) | (obtain ⟨_, _⟩ := y; simp [Cp, con, A9, A8, Ad, AV.free, A2, A3, A1, A6, Ae, Ag, B4, Ai, At, Ap, Az, B1]; done) | (obtain ⟨_, _, _⟩ := y; simp [Cp, con, A9, A8, Ad, AV.free, A2, A3, A1, A6, Ae, Ag, B4, Ai, At, Ap, Az, B1]; done))
noncomputable def Bn : Bi := A8 true [.mp] Cur (fun c => [.own 3 [B4 c]]) D5 (fun c => .agg [.own 4 ((Da c).2.map Ac)]) (fun c => [.own 3 [B4 (Da c).1]])
noncomputable def A3p : Env := ⟨A4 Ba, A4 [(42, C9), (78, Ga), (79, Cp), (80, Dv), (81, Cb)], [0, 2, 3, 4, 12, 13, 25, 28, 38, 41, 49, 52]⟩
set_option maxRecDepth 100000 in
set_option maxHeartbeats 4000000 in
theorem A2e : Bb A3p (Ax Tryz.f40) Tryz.f40.results.toList Bn := by
  intro (c : Cur) hc
  have hc : D5 c := hc
  refine ⟨⟨⟨_, _, _, rfl, rfl, by simp⟩, trivial⟩, ?_⟩
  have hr := B2v hc
  have ht := Zm (right c).2
  have fin : ∀ {r : Cur × Tr}, Da c = r → Bn.res c = .agg [.own 4 (r.2.map Ac)] ∧ Bn.out c = [.own 3 [B4 r.1]] := fun h => by rw [← h]; exact ⟨rfl, rfl⟩
  have hdt : Da c = Ps (Gp (right c).2) (right c).1 := rfl
  skip
  refine ⟨c, rfl, fun _ => hc, ?_⟩
  skip
  refine ⟨(right c).2, by (repeat' (first | refine Bu ?_ ?_ | refine Bz ?_ | refine Bq ?_ | refine Bx ?_ | exact rfl)) <;> simp [rdI, rdO, rdE, rdB, rdN, rdS, rdD, rdW, tkM], fun _ => hr.2.sm, ?_⟩
  have hl0 := ht.2
  have hsm := ht.1
  generalize hT : Gp (right c).2 = t at ht hdt hsm
  have htl := ht.2
  have hcc := hr.1
  generalize hC : (right c).1 = c' at hcc hdt
  skip
  refine ⟨(c', 10), by rw [← hC]; rfl, fun _ => hcc, ?_⟩
  have hk : D5 (Ak c' 10) := Be hcc
  skip
  (conv => whnf); refine ⟨fun k0 => ?_, fun k0 => ?_⟩
  · skip
    have k0 : C0 c' 10 = 0 := by
      have k0 : (C0 c' 10 == 0) = true := k0
      simpa using k0
    have hu : Da c = (Ak (Nc (Ak c' 10)) 5, t ++ [⟨Mf (Ak c' 10), C0 (Nc (Ak c' 10)) 5, [], 0⟩]) := by rw [hdt, Ps, if_pos k0]
    skip
    refine ⟨Ak c' 10, rfl, fun _ => hk, ?_⟩
    skip
    refine ⟨(Nc (Ak c' 10), 5), rfl, fun _ => Ui hk, ?_⟩
    repeat ((conv => whnf); first | refine ⟨(by kernel_rfl : Bw _ _ = true), ?_⟩ | refine ⟨bb, ?_⟩ | refine ⟨Vl (by rfl), ?_⟩)
    rw [show Bn.res c = .agg [.own 4 ((Da c).2.map Ac)] from rfl, hu]
    refine ⟨⟨by show some _ = some (AV.own 3 [B4 (Da c).1]); rw [hu] <;> rfl, trivial⟩, ⟨rfl, ?_⟩, trivial⟩
    rw [hT]
    simp [Ac, Kn, Ko, List.take_of_length_le, List.map_set] <;> rfl
  have k0 : ¬ C0 c' 10 = 0 := by
    have k0 : (C0 c' 10 == 0) = false := k0
    simpa using k0
  skip
  (conv => whnf); refine ⟨fun k1 => ?_, fun k1 => ?_⟩
  · skip
    have k1 : C0 c' 10 = 1 := by
      have k1 : (C0 c' 10 == 1) = true := k1
      simpa using k1
    skip
    (conv => whnf); refine ⟨fun k9 => ?_, fun k9 => ?_⟩
    · have k9 : 0 < t.length := by rw [← hT]; simpa using k9
      have hb := Pz (Ak c' 10) t.length
      have hb2 := hb.2 (by omega)
      obtain ⟨y, hy⟩ := B8 (l := t) (i := (C0 (Ak c' 10) t.length).toNat) (by omega)
      have hy2 : t.getD (C0 (Ak c' 10) t.length).toNat It.none = y := by rw [List.getD_eq_getElem?_getD, hy]; rfl
      have hu : Da c = (Ak (Ak (Ak c' 10) t.length) 4, t.set (C0 (Ak c' 10) t.length).toNat (Kn y (C0 (Ak (Ak c' 10) t.length) 4))) := by rw [hdt, Ps, if_neg k0, if_pos k1, if_pos k9, hy2]
      skip
      refine ⟨(Ak c' 10, (t.length : Int)), by refine Bu rfl (Bu ?_ rfl); show AV.int .i64 _ = .int .i64 (t.length : Int); rw [← hT]; simp, fun _ => hk, ?_⟩
      skip
      refine ⟨(Ak (Ak c' 10) t.length, 4), rfl, fun _ => Be hk, ?_⟩
      have hrow : ((((Gp (right c).2).map Ac).drop 0).take ((Gp (right c).2).map Ac).length)[0 + (C0 (Ak c' 10) t.length).toNat]? = some (Ac y) := by rw [hT, Nat.zero_add, List.drop_zero, List.take_length]; exact Am hy
      have hhi : C0 (Ak c' 10) t.length < (((((Gp (right c).2).map Ac).drop 0).take ((Gp (right c).2).map Ac).length).length : Nat) := by rw [hT]; simp; omega
      repeat ((conv => whnf); first | refine ⟨(by kernel_rfl : Bw _ _ = true), ?_⟩ | refine ⟨bb, ?_⟩ | refine ⟨Ac y, hrow, ?_⟩)
      rw [show Bn.res c = .agg [.own 4 ((Da c).2.map Ac)] from rfl, hu]
      refine ⟨⟨by show some _ = some (AV.own 3 [B4 (Da c).1]); rw [hu] <;> rfl, trivial⟩, ⟨rfl, ?_⟩, trivial⟩
      rw [hT]
      simp [Ac, Kn, Ko, List.take_of_length_le, List.map_set] <;> rfl
    have k9 : ¬ 0 < t.length := by rw [← hT]; simpa using k9
    have hu : Da c = (Ak c' 10, t) := by rw [hdt, Ps, if_neg k0, if_pos k1, if_neg k9]
    skip
    rw [show Bn.res c = .agg [.own 4 ((Da c).2.map Ac)] from rfl, hu]
    refine ⟨⟨by show some _ = some (AV.own 3 [B4 (Da c).1]); rw [hu] <;> rfl, trivial⟩, ⟨rfl, ?_⟩, trivial⟩
    rw [hT]
    simp [Ac, Kn, Ko, List.take_of_length_le, List.map_set] <;> rfl
  have k1 : ¬ C0 c' 10 = 1 := by
    have k1 : (C0 c' 10 == 1) = false := k1
    simpa using k1
  skip
  (conv => whnf); refine ⟨fun k2 => ?_, fun k2 => ?_⟩
  · skip
    have k2 : C0 c' 10 = 2 := by
      have k2 : (C0 c' 10 == 2) = true := k2
      simpa using k2
    skip
    (conv => whnf); refine ⟨fun k9 => ?_, fun k9 => ?_⟩
    · have k9 : 1 < t.length := by rw [← hT]; simp at k9; omega
      obtain ⟨y, hy⟩ := B8 (l := t) (i := 1) (by omega)
      obtain ⟨y0, hy0⟩ := B8 (l := t) (i := 0) (by omega)
      have hy2 : t.getD 1 It.none = y := by rw [List.getD_eq_getElem?_getD, hy]; rfl
      have hu : Da c = (Ak c' 10, t.set 0 y) := by rw [hdt, Ps, if_neg k0, if_neg k1, if_pos k2, if_pos k9, hy2]
      have hrow1 : ((((Gp (right c).2).map Ac).drop 0).take ((Gp (right c).2).map Ac).length)[0 + (1 : Int).toNat]? = some (Ac y) := by rw [hT, Nat.zero_add, List.drop_zero, List.take_length]; exact Am hy
      have hhi1 : (1 : Int) < (((((Gp (right c).2).map Ac).drop 0).take ((Gp (right c).2).map Ac).length).length : Nat) := by rw [hT]; simp; omega
      have hhi0 : (0 : Int) < (((((Gp (right c).2).map Ac).drop 0).take ((Gp (right c).2).map Ac).length).length : Nat) := by rw [hT]; simp; omega
      have hrow0 : ((((Gp (right c).2).map Ac).drop 0).take ((Gp (right c).2).map Ac).length)[0 + (0 : Int).toNat]? = some (Ac y0) := by rw [hT, Nat.zero_add, List.drop_zero, List.take_length]; exact Am hy0
      repeat ((conv => whnf); first | refine ⟨(by kernel_rfl : Bw _ _ = true), ?_⟩ | refine ⟨bb, ?_⟩ | refine ⟨Ac y, fun _ => hrow1, ?_⟩ | refine ⟨Ac y0, hrow0, ?_⟩)
      rw [show Bn.res c = .agg [.own 4 ((Da c).2.map Ac)] from rfl, hu]
      refine ⟨⟨by show some _ = some (AV.own 3 [B4 (Da c).1]); rw [hu] <;> rfl, trivial⟩, ⟨rfl, ?_⟩, trivial⟩
      rw [hT]
      simp [Ac, Kn, Ko, List.take_of_length_le, List.map_set] <;> rfl
    have k9 : ¬ 1 < t.length := by rw [← hT]; simp at k9; omega
    have hu : Da c = (Ak c' 10, t) := by rw [hdt, Ps, if_neg k0, if_neg k1, if_pos k2, if_neg k9]
    skip
    rw [show Bn.res c = .agg [.own 4 ((Da c).2.map Ac)] from rfl, hu]
    refine ⟨⟨by show some _ = some (AV.own 3 [B4 (Da c).1]); rw [hu] <;> rfl, trivial⟩, ⟨rfl, ?_⟩, trivial⟩
    rw [hT]
    simp [Ac, Kn, Ko, List.take_of_length_le, List.map_set] <;> rfl
  have k2 : ¬ C0 c' 10 = 2 := by
    have k2 : (C0 c' 10 == 2) = false := k2
    simpa using k2
  skip
  (conv => whnf); refine ⟨fun k3 => ?_, fun k3 => ?_⟩
  · skip
    have k3 : C0 c' 10 = 3 := by
      have k3 : (C0 c' 10 == 3) = true := k3
      simpa using k3
    skip
    (conv => whnf); refine ⟨fun k9 => ?_, fun k9 => ?_⟩
    · have k9 : 0 < t.length := by rw [← hT]; simpa using k9
      have hb := Pz (Ak c' 10) t.length
      have hb2 := hb.2 (by omega)
      obtain ⟨y, hy⟩ := B8 (l := t) (i := (C0 (Ak c' 10) t.length).toNat) (by omega)
      have hy2 : t.getD (C0 (Ak c' 10) t.length).toNat It.none = y := by rw [List.getD_eq_getElem?_getD, hy]; rfl
      have hu : Da c = (Ak (Ak (Ak c' 10) t.length) 3, t.set (C0 (Ak c' 10) t.length).toNat (Ko y (G8 (Ak (Ak c' 10) t.length) tms))) := by rw [hdt, Ps, if_neg k0, if_neg k1, if_neg k2, if_pos k3, if_pos k9, hy2]
      skip
      refine ⟨(Ak c' 10, (t.length : Int)), by refine Bu rfl (Bu ?_ rfl); show AV.int .i64 _ = .int .i64 (t.length : Int); rw [← hT]; simp, fun _ => hk, ?_⟩
      skip
      refine ⟨(Ak (Ak c' 10) t.length, tms), rfl, fun _ => ⟨Be hk, (by decide : 0 < tms.length ∧ tms.length ≤ 1000)⟩, ?_⟩
      have hrow : ((((Gp (right c).2).map Ac).drop 0).take ((Gp (right c).2).map Ac).length)[0 + (C0 (Ak c' 10) t.length).toNat]? = some (Ac y) := by rw [hT, Nat.zero_add, List.drop_zero, List.take_length]; exact Am hy
      have hhi : C0 (Ak c' 10) t.length < (((((Gp (right c).2).map Ac).drop 0).take ((Gp (right c).2).map Ac).length).length : Nat) := by rw [hT]; simp; omega
      repeat ((conv => whnf); first | refine ⟨(by kernel_rfl : Bw _ _ = true), ?_⟩ | refine ⟨bb, ?_⟩ | refine ⟨Ac y, hrow, ?_⟩)
      rw [show Bn.res c = .agg [.own 4 ((Da c).2.map Ac)] from rfl, hu]
      refine ⟨⟨by show some _ = some (AV.own 3 [B4 (Da c).1]); rw [hu] <;> rfl, trivial⟩, ⟨rfl, ?_⟩, trivial⟩
      rw [hT]
      simp [Ac, Kn, Ko, List.take_of_length_le, List.map_set] <;> rfl
    have k9 : ¬ 0 < t.length := by rw [← hT]; simpa using k9
    have hu : Da c = (Ak c' 10, t) := by rw [hdt, Ps, if_neg k0, if_neg k1, if_neg k2, if_pos k3, if_neg k9]
    skip
    rw [show Bn.res c = .agg [.own 4 ((Da c).2.map Ac)] from rfl, hu]
    refine ⟨⟨by show some _ = some (AV.own 3 [B4 (Da c).1]); rw [hu] <;> rfl, trivial⟩, ⟨rfl, ?_⟩, trivial⟩
    rw [hT]
    simp [Ac, Kn, Ko, List.take_of_length_le, List.map_set] <;> rfl
  have k3 : ¬ C0 c' 10 = 3 := by
    have k3 : (C0 c' 10 == 3) = false := k3
    simpa using k3
  have hu : Da c = (Ak c' 10, t) := by rw [hdt, Ps, if_neg k0, if_neg k1, if_neg k2, if_neg k3]
  skip
  rw [show Bn.res c = .agg [.own 4 ((Da c).2.map Ac)] from rfl, hu]
  refine ⟨⟨by show some _ = some (AV.own 3 [B4 (Da c).1]); rw [hu] <;> rfl, trivial⟩, ⟨rfl, ?_⟩, trivial⟩
  rw [hT]
  simp [Ac, Kn, Ko, List.take_of_length_le, List.map_set] <;> rfl
theorem A0i : Av Tryz.prog 40 Bn := Dd (Ca _ _) (FOk.cons H0 (FOk.cons A2r (FOk.cons Zp (FOk.cons Td (FOk.cons Jw FOk.nil))))) mixed Tryz.func40 rfl Tryz.call40 (by decide) (by kernel_rfl) A2e (fun h => by cases h) (by intro (y : Cur) _; first | exact ⟨by simp [Bn, con, A9, A8, Ad, AV.free, A2, A3, A1, A6, Ac, Ae, Ag, B4, Ai, At, Ap, Az, B1], by simp [Bn, con, A9, A8, Ad, AV.free, A2, A3, A1, A6, Ac, Ae, Ag, B4, Ai, At, Ap, Az, B1]⟩ | (obtain ⟨_, _⟩ := y; exact ⟨by simp [Bn, con, A9, A8, Ad, AV.free, A2, A3, A1, A6, Ac, Ae, Ag, B4, Ai, At, Ap, Az, B1], by simp [Bn, con, A9, A8, Ad, AV.free, A2, A3, A1, A6, Ac, Ae, Ag, B4, Ai, At, Ap, Az, B1]⟩) | (obtain ⟨_, _, _⟩ := y; exact ⟨by simp [Bn, con, A9, A8, Ad, AV.free, A2, A3, A1, A6, Ac, Ae, Ag, B4, Ai, At, Ap, Az, B1], by simp [Bn, con, A9, A8, Ad, AV.free, A2, A3, A1, A6, Ac, Ae, Ag, B4, Ai, At, Ap, Az, B1]⟩)) (by intro (y : Cur) _; first | (simp [Bn, con, A9, A8, Ad, AV.free, A2, A3, A1, A6, Ac, Ae, Ag, B4, Ai, At, Ap, Az, B1]; done) | (obtain ⟨_, _⟩ := y; simp [Bn, con, A9, A8, Ad, AV.free, A2, A3, A1, A6, Ac, Ae, Ag, B4, Ai, At, Ap, Az, B1]; done) | (obtain ⟨_, _, _⟩ := y; simp [Bn, con, A9, A8, Ad, AV.free, A2, A3, A1, A6, Ac, Ae, Ag, B4, Ai, At, Ap, Az, B1]; done))
end Go.GH


set_option linter.unusedVariables false
set_option linter.unusedSimpArgs false
namespace Go.GH
open Go Go.Proofs
noncomputable def Gn : Bi := con [mS 1, mS 1] true (List Str × List Str) (fun x => [.rd 1 (x.1.map A6), .rd 1 (x.2.map A6)]) (fun x => smL x.1 ∧ smL x.2) (fun x => .bool (x.1 == x.2))
noncomputable def A2u : Env := ⟨A4 Ba, A4 [], [0, 1, 4, 5, 10, 14, 25]⟩
set_option maxRecDepth 100000 in
set_option maxHeartbeats 4000000 in
theorem A4f : Bb A2u (Ax Tryz.f86) Tryz.f86.results.toList Gn := by
  rintro ⟨l, m⟩ hs
  obtain ⟨⟨hl1, hl2⟩, ⟨hm1, hm2⟩⟩ : smL l ∧ smL m := hs
  refine ⟨trivial, ?_⟩
  (conv => whnf); refine ⟨fun h1 => ?_, fun h1 => ?_⟩
  · have h1 : l.length ≠ m.length := by simp at h1; omega
    conv => whnf
    exact ⟨trivial, eqB (Eq.symm (beq_eq_false_iff_ne.2 fun e => h1 (congrArg List.length e)))⟩
  have h1 : l.length = m.length := by simp at h1; omega
  skip
  refine B0 (fun i : Nat => ⟨[(0, ⟨none, .rd 1 (l.map A6)⟩), (1, ⟨none, .rd 1 (m.map A6)⟩), (5, ⟨none, .int .i64 i⟩)], [], 0⟩)
    (fun i => i ≤ l.length ∧ l.take i = m.take i) (fun i => l.length - i) 0 ?_ ⟨by omega, rfl⟩ ?_
  · (refine ⟨?_, ?_, rfl⟩ <;> repeat' (first | exact rfl | exact trivial | refine ⟨?_, ?_⟩ | fail) <;> (conv => whnf))
  rintro i ⟨hi, hI⟩
  (conv => whnf); refine ⟨fun h2 => ?_, fun h2 => ?_⟩
  · have h2 : i < l.length := by simpa using h2
    obtain ⟨b, hb⟩ := B8 h2
    obtain ⟨c, hc⟩ := B8 (l := m) (i := i) (by omega)
    repeat ((conv => whnf); first | refine ⟨(by kernel_rfl : Bw _ _ = true), ?_⟩ | refine ⟨A6 b, fun _ => ⟨by omega, Am hb⟩, ?_⟩ | refine ⟨A6 c, fun _ => ⟨by omega, Am hc⟩, ?_⟩)
    (conv => whnf); refine ⟨fun h3 => ?_, fun h3 => ?_⟩
    · have h3 : (!(b == c)) = true := h3
      conv => whnf
      exact ⟨trivial, eqB (Eq.symm (beq_eq_false_iff_ne.2 fun (e : l = m) => by
        rw [← e, hb] at hc; simp at hc; simp [hc] at h3))⟩
    · have h3 : b = c := by
        have h3 : (!(b == c)) = false := h3
        simpa using h3
      repeat ((conv => whnf); refine ⟨_, w64 (bb), ?_⟩)
      refine C2 (i + 1) ?_ ⟨h2, by rw [Bs hb, Bs hc, hI, h3]⟩ (by first | omega | (simp; done) | (simp; omega))
      (refine ⟨?_, ?_, rfl⟩ <;> repeat' (first | exact rfl | exact trivial | refine ⟨?_, ?_⟩ | fail) <;> (conv => whnf))
  · have h2 : i = l.length := by
      have : ¬ i < l.length := by simpa using h2
      omega
    subst h2
    conv => whnf
    rw [List.take_length, h1, List.take_length] at hI
    exact ⟨trivial, eqB (Eq.symm (beq_iff_eq.2 hI))⟩
theorem A0v : Av Tryz.prog 86 Gn := Ao (Ca _ _) FOk.nil mixed Tryz.func86 rfl Tryz.call86 (by decide) (by kernel_rfl) A4f (by intro _ (y : (List Str × List Str)) _; exact ⟨by simp [Gn, con, A9, A8, AV.noRd, A7, Ab, A5, A6], by simp [Gn, con, A9, A8, AV.noRd, A7, Ab, A5, A6]⟩) (by intro (y : (List Str × List Str)) _; first | (simp [Gn, con, A9, A8, Ad, AV.free, A2, A3, A1, A6]; done) | (obtain ⟨_, _⟩ := y; simp [Gn, con, A9, A8, Ad, AV.free, A2, A3, A1, A6]; done) | (obtain ⟨_, _, _⟩ := y; simp [Gn, con, A9, A8, Ad, AV.free, A2, A3, A1, A6]; done))
noncomputable def Gc : Bi := con [mC, mC] true (Str × Str) (fun ⟨p, q⟩ => [.str p, .str q]) (fun x => sml x.1.length ∧ sml x.2.length) (fun x => .bool (Jc x.1 x.2))
noncomputable def A6e : Env := ⟨A4 Ba, A4 [(75, Cu), (85, E2), (86, Gn)], [0, 1, 4, 5, 6]⟩
set_option maxRecDepth 100000 in
set_option maxHeartbeats 4000000 in
theorem A6l : Bb A6e (Ax Tryz.f46) Tryz.f46.results.toList Gc := by
  rintro ⟨p, q⟩ hs
  obtain ⟨h1, h2⟩ : sml p.length ∧ sml q.length := hs
  refine ⟨trivial, ?_⟩
  conv => whnf
  refine ⟨p, rfl, fun _ => h1, ?_⟩
  conv => whnf
  refine ⟨q, rfl, fun _ => h2, ?_⟩
  conv => whnf
  refine ⟨p, rfl, fun _ => h1, ?_⟩
  repeat ((conv => whnf); refine ⟨fun h => h, ?_⟩)
  refine ⟨q, rfl, fun _ => h2, ?_⟩
  repeat ((conv => whnf); refine ⟨fun h => h, ?_⟩)
  conv => whnf
  refine ⟨fun h => ⟨by omega, by omega, by simp [Cw] at h ⊢; omega⟩, ?_⟩
  repeat ((conv => whnf); refine ⟨fun h => h, ?_⟩)
  conv => whnf
  refine ⟨((names p).take (names q).length, names q), C3j (by rw [B9p]; simp) (by simp [rdS]), fun h => ⟨C17 B38, B38⟩, ?_⟩
  repeat ((conv => whnf); refine ⟨fun h => h, ?_⟩)
  conv => whnf
  refine ⟨trivial, eqB ?_⟩
  show (Bh p && Bh q && decide ((((names q).map A6).length : Int) ≤ ((names p).map A6).length) && ((names p).take (names q).length == names q)) = Jc p q
  rw [List.length_map, List.length_map, Jc, Bool.and_assoc (Bh p && Bh q), A6r]
theorem T3 : Av Tryz.prog 46 Gc := Ao (Ca _ _) (FOk.cons Fn (FOk.cons Jm (FOk.cons A0v FOk.nil))) mixed Tryz.func46 rfl Tryz.call46 (by decide) (by kernel_rfl) A6l (by intro _ (y : (Str × Str)) _; exact ⟨by simp [Gc, con, A9, A8, AV.noRd, A7, Ab, A5, A6], by simp [Gc, con, A9, A8, AV.noRd, A7, Ab, A5, A6]⟩) (by intro (y : (Str × Str)) _; first | (simp [Gc, con, A9, A8, Ad, AV.free, A2, A3, A1, A6]; done) | (obtain ⟨_, _⟩ := y; simp [Gc, con, A9, A8, Ad, AV.free, A2, A3, A1, A6]; done) | (obtain ⟨_, _, _⟩ := y; simp [Gc, con, A9, A8, Ad, AV.free, A2, A3, A1, A6]; done))
end Go.GH


set_option linter.unusedVariables false
set_option linter.unusedSimpArgs false
namespace Go.GH
open Go Go.Proofs
end Go.GH


set_option linter.unusedVariables false
set_option linter.unusedSimpArgs false
namespace Go.GH
open Go Go.Proofs
noncomputable def Se : Bi := { Bn with sh := true, res := fun (c : Cur) => .agg [.rd 4 ((Da c).2.map Ac)] }
theorem Zh : Av Tryz.prog 40 Se := Zs _ A0i rfl (fun c _ => ⟨rfl, by show 1 ≤ 16; omega, by simp only [Bn, A8, frz, M6, List.map_cons, List.map_nil, Mj, rdI]⟩)
end Go.GH


set_option linter.unusedVariables false
set_option linter.unusedSimpArgs false
namespace Go.GH
open Go Go.Proofs
noncomputable def F0 : Bi := A8 true [.mp] Cur (fun c => [.own 3 [B4 c]]) D5 (fun c => .agg (Au (opX c))) (fun c => [.own 3 [B4 (opN c)]])
noncomputable def B03 : Env := ⟨A4 Ba, A4 [(42, C9), (43, Dm), (80, Dv), (81, Cb), (126, Dx)], [0, 2, 3, 13, 17, 22, 32]⟩
set_option maxRecDepth 100000 in
set_option maxHeartbeats 4000000 in
theorem B2a : Bb B03 (Ax Tryz.f146) Tryz.f146.results.toList F0 := by
  intro (c : Cur) hc
  have hc : D5 c := hc
  refine ⟨⟨⟨_, _, _, rfl, rfl, by simp⟩, trivial⟩, ?_⟩
  skip
  refine ⟨(c, Lp), rfl, fun _ => ⟨hc, (by decide : 0 < Lp.length ∧ Lp.length ≤ 1000)⟩, ?_⟩
  skip
  refine ⟨Ak c 14, rfl, fun _ => Be hc, ?_⟩
  skip
  refine ⟨(Nc (Ak c 14), 9), rfl, fun _ => Ui (Be hc), ?_⟩
  have hok := C0y hc
  have hX : opX c = C06 (G8 c Lp) (Mf (Ak c 14)) (C0 (Nc (Ak c 14)) 9) (opC c) := rfl
  have hN : opN c = C0s (G8 c Lp) (opC c) := rfl
  skip
  (conv => whnf); refine ⟨fun h1 => ?_, fun h1 => ?_⟩
  · have h1 : G8 c Lp = 8 := by
      have h1 : (G8 c Lp == 8) = true := h1
      simpa using h1
    rw [C06, if_pos h1] at hX
    rw [C0s, if_pos h1] at hN
    skip
    refine ⟨opC c, rfl, fun _ => hok, ?_⟩
    skip
    exact ⟨⟨by rw [hN]; rfl, trivial⟩, leO hX⟩
  have h1 : ¬ G8 c Lp = 8 := by
    have h1 : (G8 c Lp == 8) = false := h1
    simpa using h1
  rw [C06, if_neg h1] at hX
  rw [C0s, if_neg h1] at hN
  skip
  (conv => whnf); refine ⟨fun h2 => ?_, fun h2 => ?_⟩
  · have h2 : G8 c Lp = 3 := by
      have h2 : (G8 c Lp == 3) = true := h2
      simpa using h2
    rw [if_pos h2] at hX hN
    skip
    refine ⟨(opC c, C2m), rfl, fun _ => ⟨hok, (by decide : 0 < C2m.length ∧ C2m.length ≤ 1000)⟩, ?_⟩
    skip
    refine ⟨(Ak (opC c) 6, B4l), rfl, fun _ => ⟨Be hok, (by decide : 0 < B4l.length ∧ B4l.length ≤ 1000)⟩, ?_⟩
    skip
    exact ⟨⟨by rw [hN]; rfl, trivial⟩, leO hX⟩
  have h2 : ¬ G8 c Lp = 3 := by
    have h2 : (G8 c Lp == 3) = false := h2
    simpa using h2
  rw [if_neg h2] at hX hN
  skip
  (conv => whnf); refine ⟨fun h3 => ?_, fun h3 => ?_⟩
  · have h3 : G8 c Lp = 4 := by
      have h3 : (G8 c Lp == 4) = true := h3
      simpa using h3
    rw [if_pos h3] at hX hN
    skip
    refine ⟨(opC c, C28), rfl, fun _ => ⟨hok, (by decide : 0 < C28.length ∧ C28.length ≤ 1000)⟩, ?_⟩
    skip
    exact ⟨⟨by rw [hN]; rfl, trivial⟩, leO hX⟩
  have h3 : ¬ G8 c Lp = 4 := by
    have h3 : (G8 c Lp == 4) = false := h3
    simpa using h3
  rw [if_neg h3] at hX hN
  skip
  refine ⟨opC c, rfl, fun _ => hok, ?_⟩
  skip
  exact ⟨⟨by rw [hN]; rfl, trivial⟩, leO hX⟩
theorem A6w : Av Tryz.prog 146 F0 := Dd (Ca _ _) (FOk.cons H0 (FOk.cons On (FOk.cons Td (FOk.cons Jw (FOk.cons Tc FOk.nil))))) mixed Tryz.func146 rfl Tryz.call146 (by decide) (by kernel_rfl) B2a (fun h => by cases h) (by intro (y : Cur) _; first | exact ⟨by simp [F0, con, A9, A8, Ad, AV.free, A2, A3, A1, A6, Au, B4, Ag, Ae], by simp [F0, con, A9, A8, Ad, AV.free, A2, A3, A1, A6, Au, B4, Ag, Ae]⟩ | (obtain ⟨_, _⟩ := y; exact ⟨by simp [F0, con, A9, A8, Ad, AV.free, A2, A3, A1, A6, Au, B4, Ag, Ae], by simp [F0, con, A9, A8, Ad, AV.free, A2, A3, A1, A6, Au, B4, Ag, Ae]⟩) | (obtain ⟨_, _, _⟩ := y; exact ⟨by simp [F0, con, A9, A8, Ad, AV.free, A2, A3, A1, A6, Au, B4, Ag, Ae], by simp [F0, con, A9, A8, Ad, AV.free, A2, A3, A1, A6, Au, B4, Ag, Ae]⟩)) (by intro (y : Cur) _; first | (simp [F0, con, A9, A8, Ad, AV.free, A2, A3, A1, A6, Au, B4, Ag, Ae]; done) | (obtain ⟨_, _⟩ := y; simp [F0, con, A9, A8, Ad, AV.free, A2, A3, A1, A6, Au, B4, Ag, Ae]; done) | (obtain ⟨_, _, _⟩ := y; simp [F0, con, A9, A8, Ad, AV.free, A2, A3, A1, A6, Au, B4, Ag, Ae]; done))
end Go.GH


set_option linter.unusedVariables false
set_option linter.unusedSimpArgs false
namespace Go.GH
open Go Go.Proofs
noncomputable def Iy : Bi := con [.rd [none, none, none, none, none, none]] true OpR (fun o => [.agg (Au o)]) (fun _ => True) (fun o => .bool (Ze o))
noncomputable def B2j : Env := ⟨A4 Ba, A4 [(76, Ch)], [0, 1, 2]⟩
set_option maxRecDepth 100000 in
set_option maxHeartbeats 4000000 in
theorem B3r : Bb B2j (Ax Tryz.f98) Tryz.f98.results.toList Iy := by
  rintro (o : OpR) _
  refine ⟨trivial, ?_⟩
  conv => whnf
  refine ⟨(o.kind, 0, 8), rfl, fun _ => trivial, ?_⟩
  repeat ((conv => whnf); refine ⟨fun h => h, ?_⟩)
  refine ⟨(o.at_, 0, 1000), rfl, fun _ => trivial, ?_⟩
  repeat ((conv => whnf); refine ⟨fun h => h, ?_⟩)
  refine ⟨(o.time, 0, 100000), rfl, fun _ => trivial, ?_⟩
  repeat ((conv => whnf); refine ⟨fun h => h, ?_⟩)
  exact ⟨trivial, eqB (by
    show _ = (inB o.kind 0 8 && inB o.at_ 0 1000 && inB o.time 0 100000)
    cases inB o.kind 0 8 <;> cases inB o.at_ 0 1000 <;> cases inB o.time 0 100000 <;> rfl)⟩
theorem B11 : Av Tryz.prog 98 Iy := Ao (Ca _ _) (FOk.cons Db FOk.nil) mixed Tryz.func98 rfl Tryz.call98 (by decide) (by kernel_rfl) B3r (by intro _ (y : OpR) _; exact ⟨by simp [Iy, con, A9, A8, AV.noRd, A7, Ab, A5, A6, Au], by simp [Iy, con, A9, A8, AV.noRd, A7, Ab, A5, A6, Au]⟩) (by intro (y : OpR) _; first | (simp [Iy, con, A9, A8, Ad, AV.free, A2, A3, A1, A6, Au]; done) | (obtain ⟨_, _⟩ := y; simp [Iy, con, A9, A8, Ad, AV.free, A2, A3, A1, A6, Au]; done) | (obtain ⟨_, _, _⟩ := y; simp [Iy, con, A9, A8, Ad, AV.free, A2, A3, A1, A6, Au]; done))
end Go.GH


set_option linter.unusedVariables false
set_option linter.unusedSimpArgs false
namespace Go.GH
open Go Go.Proofs
noncomputable def Ge : Bi := con [mS 4, mC] true (Tr × Str) (fun x => [rdT x.1, .str x.2]) (fun x => smT x.1) (fun x => .int .i64 (Rv x.1 x.2))
noncomputable def A6v : Env := ⟨A4 Ba, A4 [(45, Ck)], [0, 1, 2, 4, 5, 6, 14, 17]⟩
set_option maxRecDepth 100000 in
set_option maxHeartbeats 4000000 in
theorem A8f : Bb A6v (Ax Tryz.f135) Tryz.f135.results.toList Ge := by
  rintro ⟨t, p⟩ hs
  have hs : smT t := hs
  refine ⟨trivial, ?_⟩
  conv => whnf
  refine ⟨(t, p), rfl, fun _ => hs, ?_⟩
  skip
  (conv => whnf); refine ⟨fun h1 => ?_, fun h1 => ?_⟩
  · have h1 : (!(Al t p).isSome) = true := h1
    skip
    exact ⟨trivial, Nr (by show _ = Rv t p; unfold Rv; cases h : Al t p with | none => rfl | some x => simp [h] at h1)⟩
  have h1 : (!(Al t p).isSome) = false := h1
  (conv => whnf); refine ⟨fun h2 => ?_, fun h2 => ?_⟩
  · have h2 : (((Al t p).getD It.none).kind != 2) = true := h2
    skip
    exact ⟨trivial, Nr (by show _ = Rv t p; unfold Rv; cases h : Al t p with | none => simp [h] at h1 | some x => simp [h] at h2; simp [h2])⟩
  have h2 : (((Al t p).getD It.none).kind != 2) = false := h2
  skip
  exact ⟨trivial, Nr (by show _ = Rv t p; unfold Rv; cases h : Al t p with | none => simp [h] at h1 | some x => simp [h] at h2; simp [h2])⟩
theorem Tj : Av Tryz.prog 135 Ge := Ao (Ca _ _) (FOk.cons Fz FOk.nil) mixed Tryz.func135 rfl Tryz.call135 (by decide) (by kernel_rfl) A8f (by intro _ (y : (Tr × Str)) _; exact ⟨by simp [Ge, con, A9, A8, AV.noRd, A7, Ab, A5, A6, Ac, Au], by simp [Ge, con, A9, A8, AV.noRd, A7, Ab, A5, A6, Ac, Au]⟩) (by intro (y : (Tr × Str)) _; first | (simp [Ge, con, A9, A8, Ad, AV.free, A2, A3, A1, A6, rdT, Ac, Au]; done) | (obtain ⟨_, _⟩ := y; simp [Ge, con, A9, A8, Ad, AV.free, A2, A3, A1, A6, rdT, Ac, Au]; done) | (obtain ⟨_, _, _⟩ := y; simp [Ge, con, A9, A8, Ad, AV.free, A2, A3, A1, A6, rdT, Ac, Au]; done))
noncomputable def Jz : Bi := con [mC, mC] true (Str × Int) (fun ⟨s, n⟩ => [.str s, .int .i64 n]) (fun x => x.1.length ≤ 16777216) (fun x => .str (A15 x.1 x.2))
noncomputable def B5t : Env := ⟨A4 Ba, A4 [(76, Ch)], [0, 1, 4, 7, 12]⟩
set_option maxRecDepth 100000 in
set_option maxHeartbeats 4000000 in
theorem B56 : Bb B5t (Ax Tryz.f175) Tryz.f175.results.toList Jz := by
  rintro ⟨s, n⟩ hs
  have hs : s.length ≤ 16777216 := hs
  refine ⟨trivial, ?_⟩
  conv => whnf
  refine ⟨(n, 0, 100000), rfl, fun _ => trivial, ?_⟩
  (conv => whnf); refine ⟨fun h1 => ?_, fun h1 => ?_⟩
  · have h1 : (!inB n 0 100000) = true := h1
    skip
    exact ⟨trivial, eqS (B7q (by simpa using h1)).symm⟩
  have h1 : (!inB n 0 100000) = false := h1
  have hb : inB n 0 100000 = true := by simpa using h1
  have hb2 := V3.1 hb
  obtain ⟨k, rfl⟩ : ∃ k : Nat, n = k := ⟨n.toNat, by omega⟩
  (conv => whnf); refine ⟨fun h2 => ?_, fun h2 => ?_⟩
  · have h2 : k ≤ s.length := by simpa using h2
    repeat ((conv => whnf); refine ⟨fun _ => ⟨bb, bb, bb⟩, ?_⟩)
    exact ⟨trivial, eqS (by show _ = A15 s k; rw [C33 hb h2]; simp)⟩
  have h2 : ¬ k ≤ s.length := by simpa using h2
  repeat ((conv => whnf); first | refine ⟨_, w64 (bb), ?_⟩ | refine ⟨bb, ?_⟩)
  refine ⟨List.replicate (k - s.length) 0, C2u (by show ((k : Int) - s.length).toNat = _; omega), ?_⟩
  repeat ((conv => whnf); refine ⟨bb, ?_⟩)
  exact ⟨trivial, eqS (C39 hb (by omega)).symm⟩
theorem B3t : Av Tryz.prog 175 Jz := Ao (Ca _ _) (FOk.cons Db FOk.nil) mixed Tryz.func175 rfl Tryz.call175 (by decide) (by kernel_rfl) B56 (by intro _ (y : (Str × Int)) _; exact ⟨by simp [Jz, con, A9, A8, AV.noRd, A7, Ab, A5, A6, Ac, Au], by simp [Jz, con, A9, A8, AV.noRd, A7, Ab, A5, A6, Ac, Au]⟩) (by intro (y : (Str × Int)) _; first | (simp [Jz, con, A9, A8, Ad, AV.free, A2, A3, A1, A6, Ac, Au]; done) | (obtain ⟨_, _⟩ := y; simp [Jz, con, A9, A8, Ad, AV.free, A2, A3, A1, A6, Ac, Au]; done) | (obtain ⟨_, _, _⟩ := y; simp [Jz, con, A9, A8, Ad, AV.free, A2, A3, A1, A6, Ac, Au]; done))
noncomputable def Gs : Bi := con [mC, mC, mC] true (Str × Int × Str) (fun ⟨s, n, d⟩ => [.str s, .int .i64 n, .str d]) (fun x => x.1.length ≤ 16777216 ∧ x.2.2.length ≤ 16777216) (fun x => .str (wrote x.1 x.2.1 x.2.2))
noncomputable def A37 : Env := ⟨A4 Ba, A4 [(76, Ch)], [0, 1, 2, 6, 7, 8, 11, 17, 27]⟩
set_option maxRecDepth 100000 in
set_option maxHeartbeats 4000000 in
theorem A3w : Bb A37 (Ax Tryz.f174) Tryz.f174.results.toList Gs := by
  rintro ⟨s, n, d⟩ hs
  obtain ⟨hs, hd⟩ : s.length ≤ 16777216 ∧ d.length ≤ 16777216 := hs
  refine ⟨trivial, ?_⟩
  conv => whnf
  refine ⟨(n, 0, 100000), rfl, fun _ => trivial, ?_⟩
  (conv => whnf); refine ⟨fun h1 => ?_, fun h1 => ?_⟩
  · have h1 : (!inB n 0 100000) = true := h1
    skip
    exact ⟨trivial, eqS (A9a (by simpa using h1)).symm⟩
  have h1 : (!inB n 0 100000) = false := h1
  have hb : inB n 0 100000 = true := by simpa using h1
  have hb2 := V3.1 hb
  obtain ⟨k, rfl⟩ : ∃ k : Nat, n = k := ⟨n.toNat, by omega⟩
  skip
  (conv => whnf); refine ⟨fun h2 => ?_, fun h2 => ?_⟩
  · have h2 : k < s.length := by simpa using h2
    repeat ((conv => whnf); first | refine ⟨_, w64 (bb), ?_⟩ | refine ⟨fun _ => ⟨bb, bb, bb⟩, ?_⟩)
    (conv => whnf); refine ⟨fun h3 => ?_, fun h3 => ?_⟩
    · have h3 : k + d.length < s.length := by simp at h3; omega
      repeat ((conv => whnf); first | refine ⟨_, w64 (bb), ?_⟩ | refine ⟨fun _ => ⟨bb, bb, bb⟩, ?_⟩ | refine ⟨bb, ?_⟩)
      exact ⟨trivial, eqS (by show _ = wrote s k d; rw [A3z hb (by omega), show ((k : Int) + d.length).toNat = k + d.length by omega]; simp)⟩
    have h3 : ¬ k + d.length < s.length := by simp at h3; omega
    repeat ((conv => whnf); refine ⟨bb, ?_⟩)
    exact ⟨trivial, eqS (by show _ = wrote s k d; rw [A3z hb (by omega), show s.drop (k + d.length) = [] from List.drop_eq_nil_of_le (by omega)]; simp)⟩
  have h2 : ¬ k < s.length := by simpa using h2
  repeat ((conv => whnf); first | refine ⟨_, w64 (bb), ?_⟩ | refine ⟨bb, ?_⟩)
  refine ⟨List.replicate (k - s.length) 0, C2u (by show ((k : Int) - s.length).toNat = _; omega), ?_⟩
  repeat ((conv => whnf); refine ⟨bb, ?_⟩)
  exact ⟨trivial, eqS (by show _ = wrote s k d; rw [B2l hb (by omega)]; simp)⟩
theorem A0w : Av Tryz.prog 174 Gs := Ao (Ca _ _) (FOk.cons Db FOk.nil) mixed Tryz.func174 rfl Tryz.call174 (by decide) (by kernel_rfl) A3w (by intro _ (y : (Str × Int × Str)) _; exact ⟨by simp [Gs, con, A9, A8, AV.noRd, A7, Ab, A5, A6, Ac, Au], by simp [Gs, con, A9, A8, AV.noRd, A7, Ab, A5, A6, Ac, Au]⟩) (by intro (y : (Str × Int × Str)) _; first | (simp [Gs, con, A9, A8, Ad, AV.free, A2, A3, A1, A6, Ac, Au]; done) | (obtain ⟨_, _⟩ := y; simp [Gs, con, A9, A8, Ad, AV.free, A2, A3, A1, A6, Ac, Au]; done) | (obtain ⟨_, _, _⟩ := y; simp [Gs, con, A9, A8, Ad, AV.free, A2, A3, A1, A6, Ac, Au]; done))
noncomputable def Gq : Bi := con [mC, .rd [none, none, none, none, none, none]] true (Str × OpR) (fun x => [.str x.1, .agg (Au x.2)]) (fun x => x.1.length ≤ 4194304 ∧ x.2.data.length ≤ 1048576) (fun x => .tup [.str (J9 x.1 x.2).1, .bool (J9 x.1 x.2).2])
noncomputable def A2k : Env := ⟨A4 Ba, A4 [(174, Gs), (175, Jz)], [0, 1, 3, 4, 5, 6, 8, 9, 21]⟩
set_option maxRecDepth 100000 in
set_option maxHeartbeats 4000000 in
theorem A52 : Bb A2k (Ax Tryz.f136) Tryz.f136.results.toList Gq := by
  rintro ⟨s, o⟩ hs
  obtain ⟨hs, hd⟩ : s.length ≤ 4194304 ∧ o.data.length ≤ 1048576 := hs
  refine ⟨trivial, ?_⟩
  skip
  (conv => whnf); refine ⟨fun h1 => ?_, fun h1 => ?_⟩
  · have h1 : (o.kind == 3) = true := h1
    skip
    refine ⟨(s, o.at_, o.data), rfl, fun _ => ⟨by show s.length ≤ _; omega, by show o.data.length ≤ _; omega⟩, ?_⟩
    skip
    exact ⟨trivial, eqS (by simp [J9, h1]), eqB (by simp [J9, h1]), trivial⟩
  have h1 : (o.kind == 3) = false := h1
  skip
  (conv => whnf); refine ⟨fun h2 => ?_, fun h2 => ?_⟩
  · have h2 : (o.kind == 4) = true := h2
    skip
    refine ⟨(s, o.at_), rfl, fun _ => (by show s.length ≤ _; omega), ?_⟩
    repeat ((conv => whnf); refine ⟨(by kernel_rfl : Bw _ _ = true), ?_⟩)
    exact ⟨trivial, eqS (by simp [J9, h1, h2]), eqB (by simp [J9, h1, h2]), trivial⟩
  have h2 : (o.kind == 4) = false := h2
  skip
  exact ⟨trivial, eqS (by simp [J9, h1, h2]), eqB (by simp [J9, h1, h2]), trivial⟩
theorem A0r : Av Tryz.prog 136 Gq := Ao (Ca _ _) (FOk.cons A0w (FOk.cons B3t FOk.nil)) mixed Tryz.func136 rfl Tryz.call136 (by decide) (by kernel_rfl) A52 (by intro _ (y : (Str × OpR)) _; exact ⟨by simp [Gq, con, A9, A8, AV.noRd, A7, Ab, A5, A6, Ac, Au], by simp [Gq, con, A9, A8, AV.noRd, A7, Ab, A5, A6, Ac, Au]⟩) (by intro (y : (Str × OpR)) _; first | (simp [Gq, con, A9, A8, Ad, AV.free, A2, A3, A1, A6, Ac, Au]; done) | (obtain ⟨_, _⟩ := y; simp [Gq, con, A9, A8, Ad, AV.free, A2, A3, A1, A6, Ac, Au]; done) | (obtain ⟨_, _, _⟩ := y; simp [Gq, con, A9, A8, Ad, AV.free, A2, A3, A1, A6, Ac, Au]; done))
end Go.GH


set_option linter.unusedVariables false
set_option linter.unusedSimpArgs false
namespace Go.GH
open Go Go.Proofs
noncomputable def E3 : Bi := con [mS 4, mC] false (Tr × Str) (fun ⟨t, p⟩ => [rdT t, .str p]) (fun x => smT x.1) (fun x => .agg [.own 4 ((J8 x.1 x.2).map Ac)])
noncomputable def Wp : Env := ⟨A4 Ba, A4 [], [0, 1, 2, 4, 5, 6, 12, 22]⟩
set_option maxRecDepth 100000 in
set_option maxHeartbeats 4000000 in
theorem X4 : Bb Wp (Ax Tryz.f138) Tryz.f138.results.toList E3 := by
  rintro ⟨t, p⟩ hs
  obtain ⟨hs1, hs2⟩ : smT t := hs
  refine ⟨trivial, ?_⟩
  skip
  refine B0 (fun i : Nat => ⟨[(1, ⟨none, .str p⟩), (2, ⟨none, .bx 0 0⟩), (4, ⟨none, .bx 1 0⟩), (5, ⟨none, .bx 2 0⟩), (6, ⟨none, .int .i64 i⟩)], [(2, .own 1 [[.own 4 ((J8 (t.take i) p).map Ac)]]), (1, .own 1 [[.own 4 []]]), (0, .own 1 [[.rd 4 (t.map Ac)]])], 3⟩)
    (fun i => i ≤ t.length) (fun i => t.length - i) 0 ?_ (by omega) ?_
  · (refine ⟨?_, ?_, rfl⟩ <;> repeat' (first | exact rfl | exact trivial | refine ⟨?_, ?_⟩ | fail) <;> (conv => whnf))
    all_goals simp [Bc, J8]
  intro i hi
  have hi : i ≤ t.length := hi
  have hlen : (J8 (t.take i) p).length ≤ 4194304 := by
    have := List.length_filter_le (fun y => !(y.path == p)) (t.take i)
    rw [List.length_take] at this
    show (List.filter _ _).length ≤ _
    omega
  have hnext : ∀ {y : It}, t[i]? = some y → J8 (t.take (i + 1)) p = J8 (t.take i) p ++ J8 [y] p := fun hy => by
    simp [J8, Bs hy]
  generalize hout : J8 (t.take i) p = out at hlen hnext ⊢
  (conv => whnf); refine ⟨fun h2 => ?_, fun h2 => ?_⟩
  · have h2 : i < t.length := by simpa using h2
    obtain ⟨y, hy⟩ := B8 h2
    repeat ((conv => whnf); refine ⟨Ac y, fun _ => ⟨by omega, Am hy⟩, ?_⟩)
    (conv => whnf); refine ⟨fun h3 => ?_, fun h3 => ?_⟩
    · have h3 : (y.path == p) = false := by simpa using h3
      repeat ((conv => whnf); first | refine ⟨(by kernel_rfl : Bw _ _ = true), ?_⟩ | refine ⟨_, w64 (bb), ?_⟩ | refine ⟨bb, ?_⟩ | refine ⟨Vl (by rfl), ?_⟩ | refine ⟨Ac y, fun _ => ⟨by omega, Am hy⟩, ?_⟩)
      refine C2 (i + 1) ?_ h2 (by first | omega | (simp; done) | (simp; omega))
      rw [hnext hy]
      (refine ⟨?_, ?_, rfl⟩ <;> repeat' (first | exact rfl | exact trivial | refine ⟨?_, ?_⟩ | fail) <;> (conv => whnf))
      all_goals (simp only [J8, List.filter_cons, h3]; first | (simp [Bc, Ac]; done) | (simp [Bc, Ac]; rw [List.take_of_length_le (by simp)]; rfl))
    · have h3 : (y.path == p) = true := by simpa using h3
      repeat ((conv => whnf); refine ⟨_, w64 (bb), ?_⟩)
      refine C2 (i + 1) ?_ h2 (by first | omega | (simp; done) | (simp; omega))
      rw [hnext hy]
      (refine ⟨?_, ?_, rfl⟩ <;> repeat' (first | exact rfl | exact trivial | refine ⟨?_, ?_⟩ | fail) <;> (conv => whnf))
      all_goals (simp only [J8, List.filter_cons, h3]; simp [Bc])
  · have h2 : i = t.length := by
      have : ¬ i < t.length := by simpa using h2
      omega
    subst h2
    rw [List.take_length] at hout
    rw [show E3.res (t, p) = .agg [.own 4 (out.map Ac)] by show AV.agg [.own 4 ((J8 t p).map Ac)] = _; rw [hout]]
    skip
    exact ⟨trivial, ⟨rfl, by simp⟩, trivial⟩
theorem W9 : Av Tryz.prog 138 E3 := Ao (Ca _ _) FOk.nil mixed Tryz.func138 rfl Tryz.call138 (by decide) (by kernel_rfl) X4 (by intro _ (y : (Tr × Str)) _; exact ⟨by simp [E3, con, A9, A8, AV.noRd, A7, Ab, A5, A6, Ac, Au], by simp [E3, con, A9, A8, AV.noRd, A7, Ab, A5, A6, Ac, Au]⟩) (by intro (y : (Tr × Str)) _; first | (simp [E3, con, A9, A8, Ad, AV.free, A2, A3, A1, A6, rdT, Ac, Au]; done) | (obtain ⟨_, _⟩ := y; simp [E3, con, A9, A8, Ad, AV.free, A2, A3, A1, A6, rdT, Ac, Au]; done) | (obtain ⟨_, _, _⟩ := y; simp [E3, con, A9, A8, Ad, AV.free, A2, A3, A1, A6, rdT, Ac, Au]; done))
noncomputable def Cm : Bi := con [mS 4, .rd [none, none, none, none, none, none]] false (Tr × OpR) (fun ⟨t, o⟩ => [rdT t, .agg (Au o)]) (fun x => smT x.1 ∧ smO x.2) (fun x => .tup [.agg [.own 4 ((H8 x.1 x.2).1.map Ac)], .int .i64 (H8 x.1 x.2).2])
noncomputable def A6q : Env := ⟨A4 Ba, A4 [(45, Ck), (54, D3), (68, Ef), (77, Ft), (135, Ge)], [0, 1, 2, 3, 4, 5, 6, 7, 9, 10, 19, 29, 36, 40, 51, 56]⟩
set_option maxRecDepth 100000 in
set_option maxHeartbeats 4000000 in
theorem A78 : Bb A6q (Ax Tryz.f99) Tryz.f99.results.toList Cm := by
  rintro ⟨t, o⟩ hs
  obtain ⟨hs1, hs2⟩ : smT t ∧ smO o := hs
  refine ⟨trivial, ?_⟩
  skip
  refine ⟨t, rfl, fun _ => hs1, ?_⟩
  skip
  refine ⟨o.path, rfl, fun _ => by have := hs2.1; show o.path.length ≤ _; omega, ?_⟩
  skip
  refine ⟨(t, E4 o.path), rfl, fun _ => hs1, ?_⟩
  repeat ((conv => whnf); refine ⟨(by kernel_rfl : Bw _ _ = true), ?_⟩)
  (conv => whnf); refine ⟨fun h1 => ?_, fun h1 => ?_⟩
  · have h1 : (Rv t (E4 o.path) != 0) = true := h1
    have hr : H8 t o = (t, Rv t (E4 o.path)) := by rw [H8, if_pos h1]
    rw [show Cm.res (t, o) = .tup [.agg [.own 4 (t.map Ac)], .int .i64 (Rv t (E4 o.path))] by show AV.tup [.agg [.own 4 ((H8 t o).1.map Ac)], .int .i64 (H8 t o).2] = _; rw [hr]]
    skip
    exact ⟨trivial, ⟨⟨rfl, by simp⟩, trivial⟩, rfl, trivial⟩
  have h1 : (Rv t (E4 o.path) != 0) = false := h1
  skip
  refine ⟨(t, o.path), rfl, fun _ => hs1, ?_⟩
  skip
  (conv => whnf); refine ⟨fun h2 => ?_, fun h2 => ?_⟩
  · have h2 : (Al t o.path).isSome = true := h2
    have hr : H8 t o = (t, 3) := by simp [H8, h1, h2]
    rw [show Cm.res (t, o) = .tup [.agg [.own 4 (t.map Ac)], .int .i64 3] by show AV.tup [.agg [.own 4 ((H8 t o).1.map Ac)], .int .i64 (H8 t o).2] = _; rw [hr]]
    skip
    exact ⟨trivial, ⟨⟨rfl, by simp⟩, trivial⟩, rfl, trivial⟩
  have h2 : (Al t o.path).isSome = false := h2
  (conv => whnf); refine ⟨fun h3 => ?_, fun h3 => ?_⟩
  · have h3 : (o.kind != 0) = true := h3
    have h3' : (o.kind == 0) = false := by simpa using h3
    (conv => whnf); refine ⟨fun h4 => ?_, fun h4 => ?_⟩
    · have h4 : (o.data.length : Int) > 80 := by simpa using h4
      have hr : H8 t o = (t, 9) := by simp [H8, h1, h2, h3, h4]
      rw [show Cm.res (t, o) = .tup [.agg [.own 4 (t.map Ac)], .int .i64 9] by show AV.tup [.agg [.own 4 ((H8 t o).1.map Ac)], .int .i64 (H8 t o).2] = _; rw [hr]]
      skip
      exact ⟨trivial, ⟨⟨rfl, by simp⟩, trivial⟩, rfl, trivial⟩
    have h4 : ¬ (o.data.length : Int) > 80 := by simpa using h4
    skip
    (conv => whnf); refine ⟨fun h6 => ?_, fun h6 => ?_⟩
    · have h6 : (o.kind == 2) = true := h6
      skip
      (conv => whnf); refine ⟨fun h5 => ?_, fun h5 => ?_⟩
      · have h5 : (t.length : Int) = 40 := by simpa using h5
        have hr : H8 t o = (t, 5) := by simp [H8, h1, h2, h3, h4, h5]
        rw [show Cm.res (t, o) = .tup [.agg [.own 4 (t.map Ac)], .int .i64 5] by show AV.tup [.agg [.own 4 ((H8 t o).1.map Ac)], .int .i64 (H8 t o).2] = _; rw [hr]]
        skip
        exact ⟨trivial, ⟨⟨rfl, by simp⟩, trivial⟩, rfl, trivial⟩
      have h5 : ¬ (t.length : Int) = 40 := by simpa using h5
      have hr : H8 t o = (Id t ⟨o.path, 3, o.data, o.time⟩, 0) := by simp [H8, h1, h2, h3, h4, h5, B4f, h3', h6]
      skip
      refine ⟨(t, ⟨o.path, 3, o.data, o.time⟩), by refine A54 ?_; simp [rdI], fun _ => hs1, ?_⟩
      rw [show Cm.res (t, o) = .tup [.agg [.own 4 ((Id t ⟨o.path, 3, o.data, o.time⟩).map Ac)], .int .i64 0] by show AV.tup [.agg [.own 4 ((H8 t o).1.map Ac)], .int .i64 (H8 t o).2] = _; rw [hr]]
      skip
      exact ⟨trivial, ⟨⟨rfl, by simp⟩, trivial⟩, rfl, trivial⟩
    have h6 : (o.kind == 2) = false := h6
    skip
    (conv => whnf); refine ⟨fun h5 => ?_, fun h5 => ?_⟩
    · have h5 : (t.length : Int) = 40 := by simpa using h5
      have hr : H8 t o = (t, 5) := by simp [H8, h1, h2, h3, h4, h5]
      rw [show Cm.res (t, o) = .tup [.agg [.own 4 (t.map Ac)], .int .i64 5] by show AV.tup [.agg [.own 4 ((H8 t o).1.map Ac)], .int .i64 (H8 t o).2] = _; rw [hr]]
      skip
      exact ⟨trivial, ⟨⟨rfl, by simp⟩, trivial⟩, rfl, trivial⟩
    have h5 : ¬ (t.length : Int) = 40 := by simpa using h5
    have hr : H8 t o = (Id t ⟨o.path, 1, o.data, o.time⟩, 0) := by simp [H8, h1, h2, h3, h4, h5, B4f, h3', h6]
    skip
    refine ⟨(t, ⟨o.path, 1, o.data, o.time⟩), by refine A54 ?_; simp [rdI], fun _ => hs1, ?_⟩
    rw [show Cm.res (t, o) = .tup [.agg [.own 4 ((Id t ⟨o.path, 1, o.data, o.time⟩).map Ac)], .int .i64 0] by show AV.tup [.agg [.own 4 ((H8 t o).1.map Ac)], .int .i64 (H8 t o).2] = _; rw [hr]]
    skip
    exact ⟨trivial, ⟨⟨rfl, by simp⟩, trivial⟩, rfl, trivial⟩
  have h3 : (o.kind != 0) = false := h3
  have h3' : (o.kind == 0) = true := by simpa using h3
  skip
  (conv => whnf); refine ⟨fun h5 => ?_, fun h5 => ?_⟩
  · have h5 : (t.length : Int) = 40 := by simpa using h5
    have hr : H8 t o = (t, 5) := by simp [H8, h1, h2, h3, h5]
    rw [show Cm.res (t, o) = .tup [.agg [.own 4 (t.map Ac)], .int .i64 5] by show AV.tup [.agg [.own 4 ((H8 t o).1.map Ac)], .int .i64 (H8 t o).2] = _; rw [hr]]
    skip
    exact ⟨trivial, ⟨⟨rfl, by simp⟩, trivial⟩, rfl, trivial⟩
  have h5 : ¬ (t.length : Int) = 40 := by simpa using h5
  have hr : H8 t o = (Id t ⟨o.path, 2, [], 0⟩, 0) := by simp [H8, h1, h2, h3, h5, B4f, h3']
  skip
  refine ⟨(t, ⟨o.path, 2, [], 0⟩), by refine A54 ?_; simp [rdI], fun _ => hs1, ?_⟩
  rw [show Cm.res (t, o) = .tup [.agg [.own 4 ((Id t ⟨o.path, 2, [], 0⟩).map Ac)], .int .i64 0] by show AV.tup [.agg [.own 4 ((H8 t o).1.map Ac)], .int .i64 (H8 t o).2] = _; rw [hr]]
  skip
  exact ⟨trivial, ⟨⟨rfl, by simp⟩, trivial⟩, rfl, trivial⟩
theorem A42 : Av Tryz.prog 99 Cm := Ao (Ca _ _) (FOk.cons Fz (FOk.cons H4 (FOk.cons K4 (FOk.cons My (FOk.cons Tj FOk.nil))))) mixed Tryz.func99 rfl Tryz.call99 (by decide) (by kernel_rfl) A78 (by intro _ (y : (Tr × OpR)) _; exact ⟨by simp [Cm, con, A9, A8, AV.noRd, A7, Ab, A5, A6, Ac, Au], by simp [Cm, con, A9, A8, AV.noRd, A7, Ab, A5, A6, Ac, Au]⟩) (by intro (y : (Tr × OpR)) _; first | (simp [Cm, con, A9, A8, Ad, AV.free, A2, A3, A1, A6, rdT, Ac, Au]; done) | (obtain ⟨_, _⟩ := y; simp [Cm, con, A9, A8, Ad, AV.free, A2, A3, A1, A6, rdT, Ac, Au]; done) | (obtain ⟨_, _, _⟩ := y; simp [Cm, con, A9, A8, Ad, AV.free, A2, A3, A1, A6, rdT, Ac, Au]; done))
end Go.GH


set_option linter.unusedVariables false
set_option linter.unusedSimpArgs false
namespace Go.GH
open Go Go.Proofs
noncomputable def F4 : Bi := con [mS 4, mC] false (Tr × Str) (fun ⟨t, p⟩ => [rdT t, .str p]) (fun x => smT x.1) (fun x => .own 1 ((L9 x.1 x.2).map A6))
noncomputable def Yd : Env := ⟨A4 Ba, A4 [(38, Fa), (45, Ck), (77, Ft), (167, Hj)], [0, 1, 2, 4, 5, 6, 7, 8, 27, 33, 44]⟩
set_option maxRecDepth 100000 in
set_option maxHeartbeats 4000000 in
theorem Zd : Bb Yd (Ax Tryz.f137) Tryz.f137.results.toList F4 := by
  rintro ⟨t, p⟩ hs
  have hs : smT t := hs
  have hs0 := hs.1
  refine ⟨trivial, ?_⟩
  skip
  refine ⟨(t, p), rfl, fun _ => hs, ?_⟩
  skip
  refine ⟨t, rfl, fun _ => hs, ?_⟩
  repeat ((conv => whnf); refine ⟨fun h => h, ?_⟩)
  (conv => whnf); refine ⟨fun h1 => ?_, fun h1 => ?_⟩
  · have h1 : (Bj t && Nw t p) = false := by
      have h1 : (!Bj t || !(Al t p).isSome || ((Al t p).getD It.none).kind != 2) = true := h1
      unfold Nw
      revert h1
      cases Bj t <;> cases (Al t p).isSome <;> simp
    skip
    exact ⟨trivial, Qm (by show _ = (L9 t p).map A6; rw [L9, h1]; rfl)⟩
  have h1 : (Bj t && Nw t p) = true := by
      have h1 : (!Bj t || !(Al t p).isSome || ((Al t p).getD It.none).kind != 2) = false := h1
      unfold Nw
      revert h1
      cases Bj t <;> cases (Al t p).isSome <;> simp
  skip
  refine B0 (fun i : Nat => ⟨[(1, ⟨none, .str p⟩), (2, ⟨none, .bx 0 0⟩), (5, ⟨none, .view 1 [] 0 ((A0q (t.take i) p).map fun y => O3 y.path).length⟩), (8, ⟨none, .int .i64 i⟩)], [(1, .own 1 (((A0q (t.take i) p).map fun y => O3 y.path).map A6)), (0, .own 1 [[.rd 4 (t.map Ac)]])], 2⟩)
    (fun i => i ≤ t.length) (fun i => t.length - i) 0 ?_ (by omega) ?_
  · (refine ⟨?_, ?_, rfl⟩ <;> repeat' (first | exact rfl | exact trivial | refine ⟨?_, ?_⟩ | fail) <;> (conv => whnf))
    all_goals simp [A0q]
  intro i hi
  have hi : i ≤ t.length := hi
  have hlen : ((A0q (t.take i) p).map fun y => O3 y.path).length ≤ 4194304 := by
    have := List.length_filter_le (fun y : It => E4 y.path == p) (t.take i)
    have h0 := hs.1
    rw [List.length_take] at this
    rw [List.length_map]
    show (List.filter _ _).length ≤ _
    omega
  have hnext : ∀ {y : It}, t[i]? = some y → ((A0q (t.take (i + 1)) p).map fun y => O3 y.path) = ((A0q (t.take i) p).map fun y => O3 y.path) ++ (A0q [y] p).map fun y => O3 y.path := fun hy => by
    simp [A0q, Bs hy]
  generalize hout : ((A0q (t.take i) p).map fun y => O3 y.path) = out at hlen hnext ⊢
  (conv => whnf); refine ⟨fun h2 => ?_, fun h2 => ?_⟩
  · have h2 : i < t.length := by simpa using h2
    obtain ⟨y, hy⟩ := B8 h2
    have hyl := (hs.2 y (List.mem_of_getElem? hy)).1
    repeat ((conv => whnf); refine ⟨Ac y, fun _ => ⟨by omega, Am hy⟩, ?_⟩)
    refine ⟨y.path, rfl, fun _ => hyl, ?_⟩
    skip
    (conv => whnf); refine ⟨fun h3 => ?_, fun h3 => ?_⟩
    · have h3 : (E4 y.path == p) = true := h3
      repeat ((conv => whnf); refine ⟨Ac y, fun _ => ⟨by omega, Am hy⟩, ?_⟩)
      refine ⟨y.path, rfl, fun _ => hyl, ?_⟩
      repeat ((conv => whnf); first | refine ⟨_, w64 (bb), ?_⟩ | refine ⟨bb, ?_⟩ | refine ⟨fun (r : List AV) hr c hc => by simp [A6] at hr; (try subst hr); simp at hc; (try subst hc); rfl, ?_⟩)
      refine C2 (i + 1) ?_ h2 (by first | omega | (simp; done) | (simp; omega))
      rw [hnext hy]
      (refine ⟨?_, ?_, rfl⟩ <;> repeat' (first | exact rfl | exact trivial | refine ⟨?_, ?_⟩ | fail) <;> (conv => whnf))
      all_goals (simp only [A0q, List.filter_cons, h3]; simp [A6])
    · have h3 : (E4 y.path == p) = false := h3
      repeat ((conv => whnf); refine ⟨_, w64 (bb), ?_⟩)
      refine C2 (i + 1) ?_ h2 (by first | omega | (simp; done) | (simp; omega))
      rw [hnext hy]
      (refine ⟨?_, ?_, rfl⟩ <;> repeat' (first | exact rfl | exact trivial | refine ⟨?_, ?_⟩ | fail) <;> (conv => whnf))
      all_goals (simp only [A0q, List.filter_cons, h3]; simp)
  · have h2 : i = t.length := by
      have : ¬ i < t.length := by simpa using h2
      omega
    subst h2
    rw [List.take_length] at hout
    skip
    exact ⟨trivial, Qm (by rw [show L9 t p = out by rw [L9, if_pos h1, hout]]; (try simp only [List.drop_zero, List.take_length, Ql]) <;> simp)⟩
theorem Xa : Av Tryz.prog 137 F4 := Ao (Ca _ _) (FOk.cons Ov (FOk.cons Fz (FOk.cons My (FOk.cons Rw FOk.nil)))) mixed Tryz.func137 rfl Tryz.call137 (by decide) (by kernel_rfl) Zd (by intro _ (y : (Tr × Str)) _; exact ⟨by simp [F4, con, A9, A8, AV.noRd, A7, Ab, A5, A6, Ac, Au], by simp [F4, con, A9, A8, AV.noRd, A7, Ab, A5, A6, Ac, Au]⟩) (by intro (y : (Tr × Str)) _; first | (simp [F4, con, A9, A8, Ad, AV.free, A2, A3, A1, A6, rdT, Ac, Au]; done) | (obtain ⟨_, _⟩ := y; simp [F4, con, A9, A8, Ad, AV.free, A2, A3, A1, A6, rdT, Ac, Au]; done) | (obtain ⟨_, _, _⟩ := y; simp [F4, con, A9, A8, Ad, AV.free, A2, A3, A1, A6, rdT, Ac, Au]; done))
noncomputable def Cx : Bi := con [mS 4, .rd [none, none, none, none, none, none]] false (Tr × OpR) (fun ⟨t, o⟩ => [rdT t, .agg (Au o)]) (fun x => smT x.1 ∧ smO x.2 ∧ Sm x.2.path = false) (fun x => .tup [.agg [.own 4 ((Le x.1 x.2).1.map Ac)], .int .i64 (Le x.1 x.2).2])
noncomputable def Z8 : Env := ⟨A4 Ba, A4 [(45, Ck), (54, D3), (68, Ef), (136, Gq)], [0, 1, 2, 3, 4, 5, 6, 7, 8, 9, 10, 21, 35, 45]⟩
set_option maxRecDepth 100000 in
set_option maxHeartbeats 4000000 in
theorem Yu : Bb Z8 (Ax Tryz.f100) Tryz.f100.results.toList Cx := by
  rintro ⟨t, o⟩ hs
  obtain ⟨hs1, hs2, hs3⟩ : smT t ∧ smO o ∧ Sm o.path = false := hs
  refine ⟨trivial, ?_⟩
  skip
  refine ⟨t, rfl, fun _ => hs1, ?_⟩
  skip
  refine ⟨(t, o.path), rfl, fun _ => hs1, ?_⟩
  skip
  (conv => whnf); refine ⟨fun h1 => ?_, fun h1 => ?_⟩
  · have h1 : Al t o.path = none := by simpa using h1
    have hr : Le t o = (t, 2) := by simp [Le, h1]
    rw [show Cx.res (t, o) = .tup [.agg [.own 4 (t.map Ac)], .int .i64 2] by show AV.tup [.agg [.own 4 ((Le t o).1.map Ac)], .int .i64 (Le t o).2] = _; rw [hr]]
    skip
    exact ⟨trivial, ⟨⟨rfl, by simp⟩, trivial⟩, rfl, trivial⟩
  obtain ⟨x, hx⟩ : ∃ x, Al t o.path = some x := by
    cases h : Al t o.path with
    | none => simp [h] at h1
    | some x => exact ⟨x, rfl⟩
  have hxd : x.data.length ≤ 4194304 := by
    have := C15 hs3 hx
    exact (hs1.2 x (List.mem_of_getElem? this.1)).2
  repeat ((conv => whnf); refine ⟨fun h => h, ?_⟩)
  (conv => whnf); refine ⟨fun h2 => ?_, fun h2 => ?_⟩
  · have h2 : (x.kind == 2 || (x.kind == 3 && o.kind != 5)) = true := by
      have h2 : (((Al t o.path).getD It.none).kind == 2 || (((Al t o.path).getD It.none).kind == 3 && o.kind != 5)) = true := h2
      rw [hx] at h2; exact h2
    have hr : Le t o = (t, 4) := by simp only [Le, hx]; rw [if_pos h2]
    rw [show Cx.res (t, o) = .tup [.agg [.own 4 (t.map Ac)], .int .i64 4] by show AV.tup [.agg [.own 4 ((Le t o).1.map Ac)], .int .i64 (Le t o).2] = _; rw [hr]]
    skip
    exact ⟨trivial, ⟨⟨rfl, by simp⟩, trivial⟩, rfl, trivial⟩
  have h2 : (x.kind == 2 || (x.kind == 3 && o.kind != 5)) = false := by
      have h2 : (((Al t o.path).getD It.none).kind == 2 || (((Al t o.path).getD It.none).kind == 3 && o.kind != 5)) = false := h2
      rw [hx] at h2; exact h2
  skip
  refine ⟨(((Al t o.path).getD It.none).data, o), rfl, fun _ => ⟨by rw [hx]; exact hxd, hs2.2.2⟩, ?_⟩
  skip
  (conv => whnf); refine ⟨fun h3 => ?_, fun h3 => ?_⟩
  · have h3 : (!(J9 x.data o).2) = true := by
      have h3 : (!(J9 ((Al t o.path).getD It.none).data o).2) = true := h3
      rw [hx] at h3; exact h3
    have hr : Le t o = (t, 9) := by simp only [Le, hx]; rw [if_neg (by rw [h2]; decide), if_pos h3]
    rw [show Cx.res (t, o) = .tup [.agg [.own 4 (t.map Ac)], .int .i64 9] by show AV.tup [.agg [.own 4 ((Le t o).1.map Ac)], .int .i64 (Le t o).2] = _; rw [hr]]
    skip
    exact ⟨trivial, ⟨⟨rfl, by simp⟩, trivial⟩, rfl, trivial⟩
  have h3 : (!(J9 x.data o).2) = false := by
      have h3 : (!(J9 ((Al t o.path).getD It.none).data o).2) = false := h3
      rw [hx] at h3; exact h3
  have hr : Le t o = (Id t ⟨((Al t o.path).getD It.none).path, ((Al t o.path).getD It.none).kind, (J9 ((Al t o.path).getD It.none).data o).1, o.time⟩, 0) := by simp only [Le, hx]; rw [if_neg (by rw [h2]; decide), if_neg (by rw [h3]; decide)]; rfl
  skip
  refine ⟨(t, ⟨((Al t o.path).getD It.none).path, ((Al t o.path).getD It.none).kind, (J9 ((Al t o.path).getD It.none).data o).1, o.time⟩), by refine A54 ?_; simp [rdI], fun _ => hs1, ?_⟩
  rw [show Cx.res (t, o) = .tup [.agg [.own 4 ((Id t ⟨((Al t o.path).getD It.none).path, ((Al t o.path).getD It.none).kind, (J9 ((Al t o.path).getD It.none).data o).1, o.time⟩).map Ac)], .int .i64 0] by show AV.tup [.agg [.own 4 ((Le t o).1.map Ac)], .int .i64 (Le t o).2] = _; rw [hr]]
  skip
  exact ⟨trivial, ⟨⟨rfl, by simp⟩, trivial⟩, rfl, trivial⟩
theorem Wy : Av Tryz.prog 100 Cx := Ao (Ca _ _) (FOk.cons Fz (FOk.cons H4 (FOk.cons K4 (FOk.cons A0r FOk.nil)))) mixed Tryz.func100 rfl Tryz.call100 (by decide) (by kernel_rfl) Yu (by intro _ (y : (Tr × OpR)) _; exact ⟨by simp [Cx, con, A9, A8, AV.noRd, A7, Ab, A5, A6, Ac, Au], by simp [Cx, con, A9, A8, AV.noRd, A7, Ab, A5, A6, Ac, Au]⟩) (by intro (y : (Tr × OpR)) _; first | (simp [Cx, con, A9, A8, Ad, AV.free, A2, A3, A1, A6, rdT, Ac, Au]; done) | (obtain ⟨_, _⟩ := y; simp [Cx, con, A9, A8, Ad, AV.free, A2, A3, A1, A6, rdT, Ac, Au]; done) | (obtain ⟨_, _, _⟩ := y; simp [Cx, con, A9, A8, Ad, AV.free, A2, A3, A1, A6, rdT, Ac, Au]; done))
noncomputable def Cz : Bi := con [mS 4, .rd [none, none, none, none, none, none]] false (Tr × OpR) (fun ⟨t, o⟩ => [rdT t, .agg (Au o)]) (fun x => smT x.1 ∧ smO x.2) (fun x => .tup [.agg [.own 4 ((Is x.1 x.2).1.map Ac)], .int .i64 (Is x.1 x.2).2])
noncomputable def Yx : Env := ⟨A4 Ba, A4 [(45, Ck), (54, D3), (137, F4), (138, E3)], [0, 1, 2, 3, 4, 5, 6, 7, 16, 25, 33]⟩
set_option maxRecDepth 100000 in
set_option maxHeartbeats 4000000 in
theorem Yn : Bb Yx (Ax Tryz.f101) Tryz.f101.results.toList Cz := by
  rintro ⟨t, o⟩ hs
  obtain ⟨hs1, hs2⟩ : smT t ∧ smO o := hs
  refine ⟨trivial, ?_⟩
  skip
  refine ⟨(t, o.path), rfl, fun _ => hs1, ?_⟩
  skip
  (conv => whnf); refine ⟨fun h1 => ?_, fun h1 => ?_⟩
  · have h1 : Al t o.path = none := by simpa using h1
    have hr : Is t o = (t, 2) := by simp [Is, h1]
    skip
    refine ⟨t, rfl, fun _ => hs1, ?_⟩
    rw [show Cz.res (t, o) = .tup [.agg [.own 4 (t.map Ac)], .int .i64 2] by show AV.tup [.agg [.own 4 ((Is t o).1.map Ac)], .int .i64 (Is t o).2] = _; rw [hr]]
    skip
    exact ⟨trivial, ⟨⟨rfl, by simp⟩, trivial⟩, rfl, trivial⟩
  obtain ⟨x, hx⟩ : ∃ x, Al t o.path = some x := by
    cases h : Al t o.path with
    | none => simp [h] at h1
    | some x => exact ⟨x, rfl⟩
  skip
  (conv => whnf); refine ⟨fun h2 => ?_, fun h2 => ?_⟩
  · have h2 : ((x.kind == 2) != (o.kind == 7)) = true := by
      have h2 : (!((((Al t o.path).getD It.none).kind == 2) == (o.kind == 7))) = true := h2
      rw [hx] at h2; exact h2
    have hr : Is t o = (t, 4) := by simp only [Is, hx]; rw [if_pos h2]
    skip
    refine ⟨t, rfl, fun _ => hs1, ?_⟩
    rw [show Cz.res (t, o) = .tup [.agg [.own 4 (t.map Ac)], .int .i64 4] by show AV.tup [.agg [.own 4 ((Is t o).1.map Ac)], .int .i64 (Is t o).2] = _; rw [hr]]
    skip
    exact ⟨trivial, ⟨⟨rfl, by simp⟩, trivial⟩, rfl, trivial⟩
  have h2 : ((x.kind == 2) != (o.kind == 7)) = false := by
      have h2 : (!((((Al t o.path).getD It.none).kind == 2) == (o.kind == 7))) = false := h2
      rw [hx] at h2; exact h2
  skip
  refine ⟨(t, o.path), rfl, fun _ => hs1, ?_⟩
  skip
  (conv => whnf); refine ⟨fun h3 => ?_, fun h3 => ?_⟩
  · have h3 : decide (((L9 t o.path).length : Int) > 0) = true := by simpa using h3
    have hr : Is t o = (t, 8) := by simp only [Is, hx]; rw [if_neg (by rw [h2]; decide), if_pos h3]
    skip
    refine ⟨t, rfl, fun _ => hs1, ?_⟩
    rw [show Cz.res (t, o) = .tup [.agg [.own 4 (t.map Ac)], .int .i64 8] by show AV.tup [.agg [.own 4 ((Is t o).1.map Ac)], .int .i64 (Is t o).2] = _; rw [hr]]
    skip
    exact ⟨trivial, ⟨⟨rfl, by simp⟩, trivial⟩, rfl, trivial⟩
  have h3 : decide (((L9 t o.path).length : Int) > 0) = false := by simpa using h3
  have hr : Is t o = (J8 t o.path, 0) := by simp only [Is, hx]; rw [if_neg (by rw [h2]; decide), if_neg (by rw [h3]; decide)]
  skip
  refine ⟨(t, o.path), rfl, fun _ => hs1, ?_⟩
  rw [show Cz.res (t, o) = .tup [.agg [.own 4 ((J8 t o.path).map Ac)], .int .i64 0] by show AV.tup [.agg [.own 4 ((Is t o).1.map Ac)], .int .i64 (Is t o).2] = _; rw [hr]]
  skip
  exact ⟨trivial, ⟨⟨rfl, by simp⟩, trivial⟩, rfl, trivial⟩
theorem Xs : Av Tryz.prog 101 Cz := Ao (Ca _ _) (FOk.cons Fz (FOk.cons H4 (FOk.cons Xa (FOk.cons W9 FOk.nil)))) mixed Tryz.func101 rfl Tryz.call101 (by decide) (by kernel_rfl) Yn (by intro _ (y : (Tr × OpR)) _; exact ⟨by simp [Cz, con, A9, A8, AV.noRd, A7, Ab, A5, A6, Ac, Au], by simp [Cz, con, A9, A8, AV.noRd, A7, Ab, A5, A6, Ac, Au]⟩) (by intro (y : (Tr × OpR)) _; first | (simp [Cz, con, A9, A8, Ad, AV.free, A2, A3, A1, A6, rdT, Ac, Au]; done) | (obtain ⟨_, _⟩ := y; simp [Cz, con, A9, A8, Ad, AV.free, A2, A3, A1, A6, rdT, Ac, Au]; done) | (obtain ⟨_, _, _⟩ := y; simp [Cz, con, A9, A8, Ad, AV.free, A2, A3, A1, A6, rdT, Ac, Au]; done))
end Go.GH


set_option linter.unusedVariables false
set_option linter.unusedSimpArgs false
namespace Go.GH
open Go Go.Proofs
noncomputable def Cn : Bi := con [mS 4, .rd [none, none, none, none, none, none]] false (Tr × OpR) (fun ⟨t, o⟩ => [rdT t, .agg (Au o)]) (fun x => smT x.1 ∧ smO x.2 ∧ Sm x.2.path = false) (fun x => .tup [.agg [.own 4 ((Ly x.1 x.2).1.map Ac)], .int .i64 (Ly x.1 x.2).2])
noncomputable def Yo : Env := ⟨A4 Ba, A4 [(45, Ck), (46, Gc), (54, D3), (68, Ef), (77, Ft), (85, E2), (119, Ff), (135, Ge)], [0, 1, 2, 3, 4, 5, 7, 8, 10, 11, 12, 13, 22, 31, 42, 50, 62, 79]⟩
set_option maxRecDepth 100000 in
set_option maxHeartbeats 4000000 in
theorem Zi : Bb Yo (Ax Tryz.f102) Tryz.f102.results.toList Cn := by
  rintro ⟨t, o⟩ hs
  obtain ⟨hs1, hs2, hs3⟩ : smT t ∧ smO o ∧ Sm o.path = false := hs
  have hs0 := hs1.1
  have ho1 := hs2.1
  have ho2 := hs2.2.1
  refine ⟨trivial, ?_⟩
  skip
  refine ⟨(t, o.path), rfl, fun _ => hs1, ?_⟩
  skip
  (conv => whnf); refine ⟨fun h1 => ?_, fun h1 => ?_⟩
  · have h1 : (!(Al t o.path).isSome) = true := h1
    have hr : Ly t o = (t, 2) := by rw [Ly, if_pos h1]
    skip
    refine ⟨t, rfl, fun _ => hs1, ?_⟩
    rw [show Cn.res (t, o) = .tup [.agg [.own 4 (t.map Ac)], .int .i64 2] by show AV.tup [.agg [.own 4 ((Ly t o).1.map Ac)], .int .i64 (Ly t o).2] = _; rw [hr]]
    skip
    exact ⟨trivial, ⟨⟨rfl, by simp⟩, trivial⟩, rfl, trivial⟩
  have h1 : (!(Al t o.path).isSome) = false := h1
  skip
  refine ⟨o.to, rfl, fun _ => by show o.to.length ≤ _; omega, ?_⟩
  skip
  refine ⟨(t, E4 o.to), rfl, fun _ => hs1, ?_⟩
  repeat ((conv => whnf); refine ⟨(by kernel_rfl : Bw _ _ = true), ?_⟩)
  (conv => whnf); refine ⟨fun h2 => ?_, fun h2 => ?_⟩
  · have h2 : (Rv t (E4 o.to) != 0) = true := h2
    have hr : Ly t o = (t, Rv t (E4 o.to)) := by rw [Ly, if_neg (by rw [h1]; decide), if_pos h2]
    skip
    refine ⟨t, rfl, fun _ => hs1, ?_⟩
    rw [show Cn.res (t, o) = .tup [.agg [.own 4 (t.map Ac)], .int .i64 (Rv t (E4 o.to))] by show AV.tup [.agg [.own 4 ((Ly t o).1.map Ac)], .int .i64 (Ly t o).2] = _; rw [hr]]
    skip
    exact ⟨trivial, ⟨⟨rfl, by simp⟩, trivial⟩, rfl, trivial⟩
  have h2 : (Rv t (E4 o.to) != 0) = false := h2
  skip
  refine ⟨(t, o.to), rfl, fun _ => hs1, ?_⟩
  skip
  (conv => whnf); refine ⟨fun h3 => ?_, fun h3 => ?_⟩
  · have h3 : (Al t o.to).isSome = true := h3
    have hr : Ly t o = (t, 3) := by rw [Ly, if_neg (by rw [h1]; decide), if_neg (by rw [h2]; decide), if_pos h3]
    skip
    refine ⟨t, rfl, fun _ => hs1, ?_⟩
    rw [show Cn.res (t, o) = .tup [.agg [.own 4 (t.map Ac)], .int .i64 3] by show AV.tup [.agg [.own 4 ((Ly t o).1.map Ac)], .int .i64 (Ly t o).2] = _; rw [hr]]
    skip
    exact ⟨trivial, ⟨⟨rfl, by simp⟩, trivial⟩, rfl, trivial⟩
  have h3 : (Al t o.to).isSome = false := h3
  have hren : Ly t o = if t.any (stuck o) then (t, 1) else ((t.map (Lw o)).foldl Id [], 0) := by rw [Ly, if_neg (by rw [h1]; decide), if_neg (by rw [h2]; decide), if_neg (by rw [h3]; decide)]
  skip
  refine B0 (fun i : Nat => ⟨[(2, ⟨none, .bx 0 0⟩), (3, ⟨none, .bx 1 0⟩), (4, ⟨none, .bx 2 0⟩), (5, ⟨none, .int .i64 0⟩), (11, ⟨none, .bx 3 0⟩), (12, ⟨none, .int .i64 i⟩)], [(3, .own 1 [[.own 4 ((((t.take i).map (Lw o)).foldl Id []).map Ac)]]), (2, .own 1 [[.own 4 []]]), (1, .own 6 [Au o]), (0, .own 1 [[.rd 4 (t.map Ac)]])], 4⟩)
    (fun i => i ≤ t.length ∧ (t.take i).any (stuck o) = false) (fun i => t.length - i) 0 ?_ ⟨by omega, rfl⟩ ?_
  · (refine ⟨?_, ?_, rfl⟩ <;> repeat' (first | exact rfl | exact trivial | refine ⟨?_, ?_⟩ | fail) <;> (conv => whnf))
    all_goals simp [Bc]
  rintro i ⟨hi, hI⟩
  have hsm := C1d (o := o) hs1 i
  have hnext : ∀ {y : It}, t[i]? = some y → ((t.take (i + 1)).map (Lw o)).foldl Id [] = Id (((t.take i).map (Lw o)).foldl Id []) (Lw o y) := fun hy => by
    rw [Bs hy, List.map_append, List.foldl_append]; rfl
  have hany : ∀ {y : It}, t[i]? = some y → stuck o y = false → (t.take (i + 1)).any (stuck o) = false := fun hy h => by
    rw [Bs hy, List.any_append, hI]; simp [h]
  generalize hout : ((t.take i).map (Lw o)).foldl Id [] = out at hsm hnext ⊢
  (conv => whnf); refine ⟨fun h4 => ?_, fun h4 => ?_⟩
  · have h4 : i < t.length := by simpa using h4
    obtain ⟨y, hy⟩ := B8 h4
    have hym := List.mem_of_getElem? hy
    have hyl := (hs1.2 y hym).1
    repeat ((conv => whnf); refine ⟨Ac y, fun _ => ⟨by omega, Am hy⟩, ?_⟩)
    refine ⟨(y.path, o.path), rfl, fun _ => ⟨hyl, by show o.path.length ≤ _; omega⟩, ?_⟩
    skip
    (conv => whnf); refine ⟨fun h5 => ?_, fun h5 => ?_⟩
    · have h5 : Jc y.path o.path = true := h5
      skip
      refine ⟨o.to, rfl, fun _ => by show o.to.length ≤ _; omega, ?_⟩
      skip
      refine ⟨y.path, rfl, fun _ => hyl, ?_⟩
      skip
      refine ⟨o.path, rfl, fun _ => by show o.path.length ≤ _; omega, ?_⟩
      skip
      have hnl := I1 (p := y.path)
      have hn2 := I1 (p := o.to)
      have hle : (names o.path).length ≤ (names y.path).length := by
        have hb : (o.path == sl) = false := by revert hs3; simp [Sm]
        obtain ⟨r, hr, _⟩ := B9a hb h5
        rw [hr]; simp
      have hal := B6z (a := o.to) (b := y.path) (k := (names o.path).length)
      refine ⟨fun _ => ⟨by simp, by simp; omega⟩, ?_⟩
      skip
      refine ⟨fun (r : List AV) hr (c : AV) hc => by
        obtain ⟨s, _, rfl⟩ := List.mem_map.1 (List.mem_of_mem_drop (List.mem_of_mem_take hr))
        simp [A6] at hc
        subst hc
        rfl, ?_⟩
      repeat ((conv => whnf); refine ⟨bb, ?_⟩)
      refine ⟨names o.to ++ (names y.path).drop (names o.path).length, by
        refine C3o ?_
        exact C2c _ _ _ hle, fun _ => by show _ < _; omega, ?_⟩
      repeat ((conv => whnf); refine ⟨(by kernel_rfl : Bw _ _ = true), ?_⟩)
      have hmp : Lw o y = ⟨E8 (names o.to ++ (names y.path).drop (names o.path).length), y.kind, y.data, y.time⟩ := by rw [Lw, if_pos h5]
      (conv => whnf); refine ⟨fun h6 => ?_, fun h6 => ?_⟩
      · have h6 : (E8 (names o.to ++ (names y.path).drop (names o.path).length) == []) = true := h6
        have hr : Ly t o = (t, 1) := by
          rw [hren, if_pos]
          exact List.any_eq_true.2 ⟨y, hym, by rw [stuck, h5, hmp]; exact h6⟩
        skip
        refine ⟨t, rfl, fun _ => hs1, ?_⟩
        rw [show Cn.res (t, o) = .tup [.agg [.own 4 (t.map Ac)], .int .i64 1] by show AV.tup [.agg [.own 4 ((Ly t o).1.map Ac)], .int .i64 (Ly t o).2] = _; rw [hr]]
        skip
        exact ⟨trivial, ⟨⟨rfl, by simp⟩, trivial⟩, rfl, trivial⟩
      have h6 : (E8 (names o.to ++ (names y.path).drop (names o.path).length) == []) = false := h6
      have hst : stuck o y = false := by rw [stuck, h5, hmp]; exact h6
      skip
      refine ⟨(out, ⟨E8 (names o.to ++ (names y.path).drop (names o.path).length), y.kind, y.data, y.time⟩), by refine A54 ?_; simp [rdI], fun _ => hsm, ?_⟩
      repeat ((conv => whnf); refine ⟨_, w64 (bb), ?_⟩)
      refine C2 (i + 1) ?_ ⟨h4, hany hy hst⟩ (by first | omega | (simp; done) | (simp; omega))
      rw [hnext hy, hmp]
      (refine ⟨?_, ?_, rfl⟩ <;> repeat' (first | exact rfl | exact trivial | refine ⟨?_, ?_⟩ | fail) <;> (conv => whnf))
      all_goals simp [Bc]
    have h5 : Jc y.path o.path = false := h5
    have hmv := B9b (o := o) h5
    skip
    refine ⟨(out, y), by refine A54 ?_; simp [rdI], fun _ => hsm, ?_⟩
    repeat ((conv => whnf); refine ⟨_, w64 (bb), ?_⟩)
    refine C2 (i + 1) ?_ ⟨h4, hany hy hmv.2⟩ (by first | omega | (simp; done) | (simp; omega))
    rw [hnext hy, hmv.1]
    (refine ⟨?_, ?_, rfl⟩ <;> repeat' (first | exact rfl | exact trivial | refine ⟨?_, ?_⟩ | fail) <;> (conv => whnf))
    all_goals simp [Bc]
  · have h4 : i = t.length := by
      have : ¬ i < t.length := by simpa using h4
      omega
    subst h4
    rw [List.take_length] at hout hI
    have hr : Ly t o = (out, 0) := by rw [hren, hI, hout]; rfl
    rw [show Cn.res (t, o) = .tup [.agg [.own 4 (out.map Ac)], .int .i64 0] by show AV.tup [.agg [.own 4 ((Ly t o).1.map Ac)], .int .i64 (Ly t o).2] = _; rw [hr]]
    skip
    exact ⟨trivial, ⟨⟨rfl, by simp⟩, trivial⟩, rfl, trivial⟩
theorem Xt : Av Tryz.prog 102 Cn := Ao (Ca _ _) (FOk.cons Fz (FOk.cons T3 (FOk.cons H4 (FOk.cons K4 (FOk.cons My (FOk.cons Jm (FOk.cons Od (FOk.cons Tj FOk.nil)))))))) mixed Tryz.func102 rfl Tryz.call102 (by decide) (by kernel_rfl) Zi (by intro _ (y : (Tr × OpR)) _; exact ⟨by simp [Cn, con, A9, A8, AV.noRd, A7, Ab, A5, A6, Ac, Au], by simp [Cn, con, A9, A8, AV.noRd, A7, Ab, A5, A6, Ac, Au]⟩) (by intro (y : (Tr × OpR)) _; first | (simp [Cn, con, A9, A8, Ad, AV.free, A2, A3, A1, A6, rdT, Ac, Au]; done) | (obtain ⟨_, _⟩ := y; simp [Cn, con, A9, A8, Ad, AV.free, A2, A3, A1, A6, rdT, Ac, Au]; done) | (obtain ⟨_, _, _⟩ := y; simp [Cn, con, A9, A8, Ad, AV.free, A2, A3, A1, A6, rdT, Ac, Au]; done))
end Go.GH


set_option linter.unusedVariables false
set_option linter.unusedSimpArgs false
namespace Go.GH
open Go Go.Proofs
noncomputable def C4 : Bi := con [mS 4, .rd [none, none, none, none, none, none]] false (Tr × OpR) (fun ⟨t, o⟩ => [rdT t, .agg (Au o)]) (fun x => smT x.1 ∧ smO x.2) (fun x => .tup [.agg [.own 4 ((Cl x.1 x.2).1.map Ac)], .int .i64 (Cl x.1 x.2).2])
noncomputable def A69 : Env := ⟨A4 Ba, A4 [(38, Fa), (46, Gc), (54, D3), (75, Cu), (98, Iy), (99, Cm), (100, Cx), (101, Cz), (102, Cn)], [0, 1, 2, 3, 4, 5, 13, 24, 28, 29, 38, 47, 70]⟩
set_option maxRecDepth 100000 in
set_option maxHeartbeats 4000000 in
theorem A5h : Bb A69 (Ax Tryz.f55) Tryz.f55.results.toList C4 := by
  rintro ⟨t, o⟩ hs
  obtain ⟨hs1, hs2⟩ : smT t ∧ smO o := hs
  have ho1 := hs2.1
  have ho2 := hs2.2.1
  refine ⟨trivial, ?_⟩
  skip
  refine ⟨t, rfl, fun _ => hs1, ?_⟩
  repeat ((conv => whnf); refine ⟨fun h => h, ?_⟩)
  refine ⟨o, rfl, fun _ => trivial, ?_⟩
  repeat ((conv => whnf); refine ⟨fun h => h, ?_⟩)
  (conv => whnf); refine ⟨fun h1 => ?_, fun h1 => ?_⟩
  · have h1 : (!Bj t || !Ze o) = true := h1
    have hr : Cl t o = (t, 10) := by rw [Cl, if_pos h1]
    skip
    refine ⟨t, rfl, fun _ => hs1, ?_⟩
    rw [show C4.res (t, o) = .tup [.agg [.own 4 (t.map Ac)], .int .i64 10] by show AV.tup [.agg [.own 4 ((Cl t o).1.map Ac)], .int .i64 (Cl t o).2] = _; rw [hr]]
    skip
    exact ⟨trivial, ⟨⟨rfl, by simp⟩, trivial⟩, rfl, trivial⟩
  have h1 : (!Bj t || !Ze o) = false := h1
  skip
  refine ⟨o.path, rfl, fun _ => by show o.path.length ≤ _; omega, ?_⟩
  repeat ((conv => whnf); refine ⟨fun h => h, ?_⟩)
  (conv => whnf); refine ⟨fun h2 => ?_, fun h2 => ?_⟩
  · have h2 : Sm o.path = true := h2
    have hr : Cl t o = (t, 1) := by rw [Cl, if_neg (by rw [h1]; decide), if_pos h2]
    skip
    refine ⟨t, rfl, fun _ => hs1, ?_⟩
    rw [show C4.res (t, o) = .tup [.agg [.own 4 (t.map Ac)], .int .i64 1] by show AV.tup [.agg [.own 4 ((Cl t o).1.map Ac)], .int .i64 (Cl t o).2] = _; rw [hr]]
    skip
    exact ⟨trivial, ⟨⟨rfl, by simp⟩, trivial⟩, rfl, trivial⟩
  have h2 : Sm o.path = false := h2
  have hd : Cl t o = if o.kind == 0 || o.kind == 1 || o.kind == 2 then H8 t o
    else if o.kind == 3 || o.kind == 4 || o.kind == 5 then Le t o
    else if o.kind == 6 || o.kind == 7 then Is t o
    else if Sm o.to || Jc o.to o.path then (t, 1)
    else Ly t o := by rw [Cl, if_neg (by rw [h1]; decide), if_neg (by rw [h2]; decide)]
  conv => whnf
  (conv => whnf); refine ⟨fun k0 => ?_, fun k0 => ?_⟩
  · have k0 : (o.kind == 0) = true := k0
    have hr : Cl t o = H8 t o := by rw [hd, k0]; rfl
    (conv => whnf); refine ⟨fun _ => ?_, fun h => Bool.noConfusion (Eq.trans (Eq.symm k0) h)⟩
    skip
    refine ⟨(t, o), rfl, fun _ => ⟨hs1, hs2⟩, ?_⟩
    rw [show C4.res (t, o) = .tup [.agg [.own 4 ((H8 t o).1.map Ac)], .int .i64 (H8 t o).2] by show AV.tup [.agg [.own 4 ((Cl t o).1.map Ac)], .int .i64 (Cl t o).2] = _; rw [hr]]
    skip
    exact ⟨trivial, ⟨⟨rfl, by simp⟩, trivial⟩, rfl, trivial⟩
  have k0 : (o.kind == 0) = false := k0
  conv => whnf
  (conv => whnf); refine ⟨fun k1 => ?_, fun k1 => ?_⟩
  · have k1 : (o.kind == 1) = true := k1
    have hr : Cl t o = H8 t o := by rw [hd, k1, k0]; rfl
    (conv => whnf); refine ⟨fun _ => ?_, fun h => Bool.noConfusion (Eq.trans (Eq.symm k1) h)⟩
    skip
    refine ⟨(t, o), rfl, fun _ => ⟨hs1, hs2⟩, ?_⟩
    rw [show C4.res (t, o) = .tup [.agg [.own 4 ((H8 t o).1.map Ac)], .int .i64 (H8 t o).2] by show AV.tup [.agg [.own 4 ((Cl t o).1.map Ac)], .int .i64 (Cl t o).2] = _; rw [hr]]
    skip
    exact ⟨trivial, ⟨⟨rfl, by simp⟩, trivial⟩, rfl, trivial⟩
  have k1 : (o.kind == 1) = false := k1
  conv => whnf
  (conv => whnf); refine ⟨fun k2 => ?_, fun k2 => ?_⟩
  · have k2 : (o.kind == 2) = true := k2
    have hr : Cl t o = H8 t o := by rw [hd, k2, k1, k0]; rfl
    skip
    refine ⟨(t, o), rfl, fun _ => ⟨hs1, hs2⟩, ?_⟩
    rw [show C4.res (t, o) = .tup [.agg [.own 4 ((H8 t o).1.map Ac)], .int .i64 (H8 t o).2] by show AV.tup [.agg [.own 4 ((Cl t o).1.map Ac)], .int .i64 (Cl t o).2] = _; rw [hr]]
    skip
    exact ⟨trivial, ⟨⟨rfl, by simp⟩, trivial⟩, rfl, trivial⟩
  have k2 : (o.kind == 2) = false := k2
  have hd2 := hd
  rw [k0, k1, k2] at hd2
  conv => whnf
  (conv => whnf); refine ⟨fun k3 => ?_, fun k3 => ?_⟩
  · have k3 : (o.kind == 3) = true := k3
    have hr : Cl t o = Le t o := by rw [hd2, k3]; rfl
    (conv => whnf); refine ⟨fun _ => ?_, fun h => Bool.noConfusion (Eq.trans (Eq.symm k3) h)⟩
    skip
    refine ⟨(t, o), rfl, fun _ => ⟨hs1, hs2, h2⟩, ?_⟩
    rw [show C4.res (t, o) = .tup [.agg [.own 4 ((Le t o).1.map Ac)], .int .i64 (Le t o).2] by show AV.tup [.agg [.own 4 ((Cl t o).1.map Ac)], .int .i64 (Cl t o).2] = _; rw [hr]]
    skip
    exact ⟨trivial, ⟨⟨rfl, by simp⟩, trivial⟩, rfl, trivial⟩
  have k3 : (o.kind == 3) = false := k3
  conv => whnf
  (conv => whnf); refine ⟨fun k4 => ?_, fun k4 => ?_⟩
  · have k4 : (o.kind == 4) = true := k4
    have hr : Cl t o = Le t o := by rw [hd2, k4, k3]; rfl
    (conv => whnf); refine ⟨fun _ => ?_, fun h => Bool.noConfusion (Eq.trans (Eq.symm k4) h)⟩
    skip
    refine ⟨(t, o), rfl, fun _ => ⟨hs1, hs2, h2⟩, ?_⟩
    rw [show C4.res (t, o) = .tup [.agg [.own 4 ((Le t o).1.map Ac)], .int .i64 (Le t o).2] by show AV.tup [.agg [.own 4 ((Cl t o).1.map Ac)], .int .i64 (Cl t o).2] = _; rw [hr]]
    skip
    exact ⟨trivial, ⟨⟨rfl, by simp⟩, trivial⟩, rfl, trivial⟩
  have k4 : (o.kind == 4) = false := k4
  conv => whnf
  (conv => whnf); refine ⟨fun k5 => ?_, fun k5 => ?_⟩
  · have k5 : (o.kind == 5) = true := k5
    have hr : Cl t o = Le t o := by rw [hd2, k5, k4, k3]; rfl
    skip
    refine ⟨(t, o), rfl, fun _ => ⟨hs1, hs2, h2⟩, ?_⟩
    rw [show C4.res (t, o) = .tup [.agg [.own 4 ((Le t o).1.map Ac)], .int .i64 (Le t o).2] by show AV.tup [.agg [.own 4 ((Cl t o).1.map Ac)], .int .i64 (Cl t o).2] = _; rw [hr]]
    skip
    exact ⟨trivial, ⟨⟨rfl, by simp⟩, trivial⟩, rfl, trivial⟩
  have k5 : (o.kind == 5) = false := k5
  rw [k3, k4, k5] at hd2
  conv => whnf
  (conv => whnf); refine ⟨fun k6 => ?_, fun k6 => ?_⟩
  · have k6 : (o.kind == 6) = true := k6
    have hr : Cl t o = Is t o := by rw [hd2, k6]; rfl
    (conv => whnf); refine ⟨fun _ => ?_, fun h => Bool.noConfusion (Eq.trans (Eq.symm k6) h)⟩
    skip
    refine ⟨(t, o), rfl, fun _ => ⟨hs1, hs2⟩, ?_⟩
    rw [show C4.res (t, o) = .tup [.agg [.own 4 ((Is t o).1.map Ac)], .int .i64 (Is t o).2] by show AV.tup [.agg [.own 4 ((Cl t o).1.map Ac)], .int .i64 (Cl t o).2] = _; rw [hr]]
    skip
    exact ⟨trivial, ⟨⟨rfl, by simp⟩, trivial⟩, rfl, trivial⟩
  have k6 : (o.kind == 6) = false := k6
  conv => whnf
  (conv => whnf); refine ⟨fun k7 => ?_, fun k7 => ?_⟩
  · have k7 : (o.kind == 7) = true := k7
    have hr : Cl t o = Is t o := by rw [hd2, k7, k6]; rfl
    skip
    refine ⟨(t, o), rfl, fun _ => ⟨hs1, hs2⟩, ?_⟩
    rw [show C4.res (t, o) = .tup [.agg [.own 4 ((Is t o).1.map Ac)], .int .i64 (Is t o).2] by show AV.tup [.agg [.own 4 ((Cl t o).1.map Ac)], .int .i64 (Cl t o).2] = _; rw [hr]]
    skip
    exact ⟨trivial, ⟨⟨rfl, by simp⟩, trivial⟩, rfl, trivial⟩
  have k7 : (o.kind == 7) = false := k7
  rw [k6, k7] at hd2
  have hd2 : Cl t o = if Sm o.to || Jc o.to o.path then (t, 1) else Ly t o := hd2
  skip
  refine ⟨o.to, rfl, fun _ => by show o.to.length ≤ _; omega, ?_⟩
  repeat ((conv => whnf); refine ⟨fun h => h, ?_⟩)
  refine ⟨(o.to, o.path), rfl, fun _ => ⟨by show o.to.length ≤ _; omega, by show o.path.length ≤ _; omega⟩, ?_⟩
  repeat ((conv => whnf); refine ⟨fun h => h, ?_⟩)
  (conv => whnf); refine ⟨fun h3 => ?_, fun h3 => ?_⟩
  · have h3 : (Sm o.to || Jc o.to o.path) = true := h3
    have hr : Cl t o = (t, 1) := by rw [hd2, if_pos h3]
    skip
    refine ⟨t, rfl, fun _ => hs1, ?_⟩
    rw [show C4.res (t, o) = .tup [.agg [.own 4 (t.map Ac)], .int .i64 1] by show AV.tup [.agg [.own 4 ((Cl t o).1.map Ac)], .int .i64 (Cl t o).2] = _; rw [hr]]
    skip
    exact ⟨trivial, ⟨⟨rfl, by simp⟩, trivial⟩, rfl, trivial⟩
  have h3 : (Sm o.to || Jc o.to o.path) = false := h3
  have hr : Cl t o = Ly t o := by rw [hd2, if_neg (by rw [h3]; decide)]
  skip
  refine ⟨(t, o), rfl, fun _ => ⟨hs1, hs2, h2⟩, ?_⟩
  rw [show C4.res (t, o) = .tup [.agg [.own 4 ((Ly t o).1.map Ac)], .int .i64 (Ly t o).2] by show AV.tup [.agg [.own 4 ((Cl t o).1.map Ac)], .int .i64 (Cl t o).2] = _; rw [hr]]
  skip
  exact ⟨trivial, ⟨⟨rfl, by simp⟩, trivial⟩, rfl, trivial⟩
theorem A3l : Av Tryz.prog 55 C4 := Ao (Ca _ _) (FOk.cons Ov (FOk.cons T3 (FOk.cons H4 (FOk.cons Fn (FOk.cons B11 (FOk.cons A42 (FOk.cons Wy (FOk.cons Xs (FOk.cons Xt FOk.nil))))))))) mixed Tryz.func55 rfl Tryz.call55 (by decide) (by kernel_rfl) A5h (by intro _ (y : (Tr × OpR)) _; exact ⟨by simp [C4, con, A9, A8, AV.noRd, A7, Ab, A5, A6, Ac, Au], by simp [C4, con, A9, A8, AV.noRd, A7, Ab, A5, A6, Ac, Au]⟩) (by intro (y : (Tr × OpR)) _; first | (simp [C4, con, A9, A8, Ad, AV.free, A2, A3, A1, A6, rdT, Ac, Au]; done) | (obtain ⟨_, _⟩ := y; simp [C4, con, A9, A8, Ad, AV.free, A2, A3, A1, A6, rdT, Ac, Au]; done) | (obtain ⟨_, _, _⟩ := y; simp [C4, con, A9, A8, Ad, AV.free, A2, A3, A1, A6, rdT, Ac, Au]; done))
end Go.GH


set_option linter.unusedVariables false
set_option linter.unusedSimpArgs false
namespace Go.GH
open Go Go.Proofs
noncomputable def Du : Bi := con [mS 4, mS 6] false (Tr × List OpR) (fun ⟨t, l⟩ => [rdT t, .rd 6 (l.map Au)]) (fun x => smT x.1 ∧ B9q x.2) (fun x => .tup [.agg [.own 4 ((K2 x.1 x.2).1.map Ac)], .own 1 ((K2 x.1 x.2).2.map Ae)])
noncomputable def Yc : Env := ⟨A4 Ba, A4 [(54, D3), (55, C4)], [0, 1, 2, 4, 5, 6, 7, 8, 9, 10, 17]⟩
set_option maxRecDepth 100000 in
set_option maxHeartbeats 4000000 in
theorem Yy : Bb Yc (Ax Tryz.f17) Tryz.f17.results.toList Du := by
  rintro ⟨t, l⟩ hs
  obtain ⟨hs1, hs2⟩ : smT t ∧ B9q l := hs
  have hl1 := hs2.1
  refine ⟨trivial, ?_⟩
  skip
  refine ⟨t, rfl, fun _ => hs1, ?_⟩
  skip
  refine B0 (fun i : Nat => ⟨[(1, ⟨none, .rd 6 (l.map Au)⟩), (4, ⟨none, .bx 1 0⟩), (6, ⟨none, .bx 2 0⟩), (7, ⟨none, .view 3 [] 0 (K2 t (l.take i)).2.length⟩), (8, ⟨none, .int .i64 i⟩)], [(3, .own 1 ((K2 t (l.take i)).2.map Ae)), (2, .own 1 [[.own 4 ((K2 t (l.take i)).1.map Ac)]]), (1, .own 1 [[.own 4 []]])], 4⟩)
    (fun i => i ≤ l.length) (fun i => l.length - i) 0 ?_ (by omega) ?_
  · (refine ⟨?_, ?_, rfl⟩ <;> repeat' (first | exact rfl | exact trivial | refine ⟨?_, ?_⟩ | fail) <;> (conv => whnf))
    all_goals simp [Bc, K2]
  intro i hi
  have hi : i ≤ l.length := hi
  obtain ⟨hsm, hln⟩ := A4g hs1 hs2 i hi
  have hnext : ∀ {o : OpR}, l[i]? = some o → K2 t (l.take (i + 1)) = B12 (K2 t (l.take i)) o := fun h => A4r h
  generalize hout : K2 t (l.take i) = out at hsm hln hnext ⊢
  obtain ⟨out, cs⟩ := out
  have hsm : smT out := hsm
  have hln : cs.length = i := hln
  (conv => whnf); refine ⟨fun h2 => ?_, fun h2 => ?_⟩
  · have h2 : i < l.length := by simpa using h2
    obtain ⟨o, ho⟩ := B8 h2
    have hso := hs2.2 o (List.mem_of_getElem? ho)
    repeat ((conv => whnf); refine ⟨Au o, fun _ => ⟨by omega, Am ho⟩, ?_⟩)
    refine ⟨(out, o), by refine congrArg (fun x => [AV.agg [AV.rd 4 x], AV.agg (Au o)]) ?_; simp [rdI], fun _ => ⟨hsm, hso⟩, ?_⟩
    repeat ((conv => whnf); first | refine ⟨(by kernel_rfl : Bw _ _ = true), ?_⟩ | refine ⟨_, w64 (bb), ?_⟩ | refine ⟨bb, ?_⟩ | refine ⟨fun (r : List AV) hr c hc => by simp [A6] at hr; (try subst hr); simp at hc; (try subst hc); rfl, ?_⟩)
    refine C2 (i + 1) ?_ h2 (by first | omega | (simp; done) | (simp; omega))
    rw [hnext ho]
    (refine ⟨?_, ?_, rfl⟩ <;> repeat' (first | exact rfl | exact trivial | refine ⟨?_, ?_⟩ | fail) <;> (conv => whnf))
    · show _ + 1 = (cs ++ [_]).length
      simp
    · show _ ++ _ = (cs ++ [(Cl out o).2]).map Ae
      simp [Ae]
    · show [[AV.own 4 _]] = [[AV.own 4 ((Cl out o).1.map Ac)]]
      simp
  · have h2 : i = l.length := by
      have : ¬ i < l.length := by simpa using h2
      omega
    subst h2
    rw [List.take_length] at hout
    rw [show Du.res (t, l) = .tup [.agg [.own 4 (out.map Ac)], .own 1 (cs.map Ae)] by show AV.tup [.agg [.own 4 ((K2 t l).1.map Ac)], .own 1 ((K2 t l).2.map Ae)] = _; rw [hout]]
    skip
    exact ⟨trivial, ⟨⟨rfl, by simp⟩, trivial⟩, Qm (by (try simp only [List.drop_zero, List.take_length, Ql]); simp), trivial⟩
theorem X6 : Av Tryz.prog 17 Du := Ao (Ca _ _) (FOk.cons H4 (FOk.cons A3l FOk.nil)) mixed Tryz.func17 rfl Tryz.call17 (by decide) (by kernel_rfl) Yy (by intro _ (y : (Tr × List OpR)) _; exact ⟨by simp [Du, con, A9, A8, AV.noRd, A7, Ab, A5, A6, Ac, Au, Ae], by simp [Du, con, A9, A8, AV.noRd, A7, Ab, A5, A6, Ac, Au, Ae]⟩) (by intro (y : (Tr × List OpR)) _; first | (simp [Du, con, A9, A8, Ad, AV.free, A2, A3, A1, A6, rdT, Ac, Au, Ae]; done) | (obtain ⟨_, _⟩ := y; simp [Du, con, A9, A8, Ad, AV.free, A2, A3, A1, A6, rdT, Ac, Au, Ae]; done) | (obtain ⟨_, _, _⟩ := y; simp [Du, con, A9, A8, Ad, AV.free, A2, A3, A1, A6, rdT, Ac, Au, Ae]; done))
end Go.GH


set_option linter.unusedVariables false
set_option linter.unusedSimpArgs false
namespace Go.GH
open Go
theorem C0d {t : Tr} {p : Str} {x : It} (h : Al t p = some x) (hk : (p == sl) = false) : x ∈ t ∧ x.path = p := by
  rw [Lg hk] at h
  exact ⟨List.mem_of_find?_eq_some h, by simpa using List.find?_some h⟩
end Go.GH
namespace Go.GH
def B96 (a b : Tr) (i : Nat) : Bool := match a[i]? with
  | none => false
  | some x => match b[i]? with
    | none => false
    | some y => B8w x y
def Tp (a b : Tr) : Bool := decide (a.length = b.length) && (List.range a.length).all (B96 a b)
end Go.GH


set_option linter.unusedVariables false
set_option linter.unusedSimpArgs false
namespace Go.GH
open Go
theorem B80 {t : Tr} {l : List OpR} (ht : smT t) (hl : B9q l) : smT (K2 t l).1 ∧ (K2 t l).2.length = l.length := by
  have := A4g ht hl l.length (Nat.le_refl _)
  rw [List.take_length] at this
  exact this
end Go.GH


set_option linter.unusedVariables false
set_option linter.unusedSimpArgs false
namespace Go.GH
open Go
end Go.GH


set_option linter.unusedVariables false
set_option linter.unusedSimpArgs false
namespace Go.GH
open Go
def C22 (A : Cur × Tr) : Tr × Tr := if C0 A.1 2 = 0 then (A.2, (K2 A.2 (Ls 4 (Ak A.1 2) []).1).1) else (A.2, (Da (Ak A.1 2)).2)
def Zk (c : Cur) : Tr × Tr := C22 (Da c)
theorem B7j (c : Cur) : B9q (Ls 4 c []).1 := by
  have h1 := A99 4 c []
  have h2 := B4e 4 c (l := []) fun o ho => (by cases ho)
  refine ⟨by rw [h1]; decide, fun o ho => ?_⟩
  have := h2 o ho
  exact ⟨Nat.le_trans this.1 (by decide), Nat.le_trans this.2.1 (by decide), Nat.le_trans this.2.2 (by decide)⟩
theorem C1w {A : Cur × Tr} (hc : D5 A.1) (h : smT A.2) : smT (C22 A).1 ∧ smT (C22 A).2 := by
  have h2 := Xm (Be (n := 2) hc)
  have h3 := B80 h (B7j (Ak A.1 2))
  unfold C22
  by_cases e : C0 A.1 2 = 0
  · rw [if_pos e]; exact ⟨h, h3.1⟩
  · rw [if_neg e]; exact ⟨h, h2.2.1⟩
theorem C1v {c : Cur} (h : D5 c) : smT (Zk c).1 ∧ smT (Zk c).2 := C1w (Xm h).1 (Xm h).2.1
theorem C0z {a b : Tr} (h : (C8 a b).2 = false) : (C8 a b).1 = [] := by
  unfold C8 at h ⊢
  split
  · rename_i h1; rw [if_pos h1] at h; cases h
  · rfl
theorem C2z {a b : Tr} (h : (C8 a b).2 = true) : Bj a = true ∧ Bj (C8 a b).1 = true ∧ (∀ x, x ∈ a → Al (C8 a b).1 x.path = some x) ∧
    (∀ y, y ∈ b → ∃ z, Al (C8 a b).1 y.path = some z ∧ ((Al a y.path).isSome = false → z = y)) ∧ (C8 a b).1.length ≤ a.length + b.length := by
  unfold C8 at h ⊢
  split
  · rename_i h1
    simp only [Bool.and_eq_true] at h1
    obtain ⟨⟨ha, hb⟩, hm⟩ := h1
    obtain ⟨_, h2⟩ := Tm (a := a) (l := b) (Mq ha) (A1p (Mq hb)) fun y hy h => B54 hb hy h
    have hmem : ∀ x, x ∈ Rm a b ↔ x ∈ a ++ b.filter fun y => !inT a y := fun x => h2.mem_iff
    refine ⟨ha, hm, fun x hx => Pp hm ((hmem x).2 (List.mem_append.2 (.inl hx))), fun y hy => ?_, ?_⟩
    · cases hq : inT a y with
      | false =>
        exact ⟨y, Pp hm ((hmem y).2 (List.mem_append.2 (.inr (List.mem_filter.2 ⟨hy, by rw [hq]; rfl⟩)))), fun _ => rfl⟩
      | true =>
        obtain ⟨z, hz⟩ := Option.isSome_iff_exists.1 hq
        obtain ⟨hz1, hz2⟩ := C0d hz (V4 (N9 hb hy))
        refine ⟨z, ?_, fun hn => ?_⟩
        · rw [← hz2]; exact Pp hm ((hmem z).2 (List.mem_append.2 (.inl hz1)))
        · rw [inT, hn] at hq; cases hq
    · have h3 := h2.length_eq
      rw [List.length_append] at h3
      have := List.length_filter_le (fun y => !inT a y) b
      show (Rm a b).length ≤ _
      unfold Rm
      omega
  · rename_i h1; rw [if_neg h1] at h; cases h
theorem B5l {a : Tr} (ha : Bj a = true) : C8 a a = (a, true) := by
  have key : ∀ (l out : Tr), (∀ y, y ∈ l → inT a y = true) → l.foldl (D8 a) out = out := by
    intro l
    induction l with
    | nil => intro out _; rfl
    | cons y l ih =>
      intro out h
      rw [List.foldl_cons, show D8 a out y = out by rw [D8, h y (by simp), if_pos rfl]]
      exact ih out fun z hz => h z (by simp [hz])
  have hs : Rm a a = a := key a a fun y hy => by rw [inT, Pp ha hy]; rfl
  rw [C8, hs, ha]; rfl
theorem B7v (a : Tr) : Tp a a = true := by
  rw [Tp, List.all_eq_true.2 fun i hi => ?_]
  · simp
  · have hi := List.mem_range.1 hi
    rw [B96, List.getElem?_eq_getElem hi]
    exact B8c _
end Go.GH


set_option linter.unusedVariables false
set_option linter.unusedSimpArgs false
namespace Go.GH
open Go Go.Proofs
noncomputable def E0 : Bi := con [mS 4, mS 4] true (Tr × Tr) (fun ⟨a, b⟩ => [.rd 4 (a.map Ac), .rd 4 (b.map Ac)]) (fun x => x.1.length ≤ 4611686018427387904 ∧ x.2.length ≤ 4611686018427387904) (fun ⟨a, b⟩ => .bool (Tp a b))
noncomputable def Vb : Env := ⟨A4 Ba, A4 [], [0, 1, 4, 5, 10, 12, 13, 14, 24]⟩
set_option maxRecDepth 100000 in
set_option maxHeartbeats 4000000 in
theorem Vc : Bb Vb (Ax Tryz.f70) Tryz.f70.results.toList E0 := by
  rintro ⟨a, b⟩ hx
  obtain ⟨ha, hb⟩ : a.length ≤ 4611686018427387904 ∧ b.length ≤ 4611686018427387904 := hx
  refine ⟨trivial, ?_⟩
  skip
  (conv => whnf); refine ⟨fun h1 => ?_, fun h1 => ?_⟩
  · have h1 : a.length ≠ b.length := by simp at h1; omega
    skip
    exact ⟨trivial, eqB (by show false = Tp a b; rw [Tp]; simp [h1])⟩
  have h1 : a.length = b.length := by simp at h1; omega
  have hst : Tp a b = (List.range a.length).all (B96 a b) := by rw [Tp, h1]; simp
  skip
  refine B0 (fun i : Nat => ⟨[(0, ⟨none, .rd 4 (a.map Ac)⟩), (1, ⟨none, .rd 4 (b.map Ac)⟩), (12, ⟨none, .int .i64 a.length⟩), (13, ⟨none, .int .i64 i⟩)], [], 0⟩) (fun i => i ≤ a.length ∧ ∀ j, j < i → B96 a b j = true) (fun i => a.length - i) 0 ?_ ⟨Nat.zero_le _, fun j hj => absurd hj (Nat.not_lt_zero _)⟩ ?_
  · (refine ⟨?_, ?_, rfl⟩ <;> repeat' (first | exact rfl | exact trivial | refine ⟨?_, ?_⟩ | fail) <;> (conv => whnf))
    all_goals simp
  rintro i ⟨hi, hI⟩
  (conv => whnf); refine ⟨fun h2 => ?_, fun h2 => ?_⟩
  · have h2 : i < a.length := by have h2 : decide ((i : Int) < (a.length : Nat)) = true := h2
                                 simp at h2; omega
    obtain ⟨x, hx⟩ := B8 h2
    obtain ⟨y, hy⟩ := B8 (l := b) (i := i) (by omega)
    have he : B96 a b i = B8w x y := by rw [B96, hx, hy]
    repeat ((conv => whnf); first | refine ⟨(by kernel_rfl : Bw _ _ = true), ?_⟩ | refine ⟨Ac x, fun _ => ⟨by omega, Am hx⟩, ?_⟩ | refine ⟨Ac y, fun _ => ⟨by omega, Am hy⟩, ?_⟩)
    have e : (x.path == y.path && (x.kind == y.kind && (x.data == y.data && (x.time == y.time && true)))) = B8w x y := by simp [B8w, Bool.and_assoc]
    (conv => whnf); refine ⟨fun h3 => ?_, fun h3 => ?_⟩
    · have h3 : (!(x.path == y.path && (x.kind == y.kind && (x.data == y.data && (x.time == y.time && true))))) = true := h3
      rw [e] at h3
      skip
      refine ⟨trivial, eqB ?_⟩
      show false = Tp a b
      rw [hst, Uy (List.mem_range.2 h2) (by rw [he]; simpa using h3)]
    have h3 : (!(x.path == y.path && (x.kind == y.kind && (x.data == y.data && (x.time == y.time && true))))) = false := h3
    rw [e] at h3
    repeat ((conv => whnf); refine ⟨_, w64 (bb), ?_⟩)
    refine C2 (i + 1) ?_ ⟨h2, fun j hj => ?_⟩ (by first | omega | (simp; done) | (simp; omega))
    · (refine ⟨?_, ?_, rfl⟩ <;> repeat' (first | exact rfl | exact trivial | refine ⟨?_, ?_⟩ | fail) <;> (conv => whnf))
    · rcases Nat.lt_or_ge j i with h | h
      · exact hI j h
      · rw [show j = i by omega, he]; simpa using h3
  have h2 : i = a.length := by have h2 : decide ((i : Int) < (a.length : Nat)) = false := h2
                               simp at h2; omega
  subst h2
  skip
  exact ⟨trivial, eqB (by show true = Tp a b; rw [hst, List.all_eq_true.2 fun j hj => hI j (List.mem_range.1 hj)])⟩
theorem So : Av Tryz.prog 70 E0 := Ao (Ca _ _) FOk.nil mixed Tryz.func70 rfl Tryz.call70 (by decide) (by kernel_rfl) Vc (by intro _ (y : (Tr × Tr)) _; exact ⟨by simp [E0, con, A9, A8, AV.noRd, A7, Ab, A5, A6, Ae, Ag, B4, Ac, Au], by simp [E0, con, A9, A8, AV.noRd, A7, Ab, A5, A6, Ae, Ag, B4, Ac, Au]⟩) (by intro (y : (Tr × Tr)) _; first | (simp [E0, con, A9, A8, Ad, AV.free, A2, A3, A1, A6, Ac, Au, Ae, Ag, B4]; done) | (obtain ⟨_, _⟩ := y; simp [E0, con, A9, A8, Ad, AV.free, A2, A3, A1, A6, Ac, Au, Ae, Ag, B4]; done) | (obtain ⟨_, _, _⟩ := y; simp [E0, con, A9, A8, Ad, AV.free, A2, A3, A1, A6, Ac, Au, Ae, Ag, B4]; done))
noncomputable def Fw : Bi := con [mS 4, mS 4] true (Tr × Tr) (fun ⟨a, b⟩ => [rdT a, rdT b]) (fun x => smT x.1 ∧ smT x.2) (fun ⟨a, b⟩ => .bool (Tp a b))
noncomputable def A1a : Env := ⟨A4 Ba, A4 [(70, E0)], [0, 1, 2, 3, 4]⟩
set_option maxRecDepth 100000 in
set_option maxHeartbeats 4000000 in
theorem A0o : Bb A1a (Ax Tryz.f33) Tryz.f33.results.toList Fw := by
  rintro ⟨a, b⟩ hx
  obtain ⟨ha, hb⟩ : smT a ∧ smT b := hx
  have hal := ha.1
  have hbl := hb.1
  refine ⟨trivial, ?_⟩
  skip
  refine ⟨(a, b), by (repeat' (first | refine Bu ?_ ?_ | refine Bz ?_ | refine Bq ?_ | refine Bx ?_ | exact rfl)) <;> simp [rdI, rdO, rdE, rdB, rdN, rdS, rdD, rdW, tkM], fun _ => ⟨by show a.length ≤ _; omega, by show b.length ≤ _; omega⟩, ?_⟩
  skip
  exact ⟨trivial, rfl⟩
theorem Z5 : Av Tryz.prog 33 Fw := Ao (Ca _ _) (FOk.cons So FOk.nil) mixed Tryz.func33 rfl Tryz.call33 (by decide) (by kernel_rfl) A0o (by intro _ (y : (Tr × Tr)) _; exact ⟨by simp [Fw, con, A9, A8, AV.noRd, A7, Ab, A5, A6, Ae, Ag, B4, Ac, Au], by simp [Fw, con, A9, A8, AV.noRd, A7, Ab, A5, A6, Ae, Ag, B4, Ac, Au]⟩) (by intro (y : (Tr × Tr)) _; first | (simp [Fw, con, A9, A8, Ad, AV.free, A2, A3, A1, A6, rdT, Ac, Au, Ae, Ag, B4]; done) | (obtain ⟨_, _⟩ := y; simp [Fw, con, A9, A8, Ad, AV.free, A2, A3, A1, A6, rdT, Ac, Au, Ae, Ag, B4]; done) | (obtain ⟨_, _, _⟩ := y; simp [Fw, con, A9, A8, Ad, AV.free, A2, A3, A1, A6, rdT, Ac, Au, Ae, Ag, B4]; done))
noncomputable def Py : Bi := { Du with sh := true, res := fun ((t, l) : Tr × List OpR) => .tup [.agg [.rd 4 ((K2 t l).1.map Ac)], .rd 1 ((K2 t l).2.map Ae)] }
theorem Wa : Av Tryz.prog 17 Py := J6 _ X6 (fun _ => rfl) rfl (fun (t, l) _ => ⟨rfl, by show 2 ≤ 16; omega, by simp only [Du, con, frz, M6, List.map_cons, List.map_nil, Mj, rdI, rdN]⟩)
noncomputable def Ds : Bi := A8 true [.mp, mC] (Cur × Nat) (fun ⟨c, n⟩ => [.own 3 [B4 c], .int .i64 n]) (fun x => D5 x.1 ∧ x.2 ≤ 1000) (fun ⟨c, n⟩ => .own 6 ((Ls n c []).1.map Au)) (fun ⟨c, n⟩ => [.own 3 [B4 (Ls n c []).2]])
noncomputable def A6h : Env := ⟨A4 Ba, A4 [(146, F0)], [0, 1, 4, 5, 6, 10]⟩
set_option maxRecDepth 100000 in
set_option maxHeartbeats 4000000 in
theorem A73 : Bb A6h (Ax Tryz.f112) Tryz.f112.results.toList Ds := by
  rintro ⟨c, n⟩ hc
  obtain ⟨hc, hn⟩ : D5 c ∧ n ≤ 1000 := hc
  refine ⟨⟨⟨_, _, _, rfl, rfl, by simp⟩, trivial⟩, ?_⟩
  skip
  refine B0 (fun ((i, c', l) : Nat × Cur × List OpR) => ⟨[(0, ⟨none, .bx 0 0⟩), (1, ⟨none, .int .i64 n⟩), (5, ⟨none, .view 1 [] 0 l.length⟩), (6, ⟨none, .int .i64 i⟩)], [(0, .own 3 [B4 c']), (1, .own 6 (l.map Au))], 2⟩)
    (fun (i, c', l) => i ≤ n ∧ D5 c' ∧ l.length = i ∧ Ls (n - i) c' l = Ls n c []) (fun x => n - x.1) (0, c, []) ?_ ⟨by omega, hc, rfl, by rw [Nat.sub_zero]⟩ ?_
  · (refine ⟨?_, ?_, rfl⟩ <;> repeat' (first | exact rfl | exact trivial | refine ⟨?_, ?_⟩ | fail) <;> (conv => whnf))
  rintro ⟨i, c', l⟩ ⟨hi, hc', hl, hI⟩
  (conv => whnf); refine ⟨fun h1 => ?_, fun h1 => ?_⟩
  · have h1 : i < n := by simpa using h1
    obtain ⟨m, hm⟩ : ∃ m, n - i = m + 1 := ⟨n - i - 1, by omega⟩
    have hm2 : n - (i + 1) = m := by omega
    rw [hm, Ls] at hI
    skip
    refine ⟨c', rfl, fun _ => hc', ?_⟩
    repeat ((conv => whnf); first | refine ⟨_, w64 (bb), ?_⟩ | refine ⟨bb, ?_⟩ | refine ⟨Vl (by rfl), ?_⟩)
    refine C2 (i + 1, opN c', l ++ [opX c']) ?_ ⟨h1, C3i hc', by simp [hl], by rw [hm2]; exact hI⟩ (by show n - (i + 1) < n - i; omega)
    (refine ⟨?_, ?_, rfl⟩ <;> repeat' (first | exact rfl | exact trivial | refine ⟨?_, ?_⟩ | fail) <;> (conv => whnf))
    all_goals simp [Au]
  · have h1 : i = n := by
      have : ¬ i < n := by simpa using h1
      omega
    subst h1
    rw [Nat.sub_self, Ls] at hI
    skip
    refine ⟨⟨by show some _ = some (AV.own 3 [B4 (Ls i c []).2]); rw [← hI], trivial⟩, ?_⟩
    show Ud _ (AV.own 6 ((Ls i c []).1.map Au))
    rw [← hI]
    exact Qm (by (try simp only [List.drop_zero, List.take_length, Ql]); simp)
theorem A21 : Av Tryz.prog 112 Ds := Dd (Ca _ _) (FOk.cons A6w FOk.nil) mixed Tryz.func112 rfl Tryz.call112 (by decide) (by kernel_rfl) A73 (fun h => by cases h) (by intro (y : (Cur × Nat)) _; first | exact ⟨by simp [Ds, con, A9, A8, Ad, AV.free, A2, A3, A1, A6, Ac, Au, Ae, Ag, B4], by simp [Ds, con, A9, A8, Ad, AV.free, A2, A3, A1, A6, Ac, Au, Ae, Ag, B4]⟩ | (obtain ⟨_, _⟩ := y; exact ⟨by simp [Ds, con, A9, A8, Ad, AV.free, A2, A3, A1, A6, Ac, Au, Ae, Ag, B4], by simp [Ds, con, A9, A8, Ad, AV.free, A2, A3, A1, A6, Ac, Au, Ae, Ag, B4]⟩) | (obtain ⟨_, _, _⟩ := y; exact ⟨by simp [Ds, con, A9, A8, Ad, AV.free, A2, A3, A1, A6, Ac, Au, Ae, Ag, B4], by simp [Ds, con, A9, A8, Ad, AV.free, A2, A3, A1, A6, Ac, Au, Ae, Ag, B4]⟩)) (by intro (y : (Cur × Nat)) _; first | (simp [Ds, con, A9, A8, Ad, AV.free, A2, A3, A1, A6, Ac, Au, Ae, Ag, B4]; done) | (obtain ⟨_, _⟩ := y; simp [Ds, con, A9, A8, Ad, AV.free, A2, A3, A1, A6, Ac, Au, Ae, Ag, B4]; done) | (obtain ⟨_, _, _⟩ := y; simp [Ds, con, A9, A8, Ad, AV.free, A2, A3, A1, A6, Ac, Au, Ae, Ag, B4]; done))
noncomputable def T7 : Bi := { Ds with sh := true, res := fun ((c, n) : Cur × Nat) => .rd 6 ((Ls n c []).1.map Au) }
theorem A1f : Av Tryz.prog 112 T7 := Zs _ A21 rfl (fun (c, n) _ => ⟨rfl, by show 1 ≤ 16; omega, by simp only [Ds, A8, frz, M6, Mj, rdO]⟩)
noncomputable def Dl : Bi := A8 true [mS 1] Str (fun s => [.rd 1 (s.map Ag)]) (fun s => s.length ≤ 1048576) (fun s => .tup [.agg [.rd 4 ((Zk (K9 s)).1.map Ac)], .agg [.rd 4 ((Zk (K9 s)).2.map Ac)]]) (fun _ => [])
noncomputable def A5v : Env := ⟨A4 Ba, A4 [(17, Py), (39, Ja), (40, Se), (41, Dj), (112, T7)], [0, 2, 3, 4, 5, 6, 13]⟩
set_option maxRecDepth 100000 in
set_option maxHeartbeats 4000000 in
theorem A8a : Bb A5v (Ax Tryz.f65) Tryz.f65.results.toList Dl := by
  intro (s : Str) (hs : s.length ≤ 1048576)
  refine ⟨trivial, ?_⟩
  have hc0 := B7g hs
  conv => whnf
  refine ⟨s, rfl, fun _ => hs, ?_⟩
  skip
  refine ⟨K9 s, rfl, fun _ => hc0, ?_⟩
  obtain ⟨hk, hsm, hle⟩ := Xm hc0
  have hk2 : D5 (Ak (Da (K9 s)).1 2) := Be hk
  have hdef : Zk (K9 s) = if C0 (Da (K9 s)).1 2 = 0 then ((Da (K9 s)).2, (K2 (Da (K9 s)).2 (Ls 4 (Ak (Da (K9 s)).1 2) []).1).1) else ((Da (K9 s)).2, (Da (Ak (Da (K9 s)).1 2)).2) := rfl
  skip
  refine ⟨((Da (K9 s)).1, 2), rfl, fun _ => hk, ?_⟩
  skip
  (conv => whnf); refine ⟨fun g0 => ?_, fun g0 => ?_⟩
  · have g1 : C0 (Da (K9 s)).1 2 = 0 := by
      have g0 : (C0 (Da (K9 s)).1 2 == 0) = true := g0
      simpa using g0
    rw [if_pos g1] at hdef
    skip
    refine ⟨(Ak (Da (K9 s)).1 2, 4), rfl, fun _ => ⟨hk2, by show 4 ≤ 1000; omega⟩, ?_⟩
    skip
    refine ⟨((Da (K9 s)).2, (Ls 4 (Ak (Da (K9 s)).1 2) []).1), by (repeat' (first | refine Bu ?_ ?_ | refine Bz ?_ | refine Bq ?_ | refine Bx ?_ | exact rfl)) <;> simp [rdI, rdO, rdE, rdB, rdN, rdS, rdD, rdW, tkM], fun _ => ⟨hsm, B7j _⟩, ?_⟩
    repeat ((conv => whnf); refine ⟨(by kernel_rfl : Bw _ _ = true), ?_⟩)
    rw [show Dl.res s = .tup [.agg [.rd 4 ((Da (K9 s)).2.map Ac)], .agg [.rd 4 ((K2 (Da (K9 s)).2 (Ls 4 (Ak (Da (K9 s)).1 2) []).1).1.map Ac)]] by
      show AV.tup [.agg [.rd 4 ((Zk (K9 s)).1.map Ac)], .agg [.rd 4 ((Zk (K9 s)).2.map Ac)]] = _
      rw [hdef]]
    exact ⟨trivial, ⟨rfl, trivial⟩, ⟨rfl, trivial⟩, trivial⟩
  have g1 : ¬ C0 (Da (K9 s)).1 2 = 0 := by
    have g0 : (C0 (Da (K9 s)).1 2 == 0) = false := g0
    simpa using g0
  rw [if_neg g1] at hdef
  skip
  refine ⟨Ak (Da (K9 s)).1 2, rfl, fun _ => hk2, ?_⟩
  repeat ((conv => whnf); refine ⟨(by kernel_rfl : Bw _ _ = true), ?_⟩)
  rw [show Dl.res s = .tup [.agg [.rd 4 ((Da (K9 s)).2.map Ac)], .agg [.rd 4 ((Da (Ak (Da (K9 s)).1 2)).2.map Ac)]] by
    show AV.tup [.agg [.rd 4 ((Zk (K9 s)).1.map Ac)], .agg [.rd 4 ((Zk (K9 s)).2.map Ac)]] = _
    rw [hdef]]
  exact ⟨trivial, ⟨rfl, trivial⟩, ⟨rfl, trivial⟩, trivial⟩
theorem A20 : Av Tryz.prog 65 Dl := Dd (Ca _ _) (FOk.cons Wa (FOk.cons A5l (FOk.cons Zh (FOk.cons Og (FOk.cons A1f FOk.nil))))) mixed Tryz.func65 rfl Tryz.call65 (by decide) (by kernel_rfl) A8a (fun h => by cases h) (by intro (y : Str) _; first | exact ⟨by simp [Dl, con, A9, A8, Ad, AV.free, A2, A3, A1, A6, Ac, Au, Ae, Ag, B4], by simp [Dl, con, A9, A8, Ad, AV.free, A2, A3, A1, A6, Ac, Au, Ae, Ag, B4]⟩ | (obtain ⟨_, _⟩ := y; exact ⟨by simp [Dl, con, A9, A8, Ad, AV.free, A2, A3, A1, A6, Ac, Au, Ae, Ag, B4], by simp [Dl, con, A9, A8, Ad, AV.free, A2, A3, A1, A6, Ac, Au, Ae, Ag, B4]⟩) | (obtain ⟨_, _, _⟩ := y; exact ⟨by simp [Dl, con, A9, A8, Ad, AV.free, A2, A3, A1, A6, Ac, Au, Ae, Ag, B4], by simp [Dl, con, A9, A8, Ad, AV.free, A2, A3, A1, A6, Ac, Au, Ae, Ag, B4]⟩)) (by intro (y : Str) _; first | (simp [Dl, con, A9, A8, Ad, AV.free, A2, A3, A1, A6, Ac, Au, Ae, Ag, B4]; done) | (obtain ⟨_, _⟩ := y; simp [Dl, con, A9, A8, Ad, AV.free, A2, A3, A1, A6, Ac, Au, Ae, Ag, B4]; done) | (obtain ⟨_, _, _⟩ := y; simp [Dl, con, A9, A8, Ad, AV.free, A2, A3, A1, A6, Ac, Au, Ae, Ag, B4]; done))
noncomputable def Cy : Bi := A8 true [mS 1] Str (fun s => [.rd 1 (s.map Ag)]) (fun s => s.length ≤ 1048576) (fun s => .tup [.agg [.rd 4 ((Zk (K9 s)).1.map Ac)], .agg [.rd 4 ((Zk (K9 s)).2.map Ac)]]) (fun _ => [])
noncomputable def Zb : Env := ⟨A4 Ba, A4 [(65, Dl)], [0, 2, 3]⟩
set_option maxRecDepth 100000 in
set_option maxHeartbeats 4000000 in
theorem Y7 : Bb Zb (Ax Tryz.f29) Tryz.f29.results.toList Cy := by
  intro (s : Str) (hs : s.length ≤ 1048576)
  refine ⟨trivial, ?_⟩
  skip
  refine ⟨s, rfl, fun _ => hs, ?_⟩
  skip
  exact ⟨trivial, ⟨rfl, trivial⟩, ⟨rfl, trivial⟩, trivial⟩
theorem Xn : Av Tryz.prog 29 Cy := Dd (Ca _ _) (FOk.cons A20 FOk.nil) mixed Tryz.func29 rfl Tryz.call29 (by decide) (by kernel_rfl) Y7 (fun h => by cases h) (by intro (y : Str) _; first | exact ⟨by simp [Cy, con, A9, A8, Ad, AV.free, A2, A3, A1, A6, Ac, Au, Ae, Ag, B4], by simp [Cy, con, A9, A8, Ad, AV.free, A2, A3, A1, A6, Ac, Au, Ae, Ag, B4]⟩ | (obtain ⟨_, _⟩ := y; exact ⟨by simp [Cy, con, A9, A8, Ad, AV.free, A2, A3, A1, A6, Ac, Au, Ae, Ag, B4], by simp [Cy, con, A9, A8, Ad, AV.free, A2, A3, A1, A6, Ac, Au, Ae, Ag, B4]⟩) | (obtain ⟨_, _, _⟩ := y; exact ⟨by simp [Cy, con, A9, A8, Ad, AV.free, A2, A3, A1, A6, Ac, Au, Ae, Ag, B4], by simp [Cy, con, A9, A8, Ad, AV.free, A2, A3, A1, A6, Ac, Au, Ae, Ag, B4]⟩)) (by intro (y : Str) _; first | (simp [Cy, con, A9, A8, Ad, AV.free, A2, A3, A1, A6, Ac, Au, Ae, Ag, B4]; done) | (obtain ⟨_, _⟩ := y; simp [Cy, con, A9, A8, Ad, AV.free, A2, A3, A1, A6, Ac, Au, Ae, Ag, B4]; done) | (obtain ⟨_, _, _⟩ := y; simp [Cy, con, A9, A8, Ad, AV.free, A2, A3, A1, A6, Ac, Au, Ae, Ag, B4]; done))
end Go.GH


