import Derived.Test.YtpbpaijjpglmlaaGreatSB
set_option linter.unusedVariables false
set_option linter.unusedSimpArgs false
set_option linter.unusedSimpArgs false
namespace Go.GH
open Go Go.Proofs
noncomputable def Cr : Bp := A8 true [.rd [some 5, some 1], mC, mC, mC] (Fs × Nat × En) (fun ⟨f, i, e⟩ => [.agg (Al f), .int .i64 i, .str e.name, .int .i64 e.node]) (fun x => Wk x.1 ∧ x.2.1 < x.1.nodes.length ∧ x.2.2.name.length ≤ 1048576) (fun ⟨f, i, e⟩ => .tup [.agg (Al (enter f i e).1), .bool (enter f i e).2]) (fun _ => [])
noncomputable def Yv : Env := ⟨A4 Bc, A4 [(160, Dj), (171, J4), (193, Ej), (205, Eu)], [0, 1, 2, 3, 4, 8, 9, 10, 12, 13, 28]⟩
set_option maxRecDepth 100000 in
set_option maxHeartbeats 4000000 in
theorem Z6 : Bd Yv (Az Tryz.f190) Tryz.f190.results.toList Cr := by
  rintro ⟨f, i, e⟩ hx
  obtain ⟨hw, hi, hn⟩ : Wk f ∧ i < f.nodes.length ∧ e.name.length ≤ 1048576 := hx
  have hsm := hw.sm
  have hnn := hw.nn
  have hr := hw.read i
  obtain ⟨d1, d2, d3⟩ := A93 f i
  have hdl : Ff f i = (H4 f i).getD [] := rfl
  have hae : smE (Ff f i) ∧ e.name.length ≤ 1048576 := ⟨⟨by omega, by omega, fun x hx => by have := d2 x hx; omega⟩, hn⟩
  obtain ⟨a1, a2, a3⟩ : (Gl (Ff f i) e).1.length ≤ 1099511627 ∧ szE (Gl (Ff f i) e).1 ≤ 4398046511104 ∧ ∀ x, x ∈ (Gl (Ff f i) e).1 → x.name.length ≤ 8388608 := by
    unfold Gl
    split
    · have h1 := A1z (Ff f i) e
      have h2 := A6w (Ff f i) e
      refine ⟨by simp only; omega, by simp only; omega, fun x hx => ?_⟩
      rcases A2v hx with rfl | h
      · omega
      · have := d2 x h; omega
    · exact ⟨by simp only; omega, by simp only; omega, fun x hx => by have := d2 x hx; omega⟩
  refine ⟨trivial, ?_⟩
  have fin : ∀ {r : Fs × Bool}, r = enter f i e → Cr.res (f, i, e) = .tup [.agg (Al r.1), .bool r.2] := fun h => by rw [h]; rfl
  skip
  refine ⟨(f, i), by (repeat' (first | refine Bn ?_ ?_ | refine Bu ?_ | refine Bh ?_ | refine Bs ?_ | exact rfl)) <;> simp [rdI, rdO, rdE, rdB, rdN, rdS, rdD, rdW, tkM], fun _ => ⟨hsm, hw.inr, hi, by show (I0 f i).length ≤ _; omega⟩, ?_⟩
  skip
  refine ⟨(Ff f i, e), by rw [hdl]; exact by (repeat' (first | refine Bn ?_ ?_ | refine Bu ?_ | refine Bh ?_ | refine Bs ?_ | exact rfl)) <;> simp [rdI, rdO, rdE, rdB, rdN, rdS, rdD, rdW, tkM], fun _ => hae, ?_⟩
  skip
  (conv => whnf); refine ⟨fun h1 => ?_, fun h1 => ?_⟩
  · have h1 : (!(Gl (Ff f i) e).2) = true := h1
    have hd : (f, false) = enter f i e := by rw [enter]; simp at h1; rw [h1]; rfl
    skip
    rw [fin hd]
    exact ⟨trivial, ⟨rfl, rfl, trivial⟩, rfl, trivial⟩
  have h1 : (Gl (Ff f i) e).2 = true := by
    have h1 : (!(Gl (Ff f i) e).2) = false := h1
    simpa using h1
  have hd : Ba f i (F1 (Gl (Ff f i) e).1) = enter f i e := by rw [enter, if_pos h1]
  have hdt := Om (Gl (Ff f i) e).1
  skip
  refine ⟨(Gl (Ff f i) e).1, by (repeat' (first | refine Bn ?_ ?_ | refine Bu ?_ | refine Bh ?_ | refine Bs ?_ | exact rfl)) <;> simp [rdI, rdO, rdE, rdB, rdN, rdS, rdD, rdW, tkM], fun _ => ⟨a1, a2, a3⟩, ?_⟩
  skip
  refine ⟨(f, (i : Int), F1 (Gl (Ff f i) e).1), by (repeat' (first | refine Bn ?_ ?_ | refine Bu ?_ | refine Bh ?_ | refine Bs ?_ | exact rfl)) <;> simp [rdI, rdO, rdE, rdB, rdN, rdS, rdD, rdW, tkM], fun _ => ⟨hsm, by show (F1 (Gl (Ff f i) e).1).length ≤ _; omega⟩, ?_⟩
  repeat ((conv => whnf); refine ⟨(by kernel_rfl : C6 _ _ = true), ?_⟩)
  rw [fin hd]
  exact ⟨trivial, ⟨rfl, rfl, trivial⟩, rfl, trivial⟩
theorem Wz : Ay Tryz.prog 190 Cr := Dn (Ch _ _) (FOk.cons Iw (FOk.cons Ki (FOk.cons Ml (FOk.cons A1a FOk.nil)))) mixed Tryz.func190 rfl Tryz.call190 (by decide) (by kernel_rfl) Z6 (fun h => by cases h) (by intro (y : (Fs × Nat × En)) _; first | exact ⟨by simp [Cr, con, Aa, A8, Ag, AV.free, A2, A3, A1, A6, Ad, Ae, Ah, Ap, Al, Av, Ax, B3], by simp [Cr, con, Aa, A8, Ag, AV.free, A2, A3, A1, A6, Ad, Ae, Ah, Ap, Al, Av, Ax, B3]⟩ | (obtain ⟨_, _⟩ := y; exact ⟨by simp [Cr, con, Aa, A8, Ag, AV.free, A2, A3, A1, A6, Ad, Ae, Ah, Ap, Al, Av, Ax, B3], by simp [Cr, con, Aa, A8, Ag, AV.free, A2, A3, A1, A6, Ad, Ae, Ah, Ap, Al, Av, Ax, B3]⟩) | (obtain ⟨_, _, _⟩ := y; exact ⟨by simp [Cr, con, Aa, A8, Ag, AV.free, A2, A3, A1, A6, Ad, Ae, Ah, Ap, Al, Av, Ax, B3], by simp [Cr, con, Aa, A8, Ag, AV.free, A2, A3, A1, A6, Ad, Ae, Ah, Ap, Al, Av, Ax, B3]⟩)) (by intro (y : (Fs × Nat × En)) _; first | (simp [Cr, con, Aa, A8, Ag, AV.free, A2, A3, A1, A6, Ad, Ae, Ah, Ap, Al, Av, Ax, B3]; done) | (obtain ⟨_, _⟩ := y; simp [Cr, con, Aa, A8, Ag, AV.free, A2, A3, A1, A6, Ad, Ae, Ah, Ap, Al, Av, Ax, B3]; done) | (obtain ⟨_, _, _⟩ := y; simp [Cr, con, Aa, A8, Ag, AV.free, A2, A3, A1, A6, Ad, Ae, Ah, Ap, Al, Av, Ax, B3]; done))
noncomputable def Cy : Bp := A8 true [.rd [some 5, some 1], mC, mC] (Fs × Nat × Str) (fun ⟨f, i, s⟩ => [.agg (Al f), .int .i64 i, .str s]) (fun x => Wk x.1 ∧ x.2.1 < x.1.nodes.length) (fun ⟨f, i, s⟩ => .agg (Al (B8u f i s))) (fun _ => [])
noncomputable def Yq : Env := ⟨A4 Bc, A4 [(160, Dj), (171, J4), (192, Ec), (193, Ej)], [0, 1, 2, 3, 6, 7, 9, 11]⟩
set_option maxRecDepth 100000 in
set_option maxHeartbeats 4000000 in
theorem Za : Bd Yq (Az Tryz.f170) Tryz.f170.results.toList Cy := by
  rintro ⟨f, i, s⟩ hx
  obtain ⟨hw, hi⟩ : Wk f ∧ i < f.nodes.length := hx
  have hsm := hw.sm
  have hnn := hw.nn
  have hr := hw.read i
  obtain ⟨d1, d2, d3⟩ := A93 f i
  have hdl : Ff f i = (H4 f i).getD [] := rfl
  have hsb : (Gm (Ff f i) s).Sublist (Ff f i) := List.eraseP_sublist
  have hm2 : ∀ x, x ∈ Gm (Ff f i) s → x ∈ Ff f i := fun x hx => hsb.subset hx
  have hl2 : (Gm (Ff f i) s).length ≤ (Ff f i).length := hsb.length_le
  have hz : szE (Gm (Ff f i) s) ≤ 468 := by
    have key : ∀ {l m : List En}, l.Sublist m → szE l ≤ szE m := by
      intro l m h
      induction h with
      | slnil => exact Nat.le_refl _
      | cons a _ ih => rw [T4]; omega
      | cons_cons a _ ih => rw [T4, T4]; omega
    have := key hsb
    omega
  refine ⟨trivial, ?_⟩
  skip
  refine ⟨(f, i), by (repeat' (first | refine Bn ?_ ?_ | refine Bu ?_ | refine Bh ?_ | refine Bs ?_ | exact rfl)) <;> simp [rdI, rdO, rdE, rdB, rdN, rdS, rdD, rdW, tkM], fun _ => ⟨hsm, hw.inr, hi, by show (I0 f i).length ≤ _; omega⟩, ?_⟩
  skip
  refine ⟨(Ff f i, s), by rw [hdl]; exact by (repeat' (first | refine Bn ?_ ?_ | refine Bu ?_ | refine Bh ?_ | refine Bs ?_ | exact rfl)) <;> simp [rdI, rdO, rdE, rdB, rdN, rdS, rdD, rdW, tkM], fun _ => by show (Ff f i).length ≤ _; omega, ?_⟩
  have hdt := Om (Gm (Ff f i) s)
  skip
  refine ⟨Gm (Ff f i) s, by (repeat' (first | refine Bn ?_ ?_ | refine Bu ?_ | refine Bh ?_ | refine Bs ?_ | exact rfl)) <;> simp [rdI, rdO, rdE, rdB, rdN, rdS, rdD, rdW, tkM], fun _ => ⟨by omega, by omega, fun x hx => by have := d2 x (hm2 x hx); omega⟩, ?_⟩
  skip
  refine ⟨(f, (i : Int), F1 (Gm (Ff f i) s)), by (repeat' (first | refine Bn ?_ ?_ | refine Bu ?_ | refine Bh ?_ | refine Bs ?_ | exact rfl)) <;> simp [rdI, rdO, rdE, rdB, rdN, rdS, rdD, rdW, tkM], fun _ => ⟨hsm, by show (F1 (Gm (Ff f i) s)).length ≤ _; omega⟩, ?_⟩
  repeat ((conv => whnf); refine ⟨(by kernel_rfl : C6 _ _ = true), ?_⟩)
  exact ⟨trivial, rfl, rfl, trivial⟩
theorem Wu : Ay Tryz.prog 170 Cy := Dn (Ch _ _) (FOk.cons Iw (FOk.cons Ki (FOk.cons Z1 (FOk.cons Ml FOk.nil)))) mixed Tryz.func170 rfl Tryz.call170 (by decide) (by kernel_rfl) Za (fun h => by cases h) (by intro (y : (Fs × Nat × Str)) _; first | exact ⟨by simp [Cy, con, Aa, A8, Ag, AV.free, A2, A3, A1, A6, Ad, Ae, Ah, Ap, Al, Av, Ax, B3], by simp [Cy, con, Aa, A8, Ag, AV.free, A2, A3, A1, A6, Ad, Ae, Ah, Ap, Al, Av, Ax, B3]⟩ | (obtain ⟨_, _⟩ := y; exact ⟨by simp [Cy, con, Aa, A8, Ag, AV.free, A2, A3, A1, A6, Ad, Ae, Ah, Ap, Al, Av, Ax, B3], by simp [Cy, con, Aa, A8, Ag, AV.free, A2, A3, A1, A6, Ad, Ae, Ah, Ap, Al, Av, Ax, B3]⟩) | (obtain ⟨_, _, _⟩ := y; exact ⟨by simp [Cy, con, Aa, A8, Ag, AV.free, A2, A3, A1, A6, Ad, Ae, Ah, Ap, Al, Av, Ax, B3], by simp [Cy, con, Aa, A8, Ag, AV.free, A2, A3, A1, A6, Ad, Ae, Ah, Ap, Al, Av, Ax, B3]⟩)) (by intro (y : (Fs × Nat × Str)) _; first | (simp [Cy, con, Aa, A8, Ag, AV.free, A2, A3, A1, A6, Ad, Ae, Ah, Ap, Al, Av, Ax, B3]; done) | (obtain ⟨_, _⟩ := y; simp [Cy, con, Aa, A8, Ag, AV.free, A2, A3, A1, A6, Ad, Ae, Ah, Ap, Al, Av, Ax, B3]; done) | (obtain ⟨_, _, _⟩ := y; simp [Cy, con, Aa, A8, Ag, AV.free, A2, A3, A1, A6, Ad, Ae, Ah, Ap, Al, Av, Ax, B3]; done))
noncomputable def Cw : Bp := A8 true [.rd [some 5, some 1], mC, mC, mC] (Fs × Nat × Str × Int) (fun ⟨f, i, s, k⟩ => [.agg (Al f), .int .i64 i, .str s, .int .i64 k]) (fun x => Wk x.1 ∧ x.2.1 < x.1.nodes.length ∧ x.2.2.1.length ≤ 1048576) (fun ⟨f, i, s, k⟩ => .tup [.agg (Al (Io f i s k).1), .int .i64 (Io f i s k).2.1, .bool (Io f i s k).2.2]) (fun _ => [])
noncomputable def A4q : Env := ⟨A4 Bc, A4 [(189, Ps), (190, Cr)], [0, 1, 2, 3, 4, 8, 9, 10, 11, 12, 13, 14, 15, 24]⟩
set_option maxRecDepth 100000 in
set_option maxHeartbeats 4000000 in
theorem A3x : Bd A4q (Az Tryz.f166) Tryz.f166.results.toList Cw := by
  rintro ⟨f, i, s, k⟩ hx
  obtain ⟨hw, hi, hn⟩ : Wk f ∧ i < f.nodes.length ∧ s.length ≤ 1048576 := hx
  have hsm := hw.sm
  refine ⟨trivial, ?_⟩
  have fin : ∀ {r : Fs × Int × Bool}, r = Io f i s k → Cw.res (f, i, s, k) = .tup [.agg (Al r.1), .int .i64 r.2.1, .bool r.2.2] := fun h => by rw [h]; rfl
  skip
  refine ⟨(f, k), by (repeat' (first | refine Bn ?_ ?_ | refine Bu ?_ | refine Bh ?_ | refine Bs ?_ | exact rfl)) <;> simp [rdI, rdO, rdE, rdB, rdN, rdS, rdD, rdW, tkM], fun _ => hsm, ?_⟩
  skip
  (conv => whnf); refine ⟨fun h1 => ?_, fun h1 => ?_⟩
  · have h1 : (!(C2 f k).2.2) = true := h1
    have hd : (f, -1, false) = Io f i s k := by rw [Io]; simp at h1; rw [h1]; rfl
    skip
    rw [fin hd]
    exact ⟨trivial, ⟨rfl, rfl, trivial⟩, rfl, rfl, trivial⟩
  have h1 : (C2 f k).2.2 = true := by
    have h1 : (!(C2 f k).2.2) = false := h1
    simpa using h1
  have hd : ((enter (C2 f k).1 i ⟨s, (C2 f k).2.1⟩).1, (C2 f k).2.1, (enter (C2 f k).1 i ⟨s, (C2 f k).2.1⟩).2) = Io f i s k := by rw [Io, if_pos h1]
  have hml := B11 f k
  skip
  refine ⟨((C2 f k).1, i, ⟨s, (C2 f k).2.1⟩), by (repeat' (first | refine Bn ?_ ?_ | refine Bu ?_ | refine Bh ?_ | refine Bs ?_ | exact rfl)) <;> simp [rdI, rdO, rdE, rdB, rdN, rdS, rdD, rdW, tkM], fun _ => ⟨B3w hw, by show i < (C2 f k).1.nodes.length; omega, hn⟩, ?_⟩
  skip
  rw [fin hd]
  exact ⟨trivial, ⟨rfl, rfl, trivial⟩, rfl, rfl, trivial⟩
theorem Np : Ay Tryz.prog 166 Cw := Dn (Ch _ _) (FOk.cons W3 (FOk.cons Wz FOk.nil)) mixed Tryz.func166 rfl Tryz.call166 (by decide) (by kernel_rfl) A3x (fun h => by cases h) (by intro (y : (Fs × Nat × Str × Int)) _; first | exact ⟨by simp [Cw, con, Aa, A8, Ag, AV.free, A2, A3, A1, A6, Ad, Ae, Ah, Ap, Al, Av, Ax, B3], by simp [Cw, con, Aa, A8, Ag, AV.free, A2, A3, A1, A6, Ad, Ae, Ah, Ap, Al, Av, Ax, B3]⟩ | (obtain ⟨_, _⟩ := y; exact ⟨by simp [Cw, con, Aa, A8, Ag, AV.free, A2, A3, A1, A6, Ad, Ae, Ah, Ap, Al, Av, Ax, B3], by simp [Cw, con, Aa, A8, Ag, AV.free, A2, A3, A1, A6, Ad, Ae, Ah, Ap, Al, Av, Ax, B3]⟩) | (obtain ⟨_, _, _⟩ := y; exact ⟨by simp [Cw, con, Aa, A8, Ag, AV.free, A2, A3, A1, A6, Ad, Ae, Ah, Ap, Al, Av, Ax, B3], by simp [Cw, con, Aa, A8, Ag, AV.free, A2, A3, A1, A6, Ad, Ae, Ah, Ap, Al, Av, Ax, B3]⟩)) (by intro (y : (Fs × Nat × Str × Int)) _; first | (simp [Cw, con, Aa, A8, Ag, AV.free, A2, A3, A1, A6, Ad, Ae, Ah, Ap, Al, Av, Ax, B3]; done) | (obtain ⟨_, _⟩ := y; simp [Cw, con, Aa, A8, Ag, AV.free, A2, A3, A1, A6, Ad, Ae, Ah, Ap, Al, Av, Ax, B3]; done) | (obtain ⟨_, _, _⟩ := y; simp [Cw, con, Aa, A8, Ag, AV.free, A2, A3, A1, A6, Ad, Ae, Ah, Ap, Al, Av, Ax, B3]; done))
noncomputable def Cs : Bp := A8 true [.rd [some 5, some 1], mC, mC, mC, mC] (Fs × Int × Str × Int × Int) (fun ⟨f, i, s, t, g⟩ => [.agg (Al f), .int .i64 i, .str s, .int .i64 t, .int .i64 g]) (fun x => smF x.1 ∧ x.2.2.1.length ≤ 4611686018427387904) (fun ⟨f, i, s, t, g⟩ => .tup [.agg (R5 f i s t g), .bool (I2 f i s t g).2]) (fun _ => [])
noncomputable def A0l : Env := ⟨A4 Bc, A4 [(171, D4)], [0, 1, 2, 3, 4, 5, 10, 11, 12, 13, 22]⟩
set_option maxRecDepth 100000 in
set_option maxHeartbeats 4000000 in
theorem A23 : Bd A0l (Az Tryz.f168) Tryz.f168.results.toList Cs := by
  rintro ⟨f, i, s, t, g⟩ hx
  obtain ⟨hsm, hn⟩ : smF f ∧ s.length ≤ 4611686018427387904 := hx
  refine ⟨trivial, ?_⟩
  skip
  refine ⟨(f, i, s), by (repeat' (first | refine Bn ?_ ?_ | refine Bu ?_ | refine Bh ?_ | refine Bs ?_ | exact rfl)) <;> simp [rdI, rdO, rdE, rdB, rdN, rdS, rdD, rdW, tkM], fun _ => ⟨hsm, hn⟩, ?_⟩
  skip
  (conv => whnf); refine ⟨fun h1 => ?_, fun h1 => ?_⟩
  · have h1 : (!(Ba f i s).2) = true := h1
    have hd : (I2 f i s t g).2 = false := by rw [I2]; simp at h1; rw [h1]; rfl
    skip
    rw [show Cs.res (f, i, s, t, g) = .tup [.agg (Al f), .bool false] by
      show AV.tup [.agg (R5 f i s t g), .bool (I2 f i s t g).2] = _
      rw [R5, hd]; rfl]
    exact ⟨trivial, ⟨rfl, rfl, trivial⟩, rfl, trivial⟩
  have h1 : (Ba f i s).2 = true := by
    have h1 : (!(Ba f i s).2) = false := h1
    simpa using h1
  have hin : Mh f i s = true := by
    unfold Ba at h1
    split at h1
    · assumption
    · cases h1
  have hin2 : isN f i = true := by
    simp only [Mh, Bool.and_eq_true] at hin
    exact hin.1.1
  obtain ⟨hsh, hi0, hil, hni, _⟩ := A7s hin2
  have hfn : I2 f i s t g = (⟨(Ba f i s).1.nodes.set i.toNat (A7d (Gi (Ba f i s).1 i) t g), (Ba f i s).1.data⟩, true) := by rw [I2, if_pos h1]
  have hwl := A69 f i s
  obtain ⟨y, hy⟩ := B7 (l := (Ba f i s).1.nodes) (i := i.toNat) (by omega)
  have hy2 : Gi (Ba f i s).1 i = y := by rw [Gi, List.getD_eq_getElem?_getD, hy]; rfl
  rw [hy2] at hfn
  have hy3 : (((Ba f i s).1.nodes.map Av).drop 0).take (((Ba f i s).1.nodes.map Av)).length = (Ba f i s).1.nodes.map Av := by simp
  have hsl : i.toNat < ((Ba f i s).1.nodes.map Av).length := by rw [List.length_map]; omega
  repeat ((conv => whnf); first | refine ⟨bb, ?_⟩ | refine ⟨Av y, by rw [hy3, Nat.zero_add]; exact Am hy, ?_⟩ | refine ⟨fun _ => ⟨by omega, by rw [List.length_set, hy3]; omega⟩, ?_⟩ | refine ⟨(Av y).set (0 + 2) (.int .i64 t), by rw [hy3, Nat.zero_add]; exact List.getElem?_set_self hsl, ?_⟩)
  rw [show Cs.res (f, i, s, t, g) = .tup [.agg [.own 5 (((Ba f i s).1.nodes.map Av).set i.toNat (Av (A7d y t g))), .own 1 ((Ba f i s).1.data.map A6)], .bool true] by
    show AV.tup [.agg (R5 f i s t g), .bool (I2 f i s t g).2] = _
    rw [R5, hfn, if_pos rfl, Ax, List.map_set]]
  refine ⟨trivial, ⟨⟨rfl, ?_⟩, ⟨rfl, ?_⟩, trivial⟩, rfl, trivial⟩
  all_goals simp [List.take_of_length_le, Av, A7d]
theorem Z2 : Ay Tryz.prog 168 Cs := Dn (Ch _ _) (FOk.cons P3 FOk.nil) mixed Tryz.func168 rfl Tryz.call168 (by decide) (by kernel_rfl) A23 (fun h => by cases h) (by intro (y : (Fs × Int × Str × Int × Int)) _; first | exact ⟨by simp [Cs, con, Aa, A8, Ag, AV.free, A2, A3, A1, A6, Ad, Ae, Ah, Ap, Al, Av, Ax, B3], by simp [Cs, con, Aa, A8, Ag, AV.free, A2, A3, A1, A6, Ad, Ae, Ah, Ap, Al, Av, Ax, B3]⟩ | (obtain ⟨_, _⟩ := y; exact ⟨by simp [Cs, con, Aa, A8, Ag, AV.free, A2, A3, A1, A6, Ad, Ae, Ah, Ap, Al, Av, Ax, B3], by simp [Cs, con, Aa, A8, Ag, AV.free, A2, A3, A1, A6, Ad, Ae, Ah, Ap, Al, Av, Ax, B3]⟩) | (obtain ⟨_, _, _⟩ := y; exact ⟨by simp [Cs, con, Aa, A8, Ag, AV.free, A2, A3, A1, A6, Ad, Ae, Ah, Ap, Al, Av, Ax, B3], by simp [Cs, con, Aa, A8, Ag, AV.free, A2, A3, A1, A6, Ad, Ae, Ah, Ap, Al, Av, Ax, B3]⟩)) (by intro (y : (Fs × Int × Str × Int × Int)) _; first | (simp [Cs, con, Aa, A8, Ag, AV.free, A2, A3, A1, A6, Ad, Ae, Ah, Ap, Al, Av, Ax, B3]; done) | (obtain ⟨_, _⟩ := y; simp [Cs, con, Aa, A8, Ag, AV.free, A2, A3, A1, A6, Ad, Ae, Ah, Ap, Al, Av, Ax, B3]; done) | (obtain ⟨_, _, _⟩ := y; simp [Cs, con, Aa, A8, Ag, AV.free, A2, A3, A1, A6, Ad, Ae, Ah, Ap, Al, Av, Ax, B3]; done))
noncomputable def Mk : Bp := { Cs with sh := true, res := fun ((f, i, s, t, g) : Fs × Int × Str × Int × Int) => .tup [.agg (Al (I2 f i s t g).1), .bool (I2 f i s t g).2] }
theorem Pk : Ay Tryz.prog 168 Mk := Kg _ Z2 (fun _ => rfl) rfl (fun (f, i, s, t, g) _ => B54 f i s t g)
noncomputable def D0 : Bp := A8 true [.rd [some 5, some 1], mS 1] (Fs × List Str) (fun ⟨f, l⟩ => [.agg (Al f), .rd 1 (l.map A6)]) (fun x => Iu x.1 = true ∧ x.2.length ≤ 1048576 ∧ ∀ s, s ∈ x.2 → s.length ≤ 1048576) (fun ⟨f, l⟩ => .tup [.agg (Al (down f 0 l).1), .int .i64 (down f 0 l).2.1, .int .i64 (down f 0 l).2.2]) (fun _ => [])
noncomputable def A20 : Env := ⟨A4 Bc, A4 [(160, Dj), (166, Cw), (188, F3)], [0, 1, 2, 4, 5, 6, 7, 8, 9, 10, 11, 12, 13, 14, 18, 28, 37, 50, 61]⟩
set_option maxRecDepth 100000 in
set_option maxHeartbeats 4000000 in
theorem A2w : Bd A20 (Az Tryz.f165) Tryz.f165.results.toList D0 := by
  rintro ⟨f, l⟩ hx
  obtain ⟨hok, hl, hls⟩ : Iu f = true ∧ l.length ≤ 1048576 ∧ ∀ s, s ∈ l → s.length ≤ 1048576 := hx
  obtain ⟨hsh, _, hat⟩ := On hok
  have hnn := hsh.nn
  refine ⟨trivial, ?_⟩
  have fin : ∀ {r : Fs × Int × Int}, r = down f 0 l → D0.res (f, l) = .tup [.agg (Al r.1), .int .i64 r.2.1, .int .i64 r.2.2] := fun h => by rw [h]; rfl
  skip
  refine B2 (fun ((k, f', i) : Nat × Fs × Nat) => ⟨[(1, ⟨none, .rd 1 (l.map A6)⟩), (2, ⟨none, .bx 0 0⟩), (4, ⟨none, .bx 1 0⟩), (7, ⟨none, .int .i64 i⟩), (8, ⟨none, .int .i64 k⟩)], [(0, .own 2 [Al f']), (1, .own 2 [[.own 5 [], .own 1 []]])], 2⟩)
    (fun (k, f', i) => k ≤ l.length ∧ Wk f' ∧ i < f'.nodes.length ∧ ((∃ d, Uf f' d i) ∨ I0 f' i = []) ∧ down f' i (l.drop k) = down f 0 l) (fun x => l.length - x.1) (0, f, 0) ?_ ⟨Nat.zero_le _, hsh.wk, by show 0 < f.nodes.length; omega, .inl ⟨5, hat⟩, by rw [List.drop_zero]⟩ ?_
  · (refine ⟨?_, ?_, rfl⟩ <;> repeat' (first | exact rfl | exact trivial | refine ⟨?_, ?_⟩ | fail) <;> (conv => whnf))
  rintro ⟨k, f', i⟩ ⟨hk, hw, hi, hph, hI⟩
  have hwn := hw.nn
  (conv => whnf); refine ⟨fun h1 => ?_, fun h1 => ?_⟩
  · have h1 : k < l.length := by simpa using h1
    obtain ⟨s, hs⟩ := B7 h1
    have hss := hls s (List.mem_of_getElem? hs)
    have hdr : l.drop k = s :: l.drop (k + 1) := by
      rw [List.drop_eq_getElem_cons h1]
      rw [List.getElem?_eq_getElem h1] at hs
      rw [Option.some.inj hs]
    rw [hdr, down] at hI
    have hrl := hw.read i
    obtain ⟨d1, d2, d3⟩ := A93 f' i
    have hdl : Ff f' i = (H4 f' i).getD [] := rfl
    skip
    refine ⟨(f', i), by (repeat' (first | refine Bn ?_ ?_ | refine Bu ?_ | refine Bh ?_ | refine Bs ?_ | exact rfl)) <;> simp [rdI, rdO, rdE, rdB, rdN, rdS, rdD, rdW, tkM], fun _ => ⟨hw.sm, hw.inr, hi, by show (I0 f' i).length ≤ _; omega⟩, ?_⟩
    skip
    (conv => whnf); refine ⟨fun h3 => ?_, fun h3 => ?_⟩
    · have h3 : (!(H4 f' i).isSome) = true := h3
      rw [if_pos h3] at hI
      skip
      rw [fin hI]
      exact ⟨trivial, ⟨rfl, rfl, trivial⟩, rfl, rfl, trivial⟩
    have h3 : (!(H4 f' i).isSome) = false := h3
    rw [if_neg (by rw [h3]; decide)] at hI
    have hdn := T6 (f := f') (i := i) (by simpa using h3)
    repeat ((conv => whnf); refine ⟨A6 s, fun _ => ⟨by omega, Am hs⟩, ?_⟩)
    refine ⟨(Ff f' i, s), by rw [hdl]; exact by (repeat' (first | refine Bn ?_ ?_ | refine Bu ?_ | refine Bh ?_ | refine Bs ?_ | exact rfl)) <;> simp [rdI, rdO, rdE, rdB, rdN, rdS, rdD, rdW, tkM], fun _ => by show (Ff f' i).length ≤ _; omega, ?_⟩
    have hdm := Od (l := Ff f' i) (s := s)
    skip
    (conv => whnf); refine ⟨fun h4 => ?_, fun h4 => ?_⟩
    · have h4 : decide (F0 (Ff f' i) s < 0) = true := h4
      rw [if_pos (by simpa using h4)] at hI
      repeat ((conv => whnf); refine ⟨A6 s, fun _ => ⟨by omega, Am hs⟩, ?_⟩)
      refine ⟨(f', i, s, 2), by (repeat' (first | refine Bn ?_ ?_ | refine Bu ?_ | refine Bh ?_ | refine Bs ?_ | exact rfl)) <;> simp [rdI, rdO, rdE, rdB, rdN, rdS, rdD, rdW, tkM], fun _ => ⟨hw, hi, hss⟩, ?_⟩
      have hno := B44 (f := f') (i := i) (s := s) (k := 2) (l := (H4 f' i).getD [])
      have hnw := Qi (i := i) (s := s) (k := 2) hw
      have hnl := B0g f' i s 2
      repeat ((conv => whnf); refine ⟨(by kernel_rfl : C6 _ _ = true), ?_⟩)
      (conv => whnf); refine ⟨fun h5 => ?_, fun h5 => ?_⟩
      · have h5 : (!(Io f' i s 2).2.2) = true := h5
        rw [if_neg (by simpa using h5)] at hI
        skip
        rw [fin hI]
        exact ⟨trivial, ⟨rfl, rfl, trivial⟩, rfl, rfl, trivial⟩
      have h5 : (Io f' i s 2).2.2 = true := by
        have h5 : (!(Io f' i s 2).2.2) = false := h5
        simpa using h5
      rw [if_pos h5] at hI
      obtain ⟨j, hj1, hj2, hj3, hj4⟩ := hno h5 hdn
      rw [hj1, Int.toNat_natCast] at hI
      repeat ((conv => whnf); refine ⟨_, w64 (bb), ?_⟩)
      refine C5 (k + 1, (Io f' i s 2).1, j) ?_ ⟨h1, hnw, by show j < (Io f' i s 2).1.nodes.length; omega, .inr hj3, hI⟩ (by first | omega | (simp; done) | (simp; omega))
      (refine ⟨?_, ?_, rfl⟩ <;> repeat' (first | exact rfl | exact trivial | refine ⟨?_, ?_⟩ | fail) <;> (conv => whnf))
      all_goals exact hj1
    have h4 : decide (F0 (Ff f' i) s < 0) = false := h4
    have h4' : ¬ F0 (Ff f' i) s < 0 := by simpa using h4
    rw [if_neg h4'] at hI
    obtain ⟨hq1, hq2⟩ : (F0 (Ff f' i) s).toNat < f'.nodes.length ∧ ∃ d, Uf f' d (F0 (Ff f' i) s).toNat := by
      rcases hdm with e | ⟨e, he, _, e1⟩
      · omega
      · rcases hph with ⟨d, hd⟩ | hr
        · have h8 := (K4 hd).2 _ hdn e he
          rw [e1]
          have h9 := (Hu (Ow hdn) he).2
          exact ⟨by omega, _, h8.2.2.2⟩
        · exfalso
          have : Ff f' i = [] := by
            unfold Ff H4
            cases hq : f'.nodes[i]? with
            | none => rfl
            | some n =>
              simp only [hr]
              split <;> rfl
          rw [this] at he
          cases he
    repeat ((conv => whnf); refine ⟨_, w64 (bb), ?_⟩)
    refine C5 (k + 1, f', (F0 (Ff f' i) s).toNat) ?_ ⟨h1, hw, hq1, .inl hq2, hI⟩ (by first | omega | (simp; done) | (simp; omega))
    (refine ⟨?_, ?_, rfl⟩ <;> repeat' (first | exact rfl | exact trivial | refine ⟨?_, ?_⟩ | fail) <;> (conv => whnf))
    all_goals (show F0 (Ff f' i) s = (((F0 (Ff f' i) s).toNat : Nat) : Int); omega)
  have h1 : k = l.length := by have : ¬ (k < l.length) := by simpa using h1
                               omega
  subst h1
  rw [List.drop_length, down] at hI
  obtain ⟨n, hn⟩ := B7 hi
  rw [Mg hn] at hI
  repeat ((conv => whnf); refine ⟨Ap n, fun _ => ⟨by omega, Am hn⟩, ?_⟩)
  (conv => whnf); refine ⟨fun h2 => ?_, fun h2 => ?_⟩
  · have h2 : (n.kind != 2) = true := h2
    rw [if_pos h2] at hI
    skip
    rw [fin hI]
    exact ⟨trivial, ⟨rfl, rfl, trivial⟩, rfl, rfl, trivial⟩
  have h2 : (n.kind != 2) = false := h2
  rw [if_neg (by rw [h2]; decide)] at hI
  skip
  rw [fin hI]
  exact ⟨trivial, ⟨rfl, rfl, trivial⟩, rfl, rfl, trivial⟩
theorem Z0 : Ay Tryz.prog 165 D0 := Dn (Ch _ _) (FOk.cons Iw (FOk.cons Np (FOk.cons Qs FOk.nil))) mixed Tryz.func165 rfl Tryz.call165 (by decide) (by kernel_rfl) A2w (fun h => by cases h) (by intro (y : (Fs × List Str)) _; first | exact ⟨by simp [D0, con, Aa, A8, Ag, AV.free, A2, A3, A1, A6, Ad, Ae, Ah, Ap, Al, Av, Ax, B3], by simp [D0, con, Aa, A8, Ag, AV.free, A2, A3, A1, A6, Ad, Ae, Ah, Ap, Al, Av, Ax, B3]⟩ | (obtain ⟨_, _⟩ := y; exact ⟨by simp [D0, con, Aa, A8, Ag, AV.free, A2, A3, A1, A6, Ad, Ae, Ah, Ap, Al, Av, Ax, B3], by simp [D0, con, Aa, A8, Ag, AV.free, A2, A3, A1, A6, Ad, Ae, Ah, Ap, Al, Av, Ax, B3]⟩) | (obtain ⟨_, _, _⟩ := y; exact ⟨by simp [D0, con, Aa, A8, Ag, AV.free, A2, A3, A1, A6, Ad, Ae, Ah, Ap, Al, Av, Ax, B3], by simp [D0, con, Aa, A8, Ag, AV.free, A2, A3, A1, A6, Ad, Ae, Ah, Ap, Al, Av, Ax, B3]⟩)) (by intro (y : (Fs × List Str)) _; first | (simp [D0, con, Aa, A8, Ag, AV.free, A2, A3, A1, A6, Ad, Ae, Ah, Ap, Al, Av, Ax, B3]; done) | (obtain ⟨_, _⟩ := y; simp [D0, con, Aa, A8, Ag, AV.free, A2, A3, A1, A6, Ad, Ae, Ah, Ap, Al, Av, Ax, B3]; done) | (obtain ⟨_, _, _⟩ := y; simp [D0, con, Aa, A8, Ag, AV.free, A2, A3, A1, A6, Ad, Ae, Ah, Ap, Al, Av, Ax, B3]; done))
end Go.GH


set_option linter.unusedVariables false
set_option linter.unusedSimpArgs false
namespace Go.GH
open Go Go.Proofs
noncomputable def Hr : Bp := con [mC] true Str A6 (fun l => sml l.length) (fun l => .str (Ji l))
noncomputable def B22 : Env := ⟨A4 Bc, A4 [(85, E0)], [0, 2, 3, 8]⟩
set_option maxRecDepth 100000 in
set_option maxHeartbeats 4000000 in
theorem B2c : Bd B22 (Az Tryz.f167) Tryz.f167.results.toList Hr := by
  intro (s : Str) hs
  have hs : s.length ≤ 4194304 := hs
  refine ⟨trivial, ?_⟩
  conv => whnf
  refine ⟨s, rfl, fun _ => hs, ?_⟩
  skip
  have hnl := Hf (p := s)
  (conv => whnf); refine ⟨fun h1 => ?_, fun h1 => ?_⟩
  · have h1 : names s = [] := by simpa using h1
    skip
    exact ⟨trivial, eqS (by show _ = Ji s; rw [Ji, h1]; rfl)⟩
  have h1 : names s ≠ [] := by simpa using h1
  have hp := List.length_pos_iff.2 h1
  obtain ⟨b, hb⟩ := B7 (l := names s) (i := (names s).length - 1) (by omega)
  have hl : Ji s = b := by rw [Ji, List.getLastD_eq_getLast?, List.getLast?_eq_getElem?, hb]; rfl
  have hml : ((names s).map A6).length = (names s).length := List.length_map _
  repeat ((conv => whnf); first | refine ⟨_, w64 (bb), ?_⟩ | refine ⟨bb, ?_⟩ | refine ⟨A6 b, fun _ => by show ((names s).map A6)[0 + (((((names s).map A6).length : Nat) : Int) - 1).toNat]? = _; rw [hml, show 0 + (((names s).length : Int) - 1).toNat = (names s).length - 1 by omega]; exact Am hb, ?_⟩)
  exact ⟨trivial, eqS hl.symm⟩
theorem Vn : Ay Tryz.prog 167 Hr := Aq (Ch _ _) (FOk.cons Jw FOk.nil) mixed Tryz.func167 rfl Tryz.call167 (by decide) (by kernel_rfl) B2c (by intro _ (y : Str) _; exact ⟨by simp [Hr, con, Aa, A8, AV.noRd, A7, Ab, A5, A6], by simp [Hr, con, Aa, A8, AV.noRd, A7, Ab, A5, A6]⟩) (by intro (y : Str) _; first | (simp [Hr, con, Aa, A8, Ag, AV.free, A2, A3, A1, A6]; done) | (obtain ⟨_, _⟩ := y; simp [Hr, con, Aa, A8, Ag, AV.free, A2, A3, A1, A6]; done) | (obtain ⟨_, _, _⟩ := y; simp [Hr, con, Aa, A8, Ag, AV.free, A2, A3, A1, A6]; done))
end Go.GH


set_option linter.unusedVariables false
set_option linter.unusedSimpArgs false
namespace Go.GH
open Go Go.Proofs
noncomputable def M7 : Bp := { E0 with sh := true, res := fun (s : Str) => .rd 1 ((names s).map A6) }
theorem O3 : Ay Tryz.prog 85 M7 := Kg _ Jw (fun _ => rfl) rfl (fun s _ => ⟨rfl, by show 1 ≤ 16; omega, by simp only [E0, con, frz, Mb, N2, rdS]⟩)
noncomputable def Dh : Bp := A8 true [.rd [some 5, some 1], mC, mC, mC, mC, mC] (Fs × Str × Int × Str × Int × Int) (fun ⟨f, p, k, s, t, g⟩ => [.agg (Al f), .str p, .int .i64 k, .str s, .int .i64 t, .int .i64 g]) (fun x => smF x.1 ∧ x.2.1.length ≤ 1048576 ∧ x.2.2.2.1.length ≤ 1048576) (fun ⟨f, p, k, s, t, g⟩ => .tup [.agg (Al (Mn f p k s t g).1), .int .i64 (Mn f p k s t g).2]) (fun _ => [])
noncomputable def A56 : Env := ⟨A4 Bc, A4 [(75, Cu), (76, Co), (85, M7), (120, Fb), (162, Jb), (163, Ez), (164, Dw), (165, D0), (166, Cw), (167, Hr), (168, Mk)], [0, 1, 2, 3, 4, 5, 6, 12, 13, 14, 15, 16, 17, 18, 19, 20, 52, 60, 64, 71, 85, 100, 113]⟩
set_option maxRecDepth 100000 in
set_option maxHeartbeats 4000000 in
theorem A5b : Bd A56 (Az Tryz.f124) Tryz.f124.results.toList Dh := by
  rintro ⟨f, p, k, s, t, g⟩ hx
  obtain ⟨hsm, hpl, hsl⟩ : smF f ∧ p.length ≤ 1048576 ∧ s.length ≤ 1048576 := hx
  have hnl := hsm.1
  refine ⟨trivial, ?_⟩
  have fin : ∀ {r : Fs × Int}, r = Mn f p k s t g → Dh.res (f, p, k, s, t, g) = .tup [.agg (Al r.1), .int .i64 r.2] := fun h => by rw [h]; rfl
  have hI := (Mn.eq_1 f p k s t g).symm
  skip
  refine ⟨f, by (repeat' (first | refine Bn ?_ ?_ | refine Bu ?_ | refine Bh ?_ | refine Bs ?_ | exact rfl)) <;> simp [rdI, rdO, rdE, rdB, rdN, rdS, rdD, rdW, tkM], fun _ => hsm, ?_⟩
  skip
  refine ⟨f, by (repeat' (first | refine Bn ?_ ?_ | refine Bu ?_ | refine Bh ?_ | refine Bs ?_ | exact rfl)) <;> simp [rdI, rdO, rdE, rdB, rdN, rdS, rdD, rdW, tkM], fun _ => hsm, ?_⟩
  repeat ((conv => whnf); first | refine ⟨fun h => h, ?_⟩ | refine ⟨(_, _, _), rfl, fun _ => trivial, ?_⟩ | refine ⟨(_, _), rfl, fun _ => trivial, ?_⟩)
  (conv => whnf); refine ⟨fun h1 => ?_, fun h1 => ?_⟩
  · have h1 : (!Iu f || !inB k 1 3 || !A78 t g || (k == 2 && (!(s == []) || t != 0 || g != 0))) = true := h1
    rw [if_pos h1] at hI
    skip
    rw [fin hI]
    exact ⟨trivial, ⟨rfl, rfl, trivial⟩, rfl, trivial⟩
  have h1 : (!Iu f || !inB k 1 3 || !A78 t g || (k == 2 && (!(s == []) || t != 0 || g != 0))) = false := h1
  rw [if_neg (by rw [h1]; decide)] at hI
  have hok : Iu f = true := by revert h1; cases Iu f <;> simp
  skip
  refine ⟨p, rfl, fun _ => by show p.length ≤ _; omega, ?_⟩
  repeat ((conv => whnf); refine ⟨fun h => h, ?_⟩)
  (conv => whnf); refine ⟨fun h2 => ?_, fun h2 => ?_⟩
  · have h2 : (!Aw p || p == sl) = true := h2
    rw [if_pos h2] at hI
    skip
    rw [fin hI]
    exact ⟨trivial, ⟨rfl, rfl, trivial⟩, rfl, trivial⟩
  have h2 : (!Aw p || p == sl) = false := h2
  rw [if_neg (by rw [h2]; decide)] at hI
  rw [Bool.or_eq_false_iff] at h2
  have hn1 := B0n (by simpa using h2.1) h2.2
  have hn4 := Hf (p := p)
  have hn6 := Tj (p := p)
  skip
  (conv => whnf); refine ⟨fun h3 => ?_, fun h3 => ?_⟩
  · have h3 : decide ((s.length : Int) > 80) = true := h3
    rw [if_pos h3] at hI
    skip
    rw [fin hI]
    exact ⟨trivial, ⟨rfl, rfl, trivial⟩, rfl, trivial⟩
  have h3 : decide ((s.length : Int) > 80) = false := h3
  rw [if_neg (by rw [h3]; decide)] at hI
  skip
  refine ⟨p, rfl, fun _ => by show p.length ≤ _; omega, ?_⟩
  skip
  refine ⟨(f, names p), by (repeat' (first | refine Bn ?_ ?_ | refine Bu ?_ | refine Bh ?_ | refine Bs ?_ | exact rfl)) <;> simp [rdI, rdO, rdE, rdB, rdN, rdS, rdD, rdW, tkM], fun _ => ⟨hok, by show (names p).length ≤ _; omega⟩, ?_⟩
  skip
  (conv => whnf); refine ⟨fun h4 => ?_, fun h4 => ?_⟩
  · have h4 : decide (Dk f 0 (names p) ≥ 0) = true := h4
    rw [if_pos h4] at hI
    skip
    rw [fin hI]
    exact ⟨trivial, ⟨rfl, rfl, trivial⟩, rfl, trivial⟩
  have h4 : decide (Dk f 0 (names p) ≥ 0) = false := h4
  rw [if_neg (by rw [h4]; decide)] at hI
  obtain ⟨hsh, _, hat⟩ := On hok
  have hnn := hsh.nn
  have hup : ∀ x, x ∈ up p → x.length ≤ 6 := fun x hx => hn6 x (List.mem_of_mem_take hx)
  have hul : (up p).length ≤ 4 := by rw [up, List.length_take]; omega
  repeat ((conv => whnf); first | refine ⟨_, w64 (bb), ?_⟩ | refine ⟨fun _ => ⟨bb, bb, bb⟩, ?_⟩)
  refine ⟨(f, up p), by
    refine Bn ?_ (Bn (Bh ?_) rfl)
    · exact by (repeat' (first | refine Bn ?_ ?_ | refine Bu ?_ | refine Bh ?_ | refine Bs ?_ | exact rfl)) <;> simp [rdI, rdO, rdE, rdB, rdN, rdS, rdD, rdW, tkM]
    · rw [show (((((names p).map A6).length : Nat) : Int) - 1).toNat = (names p).length - 1 by rw [List.length_map]; omega]
      simp [up, List.map_take], fun _ => ⟨hok, by show (up p).length ≤ _; omega, fun x hx => by have := hup x hx; omega⟩, ?_⟩
  have hdk := A7u (l := up p) hsh.wk (i := 0) (by omega) (.inl ⟨5, hat⟩)
  repeat ((conv => whnf); refine ⟨(by kernel_rfl : C6 _ _ = true), ?_⟩)
  (conv => whnf); refine ⟨fun h5 => ?_, fun h5 => ?_⟩
  · have h5 : ((down f 0 (up p)).2.2 != 0) = true := h5
    rw [mk2, if_pos h5] at hI
    skip
    refine ⟨f, by (repeat' (first | refine Bn ?_ ?_ | refine Bu ?_ | refine Bh ?_ | refine Bs ?_ | exact rfl)) <;> simp [rdI, rdO, rdE, rdB, rdN, rdS, rdD, rdW, tkM], fun _ => hsm, ?_⟩
    skip
    rw [fin hI]
    exact ⟨trivial, ⟨rfl, rfl, trivial⟩, rfl, trivial⟩
  have h5 : ((down f 0 (up p)).2.2 != 0) = false := h5
  rw [mk2, if_neg (by rw [h5]; decide)] at hI
  obtain ⟨w1, w2, w3⟩ := hdk (by simpa using h5)
  have hl6 := A31 p
  skip
  refine ⟨p, rfl, fun _ => by show p.length ≤ _; omega, ?_⟩
  skip
  refine ⟨((down f 0 (up p)).1, (down f 0 (up p)).2.1.toNat, Ji p, k), by
    refine Bn ?_ (Bn ?_ (Bn rfl (Bn rfl rfl)))
    · exact by (repeat' (first | refine Bn ?_ ?_ | refine Bu ?_ | refine Bh ?_ | refine Bs ?_ | exact rfl)) <;> simp [rdI, rdO, rdE, rdB, rdN, rdS, rdD, rdW, tkM]
    · show AV.int .i64 (down f 0 (up p)).2.1 = .int .i64 (((down f 0 (up p)).2.1.toNat : Nat) : Int); congr 1; omega, fun _ => ⟨w1, w3, by show (Ji p).length ≤ _; omega⟩, ?_⟩
  have hnw := Qi (i := (down f 0 (up p)).2.1.toNat) (s := Ji p) (k := k) w1
  repeat ((conv => whnf); refine ⟨(by kernel_rfl : C6 _ _ = true), ?_⟩)
  (conv => whnf); refine ⟨fun h6 => ?_, fun h6 => ?_⟩
  · have h6 : (!(Io (down f 0 (up p)).1 (down f 0 (up p)).2.1.toNat (Ji p) k).2.2) = true := h6
    rw [mk3, if_pos h6] at hI
    skip
    refine ⟨f, by (repeat' (first | refine Bn ?_ ?_ | refine Bu ?_ | refine Bh ?_ | refine Bs ?_ | exact rfl)) <;> simp [rdI, rdO, rdE, rdB, rdN, rdS, rdD, rdW, tkM], fun _ => hsm, ?_⟩
    skip
    rw [fin hI]
    exact ⟨trivial, ⟨rfl, rfl, trivial⟩, rfl, trivial⟩
  have h6 : (!(Io (down f 0 (up p)).1 (down f 0 (up p)).2.1.toNat (Ji p) k).2.2) = false := h6
  rw [mk3, if_neg (by rw [h6]; decide)] at hI
  generalize hN : Io (down f 0 (up p)).1 (down f 0 (up p)).2.1.toNat (Ji p) k = N at hI hnw
  skip
  refine ⟨(N.1, N.2.1, s, t, g), by rw [← hN]; exact by (repeat' (first | refine Bn ?_ ?_ | refine Bu ?_ | refine Bh ?_ | refine Bs ?_ | exact rfl)) <;> simp [rdI, rdO, rdE, rdB, rdN, rdS, rdD, rdW, tkM], fun _ => ⟨hnw.sm, by show s.length ≤ _; omega⟩, ?_⟩
  skip
  (conv => whnf); refine ⟨fun h7 => ?_, fun h7 => ?_⟩
  · have h7 : (!(I2 N.1 N.2.1 s t g).2) = true := h7
    rw [wr2, if_pos h7] at hI
    skip
    refine ⟨f, by (repeat' (first | refine Bn ?_ ?_ | refine Bu ?_ | refine Bh ?_ | refine Bs ?_ | exact rfl)) <;> simp [rdI, rdO, rdE, rdB, rdN, rdS, rdD, rdW, tkM], fun _ => hsm, ?_⟩
    skip
    rw [fin hI]
    exact ⟨trivial, ⟨rfl, rfl, trivial⟩, rfl, trivial⟩
  have h7 : (!(I2 N.1 N.2.1 s t g).2) = false := h7
  rw [wr2, if_neg (by rw [h7]; decide)] at hI
  skip
  rw [fin hI]
  exact ⟨trivial, ⟨rfl, rfl, trivial⟩, rfl, trivial⟩
theorem A1v : Ay Tryz.prog 124 Dh := Dn (Ch _ _) (FOk.cons G4 (FOk.cons E1 (FOk.cons O3 (FOk.cons Ld (FOk.cons K6 (FOk.cons Qx (FOk.cons Kt (FOk.cons Z0 (FOk.cons Np (FOk.cons Vn (FOk.cons Pk FOk.nil))))))))))) mixed Tryz.func124 rfl Tryz.call124 (by decide) (by kernel_rfl) A5b (fun h => by cases h) (by intro (y : (Fs × Str × Int × Str × Int × Int)) _; first | exact ⟨by simp [Dh, con, Aa, A8, Ag, AV.free, A2, A3, A1, A6, Ad, Ae, Ah, Ap, Al, Av, Ax], by simp [Dh, con, Aa, A8, Ag, AV.free, A2, A3, A1, A6, Ad, Ae, Ah, Ap, Al, Av, Ax]⟩ | (obtain ⟨_, _⟩ := y; exact ⟨by simp [Dh, con, Aa, A8, Ag, AV.free, A2, A3, A1, A6, Ad, Ae, Ah, Ap, Al, Av, Ax], by simp [Dh, con, Aa, A8, Ag, AV.free, A2, A3, A1, A6, Ad, Ae, Ah, Ap, Al, Av, Ax]⟩) | (obtain ⟨_, _, _⟩ := y; exact ⟨by simp [Dh, con, Aa, A8, Ag, AV.free, A2, A3, A1, A6, Ad, Ae, Ah, Ap, Al, Av, Ax], by simp [Dh, con, Aa, A8, Ag, AV.free, A2, A3, A1, A6, Ad, Ae, Ah, Ap, Al, Av, Ax]⟩)) (by intro (y : (Fs × Str × Int × Str × Int × Int)) _; first | (simp [Dh, con, Aa, A8, Ag, AV.free, A2, A3, A1, A6, Ad, Ae, Ah, Ap, Al, Av, Ax]; done) | (obtain ⟨_, _⟩ := y; simp [Dh, con, Aa, A8, Ag, AV.free, A2, A3, A1, A6, Ad, Ae, Ah, Ap, Al, Av, Ax]; done) | (obtain ⟨_, _, _⟩ := y; simp [Dh, con, Aa, A8, Ag, AV.free, A2, A3, A1, A6, Ad, Ae, Ah, Ap, Al, Av, Ax]; done))
noncomputable def E4 : Bp := A8 true [.rd [some 5, some 1], mC, mC, mC, mC] (Fs × Str × Str × Int × Int) (fun ⟨f, p, s, t, g⟩ => [.agg (Al f), .str p, .str s, .int .i64 t, .int .i64 g]) (fun x => smF x.1 ∧ x.2.1.length ≤ 1048576 ∧ x.2.2.1.length ≤ 1048576) (fun ⟨f, p, s, t, g⟩ => .tup [.agg (Al (Xw f p s t g).1), .int .i64 (Xw f p s t g).2]) (fun _ => [])
noncomputable def A8p : Env := ⟨A4 Bc, A4 [(75, Cu), (85, M7), (120, Fb), (162, Jb), (163, Ez), (164, Dw), (168, Mk)], [0, 1, 2, 3, 4, 5, 10, 11, 12, 13, 14, 15, 26, 30, 37, 45, 49, 61]⟩
set_option maxRecDepth 100000 in
set_option maxHeartbeats 4000000 in
theorem A8q : Bd A8p (Az Tryz.f125) Tryz.f125.results.toList E4 := by
  rintro ⟨f, p, s, t, g⟩ hx
  obtain ⟨hsm, hpl, hsl⟩ : smF f ∧ p.length ≤ 1048576 ∧ s.length ≤ 1048576 := hx
  have hnl := hsm.1
  refine ⟨trivial, ?_⟩
  have fin : ∀ {r : Fs × Int}, r = Xw f p s t g → E4.res (f, p, s, t, g) = .tup [.agg (Al r.1), .int .i64 r.2] := fun h => by rw [h]; rfl
  have hI := (Xw.eq_1 f p s t g).symm
  skip
  refine ⟨f, by (repeat' (first | refine Bn ?_ ?_ | refine Bu ?_ | refine Bh ?_ | refine Bs ?_ | exact rfl)) <;> simp [rdI, rdO, rdE, rdB, rdN, rdS, rdD, rdW, tkM], fun _ => hsm, ?_⟩
  skip
  refine ⟨f, by (repeat' (first | refine Bn ?_ ?_ | refine Bu ?_ | refine Bh ?_ | refine Bs ?_ | exact rfl)) <;> simp [rdI, rdO, rdE, rdB, rdN, rdS, rdD, rdW, tkM], fun _ => hsm, ?_⟩
  repeat ((conv => whnf); first | refine ⟨fun h => h, ?_⟩ | refine ⟨(_, _), rfl, fun _ => trivial, ?_⟩)
  (conv => whnf); refine ⟨fun h1 => ?_, fun h1 => ?_⟩
  · have h1 : (!Iu f || !A78 t g) = true := h1
    rw [if_pos h1] at hI
    skip
    rw [fin hI]
    exact ⟨trivial, ⟨rfl, rfl, trivial⟩, rfl, trivial⟩
  have h1 : (!Iu f || !A78 t g) = false := h1
  rw [if_neg (by rw [h1]; decide)] at hI
  have hok : Iu f = true := by revert h1; cases Iu f <;> simp
  obtain ⟨hsh, _, hat⟩ := On hok
  have hnn := hsh.nn
  skip
  refine ⟨p, rfl, fun _ => by show p.length ≤ _; omega, ?_⟩
  skip
  (conv => whnf); refine ⟨fun h2 => ?_, fun h2 => ?_⟩
  · have h2 : (!Aw p) = true := h2
    rw [if_pos h2] at hI
    skip
    rw [fin hI]
    exact ⟨trivial, ⟨rfl, rfl, trivial⟩, rfl, trivial⟩
  have h2 : (!Aw p) = false := h2
  rw [if_neg (by rw [h2]; decide)] at hI
  have hn4 := Hf (p := p)
  have hwk := Rq (l := names p) hat (by omega)
  skip
  refine ⟨p, rfl, fun _ => by show p.length ≤ _; omega, ?_⟩
  skip
  refine ⟨(f, names p), by (repeat' (first | refine Bn ?_ ?_ | refine Bu ?_ | refine Bh ?_ | refine Bs ?_ | exact rfl)) <;> simp [rdI, rdO, rdE, rdB, rdN, rdS, rdD, rdW, tkM], fun _ => ⟨hok, by show (names p).length ≤ _; omega⟩, ?_⟩
  repeat ((conv => whnf); refine ⟨(by kernel_rfl : C6 _ _ = true), ?_⟩)
  generalize hW : Dk f 0 (names p) = W at hI hwk
  (conv => whnf); refine ⟨fun h4 => ?_, fun h4 => ?_⟩
  · have h4 : decide (Dk f 0 (names p) < 0) = true := h4
    rw [hW] at h4
    rw [if_pos h4] at hI
    skip
    rw [fin hI]
    exact ⟨trivial, ⟨rfl, rfl, trivial⟩, rfl, trivial⟩
  have h4 : decide (Dk f 0 (names p) < 0) = false := h4
  rw [hW] at h4
  rw [if_neg (by rw [h4]; decide)] at hI
  obtain ⟨n, hn⟩ := B7 (l := f.nodes) (i := W.toNat) (by simp at h4; omega)
  rw [Mg hn] at hI
  repeat ((conv => whnf); refine ⟨Ap n, fun _ => by rw [hW]; exact ⟨by simp at h4; omega, Am hn⟩, ?_⟩)
  (conv => whnf); refine ⟨fun h5 => ?_, fun h5 => ?_⟩
  · have h5 : (n.kind == 2) = true := h5
    rw [if_pos h5] at hI
    skip
    rw [fin hI]
    exact ⟨trivial, ⟨rfl, rfl, trivial⟩, rfl, trivial⟩
  have h5 : (n.kind == 2) = false := h5
  rw [if_neg (by rw [h5]; decide)] at hI
  skip
  (conv => whnf); refine ⟨fun h3 => ?_, fun h3 => ?_⟩
  · have h3 : decide ((s.length : Int) > 80) = true := h3
    rw [if_pos h3] at hI
    skip
    rw [fin hI]
    exact ⟨trivial, ⟨rfl, rfl, trivial⟩, rfl, trivial⟩
  have h3 : decide ((s.length : Int) > 80) = false := h3
  rw [if_neg (by rw [h3]; decide)] at hI
  skip
  refine ⟨(f, W, s, t, g), by rw [← hW]; exact by (repeat' (first | refine Bn ?_ ?_ | refine Bu ?_ | refine Bh ?_ | refine Bs ?_ | exact rfl)) <;> simp [rdI, rdO, rdE, rdB, rdN, rdS, rdD, rdW, tkM], fun _ => ⟨hsm, by show s.length ≤ _; omega⟩, ?_⟩
  skip
  (conv => whnf); refine ⟨fun h7 => ?_, fun h7 => ?_⟩
  · have h7 : (!(I2 f W s t g).2) = true := h7
    rw [wr2, if_pos h7] at hI
    skip
    refine ⟨f, by (repeat' (first | refine Bn ?_ ?_ | refine Bu ?_ | refine Bh ?_ | refine Bs ?_ | exact rfl)) <;> simp [rdI, rdO, rdE, rdB, rdN, rdS, rdD, rdW, tkM], fun _ => hsm, ?_⟩
    skip
    rw [fin hI]
    exact ⟨trivial, ⟨rfl, rfl, trivial⟩, rfl, trivial⟩
  have h7 : (!(I2 f W s t g).2) = false := h7
  rw [wr2, if_neg (by rw [h7]; decide)] at hI
  skip
  rw [fin hI]
  exact ⟨trivial, ⟨rfl, rfl, trivial⟩, rfl, trivial⟩
theorem A3p : Ay Tryz.prog 125 E4 := Dn (Ch _ _) (FOk.cons G4 (FOk.cons O3 (FOk.cons Ld (FOk.cons K6 (FOk.cons Qx (FOk.cons Kt (FOk.cons Pk FOk.nil))))))) mixed Tryz.func125 rfl Tryz.call125 (by decide) (by kernel_rfl) A8q (fun h => by cases h) (by intro (y : (Fs × Str × Str × Int × Int)) _; first | exact ⟨by simp [E4, con, Aa, A8, Ag, AV.free, A2, A3, A1, A6, Ad, Ae, Ah, Ap, Al, Av, Ax], by simp [E4, con, Aa, A8, Ag, AV.free, A2, A3, A1, A6, Ad, Ae, Ah, Ap, Al, Av, Ax]⟩ | (obtain ⟨_, _⟩ := y; exact ⟨by simp [E4, con, Aa, A8, Ag, AV.free, A2, A3, A1, A6, Ad, Ae, Ah, Ap, Al, Av, Ax], by simp [E4, con, Aa, A8, Ag, AV.free, A2, A3, A1, A6, Ad, Ae, Ah, Ap, Al, Av, Ax]⟩) | (obtain ⟨_, _, _⟩ := y; exact ⟨by simp [E4, con, Aa, A8, Ag, AV.free, A2, A3, A1, A6, Ad, Ae, Ah, Ap, Al, Av, Ax], by simp [E4, con, Aa, A8, Ag, AV.free, A2, A3, A1, A6, Ad, Ae, Ah, Ap, Al, Av, Ax]⟩)) (by intro (y : (Fs × Str × Str × Int × Int)) _; first | (simp [E4, con, Aa, A8, Ag, AV.free, A2, A3, A1, A6, Ad, Ae, Ah, Ap, Al, Av, Ax]; done) | (obtain ⟨_, _⟩ := y; simp [E4, con, Aa, A8, Ag, AV.free, A2, A3, A1, A6, Ad, Ae, Ah, Ap, Al, Av, Ax]; done) | (obtain ⟨_, _, _⟩ := y; simp [E4, con, Aa, A8, Ag, AV.free, A2, A3, A1, A6, Ad, Ae, Ah, Ap, Al, Av, Ax]; done))
noncomputable def De : Bp := A8 true [.rd [some 5, some 1], mC] (Fs × Str) (fun ⟨f, p⟩ => [.agg (Al f), .str p]) (fun x => smF x.1 ∧ x.2.length ≤ 1048576) (fun ⟨f, p⟩ => .tup [.agg (Al (Sx f p).1), .int .i64 (Sx f p).2]) (fun _ => [])
noncomputable def A3n : Env := ⟨A4 Bc, A4 [(75, Cu), (85, M7), (120, Fb), (162, Jb), (164, Dw), (167, Hr), (169, Pw), (170, Cy)], [0, 1, 2, 4, 5, 6, 7, 8, 9, 15, 23, 31, 48]⟩
set_option maxRecDepth 100000 in
set_option maxHeartbeats 4000000 in
theorem A4r : Bd A3n (Az Tryz.f127) Tryz.f127.results.toList De := by
  rintro ⟨f, p⟩ hx
  obtain ⟨hsm, hpl⟩ : smF f ∧ p.length ≤ 1048576 := hx
  have hnl := hsm.1
  refine ⟨trivial, ?_⟩
  have fin : ∀ {r : Fs × Int}, r = Sx f p → De.res (f, p) = .tup [.agg (Al r.1), .int .i64 r.2] := fun h => by rw [h]; rfl
  have hI := (Sx.eq_1 f p).symm
  skip
  refine ⟨f, by (repeat' (first | refine Bn ?_ ?_ | refine Bu ?_ | refine Bh ?_ | refine Bs ?_ | exact rfl)) <;> simp [rdI, rdO, rdE, rdB, rdN, rdS, rdD, rdW, tkM], fun _ => hsm, ?_⟩
  skip
  refine ⟨f, by (repeat' (first | refine Bn ?_ ?_ | refine Bu ?_ | refine Bh ?_ | refine Bs ?_ | exact rfl)) <;> simp [rdI, rdO, rdE, rdB, rdN, rdS, rdD, rdW, tkM], fun _ => hsm, ?_⟩
  skip
  (conv => whnf); refine ⟨fun h1 => ?_, fun h1 => ?_⟩
  · have h1 : (!Iu f) = true := h1
    rw [if_pos h1] at hI
    skip
    rw [fin hI]
    exact ⟨trivial, ⟨rfl, rfl, trivial⟩, rfl, trivial⟩
  have h1 : (!Iu f) = false := h1
  rw [if_neg (by rw [h1]; decide)] at hI
  have hok : Iu f = true := by revert h1; cases Iu f <;> simp
  obtain ⟨hsh, _, hat⟩ := On hok
  have hnn := hsh.nn
  skip
  refine ⟨p, rfl, fun _ => by show p.length ≤ _; omega, ?_⟩
  repeat ((conv => whnf); refine ⟨fun h => h, ?_⟩)
  (conv => whnf); refine ⟨fun h2 => ?_, fun h2 => ?_⟩
  · have h2 : (!Aw p || p == sl) = true := h2
    rw [if_pos h2] at hI
    skip
    rw [fin hI]
    exact ⟨trivial, ⟨rfl, rfl, trivial⟩, rfl, trivial⟩
  have h2 : (!Aw p || p == sl) = false := h2
  rw [if_neg (by rw [h2]; decide)] at hI
  rw [Bool.or_eq_false_iff] at h2
  have hn1 := B0n (by simpa using h2.1) h2.2
  have hn4 := Hf (p := p)
  have hn6 := Tj (p := p)
  have hwk := Rq (l := names p) hat (by omega)
  have hwu := B81 (f := f) (p := p)
  have hwk2 := Rq (l := up p) hat (by omega)
  have hup : ∀ x, x ∈ up p → x.length ≤ 6 := fun x hx => hn6 x (List.mem_of_mem_take hx)
  have hul : (up p).length ≤ 4 := by rw [up, List.length_take]; omega
  skip
  refine ⟨p, rfl, fun _ => by show p.length ≤ _; omega, ?_⟩
  skip
  refine ⟨(f, names p), by (repeat' (first | refine Bn ?_ ?_ | refine Bu ?_ | refine Bh ?_ | refine Bs ?_ | exact rfl)) <;> simp [rdI, rdO, rdE, rdB, rdN, rdS, rdD, rdW, tkM], fun _ => ⟨hok, by show (names p).length ≤ _; omega⟩, ?_⟩
  skip
  generalize hW : Dk f 0 (names p) = W at hI hwk hwu
  (conv => whnf); refine ⟨fun h4 => ?_, fun h4 => ?_⟩
  · have h4 : decide (Dk f 0 (names p) < 0) = true := h4
    rw [hW] at h4
    rw [if_pos h4] at hI
    skip
    rw [fin hI]
    exact ⟨trivial, ⟨rfl, rfl, trivial⟩, rfl, trivial⟩
  have h4 : decide (Dk f 0 (names p) < 0) = false := h4
  rw [hW] at h4
  rw [if_neg (by rw [h4]; decide)] at hI
  have h4 : ¬ W < 0 := by simpa using h4
  have hwu := hwu h4
  obtain ⟨n, hn⟩ := B7 (l := f.nodes) (i := W.toNat) (by omega)
  have hna : Gi f W = n := by rw [Gi, List.getD_eq_getElem?_getD, hn]; rfl
  rw [hna] at hI
  repeat ((conv => whnf); first | refine ⟨fun h => h, ?_⟩ | refine ⟨Ap n, fun _ => by rw [hW]; exact ⟨by omega, Am hn⟩, ?_⟩)
  (conv => whnf); refine ⟨fun h5 => ?_, fun h5 => ?_⟩
  · have h5 : (n.kind == 2 && decide (n.size > 0)) = true := h5
    rw [if_pos h5] at hI
    skip
    rw [fin hI]
    exact ⟨trivial, ⟨rfl, rfl, trivial⟩, rfl, trivial⟩
  have h5 : (n.kind == 2 && decide (n.size > 0)) = false := h5
  rw [if_neg (by rw [h5]; decide)] at hI
  have hdw := B4b (i := W) hsh.wk
  have hdl := B7r f W
  skip
  refine ⟨(f, W), by rw [← hW]; exact by (repeat' (first | refine Bn ?_ ?_ | refine Bu ?_ | refine Bh ?_ | refine Bs ?_ | exact rfl)) <;> simp [rdI, rdO, rdE, rdB, rdN, rdS, rdD, rdW, tkM], fun _ => hsm, ?_⟩
  repeat ((conv => whnf); first | refine ⟨_, w64 (bb), ?_⟩ | refine ⟨fun _ => ⟨bb, bb, bb⟩, ?_⟩)
  refine ⟨(f, up p), by
    refine Bn ?_ (Bn (Bh ?_) rfl)
    · exact by (repeat' (first | refine Bn ?_ ?_ | refine Bu ?_ | refine Bh ?_ | refine Bs ?_ | exact rfl)) <;> simp [rdI, rdO, rdE, rdB, rdN, rdS, rdD, rdW, tkM]
    · rw [show (((((names p).map A6).length : Nat) : Int) - 1).toNat = (names p).length - 1 by rw [List.length_map]; omega]
      simp [up, List.map_take], fun _ => ⟨hok, by show (up p).length ≤ _; omega⟩, ?_⟩
  skip
  refine ⟨p, rfl, fun _ => by show p.length ≤ _; omega, ?_⟩
  skip
  refine ⟨((Gh f W).1, (Dk f 0 (up p)).toNat, Ji p), by
    refine Bn ?_ (Bn ?_ (Bn rfl rfl))
    · exact by (repeat' (first | refine Bn ?_ ?_ | refine Bu ?_ | refine Bh ?_ | refine Bs ?_ | exact rfl)) <;> simp [rdI, rdO, rdE, rdB, rdN, rdS, rdD, rdW, tkM]
    · show AV.int .i64 (Dk f 0 (up p)) = .int .i64 (((Dk f 0 (up p)).toNat : Nat) : Int); congr 1; omega, fun _ => ⟨hdw, by show (Dk f 0 (up p)).toNat < (Gh f W).1.nodes.length; omega⟩, ?_⟩
  repeat ((conv => whnf); refine ⟨(by kernel_rfl : C6 _ _ = true), ?_⟩)
  rw [fin hI]
  exact ⟨trivial, ⟨rfl, rfl, trivial⟩, rfl, trivial⟩
theorem A2c : Ay Tryz.prog 127 De := Dn (Ch _ _) (FOk.cons G4 (FOk.cons O3 (FOk.cons Ld (FOk.cons K6 (FOk.cons Kt (FOk.cons Vn (FOk.cons Vp (FOk.cons Wu FOk.nil)))))))) mixed Tryz.func127 rfl Tryz.call127 (by decide) (by kernel_rfl) A4r (fun h => by cases h) (by intro (y : (Fs × Str)) _; first | exact ⟨by simp [De, con, Aa, A8, Ag, AV.free, A2, A3, A1, A6, Ad, Ae, Ah, Ap, Al, Av, Ax], by simp [De, con, Aa, A8, Ag, AV.free, A2, A3, A1, A6, Ad, Ae, Ah, Ap, Al, Av, Ax]⟩ | (obtain ⟨_, _⟩ := y; exact ⟨by simp [De, con, Aa, A8, Ag, AV.free, A2, A3, A1, A6, Ad, Ae, Ah, Ap, Al, Av, Ax], by simp [De, con, Aa, A8, Ag, AV.free, A2, A3, A1, A6, Ad, Ae, Ah, Ap, Al, Av, Ax]⟩) | (obtain ⟨_, _, _⟩ := y; exact ⟨by simp [De, con, Aa, A8, Ag, AV.free, A2, A3, A1, A6, Ad, Ae, Ah, Ap, Al, Av, Ax], by simp [De, con, Aa, A8, Ag, AV.free, A2, A3, A1, A6, Ad, Ae, Ah, Ap, Al, Av, Ax]⟩)) (by intro (y : (Fs × Str)) _; first | (simp [De, con, Aa, A8, Ag, AV.free, A2, A3, A1, A6, Ad, Ae, Ah, Ap, Al, Av, Ax]; done) | (obtain ⟨_, _⟩ := y; simp [De, con, Aa, A8, Ag, AV.free, A2, A3, A1, A6, Ad, Ae, Ah, Ap, Al, Av, Ax]; done) | (obtain ⟨_, _, _⟩ := y; simp [De, con, Aa, A8, Ag, AV.free, A2, A3, A1, A6, Ad, Ae, Ah, Ap, Al, Av, Ax]; done))
noncomputable def Dd : Bp := A8 true [.rd [some 5, some 1], mC] (Fs × Str) (fun ⟨f, s⟩ => [.agg (Al f), .str s]) (fun x => smF x.1 ∧ x.2.length ≤ 1048576) (fun ⟨f, s⟩ => .tup [.agg (Al (P8 f s).1), .int .i64 (P8 f s).2]) (fun _ => [])
noncomputable def A5y : Env := ⟨A4 Bc, A4 [(120, Fb), (162, Jb), (164, Dw), (166, Cw), (171, J4)], [0, 1, 2, 4, 5, 6, 7, 8, 9, 10, 11, 12, 17, 21, 28, 36, 49]⟩
set_option maxRecDepth 100000 in
set_option maxHeartbeats 4000000 in
theorem A36 : Bd A5y (Az Tryz.f128) Tryz.f128.results.toList Dd := by
  rintro ⟨f, s⟩ hx
  obtain ⟨hsm, hsl⟩ : smF f ∧ s.length ≤ 1048576 := hx
  have hnl := hsm.1
  refine ⟨trivial, ?_⟩
  have fin : ∀ {r : Fs × Int}, r = P8 f s → Dd.res (f, s) = .tup [.agg (Al r.1), .int .i64 r.2] := fun h => by rw [h]; rfl
  have hI := (P8.eq_1 f s).symm
  skip
  refine ⟨f, by (repeat' (first | refine Bn ?_ ?_ | refine Bu ?_ | refine Bh ?_ | refine Bs ?_ | exact rfl)) <;> simp [rdI, rdO, rdE, rdB, rdN, rdS, rdD, rdW, tkM], fun _ => hsm, ?_⟩
  skip
  refine ⟨f, by (repeat' (first | refine Bn ?_ ?_ | refine Bu ?_ | refine Bh ?_ | refine Bs ?_ | exact rfl)) <;> simp [rdI, rdO, rdE, rdB, rdN, rdS, rdD, rdW, tkM], fun _ => hsm, ?_⟩
  skip
  (conv => whnf); refine ⟨fun h1 => ?_, fun h1 => ?_⟩
  · have h1 : (!Iu f) = true := h1
    rw [if_pos h1] at hI
    skip
    rw [fin hI]
    exact ⟨trivial, ⟨rfl, rfl, trivial⟩, rfl, trivial⟩
  have h1 : (!Iu f) = false := h1
  rw [if_neg (by rw [h1]; decide)] at hI
  have hok : Iu f = true := by revert h1; cases Iu f <;> simp
  obtain ⟨hsh, _, hat⟩ := On hok
  have hnn := hsh.nn
  skip
  (conv => whnf); refine ⟨fun h3 => ?_, fun h3 => ?_⟩
  · have h3 : decide ((s.length : Int) > 80) = true := h3
    rw [if_pos h3] at hI
    skip
    rw [fin hI]
    exact ⟨trivial, ⟨rfl, rfl, trivial⟩, rfl, trivial⟩
  have h3 : decide ((s.length : Int) > 80) = false := h3
  rw [if_neg (by rw [h3]; decide)] at hI
  have hwk := Rq (l := [hid]) hat (by omega)
  skip
  refine ⟨(f, [hid]), by
    refine Bn ?_ (Bn (Bh ?_) rfl)
    · exact by (repeat' (first | refine Bn ?_ ?_ | refine Bu ?_ | refine Bh ?_ | refine Bs ?_ | exact rfl)) <;> simp [rdI, rdO, rdE, rdB, rdN, rdS, rdD, rdW, tkM]
    · rfl, fun _ => ⟨hok, by show 1 ≤ _; omega⟩, ?_⟩
  skip
  (conv => whnf); refine ⟨fun h4 => ?_, fun h4 => ?_⟩
  · have h4 : decide (Dk f 0 [hid] < 0) = true := h4
    rw [if_pos h4] at hI
    skip
    refine ⟨(f, 0, hid, 1), by refine Bn ?_ (Bn rfl (Bn rfl (Bn rfl rfl))); exact by (repeat' (first | refine Bn ?_ ?_ | refine Bu ?_ | refine Bh ?_ | refine Bs ?_ | exact rfl)) <;> simp [rdI, rdO, rdE, rdB, rdN, rdS, rdD, rdW, tkM], fun _ => ⟨hsh.wk, by show 0 < f.nodes.length; omega, by show hid.length ≤ _; decide⟩, ?_⟩
    have hnw := Qi (i := 0) (s := hid) (k := 1) hsh.wk
    skip
    (conv => whnf); refine ⟨fun h6 => ?_, fun h6 => ?_⟩
    · have h6 : (!(Io f 0 hid 1).2.2) = true := h6
      rw [hd3, if_pos h6] at hI
      skip
      refine ⟨f, by (repeat' (first | refine Bn ?_ ?_ | refine Bu ?_ | refine Bh ?_ | refine Bs ?_ | exact rfl)) <;> simp [rdI, rdO, rdE, rdB, rdN, rdS, rdD, rdW, tkM], fun _ => hsm, ?_⟩
      skip
      rw [fin hI]
      exact ⟨trivial, ⟨rfl, rfl, trivial⟩, rfl, trivial⟩
    have h6 : (!(Io f 0 hid 1).2.2) = false := h6
    rw [hd3, if_neg (by rw [h6]; decide)] at hI
    skip
    refine ⟨((Io f 0 hid 1).1, (Io f 0 hid 1).2.1, s), by (repeat' (first | refine Bn ?_ ?_ | refine Bu ?_ | refine Bh ?_ | refine Bs ?_ | exact rfl)) <;> simp [rdI, rdO, rdE, rdB, rdN, rdS, rdD, rdW, tkM], fun _ => ⟨hnw.sm, by show s.length ≤ _; omega⟩, ?_⟩
    skip
    (conv => whnf); refine ⟨fun h7 => ?_, fun h7 => ?_⟩
    · have h7 : (!(Ba (Io f 0 hid 1).1 (Io f 0 hid 1).2.1 s).2) = true := h7
      rw [wr2, if_pos h7] at hI
      skip
      refine ⟨f, by (repeat' (first | refine Bn ?_ ?_ | refine Bu ?_ | refine Bh ?_ | refine Bs ?_ | exact rfl)) <;> simp [rdI, rdO, rdE, rdB, rdN, rdS, rdD, rdW, tkM], fun _ => hsm, ?_⟩
      skip
      rw [fin hI]
      exact ⟨trivial, ⟨rfl, rfl, trivial⟩, rfl, trivial⟩
    have h7 : (!(Ba (Io f 0 hid 1).1 (Io f 0 hid 1).2.1 s).2) = false := h7
    rw [wr2, if_neg (by rw [h7]; decide)] at hI
    skip
    rw [fin hI]
    exact ⟨trivial, ⟨rfl, rfl, trivial⟩, rfl, trivial⟩
  have h4 : decide (Dk f 0 [hid] < 0) = false := h4
  rw [if_neg (by rw [h4]; decide)] at hI
  skip
  refine ⟨(f, Dk f 0 [hid], s), by (repeat' (first | refine Bn ?_ ?_ | refine Bu ?_ | refine Bh ?_ | refine Bs ?_ | exact rfl)) <;> simp [rdI, rdO, rdE, rdB, rdN, rdS, rdD, rdW, tkM], fun _ => ⟨hsm, by show s.length ≤ _; omega⟩, ?_⟩
  skip
  (conv => whnf); refine ⟨fun h7 => ?_, fun h7 => ?_⟩
  · have h7 : (!(Ba f (Dk f 0 [hid]) s).2) = true := h7
    rw [wr2, if_pos h7] at hI
    skip
    refine ⟨f, by (repeat' (first | refine Bn ?_ ?_ | refine Bu ?_ | refine Bh ?_ | refine Bs ?_ | exact rfl)) <;> simp [rdI, rdO, rdE, rdB, rdN, rdS, rdD, rdW, tkM], fun _ => hsm, ?_⟩
    skip
    rw [fin hI]
    exact ⟨trivial, ⟨rfl, rfl, trivial⟩, rfl, trivial⟩
  have h7 : (!(Ba f (Dk f 0 [hid]) s).2) = false := h7
  rw [wr2, if_neg (by rw [h7]; decide)] at hI
  skip
  rw [fin hI]
  exact ⟨trivial, ⟨rfl, rfl, trivial⟩, rfl, trivial⟩
theorem A2f : Ay Tryz.prog 128 Dd := Dn (Ch _ _) (FOk.cons Ld (FOk.cons K6 (FOk.cons Kt (FOk.cons Np (FOk.cons Ki FOk.nil))))) mixed Tryz.func128 rfl Tryz.call128 (by decide) (by kernel_rfl) A36 (fun h => by cases h) (by intro (y : (Fs × Str)) _; first | exact ⟨by simp [Dd, con, Aa, A8, Ag, AV.free, A2, A3, A1, A6, Ad, Ae, Ah, Ap, Al, Av, Ax], by simp [Dd, con, Aa, A8, Ag, AV.free, A2, A3, A1, A6, Ad, Ae, Ah, Ap, Al, Av, Ax]⟩ | (obtain ⟨_, _⟩ := y; exact ⟨by simp [Dd, con, Aa, A8, Ag, AV.free, A2, A3, A1, A6, Ad, Ae, Ah, Ap, Al, Av, Ax], by simp [Dd, con, Aa, A8, Ag, AV.free, A2, A3, A1, A6, Ad, Ae, Ah, Ap, Al, Av, Ax]⟩) | (obtain ⟨_, _, _⟩ := y; exact ⟨by simp [Dd, con, Aa, A8, Ag, AV.free, A2, A3, A1, A6, Ad, Ae, Ah, Ap, Al, Av, Ax], by simp [Dd, con, Aa, A8, Ag, AV.free, A2, A3, A1, A6, Ad, Ae, Ah, Ap, Al, Av, Ax]⟩)) (by intro (y : (Fs × Str)) _; first | (simp [Dd, con, Aa, A8, Ag, AV.free, A2, A3, A1, A6, Ad, Ae, Ah, Ap, Al, Av, Ax]; done) | (obtain ⟨_, _⟩ := y; simp [Dd, con, Aa, A8, Ag, AV.free, A2, A3, A1, A6, Ad, Ae, Ah, Ap, Al, Av, Ax]; done) | (obtain ⟨_, _, _⟩ := y; simp [Dd, con, Aa, A8, Ag, AV.free, A2, A3, A1, A6, Ad, Ae, Ah, Ap, Al, Av, Ax]; done))
end Go.GH


set_option linter.unusedVariables false
set_option linter.unusedSimpArgs false
namespace Go.GH
open Go Go.Proofs
noncomputable def Dr : Bp := A8 true [.mp] Cur (fun c => [.own 3 [B9 c]]) Dz (fun c => .int .i64 (Nw c)) (fun c => [.own 3 [B9 (G5 c)]])
noncomputable def A63 : Env := ⟨A4 Bc, A4 [], [0, 2, 3, 34]⟩
set_option maxRecDepth 100000 in
set_option maxHeartbeats 4000000 in
theorem A4z : Bd A63 (Az Tryz.f82) Tryz.f82.results.toList Dr := by
  intro (c : Cur) hc
  obtain ⟨hc1, hc2⟩ : Dz c := hc
  refine ⟨⟨⟨_, _, _, rfl, rfl, by simp⟩, trivial⟩, ?_⟩
  skip
  refine ⟨B88 c.h 6364136223846793005, rfl, ?_⟩
  skip
  refine ⟨Nj c.h, rfl, ?_⟩
  repeat ((conv => whnf); refine ⟨bb, ?_⟩)
  refine ⟨(Nj c.h).fdiv (2 ^ min (33 : Int).toNat IntKind.i64.bits), rfl, ?_⟩
  repeat ((conv => whnf); refine ⟨bb, ?_⟩)
  refine ⟨(Nj c.h).fdiv (2 ^ min (45 : Int).toNat IntKind.i64.bits), rfl, ?_⟩
  skip
  refine ⟨B9m ((Nj c.h).fdiv (2 ^ min (33 : Int).toNat IntKind.i64.bits)) ((Nj c.h).fdiv (2 ^ min (45 : Int).toNat IntKind.i64.bits)), rfl, ?_⟩
  skip
  refine ⟨x0 (Nj c.h), rfl, ?_⟩
  have hx0 := B8t (Nj c.h)
  repeat ((conv => whnf); refine ⟨(by kernel_rfl : C6 _ _ = true), ?_⟩)
  (conv => whnf); refine ⟨fun h1 => ?_, fun h1 => ?_⟩
  · have h1 : c.i < c.b.length := by simpa using h1
    obtain ⟨y, hy⟩ := B7 h1
    have hX : Nw c = A7p (x0 (Nj c.h) + y.toNat) 255 := by rw [Nw, hy]
    have hN : G5 c = ⟨c.b, c.i + 1, Nj c.h⟩ := by rw [G5, if_pos h1]
    have hyl := y.toNat_lt
    skip
    refine ⟨Ae y, fun _ => ⟨by omega, Am hy⟩, ?_⟩
    repeat ((conv => whnf); refine ⟨_, w64 (bb), ?_⟩)
    refine ⟨A7p (x0 (Nj c.h) + y.toNat) 255, rfl, ?_⟩
    repeat ((conv => whnf); first | refine ⟨(by kernel_rfl : C6 _ _ = true), ?_⟩ | refine ⟨_, w64 (bb), ?_⟩)
    exact ⟨⟨by rw [hN]; rfl, trivial⟩, Ob hX.symm⟩
  · have h1 : ¬ c.i < c.b.length := by simpa using h1
    have hX : Nw c = x0 (Nj c.h) := by rw [Nw, List.getElem?_eq_none (by omega)]
    have hN : G5 c = ⟨c.b, c.i, Nj c.h⟩ := by rw [G5, if_neg h1]
    skip
    exact ⟨⟨by rw [hN]; rfl, trivial⟩, Ob hX.symm⟩
theorem A0e : Ay Tryz.prog 82 Dr := Dn (Ch _ _) FOk.nil mixed Tryz.func82 rfl Tryz.call82 (by decide) (by kernel_rfl) A4z (fun h => by cases h) (by intro (y : Cur) _; first | exact ⟨by simp [Dr, con, Aa, A8, Ag, AV.free, A2, A3, A1, A6, B9, Ae], by simp [Dr, con, Aa, A8, Ag, AV.free, A2, A3, A1, A6, B9, Ae]⟩ | (obtain ⟨_, _⟩ := y; exact ⟨by simp [Dr, con, Aa, A8, Ag, AV.free, A2, A3, A1, A6, B9, Ae], by simp [Dr, con, Aa, A8, Ag, AV.free, A2, A3, A1, A6, B9, Ae]⟩) | (obtain ⟨_, _, _⟩ := y; exact ⟨by simp [Dr, con, Aa, A8, Ag, AV.free, A2, A3, A1, A6, B9, Ae], by simp [Dr, con, Aa, A8, Ag, AV.free, A2, A3, A1, A6, B9, Ae]⟩)) (by intro (y : Cur) _; first | (simp [Dr, con, Aa, A8, Ag, AV.free, A2, A3, A1, A6, B9, Ae]; done) | (obtain ⟨_, _⟩ := y; simp [Dr, con, Aa, A8, Ag, AV.free, A2, A3, A1, A6, B9, Ae]; done) | (obtain ⟨_, _, _⟩ := y; simp [Dr, con, Aa, A8, Ag, AV.free, A2, A3, A1, A6, B9, Ae]; done))
noncomputable def C3 : Bp := A8 true [.mp, mC] (Cur × Int) (fun ⟨c, n⟩ => [.own 3 [B9 c], .int .i64 n]) (fun x => Dz x.1) (fun ⟨c, n⟩ => .int .i64 (Bx c n)) (fun ⟨c, n⟩ => [.own 3 [B9 (Ak c n)]])
noncomputable def A0a : Env := ⟨A4 Bc, A4 [(82, Dr)], [0, 1, 4, 5, 6, 7, 8, 10, 12]⟩
set_option maxRecDepth 100000 in
set_option maxHeartbeats 4000000 in
theorem A09 : Bd A0a (Az Tryz.f42) Tryz.f42.results.toList C3 := by
  rintro ⟨c, n⟩ hc
  have hc : Dz c := hc
  refine ⟨⟨⟨_, _, _, rfl, rfl, by simp⟩, trivial⟩, ?_⟩
  (conv => whnf); refine ⟨fun h1 => ?_, fun h1 => ?_⟩
  · have h1 : n ≤ 0 := by simpa using h1
    have hX : Bx c n = 0 := by rw [Bx, if_pos h1]
    have hN : Ak c n = c := by rw [Ak, if_pos h1]
    skip
    exact ⟨⟨by rw [hN]; rfl, trivial⟩, Ob hX.symm⟩
  have h1 : ¬ n ≤ 0 := by simpa using h1
  skip
  (conv => whnf); refine ⟨fun h2 => ?_, fun h2 => ?_⟩
  · have h2 : n ≤ 256 := by simpa using h2
    have hX : Bx c n = (Nw c).tmod n := by rw [Bx, if_neg h1, if_pos h2]
    have hN : Ak c n = G5 c := by rw [Ak, if_neg h1, if_pos h2]
    skip
    refine ⟨c, rfl, fun _ => hc, ?_⟩
    repeat ((conv => whnf); refine ⟨bb, ?_⟩)
    refine ⟨(Nw c).tmod n, rfl, ?_⟩
    skip
    exact ⟨⟨by rw [hN]; rfl, trivial⟩, Ob hX.symm⟩
  · have h2 : ¬ n ≤ 256 := by simpa using h2
    have hX : Bx c n = (Nw c * 16777216 + Nw (G5 c) * 65536 + Nw (G5 (G5 c)) * 256 + Nw (G5 (G5 (G5 c)))).tmod n := by rw [Bx, if_neg h1, if_neg h2]
    have hN : Ak c n = G5 (G5 (G5 (G5 c))) := by rw [Ak, if_neg h1, if_neg h2]
    skip
    refine ⟨c, rfl, fun _ => hc, ?_⟩
    skip
    refine ⟨G5 c, rfl, fun _ => Lb hc, ?_⟩
    skip
    refine ⟨G5 (G5 c), rfl, fun _ => Lb (Lb hc), ?_⟩
    skip
    refine ⟨G5 (G5 (G5 c)), rfl, fun _ => Lb (Lb (Lb hc)), ?_⟩
    have c0 := Oe c
    have c1 := Oe (G5 c)
    have c2 := Oe (G5 (G5 c))
    have c3 := Oe (G5 (G5 (G5 c)))
    repeat ((conv => whnf); first | refine ⟨_, w64 (bb), ?_⟩ | refine ⟨bb, ?_⟩)
    refine ⟨(Nw c * 16777216 + Nw (G5 c) * 65536 + Nw (G5 (G5 c)) * 256 + Nw (G5 (G5 (G5 c)))).tmod n, rfl, ?_⟩
    skip
    exact ⟨⟨by rw [hN]; rfl, trivial⟩, Ob hX.symm⟩
theorem Ge : Ay Tryz.prog 42 C3 := Dn (Ch _ _) (FOk.cons A0e FOk.nil) mixed Tryz.func42 rfl Tryz.call42 (by decide) (by kernel_rfl) A09 (fun h => by cases h) (by intro (y : (Cur × Int)) _; first | exact ⟨by simp [C3, con, Aa, A8, Ag, AV.free, A2, A3, A1, A6, B9, Ae], by simp [C3, con, Aa, A8, Ag, AV.free, A2, A3, A1, A6, B9, Ae]⟩ | (obtain ⟨_, _⟩ := y; exact ⟨by simp [C3, con, Aa, A8, Ag, AV.free, A2, A3, A1, A6, B9, Ae], by simp [C3, con, Aa, A8, Ag, AV.free, A2, A3, A1, A6, B9, Ae]⟩) | (obtain ⟨_, _, _⟩ := y; exact ⟨by simp [C3, con, Aa, A8, Ag, AV.free, A2, A3, A1, A6, B9, Ae], by simp [C3, con, Aa, A8, Ag, AV.free, A2, A3, A1, A6, B9, Ae]⟩)) (by intro (y : (Cur × Int)) _; first | (simp [C3, con, Aa, A8, Ag, AV.free, A2, A3, A1, A6, B9, Ae]; done) | (obtain ⟨_, _⟩ := y; simp [C3, con, Aa, A8, Ag, AV.free, A2, A3, A1, A6, B9, Ae]; done) | (obtain ⟨_, _, _⟩ := y; simp [C3, con, Aa, A8, Ag, AV.free, A2, A3, A1, A6, B9, Ae]; done))
noncomputable def Il : Bp := Ag [mS 1] Str (fun s => [.rd 1 (s.map Ae)]) (fun s => s.length ≤ 1048576) (fun s => .own 3 [B9 (Jn s)])
noncomputable def A8v : Env := ⟨A4 Bc, A4 [], [0, 2, 3, 4, 15]⟩
set_option maxRecDepth 100000 in
set_option maxHeartbeats 4000000 in
theorem A8j : B7q A8v (Az Tryz.f39) Tryz.f39.results.toList Il := by
  intro (s : Str) (hs : s.length ≤ 1048576)
  refine ⟨rfl, ?_⟩
  repeat ((conv => whnf); refine ⟨_, w64 (bb), ?_⟩)
  refine B2 (fun i : Nat => ⟨[(0, ⟨none, .rd 1 (s.map Ae)⟩), (3, ⟨none, .int .i64 ((s.take i).foldl B90 (26583 + s.length))⟩), (4, ⟨none, .int .i64 i⟩)], [], 0⟩)
    (fun i => i ≤ s.length ∧ i ≤ 4000) (fun i => s.length - i) 0 ?_ ⟨by omega, by omega⟩ ?_
  · (refine ⟨?_, ?_, rfl⟩ <;> repeat' (first | exact rfl | exact trivial | refine ⟨?_, ?_⟩ | fail) <;> (conv => whnf))
    all_goals simp
  rintro i ⟨hi, hi2⟩
  repeat ((conv => whnf); refine ⟨fun h => h, ?_⟩)
  (conv => whnf); refine ⟨fun h1 => ?_, fun h1 => ?_⟩
  · have h1 : i < s.length ∧ i < 4000 := by
      have h1 : (decide ((i : Int) < (s.map Ae).length) && decide ((i : Int) < 4000)) = true := h1
      simp at h1; omega
    obtain ⟨y, hy⟩ := B7 h1.1
    have hyl := y.toNat_lt
    skip
    refine ⟨B88 _ 131, rfl, ?_⟩
    skip
    refine ⟨Ae y, fun _ => ⟨by omega, Am hy⟩, ?_⟩
    repeat ((conv => whnf); refine ⟨_, w64 (bb), ?_⟩)
    refine ⟨B73 _ y.toNat, rfl, ?_⟩
    skip
    refine ⟨B73 _ 7, rfl, ?_⟩
    skip
    refine ⟨A7p _ 1073741823, rfl, ?_⟩
    repeat ((conv => whnf); refine ⟨_, w64 (bb), ?_⟩)
    refine C5 (i + 1) ?_ ⟨h1.1, h1.2⟩ (by first | omega | (simp; done) | (simp; omega))
    (refine ⟨?_, ?_, rfl⟩ <;> repeat' (first | exact rfl | exact trivial | refine ⟨?_, ?_⟩ | fail) <;> (conv => whnf))
    rw [B3f hy]; rfl
  · have h1 : i = s.length ∨ i = 4000 := by
      have h1 : (decide ((i : Int) < (s.map Ae).length) && decide ((i : Int) < 4000)) = false := h1
      simp at h1; omega
    have ht : s.take i = s.take 4000 := by
      rcases h1 with h1 | h1
      · subst h1; rw [List.take_length, List.take_of_length_le hi2]
      · rw [h1]
    rw [ht]
    skip
    exact ⟨rfl, by simp [Il, Ag, B9, Ae, AV.free, A3, A1, A2], 3, _, rfl⟩
theorem A62 : Ay Tryz.prog 39 Il := B5p (Ch _ _) FOk.nil mixed Tryz.func39 rfl Tryz.call39 (by decide) (by kernel_rfl) A8j (by intro (y : Str) _; first | (simp [Il, con, Aa, A8, Ag, AV.free, A2, A3, A1, A6, B9, Ae]; done) | (obtain ⟨_, _⟩ := y; simp [Il, con, Aa, A8, Ag, AV.free, A2, A3, A1, A6, B9, Ae]; done) | (obtain ⟨_, _, _⟩ := y; simp [Il, con, Aa, A8, Ag, AV.free, A2, A3, A1, A6, B9, Ae]; done))
noncomputable def Je : Bp := con [mS 1] true Str (fun s => [.rd 1 (s.map Ae)]) (fun _ => True) (fun s => .bool (decide (1048576 < s.length)))
noncomputable def B30 : Env := ⟨A4 Bc, A4 [], [0, 2]⟩
set_option maxRecDepth 100000 in
set_option maxHeartbeats 4000000 in
theorem B2l : Bd B30 (Az Tryz.f7) Tryz.f7.results.toList Je := by
  intro (s : Str) _
  refine ⟨trivial, ?_⟩
  skip
  exact ⟨trivial, eqB (by simp; omega)⟩
theorem B0e : Ay Tryz.prog 7 Je := Aq (Ch _ _) FOk.nil mixed Tryz.func7 rfl Tryz.call7 (by decide) (by kernel_rfl) B2l (by intro _ (y : Str) _; exact ⟨by simp [Je, con, Aa, A8, AV.noRd, A7, Ab, A5, A6, B9, Ae], by simp [Je, con, Aa, A8, AV.noRd, A7, Ab, A5, A6, B9, Ae]⟩) (by intro (y : Str) _; first | (simp [Je, con, Aa, A8, Ag, AV.free, A2, A3, A1, A6, B9, Ae]; done) | (obtain ⟨_, _⟩ := y; simp [Je, con, Aa, A8, Ag, AV.free, A2, A3, A1, A6, B9, Ae]; done) | (obtain ⟨_, _, _⟩ := y; simp [Je, con, Aa, A8, Ag, AV.free, A2, A3, A1, A6, B9, Ae]; done))
end Go.GH


set_option linter.unusedVariables false
set_option linter.unusedSimpArgs false
namespace Go.GH
open Go Go.Proofs
noncomputable def D5 : Bp := A8 true [.mp, mC] (Cur × Int) (fun ⟨c, n⟩ => [.own 3 [B9 c], .int .i64 n]) (fun x => Dz x.1) (fun ⟨c, n⟩ => .bool (Bx c n == 0)) (fun ⟨c, n⟩ => [.own 3 [B9 (Ak c n)]])
noncomputable def A4j : Env := ⟨A4 Bc, A4 [(42, C3)], [0, 1, 4]⟩
set_option maxRecDepth 100000 in
set_option maxHeartbeats 4000000 in
theorem A3i : Bd A4j (Az Tryz.f41) Tryz.f41.results.toList D5 := by
  rintro ⟨c, n⟩ hc
  refine ⟨⟨⟨_, _, _, rfl, rfl, by simp⟩, trivial⟩, ?_⟩
  conv => whnf
  refine ⟨(c, n), rfl, fun _ => hc, ?_⟩
  skip
  exact ⟨⟨rfl, trivial⟩, rfl⟩
theorem Nx : Ay Tryz.prog 41 D5 := Dn (Ch _ _) (FOk.cons Ge FOk.nil) mixed Tryz.func41 rfl Tryz.call41 (by decide) (by kernel_rfl) A3i (fun h => by cases h) (by intro (y : (Cur × Int)) _; first | exact ⟨by simp [D5, con, Aa, A8, Ag, AV.free, A2, A3, A1, A6, Cc, B9, Ae, Ad], by simp [D5, con, Aa, A8, Ag, AV.free, A2, A3, A1, A6, Cc, B9, Ae, Ad]⟩ | (obtain ⟨_, _⟩ := y; exact ⟨by simp [D5, con, Aa, A8, Ag, AV.free, A2, A3, A1, A6, Cc, B9, Ae, Ad], by simp [D5, con, Aa, A8, Ag, AV.free, A2, A3, A1, A6, Cc, B9, Ae, Ad]⟩) | (obtain ⟨_, _, _⟩ := y; exact ⟨by simp [D5, con, Aa, A8, Ag, AV.free, A2, A3, A1, A6, Cc, B9, Ae, Ad], by simp [D5, con, Aa, A8, Ag, AV.free, A2, A3, A1, A6, Cc, B9, Ae, Ad]⟩)) (by intro (y : (Cur × Int)) _; first | (simp [D5, con, Aa, A8, Ag, AV.free, A2, A3, A1, A6, Cc, B9, Ae, Ad]; done) | (obtain ⟨_, _⟩ := y; simp [D5, con, Aa, A8, Ag, AV.free, A2, A3, A1, A6, Cc, B9, Ae, Ad]; done) | (obtain ⟨_, _, _⟩ := y; simp [D5, con, Aa, A8, Ag, AV.free, A2, A3, A1, A6, Cc, B9, Ae, Ad]; done))
noncomputable def Cd : Bp := A8 true [.mp, .co [some 1]] (Cur × List Int) (fun ⟨c, l⟩ => [.own 3 [B9 c], .own 1 (l.map Ad)]) (fun x => Dz x.1 ∧ 0 < x.2.length ∧ x.2.length ≤ 1000) (fun ⟨c, l⟩ => .int .i64 (Lf c l)) (fun ⟨c, l⟩ => [.own 3 [B9 (Ak c l.length)]])
noncomputable def Wx : Env := ⟨A4 Bc, A4 [(42, C3)], [0, 1, 4]⟩
set_option maxRecDepth 100000 in
set_option maxHeartbeats 4000000 in
theorem Wv : Bd Wx (Az Tryz.f81) Tryz.f81.results.toList Cd := by
  rintro ⟨c, l⟩ hc
  obtain ⟨hc, hl0, hl1⟩ : Dz c ∧ 0 < l.length ∧ l.length ≤ 1000 := hc
  refine ⟨⟨⟨_, _, _, rfl, rfl, by simp⟩, trivial⟩, ?_⟩
  have hb := N3 c l.length
  have hb2 := hb.2 (by omega)
  skip
  refine ⟨(c, (l.length : Int)), by show [AV.own 3 [B9 c], AV.int .i64 ((l.map Ad).length : Int)] = _; rw [List.length_map]; rfl, fun _ => hc, ?_⟩
  repeat ((conv => whnf); refine ⟨bb, ?_⟩)
  refine ⟨Ad (Lf c l), fun _ => by show (l.map Ad)[0 + (Bx c (l.length : Int)).toNat]? = _; rw [Nat.zero_add]; exact Am (A6o hl0), ?_⟩
  skip
  exact ⟨⟨rfl, trivial⟩, rfl⟩
theorem Kz : Ay Tryz.prog 81 Cd := Dn (Ch _ _) (FOk.cons Ge FOk.nil) mixed Tryz.func81 rfl Tryz.call81 (by decide) (by kernel_rfl) Wv (fun h => by cases h) (by intro (y : (Cur × List Int)) _; first | exact ⟨by simp [Cd, con, Aa, A8, Ag, AV.free, A2, A3, A1, A6, Cc, B9, Ae, Ad], by simp [Cd, con, Aa, A8, Ag, AV.free, A2, A3, A1, A6, Cc, B9, Ae, Ad]⟩ | (obtain ⟨_, _⟩ := y; exact ⟨by simp [Cd, con, Aa, A8, Ag, AV.free, A2, A3, A1, A6, Cc, B9, Ae, Ad], by simp [Cd, con, Aa, A8, Ag, AV.free, A2, A3, A1, A6, Cc, B9, Ae, Ad]⟩) | (obtain ⟨_, _, _⟩ := y; exact ⟨by simp [Cd, con, Aa, A8, Ag, AV.free, A2, A3, A1, A6, Cc, B9, Ae, Ad], by simp [Cd, con, Aa, A8, Ag, AV.free, A2, A3, A1, A6, Cc, B9, Ae, Ad]⟩)) (by intro (y : (Cur × List Int)) _; first | (simp [Cd, con, Aa, A8, Ag, AV.free, A2, A3, A1, A6, Cc, B9, Ae, Ad]; done) | (obtain ⟨_, _⟩ := y; simp [Cd, con, Aa, A8, Ag, AV.free, A2, A3, A1, A6, Cc, B9, Ae, Ad]; done) | (obtain ⟨_, _, _⟩ := y; simp [Cd, con, Aa, A8, Ag, AV.free, A2, A3, A1, A6, Cc, B9, Ae, Ad]; done))
noncomputable def D6 : Bp := A8 true [.mp, .co [some 1]] (Cur × List Str) (fun ⟨c, l⟩ => [.own 3 [B9 c], .own 1 (l.map A6)]) (fun x => Dz x.1 ∧ 0 < x.2.length ∧ x.2.length ≤ 1000) (fun ⟨c, l⟩ => .str (G8 c l)) (fun ⟨c, l⟩ => [.own 3 [B9 (Ak c l.length)]])
noncomputable def A5i : Env := ⟨A4 Bc, A4 [(42, C3)], [0, 1, 4]⟩
set_option maxRecDepth 100000 in
set_option maxHeartbeats 4000000 in
theorem A4n : Bd A5i (Az Tryz.f43) Tryz.f43.results.toList D6 := by
  rintro ⟨c, l⟩ hc
  obtain ⟨hc, hl0, hl1⟩ : Dz c ∧ 0 < l.length ∧ l.length ≤ 1000 := hc
  refine ⟨⟨⟨_, _, _, rfl, rfl, by simp⟩, trivial⟩, ?_⟩
  have hb := N3 c l.length
  have hb2 := hb.2 (by omega)
  skip
  refine ⟨(c, (l.length : Int)), by show [AV.own 3 [B9 c], AV.int .i64 ((l.map A6).length : Int)] = _; rw [List.length_map]; rfl, fun _ => hc, ?_⟩
  repeat ((conv => whnf); refine ⟨bb, ?_⟩)
  refine ⟨A6 (G8 c l), fun _ => by show (l.map A6)[0 + (Bx c (l.length : Int)).toNat]? = _; rw [Nat.zero_add]; exact Am (A6i hl0), ?_⟩
  skip
  exact ⟨⟨rfl, trivial⟩, rfl⟩
theorem Nl : Ay Tryz.prog 43 D6 := Dn (Ch _ _) (FOk.cons Ge FOk.nil) mixed Tryz.func43 rfl Tryz.call43 (by decide) (by kernel_rfl) A4n (fun h => by cases h) (by intro (y : (Cur × List Str)) _; first | exact ⟨by simp [D6, con, Aa, A8, Ag, AV.free, A2, A3, A1, A6, Cc, B9, Ae, Ad], by simp [D6, con, Aa, A8, Ag, AV.free, A2, A3, A1, A6, Cc, B9, Ae, Ad]⟩ | (obtain ⟨_, _⟩ := y; exact ⟨by simp [D6, con, Aa, A8, Ag, AV.free, A2, A3, A1, A6, Cc, B9, Ae, Ad], by simp [D6, con, Aa, A8, Ag, AV.free, A2, A3, A1, A6, Cc, B9, Ae, Ad]⟩) | (obtain ⟨_, _, _⟩ := y; exact ⟨by simp [D6, con, Aa, A8, Ag, AV.free, A2, A3, A1, A6, Cc, B9, Ae, Ad], by simp [D6, con, Aa, A8, Ag, AV.free, A2, A3, A1, A6, Cc, B9, Ae, Ad]⟩)) (by intro (y : (Cur × List Str)) _; first | (simp [D6, con, Aa, A8, Ag, AV.free, A2, A3, A1, A6, Cc, B9, Ae, Ad]; done) | (obtain ⟨_, _⟩ := y; simp [D6, con, Aa, A8, Ag, AV.free, A2, A3, A1, A6, Cc, B9, Ae, Ad]; done) | (obtain ⟨_, _, _⟩ := y; simp [D6, con, Aa, A8, Ag, AV.free, A2, A3, A1, A6, Cc, B9, Ae, Ad]; done))
noncomputable def Ex : Bp := con [] false Unit (fun _ => []) (fun _ => True) (fun _ => .own 1 (C9.map A6))
noncomputable def A0g : Env := ⟨A4 Bc, A4 [], [0]⟩
set_option maxRecDepth 100000 in
set_option maxHeartbeats 4000000 in
theorem A0x : Bd A0g (Az Tryz.f123) Tryz.f123.results.toList Ex := by
  rintro x _
  refine ⟨trivial, ?_⟩
  skip
  exact ⟨trivial, rfl, rfl⟩
theorem Qp : Ay Tryz.prog 123 Ex := Aq (Ch _ _) FOk.nil mixed Tryz.func123 rfl Tryz.call123 (by decide) (by kernel_rfl) A0x (by intro _ (y : Unit) _; exact ⟨by simp [Ex, con, Aa, A8, AV.noRd, A7, Ab, A5, A6, B9, Ae, Ad, Cc], by simp [Ex, con, Aa, A8, AV.noRd, A7, Ab, A5, A6, B9, Ae, Ad, Cc]⟩) (by intro (y : Unit) _; first | (simp [Ex, con, Aa, A8, Ag, AV.free, A2, A3, A1, A6, Cc, B9, Ae, Ad]; done) | (obtain ⟨_, _⟩ := y; simp [Ex, con, Aa, A8, Ag, AV.free, A2, A3, A1, A6, Cc, B9, Ae, Ad]; done) | (obtain ⟨_, _, _⟩ := y; simp [Ex, con, Aa, A8, Ag, AV.free, A2, A3, A1, A6, Cc, B9, Ae, Ad]; done))
noncomputable def Dt : Bp := A8 true [.mp] Cur (fun c => [.own 3 [B9 c]]) Dz (fun c => .str (Tt c)) (fun c => [.own 3 [B9 (Qq c)]])
noncomputable def A4t : Env := ⟨A4 Bc, A4 [(41, D5), (43, D6), (123, Ex)], [0, 2, 4]⟩
set_option maxRecDepth 100000 in
set_option maxHeartbeats 4000000 in
theorem A61 : Bd A4t (Az Tryz.f80) Tryz.f80.results.toList Dt := by
  intro (c : Cur) hc
  have hc : Dz c := hc
  refine ⟨⟨⟨_, _, _, rfl, rfl, by simp⟩, trivial⟩, ?_⟩
  conv => whnf
  refine ⟨(c, 12), rfl, fun _ => hc, ?_⟩
  (conv => whnf); refine ⟨fun h1 => ?_, fun h1 => ?_⟩
  · have h1 : Bx c 12 = 0 := by
      have h1 : (Bx c 12 == 0) = true := h1
      simpa using h1
    have hX : Tt c = G8 (Ak c 12) T1 := by rw [Tt, if_pos h1]
    have hN : Qq c = Ak (Ak c 12) 12 := by rw [Qq, if_pos h1]
    skip
    refine ⟨(Ak c 12, T1), rfl, fun _ => ⟨Bl hc, (by decide : 0 < T1.length ∧ T1.length ≤ 1000)⟩, ?_⟩
    skip
    exact ⟨⟨by rw [hN]; rfl, trivial⟩, eqS hX.symm⟩
  · have h1 : ¬ Bx c 12 = 0 := by
      have h1 : (Bx c 12 == 0) = false := h1
      simpa using h1
    have hX : Tt c = G8 (Ak c 12) C9 := by rw [Tt, if_neg h1]
    have hN : Qq c = Ak (Ak c 12) 10 := by rw [Qq, if_neg h1]
    skip
    refine ⟨(), rfl, fun _ => trivial, ?_⟩
    skip
    refine ⟨(Ak c 12, C9), rfl, fun _ => ⟨Bl hc, (by decide : 0 < C9.length ∧ C9.length ≤ 1000)⟩, ?_⟩
    skip
    exact ⟨⟨by rw [hN]; rfl, trivial⟩, eqS hX.symm⟩
theorem A1p : Ay Tryz.prog 80 Dt := Dn (Ch _ _) (FOk.cons Nx (FOk.cons Nl (FOk.cons Qp FOk.nil))) mixed Tryz.func80 rfl Tryz.call80 (by decide) (by kernel_rfl) A61 (fun h => by cases h) (by intro (y : Cur) _; first | exact ⟨by simp [Dt, con, Aa, A8, Ag, AV.free, A2, A3, A1, A6, Cc, B9, Ae, Ad], by simp [Dt, con, Aa, A8, Ag, AV.free, A2, A3, A1, A6, Cc, B9, Ae, Ad]⟩ | (obtain ⟨_, _⟩ := y; exact ⟨by simp [Dt, con, Aa, A8, Ag, AV.free, A2, A3, A1, A6, Cc, B9, Ae, Ad], by simp [Dt, con, Aa, A8, Ag, AV.free, A2, A3, A1, A6, Cc, B9, Ae, Ad]⟩) | (obtain ⟨_, _, _⟩ := y; exact ⟨by simp [Dt, con, Aa, A8, Ag, AV.free, A2, A3, A1, A6, Cc, B9, Ae, Ad], by simp [Dt, con, Aa, A8, Ag, AV.free, A2, A3, A1, A6, Cc, B9, Ae, Ad]⟩)) (by intro (y : Cur) _; first | (simp [Dt, con, Aa, A8, Ag, AV.free, A2, A3, A1, A6, Cc, B9, Ae, Ad]; done) | (obtain ⟨_, _⟩ := y; simp [Dt, con, Aa, A8, Ag, AV.free, A2, A3, A1, A6, Cc, B9, Ae, Ad]; done) | (obtain ⟨_, _, _⟩ := y; simp [Dt, con, Aa, A8, Ag, AV.free, A2, A3, A1, A6, Cc, B9, Ae, Ad]; done))
noncomputable def Du : Bp := A8 true [.mp] Cur (fun c => [.own 3 [B9 c]]) Dz (fun c => .str (Qg c)) (fun c => [.own 3 [B9 (Lp c)]])
noncomputable def A3a : Env := ⟨A4 Bc, A4 [(42, C3), (81, Cd)], [0, 2, 3, 4, 5, 11]⟩
set_option maxRecDepth 100000 in
set_option maxHeartbeats 4000000 in
theorem A4e : Bd A3a (Az Tryz.f126) Tryz.f126.results.toList Du := by
  intro (c : Cur) hc
  have hc : Dz c := hc
  refine ⟨⟨⟨_, _, _, rfl, rfl, by simp⟩, trivial⟩, ?_⟩
  skip
  refine ⟨(c, Ka), rfl, fun _ => ⟨hc, (by decide : 0 < Ka.length ∧ Ka.length ≤ 1000)⟩, ?_⟩
  have hp := B20 c
  have hp2 : Lf c Ka = (Tm c : Int) := by unfold Tm; omega
  skip
  refine B2 (fun ((i, c', s) : Nat × Cur × Str) => ⟨[(0, ⟨none, .bx 0 0⟩), (3, ⟨none, .str s⟩), (4, ⟨none, .int .i64 (Lf c Ka)⟩), (5, ⟨none, .int .i64 i⟩)], [(0, .own 3 [B9 c'])], 1⟩)
    (fun (i, c', s) => i ≤ Tm c ∧ Dz c' ∧ s.length = i ∧ Re (Tm c - i) i c' s = Re (Tm c) 0 (Ak c 10) []) (fun x => Tm c - x.1) (0, Ak c 10, []) ?_ ⟨by omega, Bl hc, rfl, by rw [Nat.sub_zero]⟩ ?_
  · (refine ⟨?_, ?_, rfl⟩ <;> repeat' (first | exact rfl | exact trivial | refine ⟨?_, ?_⟩ | fail) <;> (conv => whnf))
  rintro ⟨i, c', s⟩ ⟨hi, hc', hs, hI⟩
  (conv => whnf); refine ⟨fun h1 => ?_, fun h1 => ?_⟩
  · have h1 : i < Tm c := by
      have : (i : Int) < Lf c Ka := by simpa using h1
      omega
    have hb := N3 c' 2
    have hb2 := hb.2 (by decide)
    obtain ⟨m, hm⟩ : ∃ m, Tm c - i = m + 1 := ⟨Tm c - i - 1, by omega⟩
    have hm2 : Tm c - (i + 1) = m := by omega
    rw [hm, Re] at hI
    skip
    refine ⟨(c', 2), rfl, fun _ => hc', ?_⟩
    obtain ⟨q, hq⟩ : ∃ q, q = (i + (Bx c' 2).toNat) % 26 := ⟨_, rfl⟩
    repeat ((conv => whnf); first | refine ⟨_, w64 (bb), ?_⟩ | refine ⟨bb, ?_⟩)
    refine ⟨(q : Int), by
      show ((i : Int) + Bx c' 2).tmod 26 = _
      rw [hq, show (i : Int) + Bx c' 2 = ((i + (Bx c' 2).toNat : Nat) : Int) by omega]; rfl, ?_⟩
    repeat ((conv => whnf); refine ⟨_, w64 (bb), ?_⟩)
    refine ⟨((97 + q : Nat) : Int), by show Int.ofNat ((97 + q) % 256) = _; rw [Nat.mod_eq_of_lt (by omega)]; rfl, ?_⟩
    skip
    refine ⟨[UInt8.ofNat (97 + q)], by
      have e : (UInt8.ofNat (97 + q)).toNat = 97 + q := by rw [UInt8.toNat_ofNat']; omega
      rw [List.map_cons, List.map_nil, e]; rfl, ?_⟩
    repeat ((conv => whnf); first | refine ⟨_, w64 (bb), ?_⟩ | refine ⟨bb, ?_⟩)
    refine C5 (i + 1, Ak c' 2, s ++ [UInt8.ofNat (97 + q)]) ?_ ⟨h1, Bl hc', by simp [hs], by rw [hm2, ← hI, hq]⟩ (by show Tm c - (i + 1) < Tm c - i; omega)
    (refine ⟨?_, ?_, rfl⟩ <;> repeat' (first | exact rfl | exact trivial | refine ⟨?_, ?_⟩ | fail) <;> (conv => whnf))
  · have h1 : i = Tm c := by
      have : ¬ (i : Int) < Lf c Ka := by simpa using h1
      omega
    subst h1
    rw [Nat.sub_self, Re] at hI
    have hX : Qg c = s := by rw [Qg, ← hI]
    have hN : Lp c = c' := by rw [Lp, ← hI]
    skip
    exact ⟨⟨by rw [hN]; rfl, trivial⟩, eqS hX.symm⟩
theorem A08 : Ay Tryz.prog 126 Du := Dn (Ch _ _) (FOk.cons Ge (FOk.cons Kz FOk.nil)) mixed Tryz.func126 rfl Tryz.call126 (by decide) (by kernel_rfl) A4e (fun h => by cases h) (by intro (y : Cur) _; first | exact ⟨by simp [Du, con, Aa, A8, Ag, AV.free, A2, A3, A1, A6, Cc, B9, Ae, Ad], by simp [Du, con, Aa, A8, Ag, AV.free, A2, A3, A1, A6, Cc, B9, Ae, Ad]⟩ | (obtain ⟨_, _⟩ := y; exact ⟨by simp [Du, con, Aa, A8, Ag, AV.free, A2, A3, A1, A6, Cc, B9, Ae, Ad], by simp [Du, con, Aa, A8, Ag, AV.free, A2, A3, A1, A6, Cc, B9, Ae, Ad]⟩) | (obtain ⟨_, _, _⟩ := y; exact ⟨by simp [Du, con, Aa, A8, Ag, AV.free, A2, A3, A1, A6, Cc, B9, Ae, Ad], by simp [Du, con, Aa, A8, Ag, AV.free, A2, A3, A1, A6, Cc, B9, Ae, Ad]⟩)) (by intro (y : Cur) _; first | (simp [Du, con, Aa, A8, Ag, AV.free, A2, A3, A1, A6, Cc, B9, Ae, Ad]; done) | (obtain ⟨_, _⟩ := y; simp [Du, con, Aa, A8, Ag, AV.free, A2, A3, A1, A6, Cc, B9, Ae, Ad]; done) | (obtain ⟨_, _, _⟩ := y; simp [Du, con, Aa, A8, Ag, AV.free, A2, A3, A1, A6, Cc, B9, Ae, Ad]; done))
end Go.GH


set_option linter.unusedVariables false
set_option linter.unusedSimpArgs false
namespace Go.GH
open Go
def qs : Str := [47, 113]
def Nz (c : Cur) (f : Fs) : Cur × Fs :=
  if Bx (Ak c 10) 6 = 0 then (Ak (Ak c 10) 6, (Mn f (G8 c C9) 2 [] 0 0).1)
  else if Bx (Ak c 10) 6 = 1 then (Ak (Ak (Ak (Ak c 10) 6) 9) 5, (Mn f (G8 c C9) 3 qs (Bx (Ak (Ak c 10) 6) 9) (Bx (Ak (Ak (Ak c 10) 6) 9) 5)).1)
  else if Bx (Ak c 10) 6 = 2 then (Ak (Ak (Lp (Ak (Ak c 10) 6)) 9) 5, (Xw f (G8 c C9) (Qg (Ak (Ak c 10) 6)) (Bx (Lp (Ak (Ak c 10) 6)) 9) (Bx (Ak (Lp (Ak (Ak c 10) 6)) 9) 5)).1)
  else if Bx (Ak c 10) 6 = 3 then (Ak (Ak c 10) 6, (Sx f (G8 c C9)).1)
  else (Ak (Ak (Lp (Ak (Ak c 10) 6)) 9) 5, (Mn f (G8 c C9) 1 (Qg (Ak (Ak c 10) 6)) (Bx (Lp (Ak (Ak c 10) 6)) 9) (Bx (Ak (Lp (Ak (Ak c 10) 6)) 9) 5)).1)
def rGo : Nat → Cur → Fs → Cur × Fs
  | 0, c, f => (c, f)
  | n + 1, c, f => rGo n (Nz c f).1 (Nz c f).2
def nds : List Int := [4, 7, 10]
def dts : List Int := [6, 14, 30]
def rC (c : Cur) : Cur := Ak (Ak (Ak c 3) 3) 9
def rN (c : Cur) : Nat := (Bx (Ak (Ak c 3) 3) 9).toNat
def rF (c : Cur) : Fs := Va (Lf c nds) (Lf (Ak c 3) dts)
def A1t (c : Cur) : Cur × Fs := rGo (rN c) (rC c) (rF c)
def right (c : Cur) : Cur × Fs := if Bx (A1t c).1 12 = 0 then (Lp (Ak (A1t c).1 12), (P8 (A1t c).2 (Qg (Ak (A1t c).1 12))).1) else (Ak (A1t c).1 12, (A1t c).2)
theorem B1j {f : Fs} {i : Int} {s : Str} {t g : Int} (h : Wk f) : Wk (I2 f i s t g).1 := by
  unfold I2
  split
  · have hw := Rd (i := i) (s := s) h
    refine ⟨by simp; exact hw.nn, hw.nd, fun n hn b hb => ?_, fun n hn => ?_, hw.dat⟩
    · rcases Kp hn with rfl | hn
      · simp only [A7d, Gi] at hb
        rw [List.getD_eq_getElem?_getD] at hb
        cases hq : (Ba f i s).1.nodes[i.toNat]? with
        | none => rw [hq] at hb; cases hb
        | some m => rw [hq] at hb; exact hw.inr m (List.mem_of_getElem? hq) b hb
      · exact hw.inr n hn b hb
    · rcases Kp hn with rfl | hn
      · simp only [A7d, Gi]
        rw [List.getD_eq_getElem?_getD]
        cases hq : (Ba f i s).1.nodes[i.toNat]? with
        | none => decide
        | some m => exact hw.bl m (List.mem_of_getElem? hq)
      · exact hw.bl n hn
  · exact h
theorem A9l : ∀ {l : List Str} {f : Fs} {i : Nat}, Wk f → Wk (down f i l).1
  | [], f, i, h => by
    rw [down]
    split
    · exact h
    · exact h
  | s :: r, f, i, h => by
    rw [down]
    split
    · exact h
    split
    · split
      · exact A9l (Qi h)
      · exact h
    · exact A9l h
theorem A8e {f : Fs} {w : Fs × Bool} (h : Wk f) (hw : Wk w.1) : Wk (wr2 f w).1 := by unfold wr2; split <;> assumption
theorem Xc {f : Fs} {p : Str} {k : Int} {s : Str} {t g : Int} (h : Wk f) : Wk (Mn f p k s t g).1 := by
  unfold Mn
  split
  · exact h
  split
  · exact h
  split
  · exact h
  split
  · exact h
  unfold mk2
  split
  · exact h
  unfold mk3
  split
  · exact h
  exact A8e h (B1j (Qi (A9l h)))
theorem B70 {f : Fs} {p : Str} {s : Str} {t g : Int} (h : Wk f) : Wk (Xw f p s t g).1 := by
  unfold Xw
  split
  · exact h
  split
  · exact h
  split
  · exact h
  split
  · exact h
  split
  · exact h
  exact A8e h (B1j h)
theorem B56 {f : Fs} {p : Str} (h : Wk f) : Wk (Sx f p).1 := by
  unfold Sx
  split
  · exact h
  split
  · exact h
  split
  · exact h
  split
  · exact h
  exact Rd (B4b h)
theorem B52 {f : Fs} {s : Str} (h : Wk f) : Wk (P8 f s).1 := by
  unfold P8
  split
  · exact h
  split
  · exact h
  split
  · unfold hd3
    split
    · exact h
    · exact A8e h (Rd (Qi h))
  · exact A8e h (Rd h)
theorem A9y (n d : Int) : Wk (Va n d) := by
  unfold Va
  split
  · rename_i h
    simp [inB] at h
    refine ⟨by simp; omega, by simp; omega, fun x hx b hb => ?_, fun x hx => ?_, fun s hs => ?_⟩
    · rcases List.mem_cons.1 hx with rfl | hx
      · cases hb
      · rw [List.eq_of_mem_replicate hx] at hb; cases hb
    · rcases List.mem_cons.1 hx with rfl | hx
      · decide
      · rw [List.eq_of_mem_replicate hx]; decide
    · rw [List.eq_of_mem_replicate hs]; decide
  · exact ⟨by simp, by simp, fun x hx => (by cases hx), fun x hx => (by cases hx), fun x hx => (by cases hx)⟩
theorem A2j {c : Cur} {f : Fs} (hc : Dz c) (hf : Wk f) : Dz (Nz c f).1 ∧ Wk (Nz c f).2 := by
  unfold Nz
  split
  · exact ⟨Bl (Bl hc), Xc hf⟩
  split
  · exact ⟨Bl (Bl (Bl (Bl hc))), Xc hf⟩
  split
  · exact ⟨Bl (Bl (Vu (Bl (Bl hc)))), B70 hf⟩
  split
  · exact ⟨Bl (Bl hc), B56 hf⟩
  · exact ⟨Bl (Bl (Vu (Bl (Bl hc)))), Xc hf⟩
theorem B75 : ∀ {n : Nat} {c : Cur} {f : Fs}, Dz c → Wk f → Dz (rGo n c f).1 ∧ Wk (rGo n c f).2
  | 0, c, f, hc, hf => ⟨hc, hf⟩
  | n + 1, c, f, hc, hf => by
    rw [rGo]
    exact B75 (A2j hc hf).1 (A2j hc hf).2
theorem B8d {c : Cur} (hc : Dz c) : Dz (A1t c).1 ∧ Wk (A1t c).2 := B75 (Bl (Bl (Bl hc))) (A9y _ _)
theorem B1s {c : Cur} (hc : Dz c) : Dz (right c).1 ∧ Wk (right c).2 := by
  have h := B8d hc
  unfold right
  split
  · exact ⟨Vu (Bl h.1), B52 h.2⟩
  · exact ⟨Bl h.1, h.2⟩
def Jv (x : It) (k : Int) : It := ⟨x.path, k, x.data, x.time⟩
def K3 (x : It) (t : Int) : It := ⟨x.path, x.kind, x.data, t⟩
def tms : List Int := [-1, 100000, 100001]
def Oq (t : Tr) (c : Cur) : Cur × Tr :=
  if Bx c 10 = 0 then (Ak (Qq (Ak c 10)) 5, t ++ [⟨Tt (Ak c 10), Bx (Qq (Ak c 10)) 5, [], 0⟩])
  else if Bx c 10 = 1 then (if 0 < t.length then (Ak (Ak (Ak c 10) t.length) 4, t.set (Bx (Ak c 10) t.length).toNat (Jv (t.getD (Bx (Ak c 10) t.length).toNat It.none) (Bx (Ak (Ak c 10) t.length) 4))) else (Ak c 10, t))
  else if Bx c 10 = 2 then (if 1 < t.length then (Ak c 10, t.set 0 (t.getD 1 It.none)) else (Ak c 10, t))
  else if Bx c 10 = 3 then (if 0 < t.length then (Ak (Ak (Ak c 10) t.length) 3, t.set (Bx (Ak c 10) t.length).toNat (K3 (t.getD (Bx (Ak c 10) t.length).toNat It.none) (Lf (Ak (Ak c 10) t.length) tms))) else (Ak c 10, t))
  else (Ak c 10, t)
def Cj (c : Cur) : Cur × Tr := Oq (Fy (right c).2) (right c).1
theorem A9p {t : Tr} {i : Nat} {x : It} (h : smT t) (hx : x.path.length ≤ 4194304 ∧ x.data.length ≤ 4194304) : smT (t.set i x) := ⟨by rw [List.length_set]; exact h.1, fun y hy => by
  rcases Kp hy with rfl | hy
  · exact hx
  · exact h.2 y hy⟩
theorem V7 {t : Tr} {i : Nat} (h : smT t) : (t.getD i It.none).path.length ≤ 4194304 ∧ (t.getD i It.none).data.length ≤ 4194304 := by
  rw [List.getD_eq_getElem?_getD]
  cases hq : t[i]? with
  | none => decide
  | some y => exact h.2 y (List.mem_of_getElem? hq)
theorem B6w {t : Tr} {c : Cur} (hc : Dz c) (h0 : smT t) (hl : t.length ≤ 475254) : Dz (Oq t c).1 ∧ smT (Oq t c).2 ∧ (Oq t c).2.length ≤ 475255 := by
  have hcc : Dz (Ak c 10) := Bl hc
  have hp := B5s (Ak c 10)
  unfold Oq
  split
  · refine ⟨Bl (B00 hcc), ⟨?_, fun x hx => ?_⟩, ?_⟩
    · rw [List.length_append, List.length_singleton]; omega
    · rcases List.mem_append.1 hx with hx | hx
      · exact h0.2 x hx
      · rw [List.mem_singleton] at hx; subst hx; exact ⟨by show (Tt (Ak c 10)).length ≤ _; omega, Nat.zero_le _⟩
    · rw [List.length_append, List.length_singleton]; omega
  split
  · split
    · exact ⟨Bl (Bl hcc), A9p h0 (V7 h0), by rw [List.length_set]; omega⟩
    · exact ⟨hcc, h0, Nat.le_succ_of_le hl⟩
  split
  · split
    · exact ⟨hcc, A9p h0 (V7 h0), by rw [List.length_set]; omega⟩
    · exact ⟨hcc, h0, Nat.le_succ_of_le hl⟩
  split
  · split
    · exact ⟨Bl (Bl hcc), A9p h0 (V7 h0), by rw [List.length_set]; omega⟩
    · exact ⟨hcc, h0, Nat.le_succ_of_le hl⟩
  · exact ⟨hcc, h0, Nat.le_succ_of_le hl⟩
theorem B0a {c : Cur} (hc : Dz c) : Dz (Cj c).1 ∧ smT (Cj c).2 ∧ (Cj c).2.length ≤ 475255 :=
  B6w (B1s hc).1 (Xl _).1 (Xl _).2
def upP : List Str := [sl, [47, 97], qs, [97]]
def Sf (c : Cur) : Str :=
  if 0 < (Cj c).2.length then
    (if Bx (Cj c).1 3 = 0 then G8 (Ak (Cj c).1 3) upP else ((Cj c).2.getD (Bx (Ak (Cj c).1 3) (Cj c).2.length).toNat It.none).path)
  else G8 (Cj c).1 upP
end Go.GH


set_option linter.unusedVariables false
set_option linter.unusedSimpArgs false
namespace Go.GH
open Go Go.Proofs
noncomputable def Ci : Bp := A8 true [.mp] Cur (fun c => [.own 3 [B9 c]]) Dz (fun c => .agg (Al (right c).2)) (fun c => [.own 3 [B9 (right c).1]])
noncomputable def Zd : Env := ⟨A4 Bc, A4 [(41, D5), (42, C3), (43, D6), (81, Cd), (122, Ts), (123, Ex), (124, Dh), (125, E4), (126, Du), (127, De), (128, Dd)], [0, 2, 3, 5, 6, 7, 22, 29, 42, 50, 62, 76, 85]⟩
set_option maxRecDepth 100000 in
set_option maxHeartbeats 4000000 in
theorem Yr : Bd Zd (Az Tryz.f79) Tryz.f79.results.toList Ci := by
  intro (c : Cur) hc
  have hc : Dz c := hc
  refine ⟨⟨⟨_, _, _, rfl, rfl, by simp⟩, trivial⟩, ?_⟩
  have hp1 := A6y (c := c) (l := nds) (by decide)
  skip
  refine ⟨(c, nds), rfl, fun _ => ⟨hc, (by decide : 0 < nds.length ∧ nds.length ≤ 1000)⟩, ?_⟩
  skip
  refine ⟨(Ak c 3, dts), rfl, fun _ => ⟨Bl hc, (by decide : 0 < dts.length ∧ dts.length ≤ 1000)⟩, ?_⟩
  skip
  refine ⟨(Lf c nds, Lf (Ak c 3) dts), rfl, fun _ => trivial, ?_⟩
  skip
  refine ⟨(Ak (Ak c 3) 3, 9), rfl, fun _ => Bl (Bl hc), ?_⟩
  have hb9 := N3 (Ak (Ak c 3) 3) 9
  have hrn : Bx (Ak (Ak c 3) 3) 9 = ((rN c : Nat) : Int) := by unfold rN; omega
  have hrl : rN c ≤ 8 := by have := hb9.2 (by omega); omega
  skip
  refine B2 (fun ((i, c', f) : Nat × Cur × Fs) => ⟨[(0, ⟨none, .bx 0 0⟩), (2, ⟨none, .bx 1 0⟩), (3, ⟨none, .bx 2 0⟩), (5, ⟨none, .int .i64 (rN c)⟩), (6, ⟨none, .int .i64 i⟩)], [(0, .own 3 [B9 c']), (1, .own 2 [[.own 5 [], .own 1 []]]), (2, .own 2 [Al f])], 3⟩)
    (fun (i, c', f) => i ≤ rN c ∧ Dz c' ∧ Wk f ∧ rGo (rN c - i) c' f = A1t c) (fun x => rN c - x.1) (0, rC c, rF c) ?_ ⟨Nat.zero_le _, Bl (Bl (Bl hc)), A9y _ _, rfl⟩ ?_
  · (refine ⟨?_, ?_, rfl⟩ <;> repeat' (first | exact rfl | exact trivial | refine ⟨?_, ?_⟩ | fail) <;> (conv => whnf))
    all_goals exact hrn
  rintro ⟨i, c', f⟩ ⟨hi, hc', hf, hI⟩
  have hf' := hf
  (conv => whnf); refine ⟨fun h1 => ?_, fun h1 => ?_⟩
  · have h1 : i < rN c := by have h1 : decide ((i : Int) < (rN c : Nat)) = true := h1
                             simp at h1; omega
    obtain ⟨m, hm⟩ : ∃ m, rN c - i = m + 1 := ⟨rN c - i - 1, by omega⟩
    have hm2 : rN c - (i + 1) = m := by omega
    rw [hm, rGo] at hI
    have hso := A2j hc' hf
    have hpp := Pe (c := c') (l := C9) (k := 20) (by decide) (by decide)
    skip
    refine ⟨(), rfl, fun _ => trivial, ?_⟩
    skip
    refine ⟨(c', C9), rfl, fun _ => ⟨hc', (by decide : 0 < C9.length ∧ C9.length ≤ 1000)⟩, ?_⟩
    skip
    refine ⟨(Ak c' 10, 6), rfl, fun _ => Bl hc', ?_⟩
    have hk6 : Dz (Ak (Ak c' 10) 6) := Bl (Bl hc')
    skip
    (conv => whnf); refine ⟨fun k0 => ?_, fun k0 => ?_⟩
    · skip
      have k0 : Bx (Ak c' 10) 6 = 0 := by
        have k0 : (Bx (Ak c' 10) 6 == 0) = true := k0
        simpa using k0
      have hst : Nz c' f = (Ak (Ak c' 10) 6, (Mn f (G8 c' C9) 2 [] 0 0).1) := by rw [Nz, if_pos k0]
      skip
      refine ⟨(f, G8 c' C9, 2, [], 0, 0), by (repeat' (first | refine Bn ?_ ?_ | refine Bu ?_ | refine Bh ?_ | refine Bs ?_ | exact rfl)) <;> simp [rdI, rdO, rdE, rdB, rdN, rdS, rdD, rdW, tkM], fun _ => ⟨hf.sm, by show (G8 c' C9).length ≤ _; omega, by show 0 ≤ 1048576; omega⟩, ?_⟩
      rw [hst] at hI hso
      repeat ((conv => whnf); refine ⟨_, w64 (bb), ?_⟩)
      refine C5 (i + 1, _, _) ?_ ⟨h1, hso.1, hso.2, by rw [hm2]; exact hI⟩ (by show rN c - (i + 1) < rN c - i; omega)
      (refine ⟨?_, ?_, rfl⟩ <;> repeat' (first | exact rfl | exact trivial | refine ⟨?_, ?_⟩ | fail) <;> (conv => whnf))
    have k0 : ¬ Bx (Ak c' 10) 6 = 0 := by
      have k0 : (Bx (Ak c' 10) 6 == 0) = false := k0
      simpa using k0
    skip
    (conv => whnf); refine ⟨fun k1 => ?_, fun k1 => ?_⟩
    · skip
      have k1 : Bx (Ak c' 10) 6 = 1 := by
        have k1 : (Bx (Ak c' 10) 6 == 1) = true := k1
        simpa using k1
      have hst : Nz c' f = (Ak (Ak (Ak (Ak c' 10) 6) 9) 5, (Mn f (G8 c' C9) 3 qs (Bx (Ak (Ak c' 10) 6) 9) (Bx (Ak (Ak (Ak c' 10) 6) 9) 5)).1) := by rw [Nz, if_neg k0, if_pos k1]
      skip
      refine ⟨(Ak (Ak c' 10) 6, 9), rfl, fun _ => hk6, ?_⟩
      skip
      refine ⟨(Ak (Ak (Ak c' 10) 6) 9, 5), rfl, fun _ => Bl hk6, ?_⟩
      skip
      refine ⟨(f, G8 c' C9, 3, qs, Bx (Ak (Ak c' 10) 6) 9, Bx (Ak (Ak (Ak c' 10) 6) 9) 5), by (repeat' (first | refine Bn ?_ ?_ | refine Bu ?_ | refine Bh ?_ | refine Bs ?_ | exact rfl)) <;> simp [rdI, rdO, rdE, rdB, rdN, rdS, rdD, rdW, tkM], fun _ => ⟨hf.sm, by show (G8 c' C9).length ≤ _; omega, by show qs.length ≤ 1048576; decide⟩, ?_⟩
      rw [hst] at hI hso
      repeat ((conv => whnf); first | refine ⟨(by kernel_rfl : C6 _ _ = true), ?_⟩ | refine ⟨_, w64 (bb), ?_⟩)
      refine C5 (i + 1, _, _) ?_ ⟨h1, hso.1, hso.2, by rw [hm2]; exact hI⟩ (by show rN c - (i + 1) < rN c - i; omega)
      (refine ⟨?_, ?_, rfl⟩ <;> repeat' (first | exact rfl | exact trivial | refine ⟨?_, ?_⟩ | fail) <;> (conv => whnf))
    have k1 : ¬ Bx (Ak c' 10) 6 = 1 := by
      have k1 : (Bx (Ak c' 10) 6 == 1) = false := k1
      simpa using k1
    skip
    (conv => whnf); refine ⟨fun k2 => ?_, fun k2 => ?_⟩
    · skip
      have k2 : Bx (Ak c' 10) 6 = 2 := by
        have k2 : (Bx (Ak c' 10) 6 == 2) = true := k2
        simpa using k2
      have hst : Nz c' f = (Ak (Ak (Lp (Ak (Ak c' 10) 6)) 9) 5, (Xw f (G8 c' C9) (Qg (Ak (Ak c' 10) 6)) (Bx (Lp (Ak (Ak c' 10) 6)) 9) (Bx (Ak (Lp (Ak (Ak c' 10) 6)) 9) 5)).1) := by rw [Nz, if_neg k0, if_neg k1, if_pos k2]
      skip
      refine ⟨Ak (Ak c' 10) 6, rfl, fun _ => hk6, ?_⟩
      have hkt := Vu hk6
      have htl := A26 (Ak (Ak c' 10) 6)
      skip
      refine ⟨(Lp (Ak (Ak c' 10) 6), 9), rfl, fun _ => hkt, ?_⟩
      skip
      refine ⟨(Ak (Lp (Ak (Ak c' 10) 6)) 9, 5), rfl, fun _ => Bl hkt, ?_⟩
      skip
      refine ⟨(f, G8 c' C9, Qg (Ak (Ak c' 10) 6), Bx (Lp (Ak (Ak c' 10) 6)) 9, Bx (Ak (Lp (Ak (Ak c' 10) 6)) 9) 5), by (repeat' (first | refine Bn ?_ ?_ | refine Bu ?_ | refine Bh ?_ | refine Bs ?_ | exact rfl)) <;> simp [rdI, rdO, rdE, rdB, rdN, rdS, rdD, rdW, tkM], fun _ => ⟨hf.sm, by show (G8 c' C9).length ≤ _; omega, by show (Qg (Ak (Ak c' 10) 6)).length ≤ _; omega⟩, ?_⟩
      rw [hst] at hI hso
      repeat ((conv => whnf); first | refine ⟨(by kernel_rfl : C6 _ _ = true), ?_⟩ | refine ⟨_, w64 (bb), ?_⟩)
      refine C5 (i + 1, _, _) ?_ ⟨h1, hso.1, hso.2, by rw [hm2]; exact hI⟩ (by show rN c - (i + 1) < rN c - i; omega)
      (refine ⟨?_, ?_, rfl⟩ <;> repeat' (first | exact rfl | exact trivial | refine ⟨?_, ?_⟩ | fail) <;> (conv => whnf))
    have k2 : ¬ Bx (Ak c' 10) 6 = 2 := by
      have k2 : (Bx (Ak c' 10) 6 == 2) = false := k2
      simpa using k2
    skip
    (conv => whnf); refine ⟨fun k3 => ?_, fun k3 => ?_⟩
    · skip
      have k3 : Bx (Ak c' 10) 6 = 3 := by
        have k3 : (Bx (Ak c' 10) 6 == 3) = true := k3
        simpa using k3
      have hst : Nz c' f = (Ak (Ak c' 10) 6, (Sx f (G8 c' C9)).1) := by rw [Nz, if_neg k0, if_neg k1, if_neg k2, if_pos k3]
      skip
      refine ⟨(f, G8 c' C9), by (repeat' (first | refine Bn ?_ ?_ | refine Bu ?_ | refine Bh ?_ | refine Bs ?_ | exact rfl)) <;> simp [rdI, rdO, rdE, rdB, rdN, rdS, rdD, rdW, tkM], fun _ => ⟨hf.sm, by show (G8 c' C9).length ≤ _; omega⟩, ?_⟩
      rw [hst] at hI hso
      repeat ((conv => whnf); refine ⟨_, w64 (bb), ?_⟩)
      refine C5 (i + 1, _, _) ?_ ⟨h1, hso.1, hso.2, by rw [hm2]; exact hI⟩ (by show rN c - (i + 1) < rN c - i; omega)
      (refine ⟨?_, ?_, rfl⟩ <;> repeat' (first | exact rfl | exact trivial | refine ⟨?_, ?_⟩ | fail) <;> (conv => whnf))
    have k3 : ¬ Bx (Ak c' 10) 6 = 3 := by
      have k3 : (Bx (Ak c' 10) 6 == 3) = false := k3
      simpa using k3
    have hst : Nz c' f = (Ak (Ak (Lp (Ak (Ak c' 10) 6)) 9) 5, (Mn f (G8 c' C9) 1 (Qg (Ak (Ak c' 10) 6)) (Bx (Lp (Ak (Ak c' 10) 6)) 9) (Bx (Ak (Lp (Ak (Ak c' 10) 6)) 9) 5)).1) := by rw [Nz, if_neg k0, if_neg k1, if_neg k2, if_neg k3]
    skip
    refine ⟨Ak (Ak c' 10) 6, rfl, fun _ => hk6, ?_⟩
    have hkt := Vu hk6
    have htl := A26 (Ak (Ak c' 10) 6)
    skip
    refine ⟨(Lp (Ak (Ak c' 10) 6), 9), rfl, fun _ => hkt, ?_⟩
    skip
    refine ⟨(Ak (Lp (Ak (Ak c' 10) 6)) 9, 5), rfl, fun _ => Bl hkt, ?_⟩
    skip
    refine ⟨(f, G8 c' C9, 1, Qg (Ak (Ak c' 10) 6), Bx (Lp (Ak (Ak c' 10) 6)) 9, Bx (Ak (Lp (Ak (Ak c' 10) 6)) 9) 5), by (repeat' (first | refine Bn ?_ ?_ | refine Bu ?_ | refine Bh ?_ | refine Bs ?_ | exact rfl)) <;> simp [rdI, rdO, rdE, rdB, rdN, rdS, rdD, rdW, tkM], fun _ => ⟨hf.sm, by show (G8 c' C9).length ≤ _; omega, by show (Qg (Ak (Ak c' 10) 6)).length ≤ _; omega⟩, ?_⟩
    rw [hst] at hI hso
    repeat ((conv => whnf); first | refine ⟨(by kernel_rfl : C6 _ _ = true), ?_⟩ | refine ⟨_, w64 (bb), ?_⟩)
    refine C5 (i + 1, _, _) ?_ ⟨h1, hso.1, hso.2, by rw [hm2]; exact hI⟩ (by show rN c - (i + 1) < rN c - i; omega)
    (refine ⟨?_, ?_, rfl⟩ <;> repeat' (first | exact rfl | exact trivial | refine ⟨?_, ?_⟩ | fail) <;> (conv => whnf))
  have h1 : i = rN c := by have h1 : decide ((i : Int) < (rN c : Nat)) = false := h1
                           simp at h1; omega
  subst h1
  rw [Nat.sub_self, rGo] at hI
  have hc0 : (A1t c).1 = c' := by rw [← hI]
  have hf0 : (A1t c).2 = f := by rw [← hI]
  have hrt : right c = if Bx c' 12 = 0 then (Lp (Ak c' 12), (P8 f (Qg (Ak c' 12))).1) else (Ak c' 12, f) := by rw [right, hc0, hf0]
  skip
  refine ⟨(c', 12), rfl, fun _ => hc', ?_⟩
  have hk12 : Dz (Ak c' 12) := Bl hc'
  have htl := A26 (Ak c' 12)
  skip
  (conv => whnf); refine ⟨fun k0 => ?_, fun k0 => ?_⟩
  · skip
    have k0 : Bx c' 12 = 0 := by
      have k0 : (Bx c' 12 == 0) = true := k0
      simpa using k0
    rw [if_pos k0] at hrt
    skip
    refine ⟨Ak c' 12, rfl, fun _ => hk12, ?_⟩
    skip
    refine ⟨(f, Qg (Ak c' 12)), by (repeat' (first | refine Bn ?_ ?_ | refine Bu ?_ | refine Bh ?_ | refine Bs ?_ | exact rfl)) <;> simp [rdI, rdO, rdE, rdB, rdN, rdS, rdD, rdW, tkM], fun _ => ⟨hf'.sm, by show (Qg (Ak c' 12)).length ≤ _; omega⟩, ?_⟩
    repeat ((conv => whnf); refine ⟨(by kernel_rfl : C6 _ _ = true), ?_⟩)
    have e1 : (right c).1 = Lp (Ak c' 12) := by rw [hrt]
    have e2 : (right c).2 = (P8 f (Qg (Ak c' 12))).1 := by rw [hrt]
    rw [show Ci.res c = .agg (Al (P8 f (Qg (Ak c' 12))).1) by show AV.agg (Al (right c).2) = _; rw [e2]]
    exact ⟨⟨by rw [e1]; rfl, trivial⟩, rfl, rfl, trivial⟩
  have k0 : ¬ Bx c' 12 = 0 := by
    have k0 : (Bx c' 12 == 0) = false := k0
    simpa using k0
  rw [if_neg k0] at hrt
  skip
  have e1 : (right c).1 = Ak c' 12 := by rw [hrt]
  have e2 : (right c).2 = f := by rw [hrt]
  rw [show Ci.res c = .agg (Al f) by show AV.agg (Al (right c).2) = _; rw [e2]]
  exact ⟨⟨by rw [e1]; rfl, trivial⟩, rfl, rfl, trivial⟩
theorem Xi : Ay Tryz.prog 79 Ci := Dn (Ch _ _) (FOk.cons Nx (FOk.cons Ge (FOk.cons Nl (FOk.cons Kz (FOk.cons A32 (FOk.cons Qp (FOk.cons A1v (FOk.cons A3p (FOk.cons A08 (FOk.cons A2c (FOk.cons A2f FOk.nil))))))))))) mixed Tryz.func79 rfl Tryz.call79 (by decide) (by kernel_rfl) Yr (fun h => by cases h) (by intro (y : Cur) _; first | exact ⟨by simp [Ci, con, Aa, A8, Ag, AV.free, A2, A3, A1, A6, Ad, Ae, B9, Ah, Ap, Al, Av, Ax], by simp [Ci, con, Aa, A8, Ag, AV.free, A2, A3, A1, A6, Ad, Ae, B9, Ah, Ap, Al, Av, Ax]⟩ | (obtain ⟨_, _⟩ := y; exact ⟨by simp [Ci, con, Aa, A8, Ag, AV.free, A2, A3, A1, A6, Ad, Ae, B9, Ah, Ap, Al, Av, Ax], by simp [Ci, con, Aa, A8, Ag, AV.free, A2, A3, A1, A6, Ad, Ae, B9, Ah, Ap, Al, Av, Ax]⟩) | (obtain ⟨_, _, _⟩ := y; exact ⟨by simp [Ci, con, Aa, A8, Ag, AV.free, A2, A3, A1, A6, Ad, Ae, B9, Ah, Ap, Al, Av, Ax], by simp [Ci, con, Aa, A8, Ag, AV.free, A2, A3, A1, A6, Ad, Ae, B9, Ah, Ap, Al, Av, Ax]⟩)) (by intro (y : Cur) _; first | (simp [Ci, con, Aa, A8, Ag, AV.free, A2, A3, A1, A6, Ad, Ae, B9, Ah, Ap, Al, Av, Ax]; done) | (obtain ⟨_, _⟩ := y; simp [Ci, con, Aa, A8, Ag, AV.free, A2, A3, A1, A6, Ad, Ae, B9, Ah, Ap, Al, Av, Ax]; done) | (obtain ⟨_, _, _⟩ := y; simp [Ci, con, Aa, A8, Ag, AV.free, A2, A3, A1, A6, Ad, Ae, B9, Ah, Ap, Al, Av, Ax]; done))
noncomputable def Bg : Bp := A8 true [.mp] Cur (fun c => [.own 3 [B9 c]]) Dz (fun c => .agg [.own 4 ((Cj c).2.map Ao)]) (fun c => [.own 3 [B9 (Cj c).1]])
noncomputable def A17 : Env := ⟨A4 Bc, A4 [(42, C3), (78, Fo), (79, Ci), (80, Dt), (81, Cd)], [0, 2, 3, 4, 12, 13, 25, 28, 38, 41, 49, 52]⟩
set_option maxRecDepth 100000 in
set_option maxHeartbeats 4000000 in
theorem A1j : Bd A17 (Az Tryz.f40) Tryz.f40.results.toList Bg := by
  intro (c : Cur) hc
  have hc : Dz c := hc
  refine ⟨⟨⟨_, _, _, rfl, rfl, by simp⟩, trivial⟩, ?_⟩
  have hr := B1s hc
  have ht := Xl (right c).2
  have fin : ∀ {r : Cur × Tr}, Cj c = r → Bg.res c = .agg [.own 4 (r.2.map Ao)] ∧ Bg.out c = [.own 3 [B9 r.1]] := fun h => by rw [← h]; exact ⟨rfl, rfl⟩
  have hdt : Cj c = Oq (Fy (right c).2) (right c).1 := rfl
  skip
  refine ⟨c, rfl, fun _ => hc, ?_⟩
  skip
  refine ⟨(right c).2, by (repeat' (first | refine Bn ?_ ?_ | refine Bu ?_ | refine Bh ?_ | refine Bs ?_ | exact rfl)) <;> simp [rdI, rdO, rdE, rdB, rdN, rdS, rdD, rdW, tkM], fun _ => hr.2.sm, ?_⟩
  have hl0 := ht.2
  have hsm := ht.1
  generalize hT : Fy (right c).2 = t at ht hdt hsm
  have htl := ht.2
  have hcc := hr.1
  generalize hC : (right c).1 = c' at hcc hdt
  skip
  refine ⟨(c', 10), by rw [← hC]; rfl, fun _ => hcc, ?_⟩
  have hk : Dz (Ak c' 10) := Bl hcc
  skip
  (conv => whnf); refine ⟨fun k0 => ?_, fun k0 => ?_⟩
  · skip
    have k0 : Bx c' 10 = 0 := by
      have k0 : (Bx c' 10 == 0) = true := k0
      simpa using k0
    have hu : Cj c = (Ak (Qq (Ak c' 10)) 5, t ++ [⟨Tt (Ak c' 10), Bx (Qq (Ak c' 10)) 5, [], 0⟩]) := by rw [hdt, Oq, if_pos k0]
    skip
    refine ⟨Ak c' 10, rfl, fun _ => hk, ?_⟩
    skip
    refine ⟨(Qq (Ak c' 10), 5), rfl, fun _ => B00 hk, ?_⟩
    repeat ((conv => whnf); first | refine ⟨(by kernel_rfl : C6 _ _ = true), ?_⟩ | refine ⟨bb, ?_⟩ | refine ⟨A2y (by rfl), ?_⟩)
    rw [show Bg.res c = .agg [.own 4 ((Cj c).2.map Ao)] from rfl, hu]
    refine ⟨⟨by show some _ = some (AV.own 3 [B9 (Cj c).1]); rw [hu] <;> rfl, trivial⟩, ⟨rfl, ?_⟩, trivial⟩
    rw [hT]
    simp [Ao, Jv, K3, List.take_of_length_le, List.map_set] <;> rfl
  have k0 : ¬ Bx c' 10 = 0 := by
    have k0 : (Bx c' 10 == 0) = false := k0
    simpa using k0
  skip
  (conv => whnf); refine ⟨fun k1 => ?_, fun k1 => ?_⟩
  · skip
    have k1 : Bx c' 10 = 1 := by
      have k1 : (Bx c' 10 == 1) = true := k1
      simpa using k1
    skip
    (conv => whnf); refine ⟨fun k9 => ?_, fun k9 => ?_⟩
    · have k9 : 0 < t.length := by rw [← hT]; simpa using k9
      have hb := N3 (Ak c' 10) t.length
      have hb2 := hb.2 (by omega)
      obtain ⟨y, hy⟩ := B7 (l := t) (i := (Bx (Ak c' 10) t.length).toNat) (by omega)
      have hy2 : t.getD (Bx (Ak c' 10) t.length).toNat It.none = y := by rw [List.getD_eq_getElem?_getD, hy]; rfl
      have hu : Cj c = (Ak (Ak (Ak c' 10) t.length) 4, t.set (Bx (Ak c' 10) t.length).toNat (Jv y (Bx (Ak (Ak c' 10) t.length) 4))) := by rw [hdt, Oq, if_neg k0, if_pos k1, if_pos k9, hy2]
      skip
      refine ⟨(Ak c' 10, (t.length : Int)), by refine Bn rfl (Bn ?_ rfl); show AV.int .i64 _ = .int .i64 (t.length : Int); rw [← hT]; simp, fun _ => hk, ?_⟩
      skip
      refine ⟨(Ak (Ak c' 10) t.length, 4), rfl, fun _ => Bl hk, ?_⟩
      have hrow : ((((Fy (right c).2).map Ao).drop 0).take ((Fy (right c).2).map Ao).length)[0 + (Bx (Ak c' 10) t.length).toNat]? = some (Ao y) := by rw [hT, Nat.zero_add, List.drop_zero, List.take_length]; exact Am hy
      have hhi : Bx (Ak c' 10) t.length < (((((Fy (right c).2).map Ao).drop 0).take ((Fy (right c).2).map Ao).length).length : Nat) := by rw [hT]; simp; omega
      repeat ((conv => whnf); first | refine ⟨(by kernel_rfl : C6 _ _ = true), ?_⟩ | refine ⟨bb, ?_⟩ | refine ⟨Ao y, hrow, ?_⟩)
      rw [show Bg.res c = .agg [.own 4 ((Cj c).2.map Ao)] from rfl, hu]
      refine ⟨⟨by show some _ = some (AV.own 3 [B9 (Cj c).1]); rw [hu] <;> rfl, trivial⟩, ⟨rfl, ?_⟩, trivial⟩
      rw [hT]
      simp [Ao, Jv, K3, List.take_of_length_le, List.map_set] <;> rfl
    have k9 : ¬ 0 < t.length := by rw [← hT]; simpa using k9
    have hu : Cj c = (Ak c' 10, t) := by rw [hdt, Oq, if_neg k0, if_pos k1, if_neg k9]
    skip
    rw [show Bg.res c = .agg [.own 4 ((Cj c).2.map Ao)] from rfl, hu]
    refine ⟨⟨by show some _ = some (AV.own 3 [B9 (Cj c).1]); rw [hu] <;> rfl, trivial⟩, ⟨rfl, ?_⟩, trivial⟩
    rw [hT]
    simp [Ao, Jv, K3, List.take_of_length_le, List.map_set] <;> rfl
  have k1 : ¬ Bx c' 10 = 1 := by
    have k1 : (Bx c' 10 == 1) = false := k1
    simpa using k1
  skip
  (conv => whnf); refine ⟨fun k2 => ?_, fun k2 => ?_⟩
  · skip
    have k2 : Bx c' 10 = 2 := by
      have k2 : (Bx c' 10 == 2) = true := k2
      simpa using k2
    skip
    (conv => whnf); refine ⟨fun k9 => ?_, fun k9 => ?_⟩
    · have k9 : 1 < t.length := by rw [← hT]; simp at k9; omega
      obtain ⟨y, hy⟩ := B7 (l := t) (i := 1) (by omega)
      obtain ⟨y0, hy0⟩ := B7 (l := t) (i := 0) (by omega)
      have hy2 : t.getD 1 It.none = y := by rw [List.getD_eq_getElem?_getD, hy]; rfl
      have hu : Cj c = (Ak c' 10, t.set 0 y) := by rw [hdt, Oq, if_neg k0, if_neg k1, if_pos k2, if_pos k9, hy2]
      have hrow1 : ((((Fy (right c).2).map Ao).drop 0).take ((Fy (right c).2).map Ao).length)[0 + (1 : Int).toNat]? = some (Ao y) := by rw [hT, Nat.zero_add, List.drop_zero, List.take_length]; exact Am hy
      have hhi1 : (1 : Int) < (((((Fy (right c).2).map Ao).drop 0).take ((Fy (right c).2).map Ao).length).length : Nat) := by rw [hT]; simp; omega
      have hhi0 : (0 : Int) < (((((Fy (right c).2).map Ao).drop 0).take ((Fy (right c).2).map Ao).length).length : Nat) := by rw [hT]; simp; omega
      have hrow0 : ((((Fy (right c).2).map Ao).drop 0).take ((Fy (right c).2).map Ao).length)[0 + (0 : Int).toNat]? = some (Ao y0) := by rw [hT, Nat.zero_add, List.drop_zero, List.take_length]; exact Am hy0
      repeat ((conv => whnf); first | refine ⟨(by kernel_rfl : C6 _ _ = true), ?_⟩ | refine ⟨bb, ?_⟩ | refine ⟨Ao y, fun _ => hrow1, ?_⟩ | refine ⟨Ao y0, hrow0, ?_⟩)
      rw [show Bg.res c = .agg [.own 4 ((Cj c).2.map Ao)] from rfl, hu]
      refine ⟨⟨by show some _ = some (AV.own 3 [B9 (Cj c).1]); rw [hu] <;> rfl, trivial⟩, ⟨rfl, ?_⟩, trivial⟩
      rw [hT]
      simp [Ao, Jv, K3, List.take_of_length_le, List.map_set] <;> rfl
    have k9 : ¬ 1 < t.length := by rw [← hT]; simp at k9; omega
    have hu : Cj c = (Ak c' 10, t) := by rw [hdt, Oq, if_neg k0, if_neg k1, if_pos k2, if_neg k9]
    skip
    rw [show Bg.res c = .agg [.own 4 ((Cj c).2.map Ao)] from rfl, hu]
    refine ⟨⟨by show some _ = some (AV.own 3 [B9 (Cj c).1]); rw [hu] <;> rfl, trivial⟩, ⟨rfl, ?_⟩, trivial⟩
    rw [hT]
    simp [Ao, Jv, K3, List.take_of_length_le, List.map_set] <;> rfl
  have k2 : ¬ Bx c' 10 = 2 := by
    have k2 : (Bx c' 10 == 2) = false := k2
    simpa using k2
  skip
  (conv => whnf); refine ⟨fun k3 => ?_, fun k3 => ?_⟩
  · skip
    have k3 : Bx c' 10 = 3 := by
      have k3 : (Bx c' 10 == 3) = true := k3
      simpa using k3
    skip
    (conv => whnf); refine ⟨fun k9 => ?_, fun k9 => ?_⟩
    · have k9 : 0 < t.length := by rw [← hT]; simpa using k9
      have hb := N3 (Ak c' 10) t.length
      have hb2 := hb.2 (by omega)
      obtain ⟨y, hy⟩ := B7 (l := t) (i := (Bx (Ak c' 10) t.length).toNat) (by omega)
      have hy2 : t.getD (Bx (Ak c' 10) t.length).toNat It.none = y := by rw [List.getD_eq_getElem?_getD, hy]; rfl
      have hu : Cj c = (Ak (Ak (Ak c' 10) t.length) 3, t.set (Bx (Ak c' 10) t.length).toNat (K3 y (Lf (Ak (Ak c' 10) t.length) tms))) := by rw [hdt, Oq, if_neg k0, if_neg k1, if_neg k2, if_pos k3, if_pos k9, hy2]
      skip
      refine ⟨(Ak c' 10, (t.length : Int)), by refine Bn rfl (Bn ?_ rfl); show AV.int .i64 _ = .int .i64 (t.length : Int); rw [← hT]; simp, fun _ => hk, ?_⟩
      skip
      refine ⟨(Ak (Ak c' 10) t.length, tms), rfl, fun _ => ⟨Bl hk, (by decide : 0 < tms.length ∧ tms.length ≤ 1000)⟩, ?_⟩
      have hrow : ((((Fy (right c).2).map Ao).drop 0).take ((Fy (right c).2).map Ao).length)[0 + (Bx (Ak c' 10) t.length).toNat]? = some (Ao y) := by rw [hT, Nat.zero_add, List.drop_zero, List.take_length]; exact Am hy
      have hhi : Bx (Ak c' 10) t.length < (((((Fy (right c).2).map Ao).drop 0).take ((Fy (right c).2).map Ao).length).length : Nat) := by rw [hT]; simp; omega
      repeat ((conv => whnf); first | refine ⟨(by kernel_rfl : C6 _ _ = true), ?_⟩ | refine ⟨bb, ?_⟩ | refine ⟨Ao y, hrow, ?_⟩)
      rw [show Bg.res c = .agg [.own 4 ((Cj c).2.map Ao)] from rfl, hu]
      refine ⟨⟨by show some _ = some (AV.own 3 [B9 (Cj c).1]); rw [hu] <;> rfl, trivial⟩, ⟨rfl, ?_⟩, trivial⟩
      rw [hT]
      simp [Ao, Jv, K3, List.take_of_length_le, List.map_set] <;> rfl
    have k9 : ¬ 0 < t.length := by rw [← hT]; simpa using k9
    have hu : Cj c = (Ak c' 10, t) := by rw [hdt, Oq, if_neg k0, if_neg k1, if_neg k2, if_pos k3, if_neg k9]
    skip
    rw [show Bg.res c = .agg [.own 4 ((Cj c).2.map Ao)] from rfl, hu]
    refine ⟨⟨by show some _ = some (AV.own 3 [B9 (Cj c).1]); rw [hu] <;> rfl, trivial⟩, ⟨rfl, ?_⟩, trivial⟩
    rw [hT]
    simp [Ao, Jv, K3, List.take_of_length_le, List.map_set] <;> rfl
  have k3 : ¬ Bx c' 10 = 3 := by
    have k3 : (Bx c' 10 == 3) = false := k3
    simpa using k3
  have hu : Cj c = (Ak c' 10, t) := by rw [hdt, Oq, if_neg k0, if_neg k1, if_neg k2, if_neg k3]
  skip
  rw [show Bg.res c = .agg [.own 4 ((Cj c).2.map Ao)] from rfl, hu]
  refine ⟨⟨by show some _ = some (AV.own 3 [B9 (Cj c).1]); rw [hu] <;> rfl, trivial⟩, ⟨rfl, ?_⟩, trivial⟩
  rw [hT]
  simp [Ao, Jv, K3, List.take_of_length_le, List.map_set] <;> rfl
theorem Yj : Ay Tryz.prog 40 Bg := Dn (Ch _ _) (FOk.cons Ge (FOk.cons A2l (FOk.cons Xi (FOk.cons A1p (FOk.cons Kz FOk.nil))))) mixed Tryz.func40 rfl Tryz.call40 (by decide) (by kernel_rfl) A1j (fun h => by cases h) (by intro (y : Cur) _; first | exact ⟨by simp [Bg, con, Aa, A8, Ag, AV.free, A2, A3, A1, A6, Ao, Ad, Ae, B9, Ah, Ap, Al, Av, Ax], by simp [Bg, con, Aa, A8, Ag, AV.free, A2, A3, A1, A6, Ao, Ad, Ae, B9, Ah, Ap, Al, Av, Ax]⟩ | (obtain ⟨_, _⟩ := y; exact ⟨by simp [Bg, con, Aa, A8, Ag, AV.free, A2, A3, A1, A6, Ao, Ad, Ae, B9, Ah, Ap, Al, Av, Ax], by simp [Bg, con, Aa, A8, Ag, AV.free, A2, A3, A1, A6, Ao, Ad, Ae, B9, Ah, Ap, Al, Av, Ax]⟩) | (obtain ⟨_, _, _⟩ := y; exact ⟨by simp [Bg, con, Aa, A8, Ag, AV.free, A2, A3, A1, A6, Ao, Ad, Ae, B9, Ah, Ap, Al, Av, Ax], by simp [Bg, con, Aa, A8, Ag, AV.free, A2, A3, A1, A6, Ao, Ad, Ae, B9, Ah, Ap, Al, Av, Ax]⟩)) (by intro (y : Cur) _; first | (simp [Bg, con, Aa, A8, Ag, AV.free, A2, A3, A1, A6, Ao, Ad, Ae, B9, Ah, Ap, Al, Av, Ax]; done) | (obtain ⟨_, _⟩ := y; simp [Bg, con, Aa, A8, Ag, AV.free, A2, A3, A1, A6, Ao, Ad, Ae, B9, Ah, Ap, Al, Av, Ax]; done) | (obtain ⟨_, _, _⟩ := y; simp [Bg, con, Aa, A8, Ag, AV.free, A2, A3, A1, A6, Ao, Ad, Ae, B9, Ah, Ap, Al, Av, Ax]; done))
end Go.GH


set_option linter.unusedVariables false
set_option linter.unusedSimpArgs false
namespace Go.GH
open Go Go.Proofs
noncomputable def G0 : Bp := con [mS 1, mS 1] true (List Str × List Str) (fun x => [.rd 1 (x.1.map A6), .rd 1 (x.2.map A6)]) (fun x => smL x.1 ∧ smL x.2) (fun x => .bool (x.1 == x.2))
noncomputable def A1b : Env := ⟨A4 Bc, A4 [], [0, 1, 4, 5, 10, 14, 25]⟩
set_option maxRecDepth 100000 in
set_option maxHeartbeats 4000000 in
theorem A27 : Bd A1b (Az Tryz.f86) Tryz.f86.results.toList G0 := by
  rintro ⟨l, m⟩ hs
  obtain ⟨⟨hl1, hl2⟩, ⟨hm1, hm2⟩⟩ : smL l ∧ smL m := hs
  refine ⟨trivial, ?_⟩
  (conv => whnf); refine ⟨fun h1 => ?_, fun h1 => ?_⟩
  · have h1 : l.length ≠ m.length := by simp at h1; omega
    conv => whnf
    exact ⟨trivial, eqB (Eq.symm (beq_eq_false_iff_ne.2 fun e => h1 (congrArg List.length e)))⟩
  have h1 : l.length = m.length := by simp at h1; omega
  skip
  refine B2 (fun i : Nat => ⟨[(0, ⟨none, .rd 1 (l.map A6)⟩), (1, ⟨none, .rd 1 (m.map A6)⟩), (5, ⟨none, .int .i64 i⟩)], [], 0⟩)
    (fun i => i ≤ l.length ∧ l.take i = m.take i) (fun i => l.length - i) 0 ?_ ⟨by omega, rfl⟩ ?_
  · (refine ⟨?_, ?_, rfl⟩ <;> repeat' (first | exact rfl | exact trivial | refine ⟨?_, ?_⟩ | fail) <;> (conv => whnf))
  rintro i ⟨hi, hI⟩
  (conv => whnf); refine ⟨fun h2 => ?_, fun h2 => ?_⟩
  · have h2 : i < l.length := by simpa using h2
    obtain ⟨b, hb⟩ := B7 h2
    obtain ⟨c, hc⟩ := B7 (l := m) (i := i) (by omega)
    repeat ((conv => whnf); first | refine ⟨(by kernel_rfl : C6 _ _ = true), ?_⟩ | refine ⟨A6 b, fun _ => ⟨by omega, Am hb⟩, ?_⟩ | refine ⟨A6 c, fun _ => ⟨by omega, Am hc⟩, ?_⟩)
    (conv => whnf); refine ⟨fun h3 => ?_, fun h3 => ?_⟩
    · have h3 : (!(b == c)) = true := h3
      conv => whnf
      exact ⟨trivial, eqB (Eq.symm (beq_eq_false_iff_ne.2 fun (e : l = m) => by
        rw [← e, hb] at hc; simp at hc; simp [hc] at h3))⟩
    · have h3 : b = c := by
        have h3 : (!(b == c)) = false := h3
        simpa using h3
      repeat ((conv => whnf); refine ⟨_, w64 (bb), ?_⟩)
      refine C5 (i + 1) ?_ ⟨h2, by rw [Bm hb, Bm hc, hI, h3]⟩ (by first | omega | (simp; done) | (simp; omega))
      (refine ⟨?_, ?_, rfl⟩ <;> repeat' (first | exact rfl | exact trivial | refine ⟨?_, ?_⟩ | fail) <;> (conv => whnf))
  · have h2 : i = l.length := by
      have : ¬ i < l.length := by simpa using h2
      omega
    subst h2
    conv => whnf
    rw [List.take_length, h1, List.take_length] at hI
    exact ⟨trivial, eqB (Eq.symm (beq_iff_eq.2 hI))⟩
theorem Yw : Ay Tryz.prog 86 G0 := Aq (Ch _ _) FOk.nil mixed Tryz.func86 rfl Tryz.call86 (by decide) (by kernel_rfl) A27 (by intro _ (y : (List Str × List Str)) _; exact ⟨by simp [G0, con, Aa, A8, AV.noRd, A7, Ab, A5, A6], by simp [G0, con, Aa, A8, AV.noRd, A7, Ab, A5, A6]⟩) (by intro (y : (List Str × List Str)) _; first | (simp [G0, con, Aa, A8, Ag, AV.free, A2, A3, A1, A6]; done) | (obtain ⟨_, _⟩ := y; simp [G0, con, Aa, A8, Ag, AV.free, A2, A3, A1, A6]; done) | (obtain ⟨_, _, _⟩ := y; simp [G0, con, Aa, A8, Ag, AV.free, A2, A3, A1, A6]; done))
noncomputable def Gw : Bp := con [mC, mC] true (Str × Str) (fun ⟨p, q⟩ => [.str p, .str q]) (fun x => sml x.1.length ∧ sml x.2.length) (fun x => .bool (Gb x.1 x.2))
noncomputable def A3t : Env := ⟨A4 Bc, A4 [(75, Cu), (85, E0), (86, G0)], [0, 1, 4, 5, 6]⟩
set_option maxRecDepth 100000 in
set_option maxHeartbeats 4000000 in
theorem A5v : Bd A3t (Az Tryz.f46) Tryz.f46.results.toList Gw := by
  rintro ⟨p, q⟩ hs
  obtain ⟨h1, h2⟩ : sml p.length ∧ sml q.length := hs
  refine ⟨trivial, ?_⟩
  conv => whnf
  refine ⟨p, rfl, fun _ => h1, ?_⟩
  conv => whnf
  refine ⟨q, rfl, fun _ => h2, ?_⟩
  conv => whnf
  refine ⟨p, rfl, fun _ => h1, ?_⟩
  repeat ((conv => whnf); refine ⟨fun h => h, ?_⟩)
  refine ⟨q, rfl, fun _ => h2, ?_⟩
  repeat ((conv => whnf); refine ⟨fun h => h, ?_⟩)
  conv => whnf
  refine ⟨fun h => ⟨by omega, by omega, by simp [Cn] at h ⊢; omega⟩, ?_⟩
  repeat ((conv => whnf); refine ⟨fun h => h, ?_⟩)
  conv => whnf
  refine ⟨((names p).take (names q).length, names q), B9j (by rw [B6j]; simp) (by simp [rdS]), fun h => ⟨B7o B0r, B0r⟩, ?_⟩
  repeat ((conv => whnf); refine ⟨fun h => h, ?_⟩)
  conv => whnf
  refine ⟨trivial, eqB ?_⟩
  show (Aw p && Aw q && decide ((((names q).map A6).length : Int) ≤ ((names p).map A6).length) && ((names p).take (names q).length == names q)) = Gb p q
  rw [List.length_map, List.length_map, Gb, Bool.and_assoc (Aw p && Aw q), A4l]
theorem A2d : Ay Tryz.prog 46 Gw := Aq (Ch _ _) (FOk.cons G4 (FOk.cons Jw (FOk.cons Yw FOk.nil))) mixed Tryz.func46 rfl Tryz.call46 (by decide) (by kernel_rfl) A5v (by intro _ (y : (Str × Str)) _; exact ⟨by simp [Gw, con, Aa, A8, AV.noRd, A7, Ab, A5, A6], by simp [Gw, con, Aa, A8, AV.noRd, A7, Ab, A5, A6]⟩) (by intro (y : (Str × Str)) _; first | (simp [Gw, con, Aa, A8, Ag, AV.free, A2, A3, A1, A6]; done) | (obtain ⟨_, _⟩ := y; simp [Gw, con, Aa, A8, Ag, AV.free, A2, A3, A1, A6]; done) | (obtain ⟨_, _, _⟩ := y; simp [Gw, con, Aa, A8, Ag, AV.free, A2, A3, A1, A6]; done))
def Mu : Bp := con [mC, mC] true (Str × Str) (fun ⟨p, q⟩ => [.str p, .str q]) (fun x => True) (fun x => .bool (x.2.isPrefixOf x.1))
theorem Rm : Ay Tryz.prog 84 Mu := by
  refine Vb rfl (fun _ => rfl) (fun _ => rfl) (fun _ => rfl) (fun ⟨_, _⟩ _ => ⟨trivial, trivial, trivial⟩) Tryz.call84 ?_
  rintro ⟨l, p⟩ hpre y w args ρ hw hR hsz hs
  have h0 := Hk (hs 0 _ rfl)
  have h1 := Hk (hs 1 _ rfl)
  have ha := B6u hsz h0 h1
  rw [ha]
  refine (Tryz.strings_HasPrefix (toB l) (toB p) w).mono ?_
  rintro e w' ⟨rfl, rfl⟩
  exact ⟨rfl, RowKit.Below.refl _ _⟩
noncomputable def Gs : Bp := con [mC, mC] true (Str × Str) (fun ⟨p, q⟩ => [.str p, .str q]) (fun x => sml x.1.length ∧ sml x.2.length) (fun x => .bool (Gb x.1 x.2))
noncomputable def A3e : Env := ⟨A4 Bc, A4 [(83, Fw), (84, Mu)], [0, 1, 4, 12]⟩
set_option maxRecDepth 100000 in
set_option maxHeartbeats 4000000 in
theorem A64 : Bd A3e (Az Tryz.f44) Tryz.f44.results.toList Gs := by
  rintro ⟨p, q⟩ hs
  obtain ⟨h1, h2⟩ : p.length ≤ 4194304 ∧ q.length ≤ 4194304 := hs
  refine ⟨trivial, ?_⟩
  conv => whnf
  refine ⟨p, rfl, fun _ => h1, ?_⟩
  repeat ((conv => whnf); refine ⟨fun h => h, ?_⟩)
  refine ⟨q, rfl, fun _ => h2, ?_⟩
  repeat ((conv => whnf); refine ⟨fun h => h, ?_⟩)
  (conv => whnf); refine ⟨fun h3 => ?_, fun h3 => ?_⟩
  · conv => whnf
    have h3 : (!Aw p || !Aw q) = true := h3
    exact ⟨trivial, eqB (by unfold Gb; revert h3; cases Aw p <;> cases Aw q <;> simp)⟩
  have h3 : (!Aw p || !Aw q) = false := h3
  have hp : Aw p = true := by revert h3; cases Aw p <;> simp
  have hq : Aw q = true := by revert h3; cases Aw q <;> simp
  repeat ((conv => whnf); first | refine ⟨fun h => h, ?_⟩ | refine ⟨bb, ?_⟩)
  conv => whnf
  refine ⟨(p, q ++ sl), rfl, fun _ => trivial, ?_⟩
  repeat ((conv => whnf); refine ⟨fun h => h, ?_⟩)
  conv => whnf
  exact ⟨trivial, eqB (A7o hp hq)⟩
theorem A1n : Ay Tryz.prog 44 Gs := Aq (Ch _ _) (FOk.cons Rs (FOk.cons Rm FOk.nil)) mixed Tryz.func44 rfl Tryz.call44 (by decide) (by kernel_rfl) A64 (by intro _ (y : (Str × Str)) _; exact ⟨by simp [Gs, con, Aa, A8, AV.noRd, A7, Ab, A5, A6], by simp [Gs, con, Aa, A8, AV.noRd, A7, Ab, A5, A6]⟩) (by intro (y : (Str × Str)) _; first | (simp [Gs, con, Aa, A8, Ag, AV.free, A2, A3, A1, A6]; done) | (obtain ⟨_, _⟩ := y; simp [Gs, con, Aa, A8, Ag, AV.free, A2, A3, A1, A6]; done) | (obtain ⟨_, _, _⟩ := y; simp [Gs, con, Aa, A8, Ag, AV.free, A2, A3, A1, A6]; done))
end Go.GH


set_option linter.unusedVariables false
set_option linter.unusedSimpArgs false
namespace Go.GH
open Go Go.Proofs
noncomputable def Fk : Bp := con [mS 4, mC] true (Tr × Str) (fun ⟨t, p⟩ => [rdT t, .str p]) (fun x => smT x.1 ∧ sml x.2.length) (fun ⟨t, p⟩ => Ju t p)
noncomputable def A85 : Env := ⟨A4 Bc, A4 [(38, Gq), (45, Ei), (46, Gw)], [0, 1, 2, 4, 5, 6, 8, 9, 10, 11, 12, 25, 30, 46]⟩
set_option maxRecDepth 100000 in
set_option maxHeartbeats 4000000 in
theorem A9h : Bd A85 (Az Tryz.f10) Tryz.f10.results.toList Fk := by
  rintro ⟨t, p⟩ hs
  obtain ⟨⟨hs1, hs2⟩, hp⟩ : smT t ∧ p.length ≤ 4194304 := hs
  refine ⟨trivial, ?_⟩
  skip
  refine ⟨(t, p), rfl, fun _ => ⟨hs1, hs2⟩, ?_⟩
  skip
  refine ⟨t, rfl, fun _ => ⟨hs1, hs2⟩, ?_⟩
  repeat ((conv => whnf); refine ⟨fun h => h, ?_⟩)
  (conv => whnf); refine ⟨fun h1 => ?_, fun h1 => ?_⟩
  · have h1 : (!C8 t || !(B8 t p).isSome) = true := h1
    rw [show Fk.res (t, p) = .tup [.int .i64 0, .int .i64 0, .bool false] from B7t (by revert h1; cases C8 t <;> cases (B8 t p).isSome <;> simp)]
    skip
    exact ⟨trivial, rfl, rfl, rfl, trivial⟩
  have h1 : (!C8 t || !(B8 t p).isSome) = false := h1
  rw [show Fk.res (t, p) = .tup [.int .i64 (cnt p t), .int .i64 (byt p t), .bool true] from B42 (by revert h1; cases C8 t <;> cases (B8 t p).isSome <;> simp)]
  skip
  refine B2 (fun i : Nat => ⟨[(1, ⟨none, .str p⟩), (2, ⟨none, .bx 0 0⟩), (9, ⟨none, .int .i64 (cnt p (t.take i))⟩), (10, ⟨none, .int .i64 (byt p (t.take i))⟩), (11, ⟨none, .int .i64 i⟩)], [(0, .own 1 [[.rd 4 (t.map Ao)]])], 1⟩)
    (fun i => i ≤ t.length) (fun i => t.length - i) 0 ?_ (by omega) ?_
  · (refine ⟨?_, ?_, rfl⟩ <;> repeat' (first | exact rfl | exact trivial | refine ⟨?_, ?_⟩ | fail) <;> (conv => whnf))
  intro i hi
  have hi : i ≤ t.length := hi
  (conv => whnf); refine ⟨fun h2 => ?_, fun h2 => ?_⟩
  · have h2 : i < t.length := by simpa using h2
    obtain ⟨b, hb⟩ := B7 h2
    have hbs := hs2 b (List.mem_of_getElem? hb)
    have hc := B3m (p := p) (l := t) (i := i)
    have hy := B3s (p := p) (l := t) (fun x hx => (hs2 x hx).2) (i := i)
    repeat ((conv => whnf); first | refine ⟨fun h => h, ?_⟩ | refine ⟨Ao b, fun _ => ⟨by omega, Am hb⟩, ?_⟩)
    refine ⟨(b.path, p), rfl, fun _ => ⟨hbs.1, hp⟩, ?_⟩
    repeat ((conv => whnf); refine ⟨fun h => h, ?_⟩)
    (conv => whnf); refine ⟨fun h3 => ?_, fun h3 => ?_⟩
    · have h3 : lyP p b = true := h3
      repeat ((conv => whnf); refine ⟨_, w64 (bb), ?_⟩)
      refine C5 (i + 1) ?_ h2 (by first | omega | (simp; done) | (simp; omega))
      rw [B3z hb h3, B4h hb h3]
      (refine ⟨?_, ?_, rfl⟩ <;> repeat' (first | exact rfl | exact trivial | refine ⟨?_, ?_⟩ | fail) <;> (conv => whnf))
    · have h3 : lyP p b = false := h3
      repeat ((conv => whnf); refine ⟨_, w64 (bb), ?_⟩)
      refine C5 (i + 1) ?_ h2 (by first | omega | (simp; done) | (simp; omega))
      rw [B02 hb h3, B12 hb h3]
      (refine ⟨?_, ?_, rfl⟩ <;> repeat' (first | exact rfl | exact trivial | refine ⟨?_, ?_⟩ | fail) <;> (conv => whnf))
  · have h2 : i = t.length := by
      have : ¬ i < t.length := by simpa using h2
      omega
    subst h2
    rw [List.take_length]
    skip
    exact ⟨trivial, rfl, rfl, rfl, trivial⟩
theorem A55 : Ay Tryz.prog 10 Fk := Aq (Ch _ _) (FOk.cons Zv (FOk.cons Qv (FOk.cons A2d FOk.nil))) mixed Tryz.func10 rfl Tryz.call10 (by decide) (by kernel_rfl) A9h (by intro _ (y : (Tr × Str)) _; exact ⟨by simp [Fk, con, Aa, A8, AV.noRd, A7, Ab, A5, A6, Ju], by simp [Fk, con, Aa, A8, AV.noRd, A7, Ab, A5, A6, Ju]⟩) (by intro (y : (Tr × Str)) _; first | (simp [Fk, con, Aa, A8, Ag, AV.free, A2, A3, A1, A6, rdT, Ao, Ju]; done) | (obtain ⟨_, _⟩ := y; simp [Fk, con, Aa, A8, Ag, AV.free, A2, A3, A1, A6, rdT, Ao, Ju]; done) | (obtain ⟨_, _, _⟩ := y; simp [Fk, con, Aa, A8, Ag, AV.free, A2, A3, A1, A6, rdT, Ao, Ju]; done))
noncomputable def Fi : Bp := con [mS 4, mC] true (Tr × Str) (fun ⟨t, p⟩ => [rdT t, .str p]) (fun x => smT x.1 ∧ sml x.2.length) (fun ⟨t, p⟩ => Ju t p)
noncomputable def A8k : Env := ⟨A4 Bc, A4 [(11, Dc), (32, Et), (44, Gs)], [0, 1, 2, 4, 5, 6, 8, 9, 10, 12, 25, 27, 28, 29, 30, 41]⟩
set_option maxRecDepth 100000 in
set_option maxHeartbeats 4000000 in
theorem A8b : Bd A8k (Az Tryz.f9) Tryz.f9.results.toList Fi := by
  rintro ⟨t, p⟩ hs
  obtain ⟨⟨hs1, hs2⟩, hp⟩ : smT t ∧ p.length ≤ 4194304 := hs
  refine ⟨trivial, ?_⟩
  skip
  refine ⟨(t, p), rfl, fun _ => ⟨hs1, hs2⟩, ?_⟩
  repeat ((conv => whnf); refine ⟨fun h => h, ?_⟩)
  refine ⟨t, by refine B9v ?_; simp [rdI], fun _ => ⟨hs1, hs2⟩, ?_⟩
  repeat ((conv => whnf); refine ⟨fun h => h, ?_⟩)
  (conv => whnf); refine ⟨fun h1 => ?_, fun h1 => ?_⟩
  · have h1 : (!(B8 t p).isSome || !C8 t) = true := h1
    rw [show Fi.res (t, p) = .tup [.int .i64 0, .int .i64 0, .bool false] from B7t (by revert h1; cases C8 t <;> cases (B8 t p).isSome <;> simp)]
    skip
    exact ⟨trivial, rfl, rfl, rfl, trivial⟩
  have h1 : (!(B8 t p).isSome || !C8 t) = false := h1
  rw [show Fi.res (t, p) = .tup [.int .i64 (cnt p t), .int .i64 (byt p t), .bool true] from B42 (by revert h1; cases C8 t <;> cases (B8 t p).isSome <;> simp)]
  skip
  refine B2 (fun i : Nat => ⟨[(1, ⟨none, .str p⟩), (9, ⟨none, .int .i64 (cnt p (t.take i))⟩), (10, ⟨none, .int .i64 (byt p (t.take i))⟩), (27, ⟨none, .rd 4 (t.map Ao)⟩), (28, ⟨none, .int .i64 t.length⟩), (29, ⟨none, .int .i64 i⟩)], [], 0⟩)
    (fun i => i ≤ t.length) (fun i => t.length - i) 0 ?_ (by omega) ?_
  · (refine ⟨?_, ?_, rfl⟩ <;> repeat' (first | exact rfl | exact trivial | refine ⟨?_, ?_⟩ | fail) <;> (conv => whnf))
    all_goals simp
  intro i hi
  have hi : i ≤ t.length := hi
  (conv => whnf); refine ⟨fun h2 => ?_, fun h2 => ?_⟩
  · have h2 : i < t.length := by simpa using h2
    obtain ⟨b, hb⟩ := B7 h2
    have hbs := hs2 b (List.mem_of_getElem? hb)
    have hc := B3m (p := p) (l := t) (i := i)
    have hy := B3s (p := p) (l := t) (fun x hx => (hs2 x hx).2) (i := i)
    repeat ((conv => whnf); first | refine ⟨fun h => h, ?_⟩ | refine ⟨Ao b, fun _ => ⟨by omega, Am hb⟩, ?_⟩)
    refine ⟨(b.path, p), rfl, fun _ => ⟨hbs.1, hp⟩, ?_⟩
    repeat ((conv => whnf); refine ⟨fun h => h, ?_⟩)
    (conv => whnf); refine ⟨fun h3 => ?_, fun h3 => ?_⟩
    · have h3 : lyP p b = true := h3
      repeat ((conv => whnf); refine ⟨_, w64 (bb), ?_⟩)
      refine C5 (i + 1) ?_ h2 (by first | omega | (simp; done) | (simp; omega))
      rw [B3z hb h3, B4h hb h3]
      (refine ⟨?_, ?_, rfl⟩ <;> repeat' (first | exact rfl | exact trivial | refine ⟨?_, ?_⟩ | fail) <;> (conv => whnf))
    · have h3 : lyP p b = false := h3
      repeat ((conv => whnf); refine ⟨_, w64 (bb), ?_⟩)
      refine C5 (i + 1) ?_ h2 (by first | omega | (simp; done) | (simp; omega))
      rw [B02 hb h3, B12 hb h3]
      (refine ⟨?_, ?_, rfl⟩ <;> repeat' (first | exact rfl | exact trivial | refine ⟨?_, ?_⟩ | fail) <;> (conv => whnf))
  · have h2 : i = t.length := by
      have : ¬ i < t.length := by simpa using h2
      omega
    subst h2
    rw [List.take_length]
    skip
    exact ⟨trivial, rfl, rfl, rfl, trivial⟩
theorem A45 : Ay Tryz.prog 9 Fi := Aq (Ch _ _) (FOk.cons Kd (FOk.cons Nb (FOk.cons A1n FOk.nil))) mixed Tryz.func9 rfl Tryz.call9 (by decide) (by kernel_rfl) A8b (by intro _ (y : (Tr × Str)) _; exact ⟨by simp [Fi, con, Aa, A8, AV.noRd, A7, Ab, A5, A6, Ju], by simp [Fi, con, Aa, A8, AV.noRd, A7, Ab, A5, A6, Ju]⟩) (by intro (y : (Tr × Str)) _; first | (simp [Fi, con, Aa, A8, Ag, AV.free, A2, A3, A1, A6, rdT, Ao, Ju]; done) | (obtain ⟨_, _⟩ := y; simp [Fi, con, Aa, A8, Ag, AV.free, A2, A3, A1, A6, rdT, Ao, Ju]; done) | (obtain ⟨_, _, _⟩ := y; simp [Fi, con, Aa, A8, Ag, AV.free, A2, A3, A1, A6, rdT, Ao, Ju]; done))
end Go.GH


set_option linter.unusedVariables false
set_option linter.unusedSimpArgs false
namespace Go.GH
open Go Go.Proofs
noncomputable def Hj : Bp := con [mC] false Str A6 (fun s => sml s.length) (fun s => .own 1 ((names s).map A6))
noncomputable def A8r : Env := ⟨A4 Bc, A4 [(50, D9)], [0, 2, 3]⟩
set_option maxRecDepth 100000 in
set_option maxHeartbeats 4000000 in
theorem A7w : Bd A8r (Az Tryz.f89) Tryz.f89.results.toList Hj := by
  intro (s : Str) hs
  have hs : sml s.length := hs
  refine ⟨trivial, ?_⟩
  skip
  refine ⟨s, rfl, fun _ => hs, ?_⟩
  skip
  exact ⟨trivial, rfl, by simp⟩
theorem A4u : Ay Tryz.prog 89 Hj := Aq (Ch _ _) (FOk.cons Js FOk.nil) mixed Tryz.func89 rfl Tryz.call89 (by decide) (by kernel_rfl) A7w (by intro _ (y : Str) _; exact ⟨by simp [Hj, con, Aa, A8, AV.noRd, A7, Ab, A5, A6, Ad, Ae, B9, Ao], by simp [Hj, con, Aa, A8, AV.noRd, A7, Ab, A5, A6, Ad, Ae, B9, Ao]⟩) (by intro (y : Str) _; first | (simp [Hj, con, Aa, A8, Ag, AV.free, A2, A3, A1, A6, Ao, Ad, Ae, B9]; done) | (obtain ⟨_, _⟩ := y; simp [Hj, con, Aa, A8, Ag, AV.free, A2, A3, A1, A6, Ao, Ad, Ae, B9]; done) | (obtain ⟨_, _, _⟩ := y; simp [Hj, con, Aa, A8, Ag, AV.free, A2, A3, A1, A6, Ao, Ad, Ae, B9]; done))
noncomputable def Ih : Bp := con [mC] true Str A6 (fun s => sml s.length) (fun s => .str (Ji s))
noncomputable def B09 : Env := ⟨A4 Bc, A4 [(89, Hj)], [0, 2, 3, 8]⟩
set_option maxRecDepth 100000 in
set_option maxHeartbeats 4000000 in
theorem B0f : Bd B09 (Az Tryz.f49) Tryz.f49.results.toList Ih := by
  intro (s : Str) hs
  have hs : sml s.length := hs
  refine ⟨trivial, ?_⟩
  have hn4 := Hf (p := s)
  skip
  refine ⟨s, rfl, fun _ => hs, ?_⟩
  skip
  (conv => whnf); refine ⟨fun h1 => ?_, fun h1 => ?_⟩
  · have h1 : names s = [] := by simpa using h1
    skip
    exact ⟨trivial, eqS (by rw [Ji, h1]; rfl)⟩
  have h1 : 0 < (names s).length := by
    have : ¬ names s = [] := by simpa using h1
    exact List.length_pos_iff.2 this
  obtain ⟨x, hx⟩ := B7 (l := names s) (i := (names s).length - 1) (by omega)
  have hl : Ji s = x := by rw [Ji, List.getLastD_eq_getLast?, List.getLast?_eq_getElem?, hx]; rfl
  have hrow : ((names s).map A6)[0 + ((((names s).map A6).length : Nat) - 1 : Int).toNat]? = some (A6 x) := by
    rw [Nat.zero_add, List.length_map, show (((names s).length : Int) - 1).toNat = (names s).length - 1 by omega]; exact Am hx
  repeat ((conv => whnf); first | refine ⟨_, w64 (bb), ?_⟩ | refine ⟨bb, ?_⟩ | refine ⟨A6 x, fun _ => hrow, ?_⟩)
  exact ⟨trivial, eqS hl.symm⟩
theorem A9b : Ay Tryz.prog 49 Ih := Aq (Ch _ _) (FOk.cons A4u FOk.nil) mixed Tryz.func49 rfl Tryz.call49 (by decide) (by kernel_rfl) B0f (by intro _ (y : Str) _; exact ⟨by simp [Ih, con, Aa, A8, AV.noRd, A7, Ab, A5, A6, Ad, Ae, B9, Ao], by simp [Ih, con, Aa, A8, AV.noRd, A7, Ab, A5, A6, Ad, Ae, B9, Ao]⟩) (by intro (y : Str) _; first | (simp [Ih, con, Aa, A8, Ag, AV.free, A2, A3, A1, A6, Ao, Ad, Ae, B9]; done) | (obtain ⟨_, _⟩ := y; simp [Ih, con, Aa, A8, Ag, AV.free, A2, A3, A1, A6, Ao, Ad, Ae, B9]; done) | (obtain ⟨_, _, _⟩ := y; simp [Ih, con, Aa, A8, Ag, AV.free, A2, A3, A1, A6, Ao, Ad, Ae, B9]; done))
noncomputable def F8 : Bp := con [mC, mC] true (Str × Str) (fun ⟨p, n⟩ => [.str p, .str n]) (fun x => sml x.1.length ∧ x.2.length ≤ 1048576) (fun ⟨p, n⟩ => .str (if Aw p then Dl (names p ++ [n]) else []))
noncomputable def Z7 : Env := ⟨A4 Bc, A4 [(50, D9), (51, Fr)], [0, 1, 4, 5, 6, 13]⟩
set_option maxRecDepth 100000 in
set_option maxHeartbeats 4000000 in
theorem Z8 : Bd Z7 (Az Tryz.f14) Tryz.f14.results.toList F8 := by
  rintro ⟨p, n⟩ hx
  obtain ⟨hp, hn⟩ : sml p.length ∧ n.length ≤ 1048576 := hx
  refine ⟨trivial, ?_⟩
  have hn4 := Hf (p := p)
  have hn6 := Tj (p := p)
  have hsum := B7k hn6
  skip
  refine ⟨p, rfl, fun _ => hp, ?_⟩
  skip
  (conv => whnf); refine ⟨fun h1 => ?_, fun h1 => ?_⟩
  · have h1 : (!Aw p) = true := h1
    skip
    exact ⟨trivial, eqS (by rw [if_neg (by simpa using h1)])⟩
  have h1 : (!Aw p) = false := h1
  repeat ((conv => whnf); first | refine ⟨bb, ?_⟩ | refine ⟨fun (r : List AV) hr c hc => by simp [A6] at hr; (try subst hr); simp at hc; (try subst hc); rfl, ?_⟩)
  refine ⟨names p ++ [n], by
    refine Bn (Bh ?_) rfl
    refine (congrArg Cl (?_ : _ = (names p ++ [n]).map A6)).trans (rdS _)
    simp [tkM, A6, List.take_of_length_le], fun _ => by show (names p ++ [n]).length + ((names p ++ [n]).map List.length).sum < 4194304; simp; omega, ?_⟩
  skip
  exact ⟨trivial, eqS (by rw [if_pos (by simpa using h1)])⟩
theorem Ww : Ay Tryz.prog 14 F8 := Aq (Ch _ _) (FOk.cons Js (FOk.cons Rk FOk.nil)) mixed Tryz.func14 rfl Tryz.call14 (by decide) (by kernel_rfl) Z8 (by intro _ (y : (Str × Str)) _; exact ⟨by simp [F8, con, Aa, A8, AV.noRd, A7, Ab, A5, A6, Ad, Ae, B9, Ao], by simp [F8, con, Aa, A8, AV.noRd, A7, Ab, A5, A6, Ad, Ae, B9, Ao]⟩) (by intro (y : (Str × Str)) _; first | (simp [F8, con, Aa, A8, Ag, AV.free, A2, A3, A1, A6, Ao, Ad, Ae, B9]; done) | (obtain ⟨_, _⟩ := y; simp [F8, con, Aa, A8, Ag, AV.free, A2, A3, A1, A6, Ao, Ad, Ae, B9]; done) | (obtain ⟨_, _, _⟩ := y; simp [F8, con, Aa, A8, Ag, AV.free, A2, A3, A1, A6, Ao, Ad, Ae, B9]; done))
noncomputable def Df : Bp := con [mS 4, mC] false (Tr × Str) (fun ⟨t, p⟩ => [rdT t, .str p]) (fun x => smT x.1) (fun ⟨t, p⟩ => .own 1 ((Ib t p).map A6))
noncomputable def Wl : Env := ⟨A4 Bc, A4 [(11, Dc), (32, Et), (48, Fq), (49, Ih)], [0, 1, 2, 4, 5, 6, 7, 9, 27, 30, 31, 32, 33, 40]⟩
set_option maxRecDepth 100000 in
set_option maxHeartbeats 4000000 in
theorem X7 : Bd Wl (Az Tryz.f13) Tryz.f13.results.toList Df := by
  rintro ⟨t, p⟩ hs
  have hs : smT t := hs
  obtain ⟨hs1, hs2⟩ := hs
  refine ⟨trivial, ?_⟩
  have hda : Nv t p = ((B8 t p).isSome && ((B8 t p).getD It.none).kind == 2) := rfl
  skip
  refine ⟨(t, p), by (repeat' (first | refine Bn ?_ ?_ | refine Bu ?_ | refine Bh ?_ | refine Bs ?_ | exact rfl)) <;> simp [rdI, rdO, rdE, rdB, rdN, rdS, rdD, rdW, tkM], fun _ => hs, ?_⟩
  repeat ((conv => whnf); refine ⟨fun h => h, ?_⟩)
  refine ⟨t, by (repeat' (first | refine Bn ?_ ?_ | refine Bu ?_ | refine Bh ?_ | refine Bs ?_ | exact rfl)) <;> simp [rdI, rdO, rdE, rdB, rdN, rdS, rdD, rdW, tkM], fun _ => hs, ?_⟩
  repeat ((conv => whnf); refine ⟨fun h => h, ?_⟩)
  (conv => whnf); refine ⟨fun h1 => ?_, fun h1 => ?_⟩
  · have h1 : (!(B8 t p).isSome || ((B8 t p).getD It.none).kind != 2 || !C8 t) = true := h1
    skip
    rw [show Df.res (t, p) = .own 1 [] by
      show AV.own 1 ((Ib t p).map A6) = _
      rw [Ib, if_neg]
      · rfl
      · rw [hda]
        revert h1
        cases (B8 t p).isSome <;> cases hk : (((B8 t p).getD It.none).kind == 2) <;> cases C8 t <;> simp [bne, hk]]
    exact ⟨trivial, rfl⟩
  have h1 : (!(B8 t p).isSome || ((B8 t p).getD It.none).kind != 2 || !C8 t) = false := h1
  have hok : C8 t = true := by revert h1; cases C8 t <;> simp
  have hl40 := A2z hok
  have htn : Ib t p = (Mf t p).map fun y => Ji y.path := by
    rw [Ib, if_pos]
    rw [hda]
    revert h1
    cases (B8 t p).isSome <;> cases hk : (((B8 t p).getD It.none).kind == 2) <;> cases C8 t <;> simp [bne, hk]
  skip
  refine B2 (fun i : Nat => ⟨[(1, ⟨none, .str p⟩), (7, ⟨none, .view 0 [] 0 (Mf (t.take i) p).length⟩), (30, ⟨none, .rd 4 (t.map Ao)⟩), (31, ⟨none, .int .i64 t.length⟩), (32, ⟨none, .int .i64 i⟩)], [(0, .own 1 (((Mf (t.take i) p).map fun y => Ji y.path).map A6))], 1⟩) (fun i => i ≤ t.length) (fun i => t.length - i) 0 ?_ (Nat.zero_le _) ?_
  · (refine ⟨?_, ?_, rfl⟩ <;> repeat' (first | exact rfl | exact trivial | refine ⟨?_, ?_⟩ | fail) <;> (conv => whnf))
    all_goals simp
  intro i hi
  have hi : i ≤ t.length := hi
  have hkl : (Mf (t.take i) p).length ≤ 40 := by
    have h1 : (Mf (t.take i) p).length ≤ (t.take i).length := List.length_filter_le _ _
    rw [List.length_take] at h1
    omega
  (conv => whnf); refine ⟨fun h2 => ?_, fun h2 => ?_⟩
  · have h2 : i < t.length := by have h2 : decide ((i : Int) < (t.length : Nat)) = true := h2
                                 simp at h2; omega
    obtain ⟨y, hy⟩ := B7 h2
    have hys := hs2 y (List.mem_of_getElem? hy)
    have hkt : Mf (t.take (i + 1)) p = Mf (t.take i) p ++ if El y.path == p then [y] else [] := by
      rw [Bm hy, Mf, Mf, List.filter_append]
      cases hq : (El y.path == p) <;> simp [hq]
    repeat ((conv => whnf); refine ⟨Ao y, fun _ => ⟨by omega, Am hy⟩, ?_⟩)
    refine ⟨y.path, rfl, fun _ => by show y.path.length ≤ _; omega, ?_⟩
    skip
    (conv => whnf); refine ⟨fun h3 => ?_, fun h3 => ?_⟩
    · have h3 : (El y.path == p) = true := h3
      rw [if_pos h3] at hkt
      have hl6 := A31 y.path
      skip
      refine ⟨y.path, rfl, fun _ => by show y.path.length ≤ _; omega, ?_⟩
      repeat ((conv => whnf); first | refine ⟨_, w64 (bb), ?_⟩ | refine ⟨bb, ?_⟩ | refine ⟨fun (r : List AV) hr c hc => by simp [A6] at hr; (try subst hr); simp at hc; (try subst hc); rfl, ?_⟩)
      refine C5 (i + 1) ?_ h2 (by first | omega | (simp; done) | (simp; omega))
      rw [hkt]
      (refine ⟨?_, ?_, rfl⟩ <;> repeat' (first | exact rfl | exact trivial | refine ⟨?_, ?_⟩ | fail) <;> (conv => whnf))
      all_goals (simp [A6, tkM])
    · have h3 : (El y.path == p) = false := h3
      rw [if_neg (by rw [h3]; decide), List.append_nil] at hkt
      repeat ((conv => whnf); refine ⟨_, w64 (bb), ?_⟩)
      refine C5 (i + 1) ?_ h2 (by first | omega | (simp; done) | (simp; omega))
      rw [hkt]
      (refine ⟨?_, ?_, rfl⟩ <;> repeat' (first | exact rfl | exact trivial | refine ⟨?_, ?_⟩ | fail) <;> (conv => whnf))
  have h2 : i = t.length := by have h2 : decide ((i : Int) < (t.length : Nat)) = false := h2
                               simp at h2; omega
  subst h2
  rw [List.take_length]
  skip
  rw [show Df.res (t, p) = .own 1 (((Mf t p).map fun y => Ji y.path).map A6) by show AV.own 1 ((Ib t p).map A6) = _; rw [htn]]
  exact ⟨trivial, rfl, by simp⟩
theorem W5 : Ay Tryz.prog 13 Df := Aq (Ch _ _) (FOk.cons Kd (FOk.cons Nb (FOk.cons P6 (FOk.cons A9b FOk.nil)))) mixed Tryz.func13 rfl Tryz.call13 (by decide) (by kernel_rfl) X7 (by intro _ (y : (Tr × Str)) _; exact ⟨by simp [Df, con, Aa, A8, AV.noRd, A7, Ab, A5, A6, Ad, Ae, B9, Ao], by simp [Df, con, Aa, A8, AV.noRd, A7, Ab, A5, A6, Ad, Ae, B9, Ao]⟩) (by intro (y : (Tr × Str)) _; first | (simp [Df, con, Aa, A8, Ag, AV.free, A2, A3, A1, A6, rdT, Ao, Ad, Ae, B9]; done) | (obtain ⟨_, _⟩ := y; simp [Df, con, Aa, A8, Ag, AV.free, A2, A3, A1, A6, rdT, Ao, Ad, Ae, B9]; done) | (obtain ⟨_, _, _⟩ := y; simp [Df, con, Aa, A8, Ag, AV.free, A2, A3, A1, A6, rdT, Ao, Ad, Ae, B9]; done))
noncomputable def Qw : Bp := { Bg with sh := true, res := fun (c : Cur) => .agg [.rd 4 ((Cj c).2.map Ao)] }
theorem Wy : Ay Tryz.prog 40 Qw := B0y _ Yj rfl (fun c _ => ⟨rfl, by show 1 ≤ 16; omega, by simp only [Bg, A8, frz, Mb, List.map_cons, List.map_nil, N2, rdI]⟩)
noncomputable def Cg : Bp := A8 true [mS 1] Str (fun s => [.rd 1 (s.map Ae)]) (fun s => s.length ≤ 1048576) (fun s => .tup [.agg [.rd 4 ((Cj (Jn s)).2.map Ao)], .str (Sf (Jn s))]) (fun _ => [])
noncomputable def X3 : Env := ⟨A4 Bc, A4 [(39, Il), (40, Qw), (41, D5), (42, C3), (43, D6)], [0, 2, 3, 4, 5, 18]⟩
set_option maxRecDepth 100000 in
set_option maxHeartbeats 4000000 in
theorem Xg : Bd X3 (Az Tryz.f8) Tryz.f8.results.toList Cg := by
  intro (s : Str) (hs : s.length ≤ 1048576)
  refine ⟨trivial, ?_⟩
  have hc0 := B4q hs
  conv => whnf
  refine ⟨s, rfl, fun _ => hs, ?_⟩
  skip
  refine ⟨Jn s, rfl, fun _ => hc0, ?_⟩
  obtain ⟨hk, hsm, hle⟩ := B0a hc0
  have hb3 := N3 (Ak (Cj (Jn s)).1 3) (Cj (Jn s)).2.length
  have e0 : ∀ {q : Str}, Sf (Jn s) = q → Cg.res s = .tup [.agg [.rd 4 ((Cj (Jn s)).2.map Ao)], .str q] := fun h => by rw [← h]; rfl
  skip
  (conv => whnf); refine ⟨fun g0 => ?_, fun g0 => ?_⟩
  · have g1 : 0 < (Cj (Jn s)).2.length := by simp at g0; omega
    have hb4 := hb3.2 (by omega)
    repeat ((conv => whnf); refine ⟨fun (h : Cn _) => by first | assumption | exact absurd (Eq.trans (Eq.symm h) (by assumption) : true = false) Bool.noConfusion, ?_⟩)
    refine ⟨((Cj (Jn s)).1, 3), rfl, fun _ => hk, ?_⟩
    repeat ((conv => whnf); refine ⟨fun h => h, ?_⟩)
    (conv => whnf); refine ⟨fun g2 => ?_, fun g2 => ?_⟩
    · have g3 : ¬ Bx (Cj (Jn s)).1 3 = 0 := by
        intro e
        have g2 : (decide (((((Cj (Jn s)).2.map Ao).length : Nat) : Int) > 0) && !(Bx (Cj (Jn s)).1 3 == 0)) = true := g2
        rw [e] at g2
        simp at g2
      obtain ⟨y, hy⟩ := B7 (l := (Cj (Jn s)).2) (i := (Bx (Ak (Cj (Jn s)).1 3) (Cj (Jn s)).2.length).toNat) (by omega)
      have hq : Sf (Jn s) = y.path := by rw [Sf, if_pos g1, if_neg g3, List.getD_eq_getElem?_getD, hy]; rfl
      skip
      refine ⟨(Ak (Cj (Jn s)).1 3, ((Cj (Jn s)).2.length : Int)), by refine Bn rfl (Bn ?_ rfl); show AV.int .i64 _ = .int .i64 ((Cj (Jn s)).2.length : Int); simp, fun _ => Bl hk, ?_⟩
      repeat ((conv => whnf); first | refine ⟨(by kernel_rfl : C6 _ _ = true), ?_⟩ | refine ⟨Ao y, fun _ => ⟨by omega, Am hy⟩, ?_⟩)
      rw [e0 hq]
      exact ⟨trivial, ⟨rfl, trivial⟩, rfl, trivial⟩
    have g3 : Bx (Cj (Jn s)).1 3 = 0 := by
      have g2 : (decide (((((Cj (Jn s)).2.map Ao).length : Nat) : Int) > 0) && !(Bx (Cj (Jn s)).1 3 == 0)) = false := g2
      simp at g2
      exact g2 (by omega)
    have hq : Sf (Jn s) = G8 (Ak (Cj (Jn s)).1 3) upP := by rw [Sf, if_pos g1, if_pos g3]
    skip
    refine ⟨(Ak (Cj (Jn s)).1 3, upP), rfl, fun _ => ⟨Bl hk, (by decide : 0 < upP.length ∧ upP.length ≤ 1000)⟩, ?_⟩
    repeat ((conv => whnf); refine ⟨(by kernel_rfl : C6 _ _ = true), ?_⟩)
    rw [e0 hq]
    exact ⟨trivial, ⟨rfl, trivial⟩, rfl, trivial⟩
  have g1 : ¬ 0 < (Cj (Jn s)).2.length := by simp at g0; simp [g0]
  have hq : Sf (Jn s) = G8 (Cj (Jn s)).1 upP := by rw [Sf, if_neg g1]
  repeat ((conv => whnf); first | refine ⟨fun (h : Cn _) => by first | assumption | exact absurd (Eq.trans (Eq.symm h) (by assumption) : true = false) Bool.noConfusion, ?_⟩ | refine ⟨fun h => (absurd (Eq.trans (Eq.symm h) (by assumption) : true = false) Bool.noConfusion : False), ?_⟩)
  (conv => whnf); refine ⟨fun g2 => ?_, fun g2 => ?_⟩
  · exact absurd g2 Bool.noConfusion
  skip
  refine ⟨((Cj (Jn s)).1, upP), rfl, fun _ => ⟨hk, (by decide : 0 < upP.length ∧ upP.length ≤ 1000)⟩, ?_⟩
  repeat ((conv => whnf); refine ⟨(by kernel_rfl : C6 _ _ = true), ?_⟩)
  rw [e0 hq]
  exact ⟨trivial, ⟨rfl, trivial⟩, rfl, trivial⟩
theorem We : Ay Tryz.prog 8 Cg := Dn (Ch _ _) (FOk.cons A62 (FOk.cons Wy (FOk.cons Nx (FOk.cons Ge (FOk.cons Nl FOk.nil))))) mixed Tryz.func8 rfl Tryz.call8 (by decide) (by kernel_rfl) Xg (fun h => by cases h) (by intro (y : Str) _; first | exact ⟨by simp [Cg, con, Aa, A8, Ag, AV.free, A2, A3, A1, A6, Ao, Ad, Ae, B9], by simp [Cg, con, Aa, A8, Ag, AV.free, A2, A3, A1, A6, Ao, Ad, Ae, B9]⟩ | (obtain ⟨_, _⟩ := y; exact ⟨by simp [Cg, con, Aa, A8, Ag, AV.free, A2, A3, A1, A6, Ao, Ad, Ae, B9], by simp [Cg, con, Aa, A8, Ag, AV.free, A2, A3, A1, A6, Ao, Ad, Ae, B9]⟩) | (obtain ⟨_, _, _⟩ := y; exact ⟨by simp [Cg, con, Aa, A8, Ag, AV.free, A2, A3, A1, A6, Ao, Ad, Ae, B9], by simp [Cg, con, Aa, A8, Ag, AV.free, A2, A3, A1, A6, Ao, Ad, Ae, B9]⟩)) (by intro (y : Str) _; first | (simp [Cg, con, Aa, A8, Ag, AV.free, A2, A3, A1, A6, Ao, Ad, Ae, B9]; done) | (obtain ⟨_, _⟩ := y; simp [Cg, con, Aa, A8, Ag, AV.free, A2, A3, A1, A6, Ao, Ad, Ae, B9]; done) | (obtain ⟨_, _, _⟩ := y; simp [Cg, con, Aa, A8, Ag, AV.free, A2, A3, A1, A6, Ao, Ad, Ae, B9]; done))
end Go.GH


set_option linter.unusedVariables false
set_option linter.unusedSimpArgs false
namespace Go.GH
open Go
theorem Nu {p q : Str} (hp : Aw p = true) (hq : Aw q = true) (hp2 : (p == sl) = false) (hq2 : (q == sl) = false) (h : names p = names q) : p = q := by
  rw [(Jk hp hp2).1, (Jk hq hq2).1, h]
theorem Jp {t : Tr} (ok : C8 t = true) {y : It} (hy : y ∈ t) : Aw y.path = true ∧ (y.path == sl) = false := by
  have hi := Y1 ok hy
  have hsl := A6c hi
  simp only [J0, Bool.and_eq_true] at hi
  exact ⟨hi.1.1.1, hsl⟩
theorem T9 {t : Tr} (ok : C8 t = true) {y : It} (hy : y ∈ t) : 1 ≤ (names y.path).length ∧ ((names y.path).length = 1 → El y.path = sl) ∧
    (2 ≤ (names y.path).length → ∃ z, z ∈ t ∧ z.kind = 2 ∧ names z.path = up y.path ∧ El y.path = z.path) := by
  obtain ⟨hp, hsl⟩ := Jp ok hy
  obtain ⟨cp, np⟩ := Jk hp hsl
  have h1 : 1 ≤ (names y.path).length := List.length_pos_iff.2 np
  have h4 := Hf (p := y.path)
  have hab : El y.path = Dl (up y.path) := by rw [El, if_pos hp]; rfl
  refine ⟨h1, fun e => ?_, fun h2 => ?_⟩
  · rw [hab, show up y.path = [] by rw [up, e]; rfl]; rfl
  · obtain ⟨i, hi⟩ := List.getElem?_of_mem hy
    have hd := (Ul ok hi).2.2
    have hul : (up y.path).length = (names y.path).length - 1 := by rw [up, List.length_take]; omega
    have hune : up y.path ≠ [] := fun e => by rw [e] at hul; simp at hul; omega
    have hun : (up y.path).all Cx = true := by
      rw [List.all_eq_true]
      intro z hz
      exact List.all_eq_true.1 N7 z (List.mem_of_mem_take hz)
    rw [W4 hune hun, if_pos (by omega)] at hab
    obtain ⟨k1, k2, k3⟩ := B96 hune hun
    have hnu := k3 (by omega)
    rw [hab] at hd
    simp only [Nv, Bool.and_eq_true] at hd
    rw [Qm k2] at hd
    obtain ⟨z, hz⟩ := Option.isSome_iff_exists.1 hd.1
    have hzm := List.mem_of_find?_eq_some hz
    have hzp : z.path = cat (up y.path) := by simpa using List.find?_some hz
    have hzk : z.kind = 2 := by have := hd.2; rw [hz] at this; simpa using this
    exact ⟨z, hzm, hzk, by rw [hzp, hnu], by rw [hab, hzp]⟩
theorem Zz {t : Tr} (ok : C8 t = true) : ∀ (n : Nat) (y : It), y ∈ t → (names y.path).length ≤ n → ∀ k, 1 ≤ k → k < (names y.path).length → ∃ z, z ∈ t ∧ z.kind = 2 ∧ names z.path = (names y.path).take k
  | 0, y, hy, hn, k, h1, h2 => by omega
  | n + 1, y, hy, hn, k, h1, h2 => by
    obtain ⟨z, hz, hzk, hzn, _⟩ := (T9 ok hy).2.2 (by omega)
    have hzl : (names z.path).length = (names y.path).length - 1 := by rw [hzn, up, List.length_take]; omega
    by_cases e : k = (names y.path).length - 1
    · exact ⟨z, hz, hzk, by rw [hzn, up, e]⟩
    · obtain ⟨w, hw, hwk, hwn⟩ := Zz ok n z hz (by omega) k h1 (by omega)
      refine ⟨w, hw, hwk, ?_⟩
      rw [hwn, hzn, up, List.take_take, Nat.min_eq_left (by omega)]
theorem S7 : ∀ {l : Tr} {x : It}, dst l → x ∈ l → l.filter (fun y => y.path == x.path) = [x]
  | a :: l, x, hd, hx => by
    rw [dst, List.pairwise_cons] at hd
    rcases List.mem_cons.1 hx with rfl | hx
    · rw [List.filter_cons, if_pos (by simp)]
      congr 1
      rw [List.filter_eq_nil_iff]
      intro y hy
      have := hd.1 y hy
      simpa using fun e => this e.symm
    · have := hd.1 x hx
      rw [List.filter_cons, if_neg (by simpa using this)]
      exact S7 hd.2 hx
theorem A1o {t : Tr} (ok : C8 t = true) : dst t := by
  rw [dst, List.pairwise_iff_getElem]
  intro i j hi hj hij e
  have := Td ok (List.getElem?_eq_getElem hi) (List.getElem?_eq_getElem hj) hij
  rw [e, Jo] at this
  cases this
theorem N4 {p q : Str} (hp : Aw p = true) (hq : Aw q = true) : Gb p q = (names q).isPrefixOf (names p) := by rw [Gb, hp, hq]; rfl
theorem A0z {t : Tr} {p : Str} {x : It} (h : B8 t p = some x) (hk : (p == sl) = false) : x ∈ t ∧ x.path = p := by
  rw [Qm hk] at h
  exact ⟨List.mem_of_find?_eq_some h, by simpa using List.find?_some h⟩
theorem B6n {t : Tr} {p : Str} {x : It} (ok : C8 t = true) (h : B8 t p = some x) (hk : (x.kind != 2) = true) : cnt p t = 1 ∧ byt p t = x.data.length := by
  have hk : x.kind ≠ 2 := by simpa using hk
  have hsl : (p == sl) = false := by
    cases hs : p == sl with
    | false => rfl
    | true =>
      rw [B8, hs, if_pos rfl] at h
      have : It.top = x := Option.some.inj h
      rw [← this] at hk
      exact absurd rfl hk
  obtain ⟨hx, rfl⟩ := A0z h hsl
  obtain ⟨hp, _⟩ := Jp ok hx
  have hf : t.filter (lyP x.path) = [x] := by
    rw [← S7 (A1o ok) hx]
    refine List.filter_congr fun y hy => ?_
    obtain ⟨hyp, hys⟩ := Jp ok hy
    rw [lyP, N4 hyp hp, Bool.eq_iff_iff]
    constructor
    · intro hh
      simp only [Bool.and_eq_true, List.isPrefixOf_iff_prefix] at hh
      obtain ⟨h1, r, hr⟩ := hh
      by_cases e : r = []
      · subst e
        rw [List.append_nil] at hr
        simpa using Nu hyp hp hys hsl hr.symm
      · exfalso
        have hl : (names y.path).length = (names x.path).length + r.length := by rw [← hr, List.length_append]
        have hrl : 0 < r.length := List.length_pos_iff.2 e
        have hx1 := (T9 ok hx).1
        obtain ⟨z, hz, hzk, hzn⟩ := Zz ok _ y hy (Nat.le_refl _) (names x.path).length hx1 (by omega)
        rw [← hr, List.take_left] at hzn
        obtain ⟨hzp, hzs⟩ := Jp ok hz
        have := Q4 ok hz hx (Nu hzp hp hzs hsl hzn)
        rw [this] at hzk
        exact hk hzk
    · intro hh
      have e : y.path = x.path := by simpa using hh
      have := Q4 ok hy hx e
      subst this
      simp only [Bool.and_eq_true, List.isPrefixOf_iff_prefix]
      exact ⟨by simpa using hk, List.prefix_refl _⟩
  rw [cnt, byt, hf]
  simp
structure B5r (t : Tr) (p : Str) : Prop where
  ok : Aw p = true
  is : (p == sl) = true ∨ ∃ x, x ∈ t ∧ x.path = p ∧ x.kind = 2
theorem B7v {t : Tr} {p : Str} {x : It} (ok : C8 t = true) (h : B8 t p = some x) (hk : (x.kind != 2) = false) : B5r t p := by
  cases hs : p == sl with
  | true =>
    have : p = sl := by simpa using hs
    exact ⟨by rw [Aw, hs]; rfl, .inl hs⟩
  | false =>
    obtain ⟨hx, rfl⟩ := A0z h hs
    exact ⟨(Jp ok hx).1, .inr ⟨x, hx, rfl, by simpa using hk⟩⟩
theorem B3p {t : Tr} {p : Str} (h : B5r t p) : (names p = [] → p = sl) := by
  intro e
  cases hs : p == sl with
  | true => simpa using hs
  | false => exact absurd e (Jk h.ok hs).2
theorem A8i {t : Tr} {p : Str} (ok : C8 t = true) (hd : B5r t p) {y : It} (hy : y ∈ t) : El y.path = p ↔ up y.path = names p := by
  obtain ⟨h1, h2, h3⟩ := T9 ok hy
  constructor
  · intro e
    by_cases hl : (names y.path).length = 1
    · rw [h2 hl] at e
      subst e
      rw [Su, up, hl]; rfl
    · obtain ⟨z, _, _, hzn, hza⟩ := h3 (by omega)
      rw [← hzn, ← hza, e]
  · intro e
    by_cases hl : (names y.path).length = 1
    · rw [up, hl] at e
      rw [h2 hl]
      exact (B3p hd e.symm).symm
    · obtain ⟨z, hz, _, hzn, hza⟩ := h3 (by omega)
      rw [hza]
      obtain ⟨hzp, hzs⟩ := Jp ok hz
      have hps : (p == sl) = false := by
        cases hs : p == sl with
        | false => rfl
        | true =>
          have : p = sl := by simpa using hs
          rw [this, Su, up] at e
          have := congrArg List.length e
          rw [List.length_take] at this
          simp at this
          omega
      exact Nu hzp hd.ok hzs hps (by rw [hzn, e])
theorem B4m {y : Str} (h : 1 ≤ (names y).length) : names y = up y ++ [Ji y] := by
  rw [up, Ji]
  cases hn : names y with
  | nil => rw [hn] at h; simp at h
  | cons a l =>
    rw [← List.dropLast_eq_take]
    have : (a :: l).getLastD [] = (a :: l).getLast (by simp) := by rw [List.getLastD_eq_getLast?, List.getLast?_eq_some_getLast (by simp)]; rfl
    rw [this, List.dropLast_concat_getLast]
theorem B6x {t : Tr} {p : Str} (ok : C8 t = true) (hd : B5r t p) {k : It} (hk : k ∈ Mf t p) : (if Aw p then Dl (names p ++ [Ji k.path]) else []) = k.path := by
  obtain ⟨hkt, hka⟩ := List.mem_filter.1 hk
  have hka := (A8i ok hd hkt).1 (by simpa using hka)
  obtain ⟨hkp, hks⟩ := Jp ok hkt
  have h1 := (T9 ok hkt).1
  rw [if_pos hd.ok, ← hka, ← B4m h1]
  obtain ⟨cp, np⟩ := Jk hkp hks
  have h4 := Hf (p := k.path)
  rw [W4 np N7, if_pos h4, ← cp]
theorem B8p {t : Tr} {p : Str} (ok : C8 t = true) (hd : B5r t p) {y : It} (hy : y ∈ t) (hk : y.kind ≠ 2) : ((Mf t p).filter fun k => Gb y.path k.path).length = if Gb y.path p then 1 else 0 := by
  obtain ⟨hyp, hys⟩ := Jp ok hy
  have hkid : ∀ k, k ∈ Mf t p → k ∈ t ∧ up k.path = names p ∧ 1 ≤ (names k.path).length := fun k hk => by
    obtain ⟨h1, h2⟩ := List.mem_filter.1 hk
    exact ⟨h1, (A8i ok hd h1).1 (by simpa using h2), (T9 ok h1).1⟩
  rw [N4 hyp hd.ok]
  split
  · rename_i hw
    obtain ⟨r, hr⟩ := List.isPrefixOf_iff_prefix.1 hw
    have hrn : r ≠ [] := by
      intro e
      subst e
      rw [List.append_nil] at hr
      rcases hd.is with hs | ⟨x, hx, hxp, hxk⟩
      · have : p = sl := by simpa using hs
        rw [this, Su] at hr
        have := (T9 ok hy).1
        rw [← hr] at this
        simp at this
      · obtain ⟨hxp2, hxs⟩ := Jp ok hx
        have := Q4 ok hy hx (Nu hyp hxp2 hys hxs (by rw [hxp, hr]))
        rw [this] at hk
        exact hk hxk
    have hl : (names y.path).length = (names p).length + r.length := by rw [← hr, List.length_append]
    have hrl : 0 < r.length := List.length_pos_iff.2 hrn
    obtain ⟨z, hz, hzn⟩ : ∃ z, z ∈ t ∧ names z.path = (names y.path).take ((names p).length + 1) := by
      by_cases e : (names y.path).length = (names p).length + 1
      · exact ⟨y, hy, by rw [← e, List.take_length]⟩
      · obtain ⟨z, hz, _, hzn⟩ := Zz ok _ y hy (Nat.le_refl _) ((names p).length + 1) (by omega) (by omega)
        exact ⟨z, hz, hzn⟩
    have hzl : (names z.path).length = (names p).length + 1 := by rw [hzn, List.length_take]; omega
    have hzu : up z.path = names p := by
      rw [up, hzl, hzn, List.take_take, Nat.add_sub_cancel, Nat.min_eq_left (by omega), ← hr, List.take_left]
    have hzk : z ∈ Mf t p := List.mem_filter.2 ⟨hz, by simpa using (A8i ok hd hz).2 hzu⟩
    obtain ⟨hzp, hzs⟩ := Jp ok hz
    have hdk : dst (Mf t p) := List.Pairwise.sublist List.filter_sublist (A1o ok)
    have : ((Mf t p).filter fun k => Gb y.path k.path) = [z] := by
      rw [← S7 hdk hzk]
      refine List.filter_congr fun k hk => ?_
      obtain ⟨hkt, hku, hk1⟩ := hkid k hk
      obtain ⟨hkp, hks⟩ := Jp ok hkt
      have hkl : (names k.path).length = (names p).length + 1 := by
        have := congrArg List.length hku
        rw [up, List.length_take] at this
        omega
      rw [N4 hyp hkp, Bool.eq_iff_iff]
      constructor
      · intro hh
        obtain ⟨q, hq⟩ := List.isPrefixOf_iff_prefix.1 hh
        have : names k.path = names z.path := by rw [hzn, ← hq, List.take_append_of_le_length (by omega), List.take_of_length_le (by omega)]
        simpa using Nu hkp hzp hks hzs this
      · intro hh
        have e : k.path = z.path := by simpa using hh
        rw [e, hzn, List.isPrefixOf_iff_prefix]
        exact List.take_prefix _ _
    rw [this]; rfl
  · rename_i hw
    rw [List.length_eq_zero_iff, List.filter_eq_nil_iff]
    intro k hk hh
    obtain ⟨hkt, hku, hk1⟩ := hkid k hk
    obtain ⟨hkp, _⟩ := Jp ok hkt
    rw [N4 hyp hkp] at hh
    apply hw
    obtain ⟨q, hq⟩ := List.isPrefixOf_iff_prefix.1 hh
    rw [List.isPrefixOf_iff_prefix]
    refine ⟨[Ji k.path] ++ q, ?_⟩
    rw [← hku, ← List.append_assoc, ← B4m hk1, hq]
def Mc {α : Type} (f : α → Nat) (l : List α) : Nat := (l.map f).sum
theorem B0s {t : Tr} {p : Str} (ok : C8 t = true) (hd : B5r t p) : ∀ {l : Tr}, (∀ y, y ∈ l → y ∈ t) → Mc (fun k => cnt k.path l) (Mf t p) = cnt p l ∧ Mc (fun k => byt k.path l) (Mf t p) = byt p l
  | [], _ => by
    have : ∀ (K : Tr), Mc (fun k => cnt k.path []) K = 0 ∧ Mc (fun k => byt k.path []) K = 0 := by
      intro K
      induction K with
      | nil => exact ⟨rfl, rfl⟩
      | cons k K ih => simp only [Mc, List.map_cons, List.sum_cons] at *; exact ⟨by rw [ih.1]; rfl, by rw [ih.2]; rfl⟩
    exact this _
  | y :: l, hm => by
    obtain ⟨h1, h2⟩ := B0s ok hd (l := l) fun x hx => hm x (by simp [hx])
    have key : ∀ (K : Tr), Mc (fun k => cnt k.path (y :: l)) K = (K.filter fun k => lyP k.path y).length + Mc (fun k => cnt k.path l) K ∧ Mc (fun k => byt k.path (y :: l)) K = (K.filter fun k => lyP k.path y).length * y.data.length + Mc (fun k => byt k.path l) K := by
      intro K
      induction K with
      | nil => exact ⟨rfl, by simp [Mc]⟩
      | cons k K ih =>
        simp only [Mc, List.map_cons, List.sum_cons] at *
        obtain ⟨i1, i2⟩ := ih
        rw [i1, i2]
        cases hq : lyP k.path y with
        | true =>
          simp only [cnt, byt, List.filter_cons, hq, if_true, List.length_cons, List.map_cons, List.sum_cons, Nat.add_mul]
          omega
        | false =>
          simp only [cnt, byt, List.filter_cons, hq]
          simp
          omega
    obtain ⟨k1, k2⟩ := key (Mf t p)
    have hyt := hm y (by simp)
    have hone : ((Mf t p).filter fun k => lyP k.path y).length = if lyP p y then 1 else 0 := by
      by_cases hk : y.kind = 2
      · have : ∀ q, lyP q y = false := fun q => by rw [lyP, hk]; rfl
        rw [this p, List.filter_congr (q := fun _ => false) fun k _ => this k.path]
        simp
      · have : ∀ q, lyP q y = Gb y.path q := fun q => by
          rw [lyP]
          have : (y.kind != 2) = true := by simpa using hk
          rw [this, Bool.true_and]
        rw [this p, List.filter_congr (q := fun k => Gb y.path k.path) fun k _ => this k.path]
        exact B8p ok hd hyt hk
    rw [k1, k2, h1, h2, hone]
    cases hq : lyP p y with
    | true => simp [cnt, byt, List.filter_cons, hq]; omega
    | false => simp [cnt, byt, List.filter_cons, hq]
theorem B0k : ∀ {l : Tr} {a : Str × Int}, a.2 ≤ (l.foldl My a).2 ∧ (∀ x, x ∈ l → x.kind ≠ 2 → (x.data.length : Int) ≤ (l.foldl My a).2) ∧ (l.foldl My a = a ∨ ∃ h, h ∈ l ∧ h.kind ≠ 2 ∧ l.foldl My a = (h.path, (h.data.length : Int)))
  | [], a => ⟨Int.le_refl _, fun x hx => (by cases hx), .inl rfl⟩
  | y :: l, a => by
    obtain ⟨h1, h2, h3⟩ := B0k (l := l) (a := My a y)
    have hs : a.2 ≤ (My a y).2 ∧ (y.kind ≠ 2 → (y.data.length : Int) ≤ (My a y).2) ∧ (My a y = a ∨ y.kind ≠ 2 ∧ My a y = (y.path, (y.data.length : Int))) := by
      unfold My
      split
      · rename_i hc
        simp at hc
        exact ⟨by simp only; omega, fun _ => Int.le_refl _, .inr ⟨hc.1, rfl⟩⟩
      · rename_i hc
        refine ⟨Int.le_refl _, fun hk => ?_, .inl rfl⟩
        have : (y.kind != 2) = true := by simpa using hk
        rw [this] at hc
        simp at hc
        omega
    rw [List.foldl_cons]
    refine ⟨by omega, fun x hx hk => ?_, ?_⟩
    · rcases List.mem_cons.1 hx with rfl | hx
      · have := hs.2.1 hk; omega
      · exact h2 x hx hk
    · rcases h3 with h3 | ⟨h, hh, hk, e⟩
      · rw [h3]
        rcases hs.2.2 with e | ⟨hk, e⟩
        · exact .inl e
        · exact .inr ⟨y, by simp, hk, e⟩
      · exact .inr ⟨h, by simp [hh], hk, e⟩
theorem A1w {t : Tr} (ok : C8 t = true) {x : It} (hx : x ∈ t) (hk : x.kind ≠ 2) : ∃ h, B8 t (J9 t) = some h ∧ x.data.length ≤ h.data.length ∧ (J9 t == []) = false := by
  obtain ⟨h1, h2, h3⟩ := B0k (l := t) (a := ([], -1))
  have hxl := h2 x hx hk
  rcases h3 with h3 | ⟨h, hh, _, e⟩
  · rw [h3] at hxl
    simp only at hxl
    omega
  · have hp : J9 t = h.path := by rw [J9, if_pos ok, e]
    rw [e] at hxl
    refine ⟨h, by rw [hp]; exact Y4 ok hh, by simp only at hxl; omega, ?_⟩
    rw [hp]
    obtain ⟨hpo, hps⟩ := Jp ok hh
    have hc := Jk hpo hps
    rw [hc.1]
    have := B9c hc.2
    simpa using this
theorem B6m {t : Tr} {p : Str} (h : 0 < cnt p t) : ∃ x, x ∈ t ∧ x.kind ≠ 2 := by
  obtain ⟨x, hx⟩ := List.length_pos_iff_exists_mem.1 h
  obtain ⟨h1, h2⟩ := List.mem_filter.1 hx
  refine ⟨x, h1, ?_⟩
  simp only [lyP, Bool.and_eq_true] at h2
  simpa using h2.1
end Go.GH


set_option linter.unusedVariables false
set_option linter.unusedSimpArgs false
namespace Go.GH
open Go Go.Proofs
noncomputable def Ed : Bp := con [mS 1] true Str (fun s => [.rd 1 (s.map Ae)]) (fun s => s.length ≤ 9223372036854775807) (fun s => .bool true)
noncomputable def A0w : Env := ⟨A4 Bc, A4 [(7, Je), (8, Cg), (9, Fi), (10, Fk), (11, Dc), (12, Fa), (13, Df), (14, F8)], [0, 2, 3, 4, 5, 6, 7, 10, 11, 13, 15, 16, 17, 18, 19, 20, 21, 23, 45, 47, 62, 92, 108]⟩
set_option maxRecDepth 100000 in
set_option maxHeartbeats 4000000 in
theorem A07 : Bd A0w (Az Tryz.f3) Tryz.f3.results.toList Ed := by
  intro (s : Str) hs0
  refine ⟨trivial, ?_⟩
  skip
  refine ⟨s, rfl, fun _ => trivial, ?_⟩
  skip
  (conv => whnf); refine ⟨fun h0 => ?_, fun h0 => ?_⟩
  · skip
    exact ⟨trivial, rfl⟩
  have hs : s.length ≤ 1048576 := by
    have h0 : decide (1048576 < s.length) = false := h0
    simp at h0; omega
  have hc0 := B4q hs
  obtain ⟨hk, hsm, hle⟩ := B0a hc0
  have hpl : sml (Sf (Jn s)).length := by
    unfold Sf
    split
    · split
      · exact Nat.le_trans (Pe (k := 20) (by decide) (by decide)) (by decide)
      · exact (V7 hsm).1
    · exact Nat.le_trans (Pe (k := 20) (by decide) (by decide)) (by decide)
  skip
  refine ⟨s, rfl, fun _ => hs, ?_⟩
  generalize hT : (Cj (Jn s)).2 = t at hsm hle
  generalize hP : Sf (Jn s) = p at hpl
  skip
  refine ⟨(t, p), by rw [← hT, ← hP]; rfl, fun _ => ⟨hsm, hpl⟩, ?_⟩
  skip
  refine ⟨(t, p), by rw [← hT, ← hP]; rfl, fun _ => ⟨hsm, hpl⟩, ?_⟩
  skip
  (conv => whnf); refine ⟨fun h1 => ?_, fun h1 => ?_⟩
  · exfalso
    have h1 : (!((Kf t p).1 == (Kf t p).1)) = true := h1
    simp at h1
  skip
  (conv => whnf); refine ⟨fun h2 => ?_, fun h2 => ?_⟩
  · have h2 : (Kf t p).1 = false := by
      have h2 : (!(Kf t p).1) = true := h2
      simpa using h2
    have hz : Kf t p = (false, 0, 0) := by
      unfold Kf at h2 ⊢
      split
      · rename_i hc; rw [if_pos hc] at h2; cases h2
      · rfl
    repeat ((conv => whnf); refine ⟨fun h => h, ?_⟩)
    refine ⟨trivial, eqB ?_⟩
    show ((((Kf t p).2.1 : Nat) : Int) == 0 && (((Kf t p).2.2 : Nat) : Int) == 0) = true
    rw [hz]; rfl
  have h2 : (Kf t p).1 = true := by
    have h2 : (!(Kf t p).1) = false := h2
    simpa using h2
  obtain ⟨ok, x, hx, hu⟩ : C8 t = true ∧ ∃ x, B8 t p = some x ∧ Kf t p = (true, cnt p t, byt p t) := by
    unfold Kf at h2 ⊢
    split
    · rename_i hc
      simp only [Bool.and_eq_true] at hc
      obtain ⟨x, hx⟩ := Option.isSome_iff_exists.1 hc.2
      exact ⟨hc.1, x, hx, rfl⟩
    · rename_i hc; rw [if_neg hc] at h2; cases h2
  have u1 : (Kf t p).2.1 = cnt p t := by rw [hu]
  have u2 : (Kf t p).2.2 = byt p t := by rw [hu]
  have hxg : (B8 t p).getD It.none = x := by rw [hx]; rfl
  skip
  refine ⟨(t, p), by rw [← hT, ← hP]; rfl, fun _ => hsm, ?_⟩
  skip
  (conv => whnf); refine ⟨fun h3 => ?_, fun h3 => ?_⟩
  · have h3 : (x.kind != 2) = true := by rw [← hxg]; exact h3
    obtain ⟨f1, f2⟩ := B6n ok hx h3
    have hxt : x ∈ t := by
      cases hq : p == sl with
      | false => exact (A0z hx hq).1
      | true =>
        exfalso
        rw [B8, hq, if_pos rfl] at hx
        have : It.top = x := Option.some.inj hx
        rw [← this] at h3
        cases h3
    obtain ⟨h, hh1, hh2, _⟩ := A1w ok hxt (by simpa using h3)
    skip
    refine ⟨t, by rw [← hT]; rfl, fun _ => hsm, ?_⟩
    skip
    refine ⟨(t, J9 t), by rw [← hT]; rfl, fun _ => hsm, ?_⟩
    repeat ((conv => whnf); first | refine ⟨fun h => h, ?_⟩ | refine ⟨(by kernel_rfl : C6 _ _ = true), ?_⟩)
    refine ⟨trivial, eqB ?_⟩
    show ((((Kf t p).2.1 : Nat) : Int) == 1 && (((Kf t p).2.2 : Nat) : Int) == ((((B8 t p).getD It.none).data.length : Nat) : Int) && decide (((((B8 t (J9 t)).getD It.none).data.length : Nat) : Int) ≥ (((Kf t p).2.2 : Nat) : Int))) = true
    rw [u1, u2, f1, f2, hxg, hh1]
    simp [hh2]
  have h3 : (x.kind != 2) = false := by rw [← hxg]; exact h3
  have hd := B7v ok hx h3
  have htn : Ib t p = (Mf t p).map fun y => Ji y.path := by
    rw [Ib, if_pos]
    rw [ok, Nv, hx]
    simpa using h3
  skip
  refine ⟨(t, p), by rw [← hT, ← hP]; rfl, fun _ => hsm, ?_⟩
  obtain ⟨sp1, sp2⟩ := B0s ok hd (l := t) fun _ h => h
  have hjoin := fun k hk => B6x ok hd (k := k) hk
  have hkm : ∀ k, k ∈ Mf t p → k ∈ t := fun k hk => (List.mem_filter.1 hk).1
  have hl40 := A2z ok
  have hcb : ∀ q, cnt q t ≤ 40 ∧ byt q t ≤ 40 * 4194304 := fun q => by
    have a1 := B3m (p := q) (l := t) (i := t.length)
    have a2 := B3s (p := q) (l := t) (fun x hx => (hsm.2 x hx).2) (i := t.length)
    rw [List.take_length] at a1 a2
    exact ⟨by omega, Nat.le_trans a2 (Nat.mul_le_mul_right _ hl40)⟩
  have hkn : (Mf t p).length ≤ 40 := by have : (Mf t p).length ≤ t.length := List.length_filter_le _ _; omega
  generalize hK : Mf t p = K at sp1 sp2 hjoin hkm htn hkn
  have hLl : (Ib t p).length = K.length := by rw [htn, List.length_map]
  have hsb : ∀ i, i ≤ K.length → Mc (fun k => cnt k.path t) (K.take i) ≤ i * 40 ∧ Mc (fun k => byt k.path t) (K.take i) ≤ i * (40 * 4194304) := by
    intro i
    induction i with
    | zero => intro _; exact ⟨by simp [Mc], by simp [Mc]⟩
    | succ i ih =>
      intro hi
      obtain ⟨j1, j2⟩ := ih (by omega)
      obtain ⟨k, hk⟩ := B7 (l := K) (i := i) (by omega)
      obtain ⟨c1, c2⟩ := hcb k.path
      rw [Bm hk]
      simp only [Mc, List.map_append, List.map_cons, List.map_nil, List.sum_append, List.sum_cons, List.sum_nil] at *
      rw [Nat.add_mul, Nat.add_mul]
      omega
  skip
  refine B2 (fun i : Nat => ⟨[(3, ⟨none, .bx 0 0⟩), (4, ⟨none, .str p⟩), (5, ⟨none, .int .i64 (cnt p t)⟩), (6, ⟨none, .int .i64 (byt p t)⟩), (15, ⟨none, .int .i64 (Mc (fun k => cnt k.path t) (K.take i) : Nat)⟩), (16, ⟨none, .int .i64 (Mc (fun k => byt k.path t) (K.take i) : Nat)⟩), (17, ⟨none, .view 1 [] 0 K.length⟩), (18, ⟨none, .int .i64 i⟩)], [(0, .own 1 [[.rd 4 (t.map Ao)]]), (1, .own 1 ((K.map fun y => Ji y.path).map A6))], 2⟩) (fun i => i ≤ K.length) (fun i => K.length - i) 0 ?_ (Nat.zero_le _) ?_
  · (refine ⟨?_, ?_, rfl⟩ <;> repeat' (first | exact rfl | exact trivial | refine ⟨?_, ?_⟩ | fail) <;> (conv => whnf))
    all_goals first | exact hP | (show (((Kf t p).2.1 : Nat) : Int) = _; rw [u1]; done) | (show (((Kf t p).2.2 : Nat) : Int) = _; rw [u2]; done) | (show ((Ib t p).map A6).length = _; rw [List.length_map, hLl]; done) | (show (Ib t p).map A6 = _; rw [htn]; done) | (rw [← hT]; rfl)
  intro i hi
  have hi : i ≤ K.length := hi
  obtain ⟨b1, b2⟩ := hsb i hi
  (conv => whnf); refine ⟨fun h4 => ?_, fun h4 => ?_⟩
  · have h4 : i < K.length := by have h4 : decide ((i : Int) < (K.length : Nat)) = true := h4
                                 simp at h4; omega
    obtain ⟨k, hk⟩ := B7 h4
    have hkK := List.mem_of_getElem? hk
    have hjk := hjoin k hkK
    have hl6 := A31 k.path
    have hu2 : Kf t k.path = (true, cnt k.path t, byt k.path t) := by
      have : B8 t k.path = some k := Y4 ok (hkm k hkK)
      unfold Kf
      rw [ok, this]
      rfl
    have v1 : (Kf t k.path).2.1 = cnt k.path t := by rw [hu2]
    have v2 : (Kf t k.path).2.2 = byt k.path t := by rw [hu2]
    obtain ⟨c1, c2⟩ := hcb k.path
    have hks := (hsm.2 k (hkm k hkK)).1
    have s1 : Mc (fun k => cnt k.path t) (K.take (i + 1)) = Mc (fun k => cnt k.path t) (K.take i) + cnt k.path t := by rw [Bm hk]; simp [Mc]
    have s2 : Mc (fun k => byt k.path t) (K.take (i + 1)) = Mc (fun k => byt k.path t) (K.take i) + byt k.path t := by rw [Bm hk]; simp [Mc]
    repeat ((conv => whnf); first | refine ⟨bb, ?_⟩ | refine ⟨A6 (Ji k.path), fun _ => by rw [Nat.zero_add]; exact Am (Am (f := fun y : It => Ji y.path) hk), ?_⟩)
    refine ⟨(p, Ji k.path), rfl, fun _ => ⟨hpl, by show (Ji k.path).length ≤ _; omega⟩, ?_⟩
    skip
    refine ⟨(t, k.path), by
      refine Bn rfl (Bn ?_ rfl)
      show AV.str (if Aw p then Dl (names p ++ [Ji k.path]) else []) = .str k.path
      rw [hjk], fun _ => ⟨hsm, by show k.path.length ≤ _; omega⟩, ?_⟩
    repeat ((conv => whnf); refine ⟨(by kernel_rfl : C6 _ _ = true), ?_⟩)
    (conv => whnf); refine ⟨fun h5 => ?_, fun h5 => ?_⟩
    · exfalso
      have h5 : (!(Kf t k.path).1) = true := h5
      rw [hu2] at h5
      cases h5
    have i40 : i * 40 ≤ 40 * 40 := Nat.mul_le_mul_right _ (by omega)
    have i41 : i * (40 * 4194304) ≤ 40 * (40 * 4194304) := Nat.mul_le_mul_right _ (by omega)
    repeat ((conv => whnf); refine ⟨_, w64 (bb), ?_⟩)
    refine C5 (i + 1) ?_ h4 (by first | omega | (simp; done) | (simp; omega))
    rw [s1, s2]
    (refine ⟨?_, ?_, rfl⟩ <;> repeat' (first | exact rfl | exact trivial | refine ⟨?_, ?_⟩ | fail) <;> (conv => whnf))
    all_goals first | (show (((Mc (fun k => cnt k.path t) (K.take i) : Nat) : Int)) + (((Kf t k.path).2.1 : Nat) : Int) = _; rw [v1]; rfl) | (show (((Mc (fun k => byt k.path t) (K.take i) : Nat) : Int)) + (((Kf t k.path).2.2 : Nat) : Int) = _; rw [v2]; rfl)
  have h4 : i = K.length := by have h4 : decide ((i : Int) < (K.length : Nat)) = false := h4
                               simp at h4; omega
  subst h4
  rw [List.take_length, sp1, sp2]
  repeat ((conv => whnf); refine ⟨fun h => h, ?_⟩)
  refine ⟨t, rfl, fun _ => hsm, ?_⟩
  repeat ((conv => whnf); refine ⟨fun h => h, ?_⟩)
  refine ⟨trivial, eqB ?_⟩
  show (((cnt p t : Nat) : Int) == ((cnt p t : Nat) : Int) && ((byt p t : Nat) : Int) == ((byt p t : Nat) : Int) && (!(J9 t == []) || ((cnt p t : Nat) : Int) == 0)) = true
  by_cases hc : cnt p t = 0
  · rw [hc]; simp
  · obtain ⟨y, hy, hyk⟩ := B6m (t := t) (p := p) (by omega)
    obtain ⟨_, _, _, hh⟩ := A1w ok hy hyk
    rw [hh]; simp
theorem Ze : Ay Tryz.prog 3 Ed := Aq (Ch _ _) (FOk.cons B0e (FOk.cons We (FOk.cons A45 (FOk.cons A55 (FOk.cons Kd (FOk.cons X5 (FOk.cons W5 (FOk.cons Ww FOk.nil)))))))) mixed Tryz.func3 rfl Tryz.call3 (by decide) (by kernel_rfl) A07 (by intro _ (y : Str) _; exact ⟨by simp [Ed, con, Aa, A8, AV.noRd, A7, Ab, A5, A6, Ad, Ae, B9, Ao], by simp [Ed, con, Aa, A8, AV.noRd, A7, Ab, A5, A6, Ad, Ae, B9, Ao]⟩) (by intro (y : Str) _; first | (simp [Ed, con, Aa, A8, Ag, AV.free, A2, A3, A1, A6, Ao, Ad, Ae, B9]; done) | (obtain ⟨_, _⟩ := y; simp [Ed, con, Aa, A8, Ag, AV.free, A2, A3, A1, A6, Ao, Ad, Ae, B9]; done) | (obtain ⟨_, _, _⟩ := y; simp [Ed, con, Aa, A8, Ag, AV.free, A2, A3, A1, A6, Ao, Ad, Ae, B9]; done))
end Go.GH


