import Derived.Test.YtpbpaijjpglmlaaGreatGB
set_option linter.unusedVariables false
set_option linter.unusedSimpArgs false
set_option linter.unusedSimpArgs false
namespace Go.GH
open Go
section
variable {P : Program} {E : Env} {x : Ctx} {w w' : World} {h h2 hf hc hy : Af} {n n2 nn nf : Nat → Prop} {L L2 : List AV} {U U' : Nat → Value} {ρ ρ2 ρf : Option Nat → Ai} {sh : Bool} {id : Nat}
theorem B87 {d g : Nat} {ts : List (Option Nat)} {ms : List L6} {c : AV} {as : List AV} {K : Ac → Af → Nat → List Nat → Prop} (hag : ∀ cs, c ≠ .agg cs) (hk : Bi d g (.co ts :: ms) (c :: as) K) :
    B0 g [c] fun cs' os n1 => Bi (d + 1) n1 ms as fun S h n mu => K ((d, ⟨none, cs'.headD .undef⟩) :: S) (os ++ h) n mu := by
  cases c <;> first | exact hk | exact absurd rfl (hag _)
theorem B16 {gs : List (Nat × Bj)} (H2 : Bk x w h2 n2 L2 U' ρ2) {ts : List (Option Nat)} {v : AV} {u : Value} (hm : A1y x w h2 n2 ρ2 v u) (hg : ∀ g, g ∈ v.ids → ∀ (j : Nat) (p : Bj), gs[j]? ≠ some (g, p)) (hfr : (Qz sh h2 ts v).free) {hy : Af} {ny : Nat → Prop} {ρy : Option Nat → Ai} :
    Au (F2 sh x w ρ2 gs) w hy ny ρy (Qz sh h2 ts v) u := by
  have cells : ∀ {ts : List (Option Nat)} {cs : List AV}, (Fx sh h2 ts cs).length = cs.length ∧ ∀ (i : Nat) c, (Fx sh h2 ts cs)[i]? = some c → ∃ t d, cs[i]? = some d ∧ c = J1 sh h2 t d := by
    intro ts cs
    induction cs generalizing ts with
    | nil => cases ts <;> exact ⟨rfl, by simp [Fx]⟩
    | cons a r ih =>
      cases ts with
      | nil =>
        obtain ⟨h1, h3⟩ := ih (ts := [])
        refine ⟨by simp [Fx, h1], fun i c hi => ?_⟩
        cases i with
        | zero => exact ⟨none, a, rfl, by simpa [Fx] using hi.symm⟩
        | succ i => simpa using h3 i c (by simpa [Fx] using hi)
      | cons t ts =>
        obtain ⟨h1, h3⟩ := ih (ts := ts)
        refine ⟨by simp [Fx, h1], fun i c hi => ?_⟩
        cases i with
        | zero => exact ⟨t, a, rfl, by simpa [Fx] using hi.symm⟩
        | succ i => simpa using h3 i c (by simpa [Fx] using hi)
  cases v with
  | agg cs =>
    obtain ⟨us, rfl, h1, h3⟩ := hm
    obtain ⟨c1, c2⟩ := cells (ts := ts) (cs := cs)
    refine .agg (by rw [c1]; exact h1) fun i c hi => ?_
    obtain ⟨t, d, hd, rfl⟩ := c2 i c hi
    exact P7 H2 (h3 i d hd) (fun g hgg => hg g (Lm hd g hgg)) (Fp hfr (List.mem_of_getElem? hi))
  | fn f cs =>
    obtain ⟨us, rfl, h1, h3⟩ := hm
    obtain ⟨c1, c2⟩ := cells (ts := []) (cs := cs)
    refine .fn (by rw [c1]; exact h1) fun i c hi => ?_
    obtain ⟨t, d, hd, rfl⟩ := c2 i c hi
    exact P7 H2 (h3 i d hd) (fun g hgg => hg g (Lm hd g hgg)) (Fp hfr (List.mem_of_getElem? hi))
  | tup cs => exact .void
  | _ => refine P7 (sh := sh) (t := ts.headD none) H2 (by rw [Pr (by simp) (by simp)] at hm; exact hm) (fun g hgg => hg g (by rw [Rw (by simp) (by simp) (by simp)]; exact hgg)) (by exact hfr)
theorem Sg (h1 : ∀ g, n g → A4 h2 g = A4 h g) {ts : List (Option Nat)} {v : AV} (hv : ∀ g, g ∈ v.ids → n g) : Qz sh h ts v = Qz sh h2 ts v := by
  have hget' : ∀ g p, n g → hget h2 g p = hget h g p := fun g p hn => by unfold hget; rw [h1 g hn]
  have cell : ∀ {t : Option Nat} {c : AV}, (∀ g, g ∈ c.ids1 → n g) → J1 sh h t c = J1 sh h2 t c := by
    intro t c hc
    cases c with
    | view g p off len => simp only [J1]; rw [hget' g p (hc g (by simp [AV.ids1]))]
    | bx g f => simp only [J1]; rw [h1 g (hc g (by simp [AV.ids1]))]
    | ptr g p i f => simp only [J1]; rw [hget' g p (hc g (by simp [AV.ids1]))]
    | _ => rfl
  have cells : ∀ {ts : List (Option Nat)} {cs : List AV}, (∀ g, g ∈ F6 cs → n g) → Fx sh h ts cs = Fx sh h2 ts cs := by
    intro ts cs hcs
    induction cs generalizing ts with
    | nil => cases ts <;> rfl
    | cons a r ih =>
      have ha := cell (t := none) (c := a) fun g hg => hcs g (by simp [F6, hg])
      have hr := fun ts => ih (ts := ts) fun g hg => hcs g (by simp [F6, hg])
      cases ts with
      | nil => simp only [Fx]; rw [ha, hr]
      | cons t ts =>
        have ha := cell (t := t) (c := a) fun g hg => hcs g (by simp [F6, hg])
        simp only [Fx]; rw [ha, hr]
  cases v with
  | agg cs => simp only [Qz]; rw [cells hv]
  | fn f cs => simp only [Qz]; rw [cells hv]
  | tup cs => rfl
  | _ => exact cell (t := ts.headD none) fun g hg => hv g (by rw [Rw (by simp) (by simp) (by simp)]; exact hg)
theorem B2s (H : Bk x w h n L U ρ) (H2 : Bk x w h2 n2 L2 U' ρ2) (R1 : ∀ (i : Nat) s xs, L[i]? = some (.own s xs) → A4 h2 (id + i) = some (.own s xs) ∧ ∀ q, ρ2 (some (id + i)) q = ρ none ((0, i) :: q))
    (R2 : ∀ g, n g → A4 h2 g = A4 h g ∧ ρ2 (some g) = ρ (some g)) (R3 : ∀ g, n g → n2 g) (R4 : ∀ (i : Nat) s xs, L[i]? = some (.own s xs) → ¬ n (id + i)) :
    ∀ {i : Nat} {ms : List L6} {as : List AV} {us : List Value} {qs : List (Nat × Bj)} {rs ws : List Nat}, P9 sh x w h n ρ L U i ms as us qs rs ws → A2 as → qs.length ≤ 1 → ∀ d g0, ∃ gs Sy hy mu, (∀ K, Bi d g0 ms as K → K Sy hy (g0 + gs.length) mu) ∧
      Ys id L h2 qs i g0 gs hy ∧ (∀ (t t' g : Nat) (p p' : Bj), gs[t]? = some (g, p) → gs[t']? = some (g, p') → t = t') ∧
      (mu.length = qs.length ∧ ∀ (t j : Nat), mu[t]? = some j → ∃ (g : Nat) (p : Bj), qs[t]? = some (g, p) ∧ g0 ≤ j ∧ gs[j - g0]? = some (g, p)) ∧ (∀ g p, (g, p) ∈ qs → n g ∧ g ∈ ws) ∧
      ∀ (GS : List (Nat × Bj)) (HY : Af), (∀ t gp, gs[t]? = some gp → GS[g0 + t]? = some gp) → (∀ j r, A4 hy j = some r → A4 HY j = some r) → (∀ g, g ∈ rs → ∀ (j : Nat) (p : Bj), GS[j]? ≠ some (g, p)) → ∀ ny, ∀ D s, A4 Sy D = some s →
        d ≤ D ∧ s.c = none ∧ ∃ u, us[D - d]? = some u ∧ Au (F2 sh x w ρ2 GS) w HY ny (Ca ρ2 GS) s.v u := by
  intro i ms as us qs rs ws A
  have hget2 : ∀ g p, n g → hget h2 g p = hget h g p := fun g p hn => by unfold hget; rw [(R2 g hn).1]
  induction A with
  | nil => exact fun _ _ d g0 => ⟨[], [], [], [], fun K hk => hk, ⟨by simp [A4], by simp, by simp⟩, by simp, ⟨rfl, by simp⟩, by simp, fun GS HY _ _ _ ny D s hs => by simp [A4] at hs⟩
  | rd hv hn hr ih =>
    rename_i i ts v u ms as us qs rs ws
    intro hfa hq d g0
    obtain ⟨gs, Sy, hy, mu, a1, a2, a3, a4, a5, a6⟩ := ih hfa.2 hq (d + 1) g0
    refine ⟨gs, (d, ⟨none, Qz sh h ts v⟩) :: Sy, hy, mu, fun K hk => a1 _ hk, a2, a3, a4, a5, fun GS HY hG hH hrs ny D s hs => ?_⟩
    rw [A9] at hs
    by_cases hD : d = D
    · subst hD
      rw [if_pos rfl] at hs
      simp only [Option.some.injEq] at hs
      subst hs
      refine ⟨Nat.le_refl _, rfl, u, by simp, ?_⟩
      have hfv := hfa.1
      rw [Sg (fun g hg => (R2 g hg).1) hn] at hfv ⊢
      refine B16 H2 ?_ (fun g hg => hrs g (List.mem_append_left _ hg)) hfv
      cases v with
      | agg cs =>
        obtain ⟨vs, e, h1, h3⟩ := hv
        exact ⟨vs, e, h1, fun i c hi => (h3 i c hi).known (fun g hg => hn g (Lm hi g hg)) H.ids R2 R3⟩
      | fn f cs =>
        obtain ⟨vs, e, h1, h3⟩ := hv
        exact ⟨vs, e, h1, fun i c hi => (h3 i c hi).known (fun g hg => hn g (Lm hi g hg)) H.ids R2 R3⟩
      | tup cs =>
        rw [Pr (by simp) (by simp)] at hv ⊢
        intro hh; cases hh
      | _ =>
        rw [Pr (by simp) (by simp)] at hv ⊢
        exact hv.known (fun g hg => hn g (by rw [Rw (by simp) (by simp) (by simp)]; exact hg)) H.ids R2 R3
    · rw [if_neg hD] at hs
      obtain ⟨b1, b2, u', b3, b4⟩ := a6 GS HY hG hH (fun g hg => hrs g (List.mem_append_right _ hg)) ny D s hs
      exact ⟨by omega, b2, u', by rw [show D - d = (D - (d + 1)) + 1 from by omega]; simpa using b3, b4⟩
  | one hc hu hag hr ih =>
    rename_i i ts c u wv ms as us qs rs ws
    intro hfa hq d g0
    obtain ⟨gc, cs', os, c1, c2, c3, c4, c5, c6⟩ := Oh (x := x) (sh := sh) H R1 (fun gs => H2.liftCall) [c] i g0 ⟨hfa.1, trivial⟩ (fun j d hj => by
      cases j with
      | zero => simp only [List.getElem?_cons_zero, Option.some.injEq] at hj; subst hj; exact hc
      | succ j => simp at hj)
    obtain ⟨gs, Sy, hy, mu, a1, a2, a3, a4, a5, a6⟩ := ih hfa.2 hq (d + 1) (g0 + gc.length)
    have A := Ys.append c2 a2 (by omega)
    refine ⟨gc ++ gs, (d, ⟨none, cs'.headD .undef⟩) :: Sy, os ++ hy, mu, fun K hk => ?_, A, ?_, ⟨a4.1, fun t j hj => ?_⟩, fun g p hg => ⟨(a5 g p hg).1, List.mem_append_right _ (a5 g p hg).2⟩, ?_⟩
    · have := a1 _ (c1 _ (B87 hag hk))
      rw [List.length_append, ← Nat.add_assoc]
      exact this
    · intro t t' g p p' ht ht'
      by_cases h1 : t < gc.length <;> by_cases h1' : t' < gc.length
      · rw [List.getElem?_append_left h1] at ht; rw [List.getElem?_append_left h1'] at ht'; exact c4 _ _ _ _ _ ht ht'
      · rw [List.getElem?_append_left h1] at ht; rw [List.getElem?_append_right (by omega)] at ht'
        have hlt := c5 _ _ _ ht
        simp only [List.length_cons, List.length_nil] at hlt
        rcases a2.src _ _ _ ht' with ⟨m, q1, q2, _⟩ | q
        · omega
        · rcases c2.src _ _ _ ht with ⟨m, _, q2, _, s, xs, q3⟩ | q'
          · exact absurd (q2 ▸ (a5 _ _ q).1) (R4 m s xs q3)
          · cases q'
      · rw [List.getElem?_append_right (by omega)] at ht; rw [List.getElem?_append_left h1'] at ht'
        have hlt := c5 _ _ _ ht'
        simp only [List.length_cons, List.length_nil] at hlt
        rcases a2.src _ _ _ ht with ⟨m, q1, q2, _⟩ | q
        · omega
        · rcases c2.src _ _ _ ht' with ⟨m, _, q2, _, s, xs, q3⟩ | q'
          · exact absurd (q2 ▸ (a5 _ _ q).1) (R4 m s xs q3)
          · cases q'
      · rw [List.getElem?_append_right (by omega)] at ht ht'
        have := a3 _ _ _ _ _ ht ht'
        omega
    · obtain ⟨g, p, q1, q2, q3⟩ := a4.2 t j hj
      refine ⟨g, p, q1, by omega, ?_⟩
      rw [List.getElem?_append_right (by omega), show j - g0 - gc.length = j - (g0 + gc.length) from by omega]
      exact q3
    · intro GS HY hG hH hrs ny D s hs
      rw [A9] at hs
      by_cases hD : d = D
      · subst hD
        rw [if_pos rfl] at hs
        simp only [Option.some.injEq] at hs
        subst hs
        refine ⟨Nat.le_refl _, rfl, u, by simp, ?_⟩
        obtain ⟨c', hc'⟩ : ∃ c', cs' = [c'] := by
          match cs', c3 with
          | [c'], _ => exact ⟨c', rfl⟩
        subst hc'
        have := c6 GS HY (fun t gp ht => hG t gp (by
          have : t < gc.length := by
            rcases Nat.lt_or_ge t gc.length with h | h
            · exact h
            · rw [List.getElem?_eq_none h] at ht; cases ht
          rw [List.getElem?_append_left this]; exact ht)) (fun j r hr => hH j r (by rw [B6, hr])) ny 0 c' rfl
        simp only [Nat.add_zero] at this
        rw [hu] at this
        exact this
      · rw [if_neg hD] at hs
        obtain ⟨b1, b2, u', b3, b4⟩ := a6 GS HY (fun t gp ht => by
          have := hG (gc.length + t) gp (by rw [List.getElem?_append_right (by omega), show gc.length + t - gc.length = t from by omega]; exact ht)
          rw [← this]
          congr 1
          omega) (fun j r hr => hH j r (by
          rw [B6]
          have hn : A4 os j = none := by
            cases hl : A4 os j with
            | none => rfl
            | some v =>
              obtain ⟨q1, g', p', q2, _⟩ := c2.of _ v hl
              have := (a2.of j r hr).1
              rw [List.getElem?_eq_none (by omega)] at q2
              cases q2
          rw [hn]
          exact hr)) hrs ny D s hs
        exact ⟨by omega, b2, u', by rw [show D - d = (D - (d + 1)) + 1 from by omega]; simpa using b3, b4⟩
  | many hl hc hr ih =>
    rename_i i ts cs vs wv ms as us qs rs ws
    intro hfa hq d g0
    obtain ⟨gc, cs', os, c1, c2, c3, c4, c5, c6⟩ := Oh (x := x) (sh := sh) H R1 (fun gs => H2.liftCall) cs i g0 hfa.1 (fun j d hj => (hc j d hj).1)
    obtain ⟨gs, Sy, hy, mu, a1, a2, a3, a4, a5, a6⟩ := ih hfa.2 hq (d + 1) (g0 + gc.length)
    have A := Ys.append c2 a2 (by omega)
    refine ⟨gc ++ gs, (d, ⟨none, .agg cs'⟩) :: Sy, os ++ hy, mu, fun K hk => ?_, A, ?_, ⟨a4.1, fun t j hj => ?_⟩, fun g p hg => ⟨(a5 g p hg).1, List.mem_append_right _ (a5 g p hg).2⟩, ?_⟩
    · have hk' : B0 g0 cs fun cs' os n1 => Bi (d + 1) n1 ms as fun S h n mu => K ((d, ⟨none, .agg cs'⟩) :: S) (os ++ h) n mu := hk
      have := a1 _ (c1 _ hk')
      rw [List.length_append, ← Nat.add_assoc]
      exact this
    · intro t t' g p p' ht ht'
      by_cases h1 : t < gc.length <;> by_cases h1' : t' < gc.length
      · rw [List.getElem?_append_left h1] at ht; rw [List.getElem?_append_left h1'] at ht'; exact c4 _ _ _ _ _ ht ht'
      · rw [List.getElem?_append_left h1] at ht; rw [List.getElem?_append_right (by omega)] at ht'
        have hlt := c5 _ _ _ ht
        rcases a2.src _ _ _ ht' with ⟨m, q1, q2, _⟩ | q
        · omega
        · rcases c2.src _ _ _ ht with ⟨m, _, q2, _, s, xs, q3⟩ | q'
          · exact absurd (q2 ▸ (a5 _ _ q).1) (R4 m s xs q3)
          · cases q'
      · rw [List.getElem?_append_right (by omega)] at ht; rw [List.getElem?_append_left h1'] at ht'
        have hlt := c5 _ _ _ ht'
        rcases a2.src _ _ _ ht with ⟨m, q1, q2, _⟩ | q
        · omega
        · rcases c2.src _ _ _ ht' with ⟨m, _, q2, _, s, xs, q3⟩ | q'
          · exact absurd (q2 ▸ (a5 _ _ q).1) (R4 m s xs q3)
          · cases q'
      · rw [List.getElem?_append_right (by omega)] at ht ht'
        have := a3 _ _ _ _ _ ht ht'
        omega
    · obtain ⟨g, p, q1, q2, q3⟩ := a4.2 t j hj
      refine ⟨g, p, q1, by omega, ?_⟩
      rw [List.getElem?_append_right (by omega), show j - g0 - gc.length = j - (g0 + gc.length) from by omega]
      exact q3
    · intro GS HY hG hH hrs ny D s hs
      rw [A9] at hs
      by_cases hD : d = D
      · subst hD
        rw [if_pos rfl] at hs
        simp only [Option.some.injEq] at hs
        subst hs
        refine ⟨Nat.le_refl _, rfl, .agg vs, by simp, .agg (by rw [c3]; exact hl) fun j c' hj => ?_⟩
        have := c6 GS HY (fun t gp ht => hG t gp (by
          have : t < gc.length := by
            rcases Nat.lt_or_ge t gc.length with h | h
            · exact h
            · rw [List.getElem?_eq_none h] at ht; cases ht
          rw [List.getElem?_append_left this]; exact ht)) (fun j r hr => hH j r (by rw [B6, hr])) ny j c' hj
        have hjl : j < cs.length := by
          rw [← c3]
          rcases Nat.lt_or_ge j cs'.length with h | h
          · exact h
          · rw [List.getElem?_eq_none h] at hj; cases hj
        rw [(hc j _ (List.getElem?_eq_getElem hjl)).2] at this
        exact this
      · rw [if_neg hD] at hs
        obtain ⟨b1, b2, u', b3, b4⟩ := a6 GS HY (fun t gp ht => by
          have := hG (gc.length + t) gp (by rw [List.getElem?_append_right (by omega), show gc.length + t - gc.length = t from by omega]; exact ht)
          rw [← this]
          congr 1
          omega) (fun j r hr => hH j r (by
          rw [B6]
          have hn : A4 os j = none := by
            cases hl : A4 os j with
            | none => rfl
            | some v =>
              obtain ⟨q1, g', p', q2, _⟩ := c2.of _ v hl
              have := (a2.of j r hr).1
              rw [List.getElem?_eq_none (by omega)] at q2
              cases q2
          rw [hn]
          exact hr)) hrs ny D s hs
        exact ⟨by omega, b2, u', by rw [show D - d = (D - (d + 1)) + 1 from by omega]; simpa using b3, b4⟩
  | mv hg hv hr ih =>
    rename_i i g p s xs u ms as us qs rs ws
    intro hfa hq d g0
    have hqs : qs = [] := by simpa using hq
    subst hqs
    obtain ⟨gs, Sy, hy, mu, a1, a2, a3, a4, a5, a6⟩ := ih hfa.2 (by simp) (d + 1) (g0 + 1)
    have hmu : mu = [] := List.eq_nil_of_length_eq_zero (by simpa using a4.1)
    subst hmu
    obtain ⟨rt, hlt, _⟩ := Bz hg
    have hng := H.ids g rt hlt
    have hget' : hget h2 g p = some (.own s xs) := by rw [hget2 g _ hng]; exact hg
    have A0 : Ys id L h2 [(g, p)] i g0 ((g, p) :: gs) ((g0, .own s xs) :: hy) := ⟨fun j r hr => by
        rw [A9] at hr
        by_cases hj : g0 = j
        · subst hj
          rw [if_pos rfl] at hr
          simp only [Option.some.injEq] at hr
          subst hr
          exact ⟨Nat.le_refl _, g, p, by simp, hget'⟩
        · rw [if_neg hj] at hr
          obtain ⟨q1, g', p', q2, q3⟩ := a2.of j r hr
          exact ⟨by omega, g', p', by rw [show j - g0 = (j - (g0 + 1)) + 1 from by omega]; simpa using q2, q3⟩,
      fun t g' p' hgt => by
        cases t with
        | zero =>
          simp only [List.getElem?_cons_zero, Option.some.injEq, Prod.mk.injEq] at hgt
          obtain ⟨rfl, rfl⟩ := hgt
          exact ⟨s, xs, hget', by simp [A9]⟩
        | succ t =>
          obtain ⟨s', xs', q1, q2⟩ := a2.own t g' p' (by simpa using hgt)
          refine ⟨s', xs', q1, ?_⟩
          rw [A9, if_neg (by omega), show g0 + (t + 1) = g0 + 1 + t from by omega]
          exact q2,
      fun t g' p' hgt => by
        cases t with
        | zero =>
          simp only [List.getElem?_cons_zero, Option.some.injEq, Prod.mk.injEq] at hgt
          obtain ⟨rfl, rfl⟩ := hgt
          exact .inr (by simp)
        | succ t =>
          rcases a2.src t g' p' (by simpa using hgt) with q | q
          · exact .inl q
          · cases q⟩
    have nco : ∀ (t : Nat) (p' : Bj), gs[t]? ≠ some (g, p') := by
      intro t p' ht
      rcases a2.src t g p' ht with ⟨m, _, q2, _, s', xs', q3⟩ | q
      · exact R4 m s' xs' q3 (q2 ▸ hng)
      · cases q
    refine ⟨(g, p) :: gs, (d, ⟨none, .view g0 [] 0 xs.length⟩) :: Sy, (g0, .own s xs) :: hy, [g0], fun K hk => ?_, A0, ?_, ⟨rfl, fun t j hj => ?_⟩, fun g' p' hgp => ?_, ?_⟩
    · have := a1 _ hk
      simp only [List.length_cons]
      rw [show g0 + (gs.length + 1) = g0 + 1 + gs.length from by omega]
      exact this
    · intro t t' g' p' p'' ht ht'
      cases t with
      | zero =>
        simp only [List.getElem?_cons_zero, Option.some.injEq, Prod.mk.injEq] at ht
        obtain ⟨rfl, rfl⟩ := ht
        cases t' with
        | zero => rfl
        | succ t' => exact absurd (by simpa using ht') (nco t' p'')
      | succ t =>
        cases t' with
        | zero =>
          simp only [List.getElem?_cons_zero, Option.some.injEq, Prod.mk.injEq] at ht'
          obtain ⟨rfl, rfl⟩ := ht'
          exact absurd (by simpa using ht) (nco t p')
        | succ t' => rw [a3 t t' g' p' p'' (by simpa using ht) (by simpa using ht')]
    · cases t with
      | zero =>
        simp only [List.getElem?_cons_zero, Option.some.injEq] at hj
        subst hj
        exact ⟨g, p, rfl, Nat.le_refl _, by simp⟩
      | succ t => simp at hj
    · simp only [List.mem_singleton, Prod.mk.injEq] at hgp
      obtain ⟨rfl, rfl⟩ := hgp
      exact ⟨hng, by simp⟩
    · intro GS HY hG hH hrs ny D s' hs
      rw [A9] at hs
      by_cases hD : d = D
      · subst hD
        rw [if_pos rfl] at hs
        simp only [Option.some.injEq] at hs
        subst hs
        refine ⟨Nat.le_refl _, rfl, u, by simp, ?_⟩
        have hgs := hG 0 (g, p) rfl
        simp only [Nat.add_zero] at hgs
        have hl := hH g0 (.own s xs) (by simp [A9])
        have hget0 : hget HY g0 [] = some (.own s xs) := by rw [Cq hl]; rfl
        generalize hlen : xs.length = len at hv
        cases hv with
        | cell hr => cases hr
        | gone h0 => rw [hlt] at h0; cases h0
        | view0 hg' _ => exact .view0 hget0 (by simp)
        | view hg' hl' hcap hρ hb hroom =>
          rename_i s2 xs2 cap b o c
          rw [hg] at hg'
          simp only [Option.some.injEq, AV.own.injEq] at hg'
          obtain ⟨rfl, rfl⟩ := hg'
          have := Au.view (x := F2 sh x w ρ2 GS) (n := ny) (ρ := Ca ρ2 GS) (off := 0) (cap := cap) (b := b) (o := o) hget0 (by simpa using Nat.le_of_eq hlen.symm) hcap (by simp [Ca, hgs, Ai.at_, (R2 g hng).2, hρ]) hb (by simpa using hroom)
          simpa using this
      · rw [if_neg hD] at hs
        obtain ⟨b1, b2, u', b3, b4⟩ := a6 GS HY (fun t gp ht => by
          rw [show g0 + 1 + t = g0 + (t + 1) from by omega]
          exact hG (t + 1) gp (by simpa using ht)) (fun j r hr => hH j r (by
          rw [A9, if_neg (by have := (a2.of j r hr).1; omega)]
          exact hr)) hrs ny D s' hs
        exact ⟨by omega, b2, u', by rw [show D - d = (D - (d + 1)) + 1 from by omega]; simpa using b3, b4⟩
  | mp hg hv hr ih =>
    rename_i i g s r u ms as us qs rs ws
    intro hfa hq d g0
    have hqs : qs = [] := by simpa using hq
    subst hqs
    obtain ⟨gs, Sy, hy, mu, a1, a2, a3, a4, a5, a6⟩ := ih hfa.2 (by simp) (d + 1) (g0 + 1)
    have hmu : mu = [] := List.eq_nil_of_length_eq_zero (by simpa using a4.1)
    subst hmu
    have hng := H.ids g _ hg
    have hget' : hget h2 g [] = some (.own s [r]) := by rw [hget2 g _ hng, Cq hg]; rfl
    have A0 : Ys id L h2 [(g, [])] i g0 ((g, []) :: gs) ((g0, .own s [r]) :: hy) := ⟨fun j r hr => by
        rw [A9] at hr
        by_cases hj : g0 = j
        · subst hj
          rw [if_pos rfl] at hr
          simp only [Option.some.injEq] at hr
          subst hr
          exact ⟨Nat.le_refl _, g, [], by simp, hget'⟩
        · rw [if_neg hj] at hr
          obtain ⟨q1, g', p', q2, q3⟩ := a2.of j r hr
          exact ⟨by omega, g', p', by rw [show j - g0 = (j - (g0 + 1)) + 1 from by omega]; simpa using q2, q3⟩,
      fun t g' p' hgt => by
        cases t with
        | zero =>
          simp only [List.getElem?_cons_zero, Option.some.injEq, Prod.mk.injEq] at hgt
          obtain ⟨rfl, rfl⟩ := hgt
          exact ⟨s, [r], hget', by simp [A9]⟩
        | succ t =>
          obtain ⟨s', xs', q1, q2⟩ := a2.own t g' p' (by simpa using hgt)
          refine ⟨s', xs', q1, ?_⟩
          rw [A9, if_neg (by omega), show g0 + (t + 1) = g0 + 1 + t from by omega]
          exact q2,
      fun t g' p' hgt => by
        cases t with
        | zero =>
          simp only [List.getElem?_cons_zero, Option.some.injEq, Prod.mk.injEq] at hgt
          obtain ⟨rfl, rfl⟩ := hgt
          exact .inr (by simp)
        | succ t =>
          rcases a2.src t g' p' (by simpa using hgt) with q | q
          · exact .inl q
          · cases q⟩
    have nco : ∀ (t : Nat) (p' : Bj), gs[t]? ≠ some (g, p') := by
      intro t p' ht
      rcases a2.src t g p' ht with ⟨m, _, q2, _, s', xs', q3⟩ | q
      · exact R4 m s' xs' q3 (q2 ▸ hng)
      · cases q
    refine ⟨(g, []) :: gs, (d, ⟨none, .bx g0 0⟩) :: Sy, (g0, .own s [r]) :: hy, [g0], fun K hk => ?_, A0, ?_, ⟨rfl, fun t j hj => ?_⟩, fun g' p' hgp => ?_, ?_⟩
    · have := a1 _ hk
      simp only [List.length_cons]
      rw [show g0 + (gs.length + 1) = g0 + 1 + gs.length from by omega]
      exact this
    · intro t t' g' p' p'' ht ht'
      cases t with
      | zero =>
        simp only [List.getElem?_cons_zero, Option.some.injEq, Prod.mk.injEq] at ht
        obtain ⟨rfl, rfl⟩ := ht
        cases t' with
        | zero => rfl
        | succ t' => exact absurd (by simpa using ht') (nco t' p'')
      | succ t =>
        cases t' with
        | zero =>
          simp only [List.getElem?_cons_zero, Option.some.injEq, Prod.mk.injEq] at ht'
          obtain ⟨rfl, rfl⟩ := ht'
          exact absurd (by simpa using ht) (nco t p')
        | succ t' => rw [a3 t t' g' p' p'' (by simpa using ht) (by simpa using ht')]
    · cases t with
      | zero =>
        simp only [List.getElem?_cons_zero, Option.some.injEq] at hj
        subst hj
        exact ⟨g, [], rfl, Nat.le_refl _, by simp⟩
      | succ t => simp at hj
    · simp only [List.mem_singleton, Prod.mk.injEq] at hgp
      obtain ⟨rfl, rfl⟩ := hgp
      exact ⟨hng, by simp⟩
    · intro GS HY hG hH hrs ny D s' hs
      rw [A9] at hs
      by_cases hD : d = D
      · subst hD
        rw [if_pos rfl] at hs
        simp only [Option.some.injEq] at hs
        subst hs
        refine ⟨Nat.le_refl _, rfl, u, by simp, ?_⟩
        have hgs := hG 0 (g, []) rfl
        simp only [Nat.add_zero] at hgs
        have hl := hH g0 (.own s [r]) (by simp [A9])
        cases hv with
        | cell hr => cases hr
        | goneb h0 => rw [hg] at h0; cases h0
        | bx hg' hρ =>
          rename_i s2 r2 b o
          exact .bx hl (by simp [Ca, hgs, Ai.at_, (R2 g hng).2, hρ])
      · rw [if_neg hD] at hs
        obtain ⟨b1, b2, u', b3, b4⟩ := a6 GS HY (fun t gp ht => by
          rw [show g0 + 1 + t = g0 + (t + 1) from by omega]
          exact hG (t + 1) gp (by simpa using ht)) (fun j r hr => hH j r (by
          rw [A9, if_neg (by have := (a2.of j r hr).1; omega)]
          exact hr)) hrs ny D s' hs
        exact ⟨by omega, b2, u', by rw [show D - d = (D - (d + 1)) + 1 from by omega]; simpa using b3, b4⟩
  | ma hg hv hr ih =>
    rename_i i g p s xs u ms as us qs rs ws
    intro hfa hq d g0
    have hqs : qs = [] := by simpa using hq
    subst hqs
    obtain ⟨gs, Sy, hy, mu, a1, a2, a3, a4, a5, a6⟩ := ih hfa.2 (by simp) (d + 1) (g0 + 1)
    have hmu : mu = [] := List.eq_nil_of_length_eq_zero (by simpa using a4.1)
    subst hmu
    obtain ⟨rt, hlt, _⟩ := Bz hg
    have hng := H.ids g rt hlt
    have hget' : hget h2 g p = some (.own s xs) := by rw [hget2 g _ hng]; exact hg
    have A0 : Ys id L h2 [(g, p)] i g0 ((g, p) :: gs) ((g0, .own s xs) :: hy) := ⟨fun j r hr => by
        rw [A9] at hr
        by_cases hj : g0 = j
        · subst hj
          rw [if_pos rfl] at hr
          simp only [Option.some.injEq] at hr
          subst hr
          exact ⟨Nat.le_refl _, g, p, by simp, hget'⟩
        · rw [if_neg hj] at hr
          obtain ⟨q1, g', p', q2, q3⟩ := a2.of j r hr
          exact ⟨by omega, g', p', by rw [show j - g0 = (j - (g0 + 1)) + 1 from by omega]; simpa using q2, q3⟩,
      fun t g' p' hgt => by
        cases t with
        | zero =>
          simp only [List.getElem?_cons_zero, Option.some.injEq, Prod.mk.injEq] at hgt
          obtain ⟨rfl, rfl⟩ := hgt
          exact ⟨s, xs, hget', by simp [A9]⟩
        | succ t =>
          obtain ⟨s', xs', q1, q2⟩ := a2.own t g' p' (by simpa using hgt)
          refine ⟨s', xs', q1, ?_⟩
          rw [A9, if_neg (by omega), show g0 + (t + 1) = g0 + 1 + t from by omega]
          exact q2,
      fun t g' p' hgt => by
        cases t with
        | zero =>
          simp only [List.getElem?_cons_zero, Option.some.injEq, Prod.mk.injEq] at hgt
          obtain ⟨rfl, rfl⟩ := hgt
          exact .inr (by simp)
        | succ t =>
          rcases a2.src t g' p' (by simpa using hgt) with q | q
          · exact .inl q
          · cases q⟩
    have nco : ∀ (t : Nat) (p' : Bj), gs[t]? ≠ some (g, p') := by
      intro t p' ht
      rcases a2.src t g p' ht with ⟨m, _, q2, _, s', xs', q3⟩ | q
      · exact R4 m s' xs' q3 (q2 ▸ hng)
      · cases q
    refine ⟨(g, p) :: gs, (d, ⟨none, .agg [.arg s g0 xs.length]⟩) :: Sy, (g0, .own s xs) :: hy, [g0], fun K hk => ?_, A0, ?_, ⟨rfl, fun t j hj => ?_⟩, fun g' p' hgp => ?_, ?_⟩
    · have := a1 _ hk
      simp only [List.length_cons]
      rw [show g0 + (gs.length + 1) = g0 + 1 + gs.length from by omega]
      exact this
    · intro t t' g' p' p'' ht ht'
      cases t with
      | zero =>
        simp only [List.getElem?_cons_zero, Option.some.injEq, Prod.mk.injEq] at ht
        obtain ⟨rfl, rfl⟩ := ht
        cases t' with
        | zero => rfl
        | succ t' => exact absurd (by simpa using ht') (nco t' p'')
      | succ t =>
        cases t' with
        | zero =>
          simp only [List.getElem?_cons_zero, Option.some.injEq, Prod.mk.injEq] at ht'
          obtain ⟨rfl, rfl⟩ := ht'
          exact absurd (by simpa using ht) (nco t p')
        | succ t' => rw [a3 t t' g' p' p'' (by simpa using ht) (by simpa using ht')]
    · cases t with
      | zero =>
        simp only [List.getElem?_cons_zero, Option.some.injEq] at hj
        subst hj
        exact ⟨g, p, rfl, Nat.le_refl _, by simp⟩
      | succ t => simp at hj
    · simp only [List.mem_singleton, Prod.mk.injEq] at hgp
      obtain ⟨rfl, rfl⟩ := hgp
      exact ⟨hng, by simp⟩
    · intro GS HY hG hH hrs ny D s' hs
      rw [A9] at hs
      by_cases hD : d = D
      · subst hD
        rw [if_pos rfl] at hs
        simp only [Option.some.injEq] at hs
        subst hs
        refine ⟨Nat.le_refl _, rfl, .agg #[u], by simp, .agg rfl fun i c hi => ?_⟩
        obtain ⟨rfl, rfl⟩ : i = 0 ∧ c = .arg s g0 xs.length := by
          cases i with
          | zero => simpa using hi.symm
          | succ i => simp at hi
        show Au _ _ _ _ _ _ u
        have hgs := hG 0 (g, p) rfl
        simp only [Nat.add_zero] at hgs
        have hk0 : g0 < GS.length := by
          rcases Nat.lt_or_ge g0 GS.length with h | h
          · exact h
          · rw [List.getElem?_eq_none h] at hgs; cases hgs
        generalize hlen : xs.length = len at hv
        cases hv with
        | cell hr => cases hr
        | gone h0 => rw [hlt] at h0; cases h0
        | view0 hg' _ => exact .cell (.arg0 hk0)
        | view hg' hl' hcap hρ hb hroom =>
          rename_i s2 xs2 cap b o c
          rw [hg] at hg'
          simp only [Option.some.injEq, AV.own.injEq] at hg'
          obtain ⟨rfl, rfl⟩ := hg'
          have : Rep (F2 sh x w ρ2 GS) w Ar (.arg s g0 len) (.slice (some ⟨b, o, none⟩) len cap) :=
            .arg (by show Ca ρ2 GS (some g0) [] = _; simp [Ca, hgs, Ai.at_, (R2 g hng).2, hρ]) hk0 hcap hb (by simpa using hroom)
          exact .cell (by simpa using this)
      · rw [if_neg hD] at hs
        obtain ⟨b1, b2, u', b3, b4⟩ := a6 GS HY (fun t gp ht => by
          rw [show g0 + 1 + t = g0 + (t + 1) from by omega]
          exact hG (t + 1) gp (by simpa using ht)) (fun j r hr => hH j r (by
          rw [A9, if_neg (by have := (a2.of j r hr).1; omega)]
          exact hr)) hrs ny D s' hs
        exact ⟨by omega, b2, u', by rw [show D - d = (D - (d + 1)) + 1 from by omega]; simpa using b3, b4⟩
end
end Go.GH


set_option linter.unusedVariables false
set_option linter.unusedSimpArgs false
namespace Go.GH
open Go
section
variable {P : Program} {E : Env} {x : Ctx} {w w' : World} {h h2 hf hc hy : Af} {n n2 nn nf : Nat → Prop} {L L2 : List AV} {U U' : Nat → Value} {ρ ρ2 ρf : Option Nat → Ai} {sh : Bool} {id : Nat}
theorem Db.mono {P Q : Nat → Bj → Prop} {v : AV} (h : Db P v) (hpq : ∀ g p, P g p → Q g p) : Db Q v := by
  induction h with
  | view h => exact .view (hpq _ _ h)
  | ptr h => exact .ptr (hpq _ _ h)
  | bx h => exact .bx (hpq _ _ h)
  | agg h ih => exact .agg ih
  | tup h ih => exact .tup ih
  | fn h ih => exact .fn ih
  | int => exact .int
  | bool => exact .bool
  | str => exact .str
  | nils => exact .nils
  | emp => exact .emp
  | rd => exact .rd
  | own => exact .own
  | pin => exact .pin
  | nilI => exact .nilI
  | arg h => exact .arg (hpq _ _ h)
  | someI => exact .someI
  | nilp => exact .nilp
  | undef => exact .undef
theorem Db.and {P Q : Nat → Bj → Prop} {v : AV} (h : Db P v) : Db Q v → Db (fun g p => P g p ∧ Q g p) v := by
  induction h with
  | view h => intro h'; cases h' with | view h' => exact .view ⟨h, h'⟩
  | ptr h => intro h'; cases h' with | ptr h' => exact .ptr ⟨h, h'⟩
  | bx h => intro h'; cases h' with | bx h' => exact .bx ⟨h, h'⟩
  | agg h ih => intro h'; cases h' with | agg h' => exact .agg fun c hc => ih c hc (h' c hc)
  | tup h ih => intro h'; cases h' with | tup h' => exact .tup fun c hc => ih c hc (h' c hc)
  | fn h ih => intro h'; cases h' with | fn h' => exact .fn fun c hc => ih c hc (h' c hc)
  | int => intro _; exact .int
  | bool => intro _; exact .bool
  | str => intro _; exact .str
  | nils => intro _; exact .nils
  | emp => intro _; exact .emp
  | rd => intro _; exact .rd
  | own => intro _; exact .own
  | pin => intro _; exact .pin
  | nilI => intro _; exact .nilI
  | arg h => intro hg; cases hg with | arg h' => exact .arg ⟨h, h'⟩
  | someI => intro _; exact .someI
  | nilp => intro _; exact .nilp
  | undef => intro _; exact .undef
theorem Au.names {v : AV} {u : Value} (hs : Au x w h n ρ v u) (hlt : ∀ g r, A4 h g = some r → n g) (hkn : ∀ g, g < x.k → n g) : Db (fun g _ => n g) v := by
  have hl : ∀ {g p c}, hget h g p = some c → n g := fun {g p c} hg => by
    obtain ⟨r, hl, _⟩ := Bz hg
    exact hlt g r hl
  induction hs with
  | cell hr => cases hr <;> first | exact .arg (hkn _ (by assumption)) | constructor
  | nils => exact .nils
  | emp => exact .emp
  | void => exact .undef
  | someI => exact .someI
  | nilp => exact .nilp
  | gone hg hn => exact .view hn
  | gonep hg hn => exact .ptr hn
  | goneb hg hn => exact .bx hn
  | view0 hg _ => exact .view (hl hg)
  | view hg => exact .view (hl hg)
  | ptr hg => exact .ptr (hl hg)
  | bx hg => exact .bx (hlt _ _ hg)
  | pin => exact .pin
  | agg hl hc ih => exact .agg fun c hc' => by obtain ⟨i, hi⟩ := List.getElem?_of_mem hc'; exact ih i c hi
  | tup hl hc ih => exact .tup fun c hc' => by obtain ⟨i, hi⟩ := List.getElem?_of_mem hc'; exact ih i c hi
  | fn hl hc ih => exact .fn fun c hc' => by obtain ⟨i, hi⟩ := List.getElem?_of_mem hc'; exact ih i c hi
theorem Au.down {v : AV} {u : Value} (hs : Au x w h n ρ v u) (hg : Db (fun g _ => n2 g) v) : Au x w h n2 ρ v u := by
  induction hs with
  | cell hr => exact .cell hr
  | nils => exact .nils
  | emp => exact .emp
  | void => exact .void
  | someI => exact .someI
  | nilp => exact .nilp
  | gone hl hn => cases hg with | view h => exact .gone hl h
  | gonep hl hn => cases hg with | ptr h => exact .gonep hl h
  | goneb hl hn => cases hg with | bx h => exact .goneb hl h
  | view0 hl hh => exact .view0 hl hh
  | view hl hh hcap hρ hb hroom => exact .view hl hh hcap hρ hb hroom
  | ptr hl hρ => exact .ptr hl hρ
  | bx hl hρ => exact .bx hl hρ
  | pin V hc => exact .pin V hc
  | agg hl hc ih => cases hg with | agg h => exact .agg hl fun i c hi => ih i c hi (h c (List.mem_of_getElem? hi))
  | tup hl hc ih => cases hg with | tup h => exact .tup hl fun i c hi => ih i c hi (h c (List.mem_of_getElem? hi))
  | fn hl hc ih => cases hg with | fn h => exact .fn hl fun i c hi => ih i c hi (h c (List.mem_of_getElem? hi))
theorem Au.place {v : AV} {u : Value} (hs : Au x w h n ρ v u) (hp : ∀ g, ρ2 (some g) = ρ (some g)) : Au x w h n ρ2 v u := by
  induction hs with
  | cell hr => exact .cell hr
  | nils => exact .nils
  | emp => exact .emp
  | void => exact .void
  | someI => exact .someI
  | nilp => exact .nilp
  | gone hl hn => exact .gone hl hn
  | gonep hl hn => exact .gonep hl hn
  | goneb hl hn => exact .goneb hl hn
  | view0 hl hh => exact .view0 hl hh
  | view hl hh hcap hρ hb hroom => exact .view hl hh hcap (by rw [hp]; exact hρ) hb hroom
  | ptr hl hρ => exact .ptr hl (by rw [hp]; exact hρ)
  | bx hl hρ => exact .bx hl (by rw [hp]; exact hρ)
  | pin V hc => exact .pin V hc
  | agg hl hc ih => exact .agg hl ih
  | tup hl hc ih => exact .tup hl ih
  | fn hl hc ih => exact .fn hl ih
theorem P9.rs_known {i : Nat} {ms : List L6} {as : List AV} {us : List Value} {qs : List (Nat × Bj)} {rs ws : List Nat} (A : P9 sh x w h n ρ L U i ms as us qs rs ws) : ∀ g, g ∈ rs → n g := by
  induction A with
  | nil => simp
  | rd hv hn hr ih =>
    intro g hg
    rcases List.mem_append.1 hg with h | h
    · exact hn g h
    · exact ih g h
  | one hc hu hag hr ih => exact ih
  | many hl hc hr ih => exact ih
  | mv hg hv hr ih => exact ih
  | mp hg hv hr ih => exact ih
  | ma hg hv hr ih => exact ih
theorem P9.len {i : Nat} {ms : List L6} {as : List AV} {us : List Value} {qs : List (Nat × Bj)} {rs ws : List Nat} (A : P9 sh x w h n ρ L U i ms as us qs rs ws) : us.length = ms.length := by
  induction A with
  | nil => rfl
  | rd hv hn hr ih => simp [ih]
  | one hc hu hag hr ih => simp [ih]
  | many hl hc hr ih => simp [ih]
  | mv hg hv hr ih => simp [ih]
  | mp hg hv hr ih => simp [ih]
  | ma hg hv hr ih => simp [ih]
theorem Wf {g : Nat} : ∀ {l : List Nat}, R9 g l = true ↔ g ∈ l
  | [] => by simp [R9]
  | a :: r => by
    simp only [R9, List.mem_cons]
    by_cases h : a = g
    · subst h; simp
    · rw [N8 h]
      simp only [Wf]
      constructor
      · exact .inr
      · rintro (e | e)
        · exact absurd e.symm h
        · exact e
theorem B1b {a b : List Nat} (h : Oi a b = false) : ∀ g, g ∈ a → g ∉ b := by
  intro g ha hb
  unfold Oi at h
  have : (a.any fun x => R9 x b) = true := List.any_eq_true.2 ⟨g, ha, Wf.2 hb⟩
  rw [h] at this
  cases this
theorem Gg : ∀ {cs : List AV} {g : Nat} {K : List AV → Af → Nat → Prop}, B0 g cs K → B0 g cs fun cs' os n1 => n1 = g + Ia cs ∧ K cs' os n1
  | [], g, K, hk => ⟨rfl, hk⟩
  | c :: cs, g, K, hk => by
    by_cases ho : ∃ s xs, c = .own s xs
    · obtain ⟨s, xs, rfl⟩ := ho
      have := Gg (cs := cs) (g := g + 1) (K := fun cs os n => K (.view g [] 0 xs.length :: cs) ((g, .own s xs) :: os) n) hk
      show B0 (g + 1) cs _
      refine rootCells_imp this fun cs' os n1 h => ⟨?_, h.2⟩
      rw [h.1]
      simp only [Ia]
      omega
    · have hk' : B0 g cs fun cs os n => K (c :: cs) os n := by cases c <;> first | exact hk | exact absurd ⟨_, _, rfl⟩ ho
      have := Gg hk'
      have hcount : Ia (c :: cs) = Ia cs := by cases c <;> first | rfl | exact absurd ⟨_, _, rfl⟩ ho
      rw [hcount]
      cases c <;> first | exact this | exact absurd ⟨_, _, rfl⟩ ho
where
  rootCells_imp : ∀ {cs : List AV} {g : Nat} {K K' : List AV → Af → Nat → Prop}, B0 g cs K → (∀ cs' os n1, K cs' os n1 → K' cs' os n1) → B0 g cs K'
    | [], g, K, K', hk, h => h _ _ _ hk
    | c :: cs, g, K, K', hk, h => by
      cases c <;> first
        | exact rootCells_imp (cs := cs) hk fun _ _ _ hh => h _ _ _ hh
theorem Zs {d g : Nat} {ms : List L6} {a : AV} {as : List AV} {K : Ac → Af → Nat → List Nat → Prop} (hk : Bi d g (.ma :: ms) (a :: as) K) :
    ∃ s xs, a = .agg [.own s xs] ∧ Bi (d + 1) (g + 1) ms as fun S h n mu => K ((d, ⟨none, .agg [.arg s g xs.length]⟩) :: S) ((g, .own s xs) :: h) n (g :: mu) := by
  cases a <;> try exact hk.elim
  rename_i cs
  match cs, hk with
  | [], hk => exact hk.elim
  | [c], hk =>
    cases c <;> try exact hk.elim
    exact ⟨_, _, rfl, hk⟩
  | _ :: _ :: _, hk => exact hk.elim
theorem Eo : ∀ {ms : List L6} {as : List AV} {d g : Nat} {K K' : Ac → Af → Nat → List Nat → Prop}, Bi d g ms as K → (∀ S h k mu, K S h k mu → K' S h k mu) → Bi d g ms as K' := by
  intro ms
  induction ms with
  | nil => intro as d g K K' hk h; cases as <;> first | exact h _ _ _ _ hk | exact hk.elim
  | cons m ms ih =>
    intro as d g K K' hk h
    cases as with
    | nil => cases m <;> exact hk.elim
    | cons a as =>
      cases m with
      | rd ts => exact ih hk fun _ _ _ _ hh => h _ _ _ _ hh
      | co ts =>
        cases a <;> first
          | exact ih (K := fun S h n mu => _) hk fun _ _ _ _ hh => h _ _ _ _ hh
          | exact Gg.rootCells_imp hk fun _ _ _ hh => ih hh fun _ _ _ _ hh => h _ _ _ _ hh
      | mv => cases a <;> first | exact hk.elim | exact ih hk fun _ _ _ _ hh => h _ _ _ _ hh
      | mp => cases a <;> first | exact hk.elim | exact ih hk fun _ _ _ _ hh => h _ _ _ _ hh
      | ma =>
        obtain ⟨s, xs, rfl, hk⟩ := Zs hk
        exact ih hk fun _ _ _ _ hh => h _ _ _ _ hh
theorem Pp {g : Nat} {r : AV} {h : Af} (hr : r.free) (hh : ∀ j r, A4 h j = some r → r.free) : ∀ j q, A4 ((g, r) :: h) j = some q → q.free := by
  intro j q hq
  rw [A9] at hq
  by_cases hj : g = j
  · rw [if_pos hj] at hq
    obtain rfl := Option.some.inj hq
    exact hr
  · rw [if_neg hj] at hq; exact hh j q hq
theorem Nt : ∀ {cs : List AV} {g : Nat} {K : List AV → Af → Nat → Prop}, A2 cs → B0 g cs K → B0 g cs fun cs' os n1 => (∀ j r, A4 os j = some r → r.free) ∧ K cs' os n1
  | [], g, K, _, hk => ⟨fun j r hr => by simp [A4] at hr, hk⟩
  | c :: cs, g, K, hf, hk => by
    by_cases ho : ∃ s xs, c = .own s xs
    · obtain ⟨s, xs, rfl⟩ := ho
      have := Nt (cs := cs) (g := g + 1) (K := fun cs os n => K (.view g [] 0 xs.length :: cs) ((g, .own s xs) :: os) n) hf.2 hk
      show B0 (g + 1) cs _
      exact Gg.rootCells_imp this fun cs' os n1 h => ⟨Pp hf.1 h.1, h.2⟩
    · have hk' : B0 g cs fun cs os n => K (c :: cs) os n := by cases c <;> first | exact hk | exact absurd ⟨_, _, rfl⟩ ho
      have := Nt hf.2 hk'
      cases c <;> first | exact this | exact absurd ⟨_, _, rfl⟩ ho
theorem B5o : ∀ {ms : List L6} {as : List AV} {d g : Nat} {K : Ac → Af → Nat → List Nat → Prop}, A2 as → Bi d g ms as K → Bi d g ms as fun S h k mu => (∀ j r, A4 h j = some r → r.free) ∧ K S h k mu := by
  intro ms
  induction ms with
  | nil => intro as d g K hf hk; cases as <;> first | exact ⟨fun j r hr => by simp [A4] at hr, hk⟩ | exact hk.elim
  | cons m ms ih =>
    intro as d g K hf hk
    cases as with
    | nil => cases m <;> exact hk.elim
    | cons a as =>
      cases m with
      | rd ts => exact Eo (ms := ms) (as := as) (d := d + 1) (g := g) (ih hf.2 hk) fun S h k mu hh => hh
      | co ts =>
        by_cases ho : ∃ s xs, a = .own s xs
        · obtain ⟨s, xs, rfl⟩ := ho
          exact Eo (ms := ms) (as := as) (d := d + 1) (g := g + 1) (ih hf.2 hk) fun S h k mu hh => ⟨Pp hf.1 hh.1, hh.2⟩
        · by_cases hag : ∃ cs, a = .agg cs
          · obtain ⟨cs, rfl⟩ := hag
            refine Gg.rootCells_imp (Nt hf.1 hk) fun cs' os n1 hh => Eo (ih hf.2 hh.2) fun S h k mu h3 => ⟨fun j r hr => ?_, h3.2⟩
            rw [B6] at hr
            cases ho2 : A4 os j with
            | some r' => rw [ho2] at hr; obtain rfl := Option.some.inj hr; exact hh.1 j r' ho2
            | none => rw [ho2] at hr; exact h3.1 j r hr
          · cases a <;> first
              | exact absurd ⟨_, _, rfl⟩ ho
              | exact absurd ⟨_, rfl⟩ hag
              | exact Eo (ms := ms) (as := as) (d := d + 1) (g := g) (ih hf.2 hk) fun S h k mu hh => hh
      | mv => cases a <;> first | exact hk.elim | exact Eo (ms := ms) (as := as) (d := d + 1) (g := g + 1) (ih hf.2 hk) fun S h k mu hh => ⟨Pp hf.1 hh.1, hh.2⟩
      | mp => cases a <;> first | exact hk.elim | exact Eo (ms := ms) (as := as) (d := d + 1) (g := g + 1) (ih hf.2 hk) fun S h k mu hh => ⟨Pp hf.1 hh.1, hh.2⟩
      | ma =>
        obtain ⟨s, xs, rfl, hk⟩ := Zs hk
        exact Eo (ms := ms) (as := as) (d := d + 1) (g := g + 1) (ih hf.2 hk) fun S h k mu hh => ⟨Pp hf.1.1 hh.1, hh.2⟩
theorem B2p : ∀ {ms : List L6} {as : List AV} {d g : Nat} {K : Ac → Af → Nat → List Nat → Prop}, Bi d g ms as K → Bi d g ms as fun S h k mu => k ≤ g + H8 as ∧ K S h k mu := by
  intro ms as d g K
  have imp := @Eo
  induction ms generalizing as d g K with
  | nil => intro hk; cases as <;> first | exact ⟨Nat.le_add_right _ _, hk⟩ | exact hk.elim
  | cons m ms ih =>
    intro hk
    cases as with
    | nil => cases m <;> exact hk.elim
    | cons a as =>
      have hle : H8 as ≤ H8 (a :: as) := by cases a <;> simp only [H8] <;> omega
      cases m with
      | rd ts => exact imp (ms := ms) (as := as) (d := d + 1) (g := g) (ih hk) fun S h k mu hh => ⟨by omega, hh.2⟩
      | co ts =>
        by_cases ho : ∃ s xs, a = .own s xs
        · obtain ⟨s, xs, rfl⟩ := ho
          exact imp (ms := ms) (as := as) (d := d + 1) (g := g + 1) (ih (g := g + 1) hk) fun S h k mu hh => ⟨by simp only [H8]; omega, hh.2⟩
        · by_cases hag : ∃ cs, a = .agg cs
          · obtain ⟨cs, rfl⟩ := hag
            refine Gg.rootCells_imp (Gg hk) fun cs' os n1 hh => imp (ih hh.2) fun S h k mu h3 => ⟨?_, h3.2⟩
            have := hh.1
            simp only [H8]
            omega
          · cases a <;> first
              | exact absurd ⟨_, _, rfl⟩ ho
              | exact absurd ⟨_, rfl⟩ hag
              | exact imp (ms := ms) (as := as) (d := d + 1) (g := g) (ih hk) fun S h k mu hh => ⟨by omega, hh.2⟩
      | mv => cases a <;> first | exact hk.elim | exact imp (ms := ms) (as := as) (d := d + 1) (g := g + 1) (ih (g := g + 1) hk) fun S h k mu hh => ⟨by simp only [H8]; omega, hh.2⟩
      | mp => cases a <;> first | exact hk.elim | exact imp (ms := ms) (as := as) (d := d + 1) (g := g + 1) (ih (g := g + 1) hk) fun S h k mu hh => ⟨by simp only [H8]; omega, hh.2⟩
      | ma =>
        obtain ⟨s, xs, rfl, hk⟩ := Zs hk
        exact imp (ms := ms) (as := as) (d := d + 1) (g := g + 1) (ih (g := g + 1) hk) fun S h k mu hh => ⟨by simp only [H8, Ia]; omega, hh.2⟩
end
end Go.GH


set_option linter.unusedVariables false
set_option linter.unusedSimpArgs false
namespace Go.GH
open Go
section
variable {P : Program} {E : Env} {x : Ctx} {w w' : World} {h h2 hf hc hy : Af} {n n2 nn nf : Nat → Prop} {L L2 : List AV} {U U' : Nat → Value} {ρ ρ2 ρf : Option Nat → Ai} {sh : Bool} {id : Nat}
theorem B51 {v : AV} (hg : Db (fun g _ => n g) v) : ∀ g, g ∈ v.ids1 → n g := by
  intro g hgg
  cases hg <;> simp only [AV.ids1, List.mem_singleton, List.not_mem_nil] at hgg <;> (subst hgg; assumption)
theorem Ol : ∀ {cs : List AV}, (∀ c, c ∈ cs → Db (fun g _ => n g) c) → ∀ g, g ∈ F6 cs → n g
  | [], _, g, hg => by simp [F6] at hg
  | c :: cs, h, g, hg => by
    simp only [F6, List.mem_append] at hg
    rcases hg with hg | hg
    · exact B51 (h c (by simp)) g hg
    · exact Ol (fun c hc => h c (by simp [hc])) g hg
theorem B67 {v : AV} (hg : Db (fun g _ => n g) v) : ∀ g, g ∈ v.ids → n g := by
  cases hg with
  | agg h => exact Ol h
  | tup h => exact Ol h
  | fn h => exact Ol h
  | view h => intro g hg; simp only [AV.ids, AV.ids1, List.mem_singleton] at hg; subst hg; exact h
  | ptr h => intro g hg; simp only [AV.ids, AV.ids1, List.mem_singleton] at hg; subst hg; exact h
  | bx h => intro g hg; simp only [AV.ids, AV.ids1, List.mem_singleton] at hg; subst hg; exact h
  | arg h => intro g hg; simp only [AV.ids, AV.ids1, List.mem_singleton] at hg; subst hg; exact h
  | _ => intro g hg; simp [AV.ids, AV.ids1] at hg
theorem N0 : ∀ {cs : List AV} {g : Nat} {K : List AV → Af → Nat → Prop}, B0 g cs K → ∃ cs' os n1, K cs' os n1
  | [], g, K, hk => ⟨_, _, _, hk⟩
  | c :: cs, g, K, hk => by
    by_cases ho : ∃ s xs, c = .own s xs
    · obtain ⟨s, xs, rfl⟩ := ho
      obtain ⟨a, b, d, h⟩ := N0 (cs := cs) (g := g + 1) (K := fun cs os n => K (.view g [] 0 xs.length :: cs) ((g, .own s xs) :: os) n) hk
      exact ⟨_, _, _, h⟩
    · have hk' : B0 g cs fun cs os n => K (c :: cs) os n := by cases c <;> first | exact hk | exact absurd ⟨_, _, rfl⟩ ho
      obtain ⟨a, b, d, h⟩ := N0 hk'
      exact ⟨_, _, _, h⟩
theorem P0 : ∀ {vs : List AV} {g : Nat} {K : List AV → Af → Nat → Prop}, Br g vs K → ∃ vs' os n1, K vs' os n1
  | [], g, K, hk => ⟨_, _, _, hk⟩
  | v :: vs, g, K, hk => by
    cases v with
    | own s xs =>
      simp only [Br] at hk
      obtain ⟨a, b, d, h⟩ := P0 hk
      exact ⟨_, _, _, h⟩
    | agg cs =>
      simp only [Br] at hk
      obtain ⟨a, b, d, h⟩ := N0 hk
      obtain ⟨a', b', d', h'⟩ := P0 h
      exact ⟨_, _, _, h'⟩
    | _ =>
      simp only [Br] at hk
      obtain ⟨a, b, d, h⟩ := P0 hk
      exact ⟨_, _, _, h⟩
theorem A71 {v : AV} {K : AV → Af → Prop} (hk : Ha id v K) : ∃ v' os, K v' os := by
  cases v with
  | own s xs => exact ⟨_, _, hk⟩
  | agg cs =>
    have hk' : B0 id cs fun cs' os n => leN n (id + 16) (K (.agg cs') os) := hk
    obtain ⟨a, b, d, h⟩ := N0 hk'
    exact ⟨_, _, (Bb h).2⟩
  | tup vs =>
    have hk' : Br id vs fun vs' os n => leN n (id + 16) (K (.tup vs') os) := hk
    obtain ⟨a, b, d, h⟩ := P0 hk'
    exact ⟨_, _, (Bb h).2⟩
  | _ => exact ⟨_, _, hk⟩
theorem A2p {pt : Bool} {v : AV} {K : AV → Af → Prop} (hk : Lx pt id v K) : ∃ v' os, K v' os := by
  cases pt with
  | false => exact A71 hk
  | true => cases v <;> first | exact hk.elim | exact ⟨_, _, hk⟩
def Sts (x : Ctx) (N : Nat) (S : Ac) (h : Af) (n : Nat → Prop) (a : Act) (w : World) : Prop :=
  ∃ R wr, (∀ b, x.R b → R b) ∧ Stt { x with R := R, wr := wr } N S h n a w
theorem B2v (sh : Bool) (x : Ctx) (R' : Nat → Prop) (w' : World) (hR : sh = true → ∀ b, x.R b → R' b) : ∃ R wr, I3 sh x R' w' = { x with R := R, wr := wr } ∧ ∀ b, x.R b → R b := by
  cases sh with
  | false => exact ⟨x.R, x.wr, rfl, fun _ h => h⟩
  | true => exact ⟨R', w', rfl, hR rfl⟩
theorem A6g {gs : List (Nat × Bj)} {R' : Nat → Prop} {wr' : World} {src : Nat → Src} {N : Nat} {S S' : Ac} {a : Act} (hN : a.tmps.size = N) (hdf : a.defers = []) {d : Option Nat} (hd : ∀ k, d = some k → k < N) {g : Option Bool} (hg : Cn g)
    (H : Bk x w h2 n2 [] U ρ) (A : A99 h2 gs hy) (hs : An x w h2 n2 ρ S a.tmps) (hR : ∀ b, Uw sh x w ρ gs b → R' b) (H' : Bk { F2 sh x w ρ gs with R := R', wr := wr' } w' hf nf [] U' ρf)
    (G : A6k sh n2 nn x.k h2 hf hc gs src) {v : AV} {u : Value} (hu : Au { F2 sh x w ρ gs with R := R', wr := wr' } w' hf nf ρf v u) (hgv : Db (fun g _ => src g = .new) v) (hnr : sh = false → v.noRd) (hvf : v.free)
    (hS : ∀ d s, A4 S' d = some s → ∃ s0, A4 S d = some s0 ∧ s.c = s0.c ∧ (s.v = s0.v ∨ s.v = .undef) ∧ (Cn s.c → Db (fun g p => ∀ j q, src g = .wri j q → p = []) s.v))
    (hids : ∀ g r, A4 hc g = some r → Jq n id g) (hkn : ∀ g, g < x.k → Jq n id g) (hgv2 : Db (fun g _ => Jq n id g) v) (hS2 : ∀ d s, A4 S' d = some s → Cn s.c → Db (fun g _ => Jq n id g) s.v) :
    Sts x N (B4 S' d g v) hc (Jq n id) (a.put d u) w' := by
  have hRx : sh = true → ∀ b, x.R b → R' b := by
    rintro rfl b hb
    exact hR b hb
  obtain ⟨R, wr, e, hRR⟩ := B2v sh x R' w' hRx
  have M1 := Bk.merge H A hR H' G
  have M2 := An.merge H hs hR H' G hS
  have M3 := Au.back (x := x) H' G hu hgv hnr
  rw [e] at M1 M2 M3
  have M4 := M1.forget (n' := Jq n id) (h' := hc) (fun g r hr => ⟨hr, hids g r hr⟩) hkn
  refine ⟨R, wr, hRR, ?_⟩
  have hplace : ∀ {v : AV} {u : Value}, Au { x with R := R, wr := wr } w' hc nn (D1 ρ ρf src) v u → Db (fun g _ => Jq n id g) v → Au { x with R := R, wr := wr } w' hc (Jq n id) (Jy hc (D1 ρ ρf src)) v u := by
    intro v u hv hgd
    have h1 := hv.down hgd
    refine h1.weaken (P := fun _ _ => True) (Db.all (fun _ _ => trivial) h1) (fun _ h => h) (fun _ _ h => h) hids fun g p _ => ?_
    cases hl : A4 hc g with
    | none => exact .inl rfl
    | some r => exact .inr ⟨fun s xs h => ⟨xs, h, rfl⟩, fun q hq => by simp [Jy, hl]; exact hq⟩
  have M5 : An { x with R := R, wr := wr } w' hc (Jq n id) (Jy hc (D1 ρ ρf src)) S' a.tmps := fun d s hd => ⟨fun ht => hplace ((M2 d s hd).1 ht) (hS2 d s hd ht), (M2 d s hd).2⟩
  exact Stt.put M4 M5 hN hdf hd (fun _ => hplace (M3 hvf) hgv2) (fun hg' => absurd hg' (Qy hg)) (fun _ h => h)
end
end Go.GH


set_option linter.unusedVariables false
set_option linter.unusedSimpArgs false
namespace Go.GH
open Go
theorem Q9.mono {P : Program} {f : Nat} {args : Array Value} {w : World} {R R' : Value → World → Prop} (h : Q9 P f args w R) (hr : ∀ u w', R u w' → R' u w') : Q9 P f args w R' := by
  rcases h with ⟨h1, h2⟩ | ⟨u, w', h1, h2⟩ | ⟨row, as, w1, h1, h2⟩
  · exact .inl ⟨h1, h2.mono fun e w' ⟨u, he, hu⟩ => ⟨u, he, hr _ _ hu⟩⟩
  · exact .inr (.inl ⟨u, w', h1, hr _ _ h2⟩)
  · exact .inr (.inr ⟨row, as, w1, h1, h2.mono hr⟩)
section
variable {P : Program} {E : Env} {x : Ctx} {w w' : World} {h h2 hf hc hy : Af} {n n2 nn nf : Nat → Prop} {L L2 : List AV} {U U' : Nat → Value} {ρ ρ2 ρf : Option Nat → Ai} {sh : Bool} {id : Nat}
theorem Ph : ∀ {mu : List Nat} {out : List AV} {g : Nat}, g ∉ mu → A4 (Bv mu out) g = none
  | [], out, g, h => by cases out <;> rfl
  | m :: mu, [], g, h => rfl
  | m :: mu, y :: out, g, h => by
    simp only [Bv]
    rw [A9, if_neg (fun e => h (by simp [e]))]
    exact Ph fun hh => h (by simp [hh])
def Zn (L : List AV) (i : Nat) : Bool := match L[i]? with
  | some (.own _ _) => true
  | _ => false
theorem P9.rd_qs {i : Nat} {ms : List L6} {as : List AV} {us : List Value} {qs : List (Nat × Bj)} {rs ws : List Nat} (A : P9 sh x w h n ρ L U i ms as us qs rs ws) : I1 ms = true → qs = [] := by
  induction A with
  | nil => intro _; rfl
  | rd hv hn hr ih => intro ha; exact ih ha
  | _ => intro ha; cases ha
theorem Y8 {i : Nat} : Zn L i = true ↔ ∃ s xs, L[i]? = some (.own s xs) := by
  unfold Zn
  cases hi : L[i]? with
  | none => simp
  | some c => cases c <;> simp
theorem A7j {g p y} {r : AV} (hl : A4 h g = some r) (e : Nat) : A4 (hput h g p y) e = if g = e then some (AV.put y p r) else A4 h e := E6 hl e
open Classical in
theorem B0x (hF : FE P E x) {N : Nat} {S : Ac} {a : Act} (H : Bk x w h n [] (fun _ => undef) ρ) (hs : An x w h n ρ S a.tmps) (hN : a.tmps.size = N) (hdf : a.defers = [])
    (hbd : ∃ B, ∀ g, n g → g < B) (hid : Pq n id) {g : Option Bool} (hg : Cn g) {d : Option Nat} (hd : ∀ k, d = some k → k < N) {f : Nat} {vs : List AV} {us : List Value} (hl : vs.length = us.length)
    (hv : ∀ (i : Nat) v u, vs[i]? = some v → us[i]? = some u → Au x w h n ρ v u) {K : Ac → Af → Prop} (hk : Nc E S h id d g f vs K) :
    ∃ S' h', K S' h' ∧ Q9 P f us.toArray w fun u w' => Sts x N S' h' (Jq n id) (a.put d u) w' := by
  unfold Nc at hk
  cases hEf : E.F f with
  | none => rw [hEf] at hk; exact hk.elim
  | some c =>
  rw [hEf] at hk
  have hC := (hF f c hEf).1
  obtain ⟨as, qs, rs, ws, S1, h1, ρ1, L1, U1, hk, H1, hs1, hmv, _, A⟩ := Ik H hs hl (fun i v u hv' hu => ⟨(hv i v u hv' hu).movV, B67 ((hv i v u hv' hu).names H.ids H.kn)⟩) hk
  simp only [List.nil_append, List.length_nil] at H1 A
  obtain ⟨hcount, hkB⟩ := Bb hk
  clear hk
  cases hmt : Oi rs ws with
  | true => rw [hmt] at hkB; exact hkB.elim
  | false =>
  rw [hmt] at hkB
  obtain ⟨xx, has, hpre0, hk⟩ := hkB
  have hpre := hpre0 hg
  clear hpre0
  subst has
  have hq : qs.length ≤ 1 := by
    obtain ⟨v', os, hk'⟩ := A2p hk
    cases hsc : c.sc with
    | true =>
      simp only [hsc] at hk'
      cases ha : I1 c.ms with
      | true => rw [A.rd_qs ha]; simp
      | false => simp only [ha] at hk'
    | false =>
      simp only [hsc] at hk'
      match qs, hk' with
      | [], _ => simp
      | [_], _ => simp
      | _ :: _ :: _, hk' => exact hk'.elim
  obtain ⟨B, hB⟩ := hbd
  obtain ⟨id2, hid2, hid3⟩ : ∃ id2, B ≤ id2 ∧ id + 16 ≤ id2 := ⟨max B (id + 16), Nat.le_max_left _ _, Nat.le_max_right _ _⟩
  have hgh : ∀ i, ¬ n (id2 + i) := fun i hn => by have := hB _ hn; omega
  obtain ⟨h2, n2, L2, ρ2, H2, S2, r1, r2, r3⟩ := A0i (id := id2) (S := S1) ((List.range L1.length).filter (Zn L1)) (List.filter_sublist.nodup List.nodup_range) (fun i hi => Y8.1 (List.mem_filter.1 hi).2) (fun i _ => hgh i) H1 hs1
  have hmem : ∀ {i s xs}, L1[i]? = some (.own s xs) → i ∈ (List.range L1.length).filter (Zn L1) := by
    intro i s xs hi
    refine List.mem_filter.2 ⟨List.mem_range.2 ?_, Y8.2 ⟨s, xs, hi⟩⟩
    rcases Nat.lt_or_ge i L1.length with h | h
    · exact h
    · rw [List.getElem?_eq_none h] at hi; cases hi
  obtain ⟨ρ3, H3, hp3⟩ : ∃ ρ3 : Option Nat → Ai, Bk x w h2 n2 [] (fun _ => undef) ρ3 ∧ ∀ g, ρ3 (some g) = ρ2 (some g) := ⟨_, H2.dropL, fun g => rfl⟩
  have S3 : An x w h2 n2 ρ3 S1 a.tmps := fun d s hd => ⟨fun ht => ((S2 d s hd).1 ht).place hp3, (S2 d s hd).2⟩
  have R1 : ∀ (i : Nat) s xs, L1[i]? = some (.own s xs) → A4 h2 (id2 + i) = some (.own s xs) ∧ ∀ q, ρ3 (some (id2 + i)) q = ρ1 none ((0, i) :: q) := fun i s xs hi => by
    obtain ⟨b1, b2⟩ := r1 i (hmem hi)
    exact ⟨by rw [b1, hi], fun q => by rw [hp3, b2]⟩
  have R2 : ∀ g, n g → A4 h2 g = A4 h1 g ∧ ρ3 (some g) = ρ1 (some g) := fun g hn => by
    obtain ⟨b1, b2⟩ := r2 g (fun i _ e => hgh i (e ▸ hn))
    exact ⟨b1, by rw [hp3, b2]⟩
  have R3 : ∀ g, n g → n2 g := fun g hn => (r3 g).2 (.inl hn)
  obtain ⟨hfenc, hfout, hout0, hini0⟩ := hC xx hpre
  obtain ⟨gs, Sy, hy, mu, e1, e2, e3, e4, e5, e6⟩ := B2s (x := x) (sh := c.sh) H1 H3 R1 R2 R3 (fun i _ _ _ => hgh i) A hfenc hq 0 0
  simp only [Nat.zero_add, Nat.sub_zero] at e1 e2 e4
  have hHand : A99 h2 gs hy := ⟨fun j r hr => by
      obtain ⟨_, g, p, h3, h4⟩ := e2.of j r hr
      exact ⟨g, p, by simpa using h3, h4⟩, fun j g p hj => by
      obtain ⟨s, xs, h3, h4⟩ := e2.own j g p hj
      exact ⟨s, xs, h3, by simpa using h4⟩, fun j j' g p p' hj hj' => e3 j j' g p p' hj hj'⟩
  have hfree : ∀ j r, A4 hy j = some r → r.free := (e1 _ (B5o hfenc hini0)).1
  have HE := H3.enter (sh := c.sh) hHand hfree
  have hrsn := A.rs_known
  have hrs : ∀ g, g ∈ rs → ∀ (j : Nat) (p : Bj), gs[j]? ≠ some (g, p) := by
    intro g hgr j p hj
    rcases e2.src j g p hj with ⟨m, _, rfl, _⟩ | hq'
    · exact hgh m (hrsn _ hgr)
    · exact B1b hmt g hgr (e5 g p hq').2
  have SE : An (F2 c.sh x w ρ3 gs) w hy (fun j => j < gs.length) (Ca ρ3 gs) Sy us.toArray := by
    intro D s hD
    obtain ⟨_, b2, u, b3, b4⟩ := e6 gs hy (fun t gp ht => by simpa using ht) (fun j r hr => hr) hrs (fun j => j < gs.length) D s hD
    simp only [Nat.sub_zero] at b3
    have : us.toArray.getD D undef = u := by simp [Array.getD_eq_getD_getElem?, b3]
    rw [this]
    exact ⟨fun _ => b4, fun hf => by rw [b2] at hf; cases hf⟩
  have hout := hout0
  have hini := hini0
  obtain ⟨hkle, hshape, hcon⟩ := e1 _ (B2p hini)
  simp only [Nat.zero_add] at hkle
  obtain ⟨v, os, hk, hgood, hos, hvr, hvf, hcall⟩ := hcon (F2 c.sh x w ρ3 gs) w us.toArray (Ca ρ3 gs) rfl rfl rfl rfl (H3.gok (hF f c hEf).2) (by simpa using A.len) HE SE id (Nat.le_trans hkle hcount) _ hk
  have hnn : ∀ {g}, Do id g → ¬ n g := fun {g} hgn hn => hid g hgn.1 hgn.2 hn
  have hnn2 : ∀ {g}, Do id g → ¬ n2 g := fun {g} hgn hn => by
    rcases (r3 g).1 hn with h | ⟨i, _, rfl⟩
    · exact hnn hgn h
    · have := hgn.2; omega
  have hosn : ∀ {g}, ¬ Do id g → A4 os g = none := fun {g} hng => by
    cases hl : A4 os g with
    | none => rfl
    | some r => exact absurd (hos g r hl).1 hng
  have hmuk : ∀ j, j ∈ mu → j < gs.length := fun j hj => by
    obtain ⟨t, ht⟩ := List.getElem?_of_mem hj
    obtain ⟨g, p, _, _, h5⟩ := e4.2 t j ht
    rcases Nat.lt_or_ge j gs.length with h | h
    · exact h
    · rw [List.getElem?_eq_none h] at h5; cases h5
  have houtn : ∀ {g}, Do id g → A4 (Bv mu (c.out xx)) g = none := fun {g} hgn => Ph fun hm => by
    have := hmuk g hm
    have := hgn.1
    omega
  have hold : ∀ {g}, n g → A4 h2 g = A4 h1 g := fun hn => (R2 _ hn).1
  have hn1 : ∀ {g}, ¬ n g → A4 h1 g = none := fun {g} hn => by
    cases hl : A4 h1 g with
    | none => rfl
    | some r => exact absurd (H1.ids g r hl) hn
  have hslots1 : ∀ d s, A4 S1 d = some s → Cn s.c → Db (fun g _ => n g) s.v := fun d s hd ht => ((hs1 d s hd).1 ht).names H1.ids H1.kn
  have plain : qs = [] → ∀ {Sn : Ac} {hn : Af}, Sn = B4 S1 d g v → hn = os ++ h1 → K Sn hn → ∃ S' h', K S' h' ∧ Q9 P f us.toArray w fun u w' => Sts x N S' h' (Jq n id) (a.put d u) w' := by
    rintro rfl Sn hn rfl rfl hK
    have hmu : mu = [] := List.eq_nil_of_length_eq_zero (by simpa using e4.1)
    subst hmu
    have hoE : Bv [] (c.out xx) = [] := by cases c.out xx <;> rfl
    refine ⟨_, _, hK, hcall.mono fun u w' ⟨R', wr', ρf, q1, q2, q3⟩ => ?_⟩
    rw [hoE, List.nil_append] at q2 q3
    have G : A6k c.sh n2 (fun g => n2 g ∨ Do id g) x.k h2 os (os ++ h1) gs (fun g => if Do id g then .new else if n g then .old else .gone) := by
      refine ⟨fun g => ?_, fun g hgo => ?_, fun g hgn => ?_, fun g j p hgw => ?_, fun g hgg => ?_, fun g hn => .inl hn, fun g hgn => ?_⟩
      · rw [B6]
        by_cases h3 : Do id g
        · rw [if_pos h3]
          simp only
          cases A4 os g with
          | some r => rfl
          | none => exact hn1 (hnn h3)
        · rw [if_neg h3, hosn h3]
          by_cases h4 : n g
          · rw [if_pos h4]; exact (hold h4).symm
          · rw [if_neg h4]; exact hn1 h4
      · by_cases h3 : Do id g
        · simp [h3] at hgo
        · by_cases h4 : n g
          · intro j p hj
            rcases e2.src j g p hj with ⟨m, _, rfl, _⟩ | hq'
            · exact hgh m h4
            · cases hq'
          · simp [h3, h4] at hgo
      · have h3 : Do id g := by
          by_cases h3 : Do id g
          · exact h3
          · by_cases h4 : n g <;> simp [h3, h4] at hgn
        exact ⟨hnn2 h3, by have := h3.1; omega, fun hsh r hr => (hos g r hr).2.1 hsh, fun r hr => (hos g r hr).2.2⟩
      · by_cases h3 : Do id g
        · simp [h3] at hgw
        · by_cases h4 : n g <;> simp [h3, h4] at hgw
      · intro hlt
        have h4 := H1.kn g hlt
        have h3 : ¬ Do id g := fun h => hnn h h4
        simp [h3, h4] at hgg
      · by_cases h3 : Do id g
        · exact .inr h3
        · by_cases h4 : n g <;> simp [h3, h4] at hgn
    refine A6g (x := x) (n := n) (id := id) (S := S1) (S' := S1) (src := fun g => if Do id g then .new else if n g then .old else .gone) hN hdf hd hg H3 hHand S3 q1 q2 G q3 (hgood.mono fun g _ hn => by simp [hn]) hvr hvf
      (fun d s hd => ⟨s, hd, rfl, .inl rfl, fun ht => (hslots1 d s hd ht).mono fun g p hn => fun j q hw => by
        have h3 : ¬ Do id g := fun h => hnn h hn
        simp [h3, hn] at hw⟩) (fun g r hr => ?_) (fun g hlt => .inl (H1.kn g hlt)) (hgood.mono fun g _ hn => .inr hn) (fun d s hd ht => (hslots1 d s hd ht).mono fun g _ hn => .inl hn)
    rw [B6] at hr
    cases ho : A4 os g with
    | some r' => exact .inr (hos g r' ho).1
    | none => rw [ho] at hr; exact .inl (H1.ids g r hr)
  cases hsc : c.sc with
  | true =>
    simp only [hsc] at hk
    cases ha : I1 c.ms with
    | false => simp only [ha] at hk
    | true =>
      simp only [ha] at hk
      match os, hk, plain with
      | [], hk, plain => exact plain (A.rd_qs ha) rfl rfl hk
      | _ :: _, hk, _ => exact hk.elim
  | false =>
    simp only [hsc] at hk
    match hqs : qs, hk with
    | _ :: _ :: _, hk => exact hk.elim
    | [], hk =>
      cases ho : c.out xx with
      | nil => rw [ho] at hk; exact plain rfl rfl rfl hk
      | cons y ys => rw [ho] at hk; exact hk.elim
    | [(gm, p)], hk =>
      cases ho : c.out xx with
      | nil => rw [ho] at hk; exact hk.elim
      | cons y ys =>
        cases ys with
        | cons y2 ys => rw [ho] at hk; exact hk.elim
        | nil =>
          rw [ho] at hk hout hshape hcall hfout
          have hngm := (e5 gm p (by simp)).1
          obtain ⟨jm, hmu⟩ : ∃ jm, mu = [jm] := by
            match mu, e4.1 with
            | [jm], _ => exact ⟨jm, rfl⟩
          subst hmu
          obtain ⟨gm', p', hq1, _, hq2⟩ := e4.2 0 jm rfl
          simp only [List.getElem?_cons_zero, Option.some.injEq, Prod.mk.injEq] at hq1
          obtain ⟨rfl, rfl⟩ := hq1
          obtain ⟨⟨s, xs, zs, hs1', hs2', hs3'⟩, _⟩ := hshape
          subst hs2'
          obtain ⟨s', xs', ho1, ho2⟩ := e2.own jm gm p hq2
          simp only [Nat.zero_add] at ho2
          rw [hs1'] at ho2
          simp only [Option.some.injEq, AV.own.injEq] at ho2
          obtain ⟨rfl, rfl⟩ := ho2
          obtain ⟨rt, hrt, _⟩ := Bz ho1
          have hrt1 : A4 h1 gm = some rt := by rw [← hold hngm]; exact hrt
          have hjk := hmuk jm (by simp)
          have hgm3 : ¬ Do id gm := fun h => hnn h hngm
          refine ⟨_, _, hk, hcall.mono fun u w' ⟨R', wr', ρf, q1, q2, q3⟩ => ?_⟩
          have G : A6k c.sh n2 (fun g => n2 g ∨ Do id g) x.k h2 (Bv [jm] [.own s zs] ++ os) (os ++ hput h1 gm p (.own s zs)) gs (fun g => if Do id g then .new else if g = gm then .wri jm p else if n g then .old else .gone) := by
            refine ⟨fun g => ?_, fun g hgo => ?_, fun g hgn => ?_, fun g j q hgw => ?_, fun g hgg => ?_, fun g hn => .inl hn, fun g hgn => ?_⟩
            · rw [B6, A7j hrt1]
              by_cases h3 : Do id g
              · rw [if_pos h3]
                simp only [Bv, List.cons_append, List.nil_append]
                rw [A9, if_neg (show ¬ jm = g from fun e => by have := h3.1; omega), if_neg (show ¬ gm = g from fun e => hgm3 (e ▸ h3))]
                cases A4 os g with
                | some r => rfl
                | none => exact hn1 (hnn h3)
              · rw [if_neg h3, hosn h3]
                by_cases h5 : g = gm
                · subst h5
                  rw [if_pos rfl]
                  simp only [hrt, if_true, Bv, List.cons_append, List.nil_append]
                  rw [A9, if_pos rfl]
                · rw [if_neg h5]
                  simp only [if_neg (Ne.symm h5)]
                  by_cases h4 : n g
                  · rw [if_pos h4]; exact (hold h4).symm
                  · rw [if_neg h4]; exact hn1 h4
            · by_cases h3 : Do id g
              · simp [h3] at hgo
              · by_cases h5 : g = gm
                · subst h5; simp [h3] at hgo
                · by_cases h4 : n g
                  · intro j q hj
                    rcases e2.src j g q hj with ⟨m, _, rfl, _⟩ | hq'
                    · exact hgh m h4
                    · simp only [List.mem_singleton, Prod.mk.injEq] at hq'
                      exact h5 hq'.1
                  · simp [h3, h5, h4] at hgo
            · have h3 : Do id g := by
                by_cases h3 : Do id g
                · exact h3
                · by_cases h5 : g = gm
                  · subst h5; simp [h3] at hgn
                  · by_cases h4 : n g <;> simp [h3, h5, h4] at hgn
              have hlook : ∀ r, A4 (Bv [jm] [.own s zs] ++ os) g = some r → A4 os g = some r := fun r hr => by
                simp only [Bv, List.cons_append, List.nil_append] at hr
                rw [A9, if_neg (show ¬ jm = g from fun e => by have := h3.1; omega)] at hr
                exact hr
              exact ⟨hnn2 h3, by have := h3.1; omega, fun hsh r hr => (hos g r (hlook r hr)).2.1 hsh, fun r hr => (hos g r (hlook r hr)).2.2⟩
            · by_cases h3 : Do id g
              · simp [h3] at hgw
              · by_cases h5 : g = gm
                · subst h5
                  simp only [h3, if_false, if_true, Src.wri.injEq] at hgw
                  obtain ⟨rfl, rfl⟩ := hgw
                  exact ⟨hq2, s, xs, zs, ho1, by simp [Bv, A9], hs3', fun hsh => (hout hsh).1, hfout.1⟩
                · by_cases h4 : n g <;> simp [h3, h5, h4] at hgw
            · intro hlt
              have h4 := H1.kn g hlt
              have h3 : ¬ Do id g := fun h => hnn h h4
              by_cases h5 : g = gm
              · subst h5; simp [h3] at hgg
              · simp [h3, h5, h4] at hgg
            · by_cases h3 : Do id g
              · exact .inr h3
              · by_cases h5 : g = gm
                · subst h5; simp [h3] at hgn
                · by_cases h4 : n g <;> simp [h3, h5, h4] at hgn
          refine A6g (x := x) (n := n) (id := id) (S := S1) (S' := voids gm S1) (src := fun g => if Do id g then .new else if g = gm then .wri jm p else if n g then .old else .gone) hN hdf hd hg H3 hHand S3 q1 q2 G q3 (hgood.mono fun g _ hn => by simp [hn]) hvr hvf
            (fun d s hd => ?_) (fun g r hr => ?_) (fun g hlt => .inl (H1.kn g hlt)) (hgood.mono fun g _ hn => .inr hn) (fun d s hd ht => ?_)
          · obtain ⟨s0, v1, v2, v3, v4⟩ := S4 d s hd
            refine ⟨s0, v1, v2, v3, fun ht => ?_⟩
            have hnm : Db (fun g _ => n g) s.v := by
              rcases v3 with v3 | v3
              · rw [v3]; exact hslots1 d s0 v1 (v2 ▸ ht)
              · rw [v3]; exact .undef
            refine ((v4 ht).and hnm).mono fun g q hgq => fun j q' hw => ?_
            obtain ⟨hg1, hg2⟩ := hgq
            rcases hg1 with hg1 | hg1
            · have h3 : ¬ Do id g := fun h => hnn h hg2
              simp [h3, hg1, hg2] at hw
            · exact hg1
          · rw [B6] at hr
            cases ho' : A4 os g with
            | some r' => exact .inr (hos g r' ho').1
            | none =>
              rw [ho', A7j hrt1] at hr
              by_cases h5 : gm = g
              · subst h5; exact .inl hngm
              · simp only [if_neg h5] at hr; exact .inl (H1.ids g r hr)
          · obtain ⟨s0, v1, v2, v3, v4⟩ := S4 d s hd
            rcases v3 with v3 | v3
            · rw [v3]; exact (hslots1 d s0 v1 (v2 ▸ ht)).mono fun g _ hn => .inl hn
            · rw [v3]; exact .undef
end
end Go.GH


set_option linter.unusedVariables false
set_option linter.unusedSimpArgs false
namespace Go.GH
open Go
section
variable {P : Program} {E : Env} {x : Ctx} {w w' : World} {h : Af} {n n' : Nat → Prop} {ρ : Option Nat → Ai} {id : Nat}
theorem Stt.sts {N : Nat} {S : Ac} {a : Act} (hst : Stt x N S h n a w) : Sts x N S h n a w := ⟨x.R, x.wr, fun _ h => h, hst⟩
theorem L9.wp {N : Nat} {o : Oper} {a : Act} {K : Ac → Af → Prop} {Q : Exit → Act → World → Prop} (hc : L9 P x N o a w n' K) : ∃ S' h', K S' h' ∧ o.wp P a w (fun a' w' => Sts x N S' h' n' a' w') Q := by
  obtain ⟨S', h', hK, w', ⟨u, hrun, hst⟩ | ⟨hrun, hst⟩⟩ := hc
  · exact ⟨S', h', hK, B06 hrun hst.sts⟩
  · refine ⟨S', h', hK, ?_⟩
    unfold Oper.wp
    rw [hrun]
    exact hst.sts
theorem B3a {o : Oper} {a : Act} {f : Nat} {args : Array Value} {next : Act → World → Prop} {Q : Exit → Act → World → Prop} (hrun : (execOp a.eval o).run P w = (callFunc f args).run P w) (hc : Q9 P f args w fun u w' => next (a.put o.dst u) w') :
    o.wp P a w next Q := by
  unfold Oper.wp
  rw [hrun]
  rcases hc with ⟨h1, h2⟩ | ⟨u, w', h1, h2⟩ | ⟨row, as, w1, h1, h2⟩
  · rw [h1]
    exact h2.mono fun e w' ⟨u, he, hu⟩ => by subst he; exact hu
  · rw [h1]; exact h2
  · rw [h1]; exact h2
theorem A81 (hT : TOk P E) (hF : FE P E x) {N : Nat} {S : Ac} {a : Act} (H : Bk x w h n [] (fun _ => undef) ρ) (hs : An x w h n ρ S a.tmps) (hN : a.tmps.size = N) (hdf : a.defers = [])
    (hbd : ∃ B, ∀ g, n g → g < B) (hid : Pq n id) {g : Option Bool} (hg : Cn g) {o : Oper} (hgv : g ≠ none → C7 E o = true) (hd : ∀ k, o.dst = some k → k < N) {K : Ac → Af → Prop} {Q : Exit → Act → World → Prop}
    (hk : At E id o g S h K) : ∃ S' h', K S' h' ∧ o.wp P a w (fun a' w' => Sts x N S' h' (Jq n id) a' w') Q := by
  by_cases hp : Zi E o = true
  · obtain ⟨v, u, h1, h2, h3⟩ := B2f hT H hs hg hp hk
    exact ⟨_, _, h1, B06 h2 (Stt.put H hs hN hdf hd (fun _ => h3) (fun hg' => absurd hg' (Qy hg)) A0h).sts⟩
  · by_cases hcall : ∃ c f, o.op = .call c ∧ c.callee = .value f
    · obtain ⟨c, f, ho, hc⟩ := hcall
      obtain ⟨dst, op, type, pos, after, guard⟩ := o
      simp only at ho
      subst ho
      simp only [At, hc] at hk
      obtain ⟨fv, hk1, hfv⟩ := C4 hs hg hk
      obtain ⟨vs, hk2, hl, hvs⟩ := Jh hs hg hk1
      cases fv <;> try exact hk2.elim
      rename_i f' caps
      revert hfv
      generalize e0 : a.eval f = uf
      intro hfv
      cases hfv with
      | cell hr => cases hr
      | fn hcl hcc =>
        rename_i us
        obtain ⟨S', h', hK, hcl2⟩ := B0x (P := P) (us := c.args.toList.map a.eval ++ us.toList) hF H hs hN hdf hbd hid hg (d := dst) hd (by simp [hl, hcl]) (fun i v u hv hu => by
          by_cases hi : i < vs.length
          · rw [List.getElem?_append_left hi] at hv
            rw [List.getElem?_append_left (by simp only [List.length_map]; omega), List.getElem?_map] at hu
            cases hy : c.args.toList[i]? with
            | none => rw [hy] at hu; cases hu
            | some y =>
              rw [hy] at hu
              simp only [Option.map_some, Option.some.injEq] at hu
              subst hu
              exact hvs i v y hv hy
          · rw [List.getElem?_append_right (by omega)] at hv
            rw [List.getElem?_append_right (by simp only [List.length_map]; omega)] at hu
            have := hcc _ v hv
            have e : us.getD (i - vs.length) undef = u := by
              have h9 : us[i - vs.length]? = some u := by
                rw [← hu]
                simp [hl]
              simp [Array.getD_eq_getD_getElem?, h9]
            rwa [e] at this) hk2
        refine ⟨S', h', hK, B3a (f := f') ?_ hcl2⟩
        have hargs : (c.args.toList.map a.eval ++ us.toList).toArray = c.args.map a.eval ++ us := by
          apply Array.ext'
          simp
        rw [hargs]
        simp only [execOp, resolve, hc, e0, Deferred.ofValue, Sem.run_bind, Sem.run_pure, Result.andThen_ok, invoke]
        simp
    · have hvo : C7 E o = false := by
        cases hv : C7 E o with
        | false => rfl
        | true =>
          exfalso
          apply hp
          unfold Zi
          cases ho : o.op <;> simp only [ho] <;> try exact hv
          rename_i c
          cases hcc : c.callee <;> simp only [hcc]
          · exact absurd ⟨c, _, ho, hcc⟩ hcall
          · unfold C7 at hv
            simp only [ho, hcc] at hv
            cases hv
          · exact hv
      have hgn : g = none := by
        cases g with
        | none => rfl
        | some b => have := hgv (by simp); rw [hvo] at this; cases this
      subst hgn
      cases ho : o.op with
      | alloc t => exact (B3u hT H hs hN hdf hid hd ho hk).wp
      | box t y => exact (B64 hT H hs hN hdf hid hd ho hk).wp
      | store t y z => exact (B2e hT H hs hN hdf hd ho hk).wp
      | convert s t y => exact (A8n hT H hs hN hdf hid hd ho hvo hk).wp
      | buildSlice t m parts => exact (Z4 hT H hs hN hdf hid hd ho hk).wp
      | makeSlice t l c => exact (A1i hT H hs hN hdf hid hd ho hk).wp
      | call c =>
        cases hcc : c.callee with
        | value f => exact absurd ⟨c, f, ho, hcc⟩ hcall
        | invoke r m => simp only [At, ho, hcc] at hk
        | builtin b =>
          by_cases hb : b = .append
          · subst hb
            exact (B1l hT H hs hN hdf hid hd ho hcc hk).wp
          · exfalso
            simp only [At, ho, hcc] at hk
            obtain ⟨vs, hk2, _, _⟩ := Jh hs (g := none) trivial hk
            simp only [C7, ho, hcc] at hvo
            cases b <;> first
              | exact absurd rfl hb
              | (cases hvo; done)
              | (rcases vs with _ | ⟨y, _ | ⟨z, _ | ⟨q, r⟩⟩⟩ <;> first
                  | exact hk2.elim
                  | (cases y <;> (try exact hk2.elim) <;> cases z <;> exact hk2.elim))
      | _ =>
        exfalso
        first
          | (simp only [At, ho] at hk; done)
          | (simp only [C7, ho] at hvo; cases hvo; done)
          | (simp only [At, ho] at hk; exact hk)
end
end Go.GH


set_option linter.unusedVariables false
set_option linter.unusedSimpArgs false
namespace Go.GH
open Go
def HAg (l : List Nat) (h h' : Af) : Prop := ∀ g, g ∈ l → A4 h' g = A4 h g
theorem HAg.mono {l l' : List Nat} {h h' : Af} (ha : HAg l h h') (hs : ∀ g, g ∈ l' → g ∈ l) : HAg l' h h' := fun g hg => ha g (hs g hg)
theorem HAg.hget {l : List Nat} {h h' : Af} (ha : HAg l h h') {g : Nat} (hg : g ∈ l) (p : Bj) : hget h' g p = hget h g p := by unfold Go.GH.hget; rw [ha g hg]
def OAg (ys : List Operand) (S S' : Ac) : Prop := ∀ d, .tmp d ∈ ys → A4 S' d = A4 S d
theorem E9 {a b : Nat} {K : Prop} (h : a ≤ b) (hk : K) : leN a b K := by
  unfold leN; rw [Nat.ble_eq_true_of_le h]; exact hk
theorem I4 {a b : Nat} {K : Prop} (h : a = b) (hk : K) : eqN a b K := by
  subst h; unfold eqN; rw [Nat.beq_refl]; exact hk
section
variable {P : Program} {E : Env} {x : Ctx} {w w' : World} {h : Af} {n n' : Nat → Prop} {ρ : Option Nat → Ai} {id : Nat} {S : Ac} {g : Option Bool}
theorem Cf {t : Nat} {ty : Ty} {K : Ty → Prop} (h : E.T t = some ty) (hk : K ty) : J6 E t K := by
  unfold J6; rw [h]; exact hk
theorem Hc {g : Nat} {p : Bj} {s : Nat} {xs : List (List AV)} {K : Nat → List (List AV) → Prop} (hg : hget h g p = some (.own s xs)) (hk : K s xs) : arr h g p K := by
  unfold arr; rw [hg]; exact hk
theorem Vc {g : Nat} {p : Bj} {s : Nat} {xs : List (List AV)} {K : Prop} (hg : hget h g p = some (.own s xs)) (hk : K) : live h g p K := by
  unfold live; rw [hg]; exact hk
theorem Ss {v : AV} {i : Nat} (h : i ∈ v.ids1) : i ∈ v.ids := by
  cases v <;> first | exact h | cases h
theorem Pz {i : Nat} : ∀ {cs : List AV}, i ∈ F6 cs → i ∈ Kc cs
  | [], h => h
  | c :: cs, h => by
    simp only [F6, Kc, List.mem_append] at h ⊢
    exact h.imp Ss Pz
theorem B62 {v : AV} {i : Nat} (h : i ∈ v.ids) : i ∈ v.idsU := by
  have h2 : i ∈ v.ids2 := by cases v <;> first | exact h | exact Pz h | cases h
  unfold AV.idsU
  split
  · cases h
  · split
    · exact List.mem_cons_of_mem _ h2
    · exact h2
theorem C0 {y : Operand} {k : AV → Prop} (hk : val S g y k) : ∃ v, k v ∧ (∀ i, i ∈ v.ids → i ∈ Of S y) ∧ ∀ S' k', OAg [y] S S' → k' v → val S' g y k' := by
  cases y with
  | const v =>
    refine ⟨_, hk, ?_, fun _ _ _ h => h⟩
    intro i hi
    exfalso
    have : (v.toAV).ids = [] := by
      unfold Value.toAV
      repeat' split
      all_goals rfl
    rw [this] at hi; cases hi
  | func f => exact ⟨_, hk, (by intro i hi; cases hi), fun _ _ _ h => h⟩
  | global q => exact hk.elim
  | tmp d =>
    simp only [val] at hk
    cases hl : A4 S d with
    | none => rw [hl] at hk; exact hk.elim
    | some s =>
      rw [hl] at hk
      obtain ⟨c, v⟩ := s
      have hi : ∀ i, i ∈ v.ids → i ∈ Of S (.tmp d) := by intro i hi; simp only [Of, hl]; exact B62 hi
      cases c with
      | none => exact ⟨v, hk, hi, fun S' k' ha h => by simp only [val]; rw [ha d (by simp), hl]; exact h⟩
      | some b => exact ⟨v, hk.2, hi, fun S' k' ha h => by simp only [val]; rw [ha d (by simp), hl]; exact ⟨hk.1, h⟩⟩
def Ek : List AV → List Nat
  | [] => []
  | v :: r => v.ids ++ Ek r
theorem B1n : ∀ (cs : List AV), Ek cs = Kc cs
  | [] => rfl
  | c :: cs => by simp only [Ek, Kc, B1n cs]
theorem Y5 {y : Operand} {k : AV → Prop} (hk : val S g y k) (hno : ∀ v, k v → ∃ f cs, v = .fn f cs) :
    ∃ f cs, k (.fn f cs) ∧ (∀ i, i ∈ Ek cs → i ∈ Of S y) ∧ (∀ f2, y = .func f2 → f = f2 ∧ cs = []) ∧ ∀ S' k', OAg [y] S S' → k' (.fn f cs) → val S' g y k' := by
  cases y with
  | const v =>
    obtain ⟨f, cs, e⟩ := hno _ hk
    have hcs : cs = [] := by
      unfold Value.toAV at e
      repeat' split at e
      all_goals first | (cases e; done) | (simp only [AV.fn.injEq] at e; exact e.2.symm)
    subst hcs
    have hk' : k v.toAV := hk
    rw [e] at hk'
    exact ⟨f, [], hk', by simp [Ek], by simp, fun S' k' _ h => by simp only [val]; rw [e]; exact h⟩
  | func f => exact ⟨f, [], hk, by simp [Ek], by simp, fun _ _ _ h => h⟩
  | global q => exact hk.elim
  | tmp d =>
    simp only [val] at hk
    cases hl : A4 S d with
    | none => rw [hl] at hk; exact hk.elim
    | some s =>
      rw [hl] at hk
      obtain ⟨c, v⟩ := s
      have hv : ∃ f cs, v = .fn f cs := by
        cases c with
        | none => exact hno _ hk
        | some b => exact hno _ hk.2
      obtain ⟨f, cs, rfl⟩ := hv
      have hi : ∀ i, i ∈ Ek cs → i ∈ Of S (.tmp d) := by intro i hi; rw [B1n] at hi; simp only [Of, hl, AV.idsU]; split <;> first | exact List.mem_cons_of_mem _ hi | exact hi
      cases c with
      | none => exact ⟨f, cs, hk, hi, by simp, fun S' k' ha h => by simp only [val]; rw [ha d (by simp), hl]; exact h⟩
      | some b => exact ⟨f, cs, hk.2, hi, by simp, fun S' k' ha h => by simp only [val]; rw [ha d (by simp), hl]; exact ⟨hk.1, h⟩⟩
theorem OAg.head {y : Operand} {ys : List Operand} {S S' : Ac} (h : OAg (y :: ys) S S') : OAg [y] S S' := fun d hd => h d (by simp at hd; simp [hd])
theorem OAg.tail {y : Operand} {ys : List Operand} {S S' : Ac} (h : OAg (y :: ys) S S') : OAg ys S S' := fun d hd => h d (by simp [hd])
theorem OAg.mono {zs ys : List Operand} {S S' : Ac} (h : OAg ys S S') (hz : ∀ z, z ∈ zs → z ∈ ys) : OAg zs S S' := fun d hd => h d (hz _ hd)
theorem OAg.one {z : Operand} {ys : List Operand} {S S' : Ac} (h : OAg ys S S') (hz : z ∈ ys) : OAg [z] S S' := h.mono (by simpa using hz)
theorem A14 {y : Operand} {i : Nat} : ∀ {ys : List Operand}, y ∈ ys → i ∈ Of S y → i ∈ Mm S ys
  | [], hy, _ => by cases hy
  | z :: ys, hy, hi => by
    simp only [Mm, List.mem_append]
    rcases List.mem_cons.1 hy with rfl | hy
    · exact .inl hi
    · exact .inr (A14 hy hi)
theorem Ga : ∀ {ys : List Operand} {k : List AV → Prop}, Wj S g ys k → ∃ vs, k vs ∧ (∀ i, i ∈ Ek vs → i ∈ Mm S ys) ∧ ∀ S' k', OAg ys S S' → k' vs → Wj S' g ys k'
  | [], k, hk => ⟨[], hk, fun _ h => h, fun _ _ _ h => h⟩
  | y :: ys, k, hk => by
    obtain ⟨v, h1, i1, t1⟩ := C0 hk
    obtain ⟨vs, h2, i2, t2⟩ := Ga h1
    refine ⟨v :: vs, h2, fun i hi => ?_, fun S' k' ha hk' => t1 _ _ ha.head (t2 _ _ ha.tail hk')⟩
    simp only [Ek, Mm, List.mem_append] at hi ⊢
    exact hi.imp (i1 i) (i2 i)
theorem Wp {y : Option Operand} {k : Option AV → Prop} (hk : B33 S g y k) : ∃ v, k v ∧ ∀ S' k', OAg y.toList S S' → k' v → B33 S' g y k' := by
  cases y with
  | none => exact ⟨none, hk, fun _ _ _ h => h⟩
  | some y =>
    have hk' : val S g y fun v => k (some v) := hk
    obtain ⟨v, h1, _, t1⟩ := C0 hk'
    exact ⟨some v, h1, fun S' k' ha h => t1 S' (fun v => k' (some v)) ha h⟩
theorem B1v {gd : Option Bool} {ty : Ty} {a : AV} {K : AV → Prop} (hk : loadAt gd ty h a K) : ∃ v, K v ∧ ∀ h' K', HAg a.ids h h' → K' v → loadAt gd ty h' a K' := by
  cases a <;> simp only [loadAt] at hk
  case bx g f =>
    obtain ⟨s, xs, hg, hk⟩ := Bo hk
    match xs, hk, hg with
    | [], hk, _ => exact hk.elim
    | _ :: _ :: _, hk, _ => exact hk.elim
    | [r], hk, hg =>
      obtain ⟨hl, hk⟩ := Bb hk
      cases hq : ty.k.agg <;> rw [hq] at hk <;> refine ⟨_, hk, fun h' K' ha hk' => ?_⟩ <;> simp only [loadAt] <;>
        exact Hc ((ha.hget (by simp [AV.ids, AV.ids1]) _).trans hg) (E9 hl (by rw [hq]; exact hk'))
  case ptr g p i f =>
    obtain ⟨s, xs, hg, hk⟩ := Bo hk
    obtain ⟨hl, r, hr, hk⟩ := Bb hk
    cases hq : ty.k.agg <;> rw [hq] at hk <;> refine ⟨_, hk, fun h' K' ha hk' => ?_⟩ <;> simp only [loadAt] <;>
      exact Hc ((ha.hget (by simp [AV.ids, AV.ids1]) _).trans hg) (E9 hl ⟨r, hr, by rw [hq]; exact hk'⟩)
  case pin cs =>
    obtain ⟨hl, hk⟩ := Bb hk
    cases hq : ty.k.agg <;> rw [hq] at hk <;> refine ⟨_, hk, fun h' K' ha hk' => ?_⟩ <;> simp only [loadAt] <;>
      exact E9 hl (by rw [hq]; exact hk')
theorem B2i {op : BinOp} {k : IntKind} {a b : Int} {K : AV → Prop} (hk : A6b op k a b K) : ∃ v, K v ∧ ∀ K' : AV → Prop, K' v → A6b op k a b K' := by
  cases op <;> simp only [A6b] at hk <;> first | exact ⟨_, Gc hk, fun K' h => A70 h⟩ | exact ⟨_, Gc hk.2, fun K' h => ⟨hk.1, A70 h⟩⟩ | exact ⟨_, hk, fun K' h => h⟩
theorem A9u {op : BinOp} {k : IntKind} {a b : Int} {K : AV → Prop} (hk : Tl op k a b K) : ∃ v, K v ∧ ∀ K' : AV → Prop, K' v → Tl op k a b K' := by
  cases op <;> simp only [Tl] at hk <;> exact ⟨_, Gc hk.2, fun K' h => ⟨hk.1, A70 h⟩⟩
theorem B3d {op : BinOp} {a b : List UInt8} {K : AV → Prop} (hk : A7b op a b K) : ∃ v, K v ∧ ∀ K' : AV → Prop, K' v → A7b op a b K' := by
  cases op <;> simp only [A7b] at hk <;> first | exact ⟨_, hk, fun K' h => h⟩ | exact ⟨_, hk.2, fun K' h => ⟨hk.1, h⟩⟩
theorem B5c {k : TK} {a b : AV} {K : Bool → Prop} (hk : B31 k a b K) : ∃ v, K v ∧ ∀ K' : Bool → Prop, K' v → B31 k a b K' := by
  cases k <;> simp only [B31] at hk
  case int k0 =>
    cases a <;> cases b <;> simp only at hk
    rename_i k m k' m'
    cases hd : decide (k = k') <;> rw [hd] at hk
    · exact hk.elim
    · exact ⟨_, hk, fun K' h => by simp only [B31]; rw [hd]; exact h⟩
  case str => cases a <;> cases b <;> simp only at hk; exact ⟨_, hk, fun K' h => h⟩
  case bool => cases a <;> cases b <;> simp only at hk; exact ⟨_, hk, fun K' h => h⟩
theorem U8 : ∀ {fs : List (Nat × Nat)} {k : Nat} {as bs : List AV} {K : Bool → Prop}, Hq E k fs as bs K → ∃ v, K v ∧ ∀ K' : Bool → Prop, K' v → Hq E k fs as bs K'
  | [], k, as, bs, K, hk => by cases as <;> cases bs <;> simp only [Hq] at hk; exact ⟨_, hk, fun K' h => h⟩
  | (o, u) :: fs, k, as, bs, K, hk => by
    cases as with
    | nil => simp only [Hq] at hk
    | cons a as =>
      cases bs with
      | nil => simp only [Hq] at hk
      | cons b bs =>
        simp only [Hq] at hk
        obtain ⟨e1, hk⟩ := C1 hk
        obtain ⟨ty, e2, hk⟩ := B1 hk
        obtain ⟨r, hk, t1⟩ := B5c hk
        obtain ⟨r2, hk, t2⟩ := U8 hk
        exact ⟨_, hk, fun K' h => by simp only [Hq]; exact I4 e1 (Cf e2 (t1 _ (t2 (fun y => K' (r && y)) h)))⟩
theorem B34 {a : AV} {K : Bool → Prop} (hk : A33 h a K) : ∃ v, K v ∧ ∀ h' (K' : Bool → Prop), HAg a.ids h h' → K' v → A33 h' a K' := by
  cases a <;> simp only [A33] at hk
  case nils => exact ⟨_, hk, fun _ _ _ h => h⟩
  case rd => exact ⟨_, hk.2, fun _ _ _ h => ⟨hk.1, h⟩⟩
  case view g p o l =>
    cases hg : hget h g p with
    | none => rw [hg] at hk; exact hk.elim
    | some c =>
      rw [hg] at hk
      cases c <;> first
        | exact hk.elim
        | (refine ⟨_, hk.2, fun h' K' ha h => ?_⟩
           simp only [A33]
           rw [ha.hget (by simp [AV.ids, AV.ids1]), hg]
           exact ⟨hk.1, h⟩)
theorem A6d {t : Nat} {c : Bool} {a b : AV} {K : Bool → Prop} (hk : A9g E t h c a b K) : ∃ v, K v ∧ ∀ h' (K' : Bool → Prop), HAg a.ids h h' → K' v → A9g E t h' c a b K' := by
  obtain ⟨ty, ht, hk⟩ := B1 hk
  cases hq : ty.k <;> rw [hq] at hk <;> simp only at hk
  case bool => cases a <;> cases b <;> simp only at hk; exact ⟨_, hk, fun h' K' _ h => Cf ht (by rw [hq]; exact h)⟩
  case struct fs =>
    cases a <;> try exact hk.elim
    cases b <;> try exact hk.elim
    obtain ⟨r, hk, t1⟩ := U8 hk
    exact ⟨_, hk, fun h' K' _ h => Cf ht (by rw [hq]; exact t1 _ h)⟩
  case slice e =>
    cases b <;> try exact hk.elim
    obtain ⟨r, hk, t1⟩ := B34 hk
    exact ⟨_, hk, fun h' K' ha h => Cf ht (by rw [hq]; exact t1 _ _ ha h)⟩
  case iface =>
    cases a <;> try exact hk.elim
    · cases b <;> try exact hk.elim
      cases c <;> first | exact hk.elim | exact ⟨_, hk, fun h' K' _ h => Cf ht (by rw [hq]; exact h)⟩
    · cases b <;> try exact hk.elim
      exact ⟨_, hk, fun h' K' _ h => Cf ht (by rw [hq]; exact h)⟩
theorem B3c {t : Nat} {c : Bool} {op : BinOp} {a b : AV} {K : AV → Prop} (hk : binOp E t h c op a b K) : ∃ v, K v ∧ ∀ h' (K' : AV → Prop), HAg a.ids h h' → K' v → binOp E t h' c op a b K' := by
  by_cases hint : (∃ k m, a = .int k m) ∧ ∃ k m, b = .int k m
  · obtain ⟨⟨k, m, rfl⟩, k', m', rfl⟩ := hint
    simp only [binOp] at hk ⊢
    cases hsh : Zl op with
    | true =>
      rw [hsh] at hk
      obtain ⟨v, h1, t1⟩ := A9u hk
      exact ⟨v, h1, fun _ K' _ h => t1 _ h⟩
    | false =>
      rw [hsh] at hk
      cases hd : decide (k = k') <;> rw [hd] at hk
      · exact hk.elim
      · obtain ⟨v, h1, t1⟩ := B2i hk
        exact ⟨v, h1, fun _ K' _ h => t1 _ h⟩
  · by_cases hstr : (∃ s, a = .str s) ∧ ∃ s, b = .str s
    · obtain ⟨⟨s, rfl⟩, s', rfl⟩ := hstr
      simp only [binOp] at hk ⊢
      obtain ⟨v, h1, t1⟩ := B3d hk
      exact ⟨v, h1, fun _ K' _ h => t1 _ h⟩
    · have conv : ∀ h K, binOp E t h c op a b K = (match (generalizing := false) op with
          | .eql => A9g E t h c a b fun b => K (.bool b)
          | .neq => A9g E t h c a b fun b => K (.bool (!b))
          | _ => False) := by
        intro h K
        unfold binOp
        split
        · exact absurd ⟨⟨_, _, rfl⟩, _, _, rfl⟩ hint
        · exact absurd ⟨⟨_, rfl⟩, _, rfl⟩ hstr
        · cases op <;> rfl
      rw [conv] at hk
      cases op <;> simp only at hk
      · obtain ⟨r, h1, t1⟩ := A6d hk
        exact ⟨_, h1, fun h' K' ha h => by rw [conv]; exact t1 _ _ ha h⟩
      · obtain ⟨r, h1, t1⟩ := A6d hk
        exact ⟨_, h1, fun h' K' ha h => by rw [conv]; exact t1 _ (fun b => K' (.bool (!b))) ha h⟩
theorem B5f {op : UnOp} {a : AV} {K : AV → Prop} (hk : unOp op a K) : ∃ v, K v ∧ ∀ K' : AV → Prop, K' v → unOp op a K' := by
  cases op <;> cases a <;> simp only [unOp] at hk <;> first | exact ⟨_, Gc hk, fun _ h => A70 h⟩ | exact ⟨_, hk, fun _ h => h⟩ | exact hk.elim
theorem Qo {ty : Ty} {a : AV} {K : AV → Prop} (hk : convert ty a K) : ∃ v, K v ∧ ∀ K' : AV → Prop, K' v → convert ty a K' := by
  unfold Go.GH.convert at hk ⊢
  cases hq : ty.k <;> rw [hq] at hk <;> cases a <;> first | exact ⟨_, Gc hk, fun _ h => A70 h⟩ | exact ⟨_, hk, fun _ h => h⟩ | exact hk.elim
theorem Sz {t f : Nat} {K : Nat → Nat → Prop} (hk : Lo E t f K) : ∃ o u, K o u ∧ ∀ K' : Nat → Nat → Prop, K' o u → Lo E t f K' := by
  obtain ⟨ty, ht, hk⟩ := B1 hk
  cases hq : ty.k <;> rw [hq] at hk <;> simp only at hk
  rename_i fs
  cases hf : fs[f]? with
  | none => rw [hf] at hk; exact hk.elim
  | some ou => obtain ⟨o, u⟩ := ou; rw [hf] at hk; exact ⟨o, u, hk, fun K' h => Cf ht (by rw [hq]; simp only; rw [hf]; exact h)⟩
theorem A7x {a : AV} {o : Nat} {K : AV → Prop} (hk : fieldAt h a o K) : ∃ v, K v ∧ ∀ h' (K' : AV → Prop), HAg a.ids h h' → K' v → fieldAt h' a o K' := by
  cases a <;> simp only [fieldAt] at hk
  · obtain ⟨_, _, e, hk⟩ := Iv hk; exact ⟨_, hk, fun h' K' ha h => Vc ((ha.hget (by simp [AV.ids, AV.ids1]) _).trans e) h⟩
  · obtain ⟨_, _, e, hk⟩ := Iv hk; exact ⟨_, hk, fun h' K' ha h => Vc ((ha.hget (by simp [AV.ids, AV.ids1]) _).trans e) h⟩
  · exact ⟨_, hk, fun _ _ _ h => h⟩
theorem A9s {ty : Ty} {o : Nat} {a : AV} {K : AV → Prop} (hk : Vm ty o a K) : ∃ v, K v ∧ ∀ K' : AV → Prop, K' v → Vm ty o a K' := by
  cases a <;> simp only [Vm] at hk ⊢
  obtain ⟨e, hk⟩ := Bb hk
  cases hq : ty.k.agg <;> rw [hq] at hk <;> exact ⟨_, hk, fun _ h => E9 e h⟩
theorem Ey {t : Nat} {K : Ty → Prop} (hk : Km E t K) : ∃ v, K v ∧ ∀ K' : Ty → Prop, K' v → Km E t K' := by
  obtain ⟨ty, ht, hk⟩ := B1 hk
  cases hq : ty.k <;> rw [hq] at hk <;> simp only at hk
  obtain ⟨te, hte, hk⟩ := B1 hk
  exact ⟨_, hk, fun K' h => Cf ht (by rw [hq]; exact Cf hte h)⟩
theorem A8s {ty : Ty} {a i : AV} {K : AV → Prop} (hk : indexAt ty h g a i K) : ∃ v, K v ∧ ∀ h' (K' : AV → Prop), HAg a.ids h h' → K' v → indexAt ty h' g a i K' := by
  cases i <;> cases a <;> simp only [indexAt] at hk
  · obtain ⟨e, r, hr, hk⟩ := C1 hk
    exact ⟨_, hk, fun h' K' _ h => by simp only [indexAt]; exact I4 e ⟨r, hr, h⟩⟩
  · obtain ⟨s, xs, hg, hk⟩ := Bo hk
    obtain ⟨e, hb, hk⟩ := C1 hk
    exact ⟨_, hk, fun h' K' ha h => by simp only [indexAt]; exact Hc ((ha.hget (by simp [AV.ids, AV.ids1]) _).trans hg) (I4 e ⟨hb, h⟩)⟩
theorem A1l {sz : Nat} {a : AV} {l u : Int} {K : AV → Prop} (hk : A6u sz h a l u K) : ∃ v, K v ∧ ∀ h' (K' : AV → Prop), HAg a.ids h h' → K' v → A6u sz h' a l u K' := by
  cases a <;> simp only [A6u] at hk
  case view =>
    obtain ⟨s, xs, hg, hk⟩ := Bo hk
    obtain ⟨e, hk⟩ := C1 hk
    exact ⟨_, hk, fun h' K' ha h => Hc ((ha.hget (by simp [AV.ids, AV.ids1]) _).trans hg) (I4 e h)⟩
  case rd => obtain ⟨e, hk⟩ := C1 hk; exact ⟨_, hk, fun h' K' ha h => I4 e h⟩
  case nils => exact ⟨_, hk, fun _ _ _ h => h⟩
  case emp => exact ⟨_, hk, fun _ _ _ h => h⟩
theorem A2h {a : AV} {K : Nat → Prop} (hk : lenOf h a K) : ∃ m, K m ∧ ∀ h' (K' : Nat → Prop), HAg a.ids h h' → K' m → lenOf h' a K' := by
  cases a <;> simp only [lenOf] at hk <;> first
    | exact ⟨_, hk, fun _ _ _ h => h⟩
    | (obtain ⟨_, _, e, hk⟩ := Iv hk; exact ⟨_, hk, fun h' K' ha h => Vc ((ha.hget (by simp [AV.ids, AV.ids1]) _).trans e) h⟩)
theorem A2m {lo : Option AV} {d : Nat} {K : Int → Prop} (hk : Xr lo d K) : ∃ m, K m ∧ ∀ K' : Int → Prop, K' m → Xr lo d K' := by
  cases lo with
  | none => exact ⟨_, hk, fun _ h => h⟩
  | some v => cases v <;> simp only [Xr] at hk ⊢; exact ⟨_, hk, fun _ h => h⟩
theorem A9d {gd : Option Bool} {t : Nat} {a : AV} {hi mx : Option AV} {m : Nat} {l u : Int} {K : AV → Prop} (hk : Vy E gd t h a hi mx m l u K) : ∃ v, K v ∧ ∀ h' (K' : AV → Prop), HAg a.ids h h' → K' v → Vy E gd t h' a hi mx m l u K' := by
  obtain ⟨ty, ht, hk⟩ := B1 hk
  cases hq : ty.k <;> rw [hq] at hk <;> simp only at hk
  · cases mx with
    | some v => exact hk.elim
    | none =>
      cases a <;> simp only at hk
      exact ⟨_, hk.2, fun h' K' _ h => Cf ht (by rw [hq]; exact ⟨hk.1, h⟩)⟩
  · obtain ⟨te, hte, hk⟩ := B1 hk
    cases mx with
    | none =>
      obtain ⟨v, h1, t1⟩ := A1l hk.2
      exact ⟨v, h1, fun h' K' ha h => Cf ht (by rw [hq]; exact Cf hte ⟨hk.1, t1 _ _ ha h⟩)⟩
    | some v =>
      cases v <;> simp only at hk
      cases hi with
      | none => exact hk.elim
      | some hv =>
        rcases hk with ⟨q1, q2, q3, q4, hk⟩ | ⟨q1, q2, q3, q4, hk⟩
        · exact ⟨_, hk, fun h' K' ha h => Cf ht (by rw [hq]; exact Cf hte (.inl ⟨q1, q2, q3, q4, h⟩))⟩
        · obtain ⟨v, h1, t1⟩ := A1l hk
          exact ⟨v, h1, fun h' K' ha h => Cf ht (by rw [hq]; exact Cf hte (.inr ⟨q1, q2, q3, q4, t1 _ _ ha h⟩))⟩
theorem S9 {b : Builtin} {y z : AV} {K : AV → Prop} (hk : Xd b y z K) : ∃ v, K v ∧ ∀ K' : AV → Prop, K' v → Xd b y z K' := by
  cases y <;> (try exact hk.elim) <;> cases z <;> (try exact hk.elim)
  cases b <;> first | exact ⟨_, Gc hk, fun _ h => A70 h⟩ | exact hk.elim
theorem B3i {t : Nat} {a : AV} {K : Nat → Prop} (hk : B4c E t h a K) : ∃ m, K m ∧ ∀ h' (K' : Nat → Prop), HAg a.ids h h' → K' m → B4c E t h' a K' := by
  obtain ⟨ty, ht, hk⟩ := B1 hk
  cases hq : ty.k <;> rw [hq] at hk <;> simp only at hk
  · cases a <;> simp only at hk
    exact ⟨_, hk, fun h' K' _ h => Cf ht (by rw [hq]; exact h)⟩
  · have hk' : lenOf h a K ∧ ∀ s, a ≠ .str s := by cases a <;> first | exact hk.elim | exact ⟨hk, by simp⟩
    obtain ⟨m, h1, t1⟩ := A2h hk'.1
    refine ⟨m, h1, fun h' K' ha h => Cf ht ?_⟩
    have h2 := t1 h' K' ha h
    have h3 := hk'.2
    rw [hq]
    cases a <;> first | exact absurd rfl (h3 _) | exact h2
theorem Uy {fs : List (Nat × Nat)} : ∀ {is : List Nat} {vs zs : List AV} {K : List AV → Prop}, K8 E fs zs is vs K → ∃ cs, K cs ∧ ∀ K' : List AV → Prop, K' cs → K8 E fs zs is vs K'
  | [], [], zs, K, hk => ⟨_, hk, fun _ h => h⟩
  | [], _ :: _, zs, K, hk => hk.elim
  | i :: is, [], zs, K, hk => hk.elim
  | i :: is, v :: vs, zs, K, hk => by
    simp only [K8] at hk
    cases hf : fs[i]? with
    | none => rw [hf] at hk; exact hk.elim
    | some ou =>
      obtain ⟨o, t⟩ := ou
      rw [hf] at hk
      obtain ⟨ty, ht, hk⟩ := B1 hk
      have hk' : (v ≠ .undef) ∧ eqN v.cells.length ty.size (leN (o + ty.size) zs.length (K8 E fs (Bw o v.cells zs) is vs K)) := by
        cases v <;> first | exact hk.elim | exact ⟨by simp, hk⟩
      obtain ⟨hv, hk'⟩ := hk'
      obtain ⟨e1, hk⟩ := C1 hk'
      obtain ⟨e2, hk⟩ := Bb hk
      obtain ⟨cs, h1, t1⟩ := Uy hk
      refine ⟨cs, h1, fun K' h => ?_⟩
      simp only [K8]
      rw [hf]
      refine Cf ht ?_
      have h2 := I4 e1 (E9 e2 (t1 K' h))
      cases v <;> first | exact absurd rfl hv | exact h2
theorem B14 {t : Option Nat} {v : AV} {K : AV → Ac → Af → Prop} (hk : Dp S h t v K) : ∃ c S' h', K c S' h' := by
  cases v <;> simp only [Dp] at hk
  case view g p o l =>
    obtain ⟨s, xs, _, hk⟩ := Bo hk
    rw [H6] at hk
    exact ⟨_, _, _, hk⟩
  case nils => cases t <;> first | exact hk.elim | exact ⟨_, _, _, hk⟩
  case emp => cases t <;> first | exact hk.elim | exact ⟨_, _, _, hk⟩
  all_goals exact ⟨_, _, _, hk⟩
theorem V6 : ∀ {ts : List (Option Nat)} {vs : List AV} {S : Ac} {h : Af} {K : List AV → Ac → Af → Prop}, Bt S h ts vs K → ∃ cs S' h', K cs S' h'
  | [], [], S, h, K, hk => ⟨_, _, _, hk⟩
  | [], _ :: _, S, h, K, hk => by simp [Bt] at hk
  | _ :: _, [], S, h, K, hk => by simp [Bt] at hk
  | t :: ts, v :: vs, S, h, K, hk => by
    simp only [Bt] at hk
    obtain ⟨c, S1, h1, hk⟩ := B14 hk
    obtain ⟨cs, S2, h2, hk⟩ := V6 hk
    exact ⟨_, _, _, hk⟩
theorem N9 {sh : Bool} : ∀ {ms : List L6} {vs : List AV} {S : Ac} {h : Af} {K : List AV → List (Nat × Bj) → List Nat → List Nat → Ac → Af → Prop}, D3 sh S h ms vs K → ∃ as qs rs ws S' h', K as qs rs ws S' h'
  | [], [], S, h, K, hk => ⟨_, _, _, _, _, _, hk⟩
  | [], _ :: _, S, h, K, hk => hk.elim
  | m :: ms, [], S, h, K, hk => by cases m <;> exact hk.elim
  | .rd ts :: ms, v :: vs, S, h, K, hk => by
    simp only [D3] at hk
    obtain ⟨as, qs, rs, ws, S', h', hk⟩ := N9 hk
    exact ⟨_, _, _, _, _, _, hk⟩
  | .co ts :: ms, v :: vs, S, h, K, hk => by
    simp only [D3] at hk
    obtain ⟨cs, S1, h1, hk⟩ := V6 hk
    obtain ⟨as, qs, rs, ws, S', h', hk⟩ := N9 hk
    exact ⟨_, _, _, _, _, _, hk⟩
  | .mv :: ms, v :: vs, S, h, K, hk => by
    cases v <;> simp only [D3] at hk
    all_goals
      obtain ⟨as, qs, rs, ws, S', h', hk⟩ := N9 hk
      obtain ⟨s, xs, _, _, _, hk⟩ := Bo hk
      exact ⟨_, _, _, _, _, _, hk⟩
  | .mp :: ms, v :: vs, S, h, K, hk => by
    cases v <;> simp only [D3] at hk
    rename_i g f
    cases f with
    | succ f => exact hk.elim
    | zero =>
      obtain ⟨as, qs, rs, ws, S', h', hk⟩ := N9 hk
      obtain ⟨s, xs, _, hk⟩ := Bo hk
      match xs, hk with
      | [], hk => exact hk.elim
      | _ :: _ :: _, hk => exact hk.elim
      | [r], hk => exact ⟨_, _, _, _, _, _, hk⟩
  | .ma :: ms, v :: vs, S, h, K, hk => by
    rcases Zj hk with ⟨g, p, off, len, rfl, hk2⟩ | ⟨s0, g, n0, rfl, hk2⟩
    all_goals
      clear hk
      obtain ⟨as, qs, rs, ws, S', h', hk⟩ := N9 hk2
      obtain ⟨s, xs, _, _, _, hk⟩ := Bo hk
      exact ⟨_, _, _, _, _, _, hk⟩
end
end Go.GH


set_option linter.unusedVariables false
set_option linter.unusedSimpArgs false
namespace Go.GH
open Go
section
variable {P : Program} {E : Env} {x : Ctx} {w w' : World} {h : Af} {n n' : Nat → Prop} {ρ : Option Nat → Ai} {id : Nat} {S : Ac} {g : Option Bool}
theorem Ct {o : Oper} {y : Operand} {i : Nat} (hy : y ∈ o.op.operands.toList) (hi : i ∈ Of S y) : i ∈ touched S o := A14 hy hi
theorem Ig {o : Oper} {ys : List Operand} {i : Nat} (hy : ∀ y, y ∈ ys → y ∈ o.op.operands.toList) (hi : i ∈ Mm S ys) : i ∈ touched S o := by
  induction ys with
  | nil => cases hi
  | cons z ys ih =>
    simp only [Mm, List.mem_append] at hi
    rcases hi with hi | hi
    · exact Ct (hy z (by simp)) hi
    · exact ih (fun y hy' => hy y (by simp [hy'])) hi
theorem Nk {sh : Bool} : ∀ {ms : List L6} {vs : List AV} {S : Ac} {h : Af} {K : List AV → List (Nat × Bj) → List Nat → List Nat → Ac → Af → Prop}, I1 ms = true → D3 sh S h ms vs K →
    ∃ as rs, K as [] rs [] S h ∧ ∀ S' h' K', HAg (Ek vs) h h' → K' as [] rs [] S' h' → D3 sh S' h' ms vs K'
  | [], [], S, h, K, ha, hk => ⟨[], [], hk, fun _ _ _ _ h => h⟩
  | [], v :: vs, S, h, K, ha, hk => hk.elim
  | .rd ts :: ms, [], S, h, K, ha, hk => hk.elim
  | .rd ts :: ms, v :: vs, S, h, K, ha, hk => by
    obtain ⟨as, rs, h1, t1⟩ := Nk (ms := ms) (vs := vs) ha hk
    refine ⟨_, _, h1, fun S' h' K' hag hk' => ?_⟩
    show D3 sh S' h' ms vs fun as qs rs ws S'' h'' => K' (Qz sh h'' ts v :: as) qs (v.ids ++ rs) ws S'' h''
    refine t1 S' h' _ (hag.mono fun g hg => by simp [Ek, hg]) ?_
    rw [← Sg (n := fun g => g ∈ v.ids) (h := h) (h2 := h') (fun g hg => hag g (by simp [Ek, hg])) (fun _ h => h)]
    exact hk'
  | .co ts :: ms, vs, S, h, K, ha, hk => by cases ha
  | .mv :: ms, vs, S, h, K, ha, hk => by cases ha
  | .mp :: ms, vs, S, h, K, ha, hk => by cases ha
  | .ma :: ms, vs, S, h, K, ha, hk => by cases ha
theorem S6 : ∀ (a b : List AV) (i : Nat), i ∈ Ek (a ++ b) ↔ i ∈ Ek a ∨ i ∈ Ek b
  | [], b, i => by simp [Ek]
  | v :: a, b, i => by simp [Ek, S6 a b i, or_assoc]
theorem Cb : ∀ {cs : List AV} {id : Nat} {K : List AV → Af → Nat → Prop}, B0 id cs K → ∃ cs' os m, K cs' os m ∧ (id ≤ m ∧ ∀ g r, A4 os g = some r → id ≤ g ∧ g < m) ∧ ∀ K', K' cs' os m → B0 id cs K'
  | [], id, K, hk => ⟨_, _, _, hk, ⟨Nat.le_refl _, by simp [A4]⟩, fun _ h => h⟩
  | c :: cs, id, K, hk => by
    by_cases hc : ∃ s xs, c = .own s xs
    · obtain ⟨s, xs, rfl⟩ := hc
      simp only [B0] at hk ⊢
      obtain ⟨cs', os, m, h1, ⟨h2, h3⟩, t1⟩ := Cb hk
      refine ⟨_, _, _, h1, ⟨by omega, fun g r hr => ?_⟩, fun K' h => t1 (fun cs os n => K' (.view id [] 0 xs.length :: cs) ((id, .own s xs) :: os) n) h⟩
      rw [A9] at hr
      by_cases e : id = g
      · omega
      · rw [if_neg e] at hr; have := h3 g r hr; omega
    · have e : ∀ K, B0 id (c :: cs) K = B0 id cs fun cs os n => K (c :: cs) os n := by
        intro K
        cases c <;> first | rfl | exact absurd ⟨_, _, rfl⟩ hc
      rw [e] at hk
      obtain ⟨cs', os, m, h1, h2, t1⟩ := Cb hk
      exact ⟨_, _, _, h1, h2, fun K' h => by rw [e]; exact t1 (fun cs os n => K' (c :: cs) os n) h⟩
theorem Cp : ∀ {vs : List AV} {id : Nat} {K : List AV → Af → Nat → Prop}, Br id vs K → ∃ cs' os m, K cs' os m ∧ (id ≤ m ∧ ∀ g r, A4 os g = some r → id ≤ g ∧ g < m) ∧ ∀ K', K' cs' os m → Br id vs K'
  | [], id, K, hk => ⟨_, _, _, hk, ⟨Nat.le_refl _, by simp [A4]⟩, fun _ h => h⟩
  | v :: vs, id, K, hk => by
    have app : ∀ {os os' : Af} {m m' : Nat}, (id ≤ m ∧ ∀ g r, A4 os g = some r → id ≤ g ∧ g < m) → (m ≤ m' ∧ ∀ g r, A4 os' g = some r → m ≤ g ∧ g < m') → (id ≤ m' ∧ ∀ g r, A4 (os ++ os') g = some r → id ≤ g ∧ g < m') := by
      rintro os os' m m' ⟨a1, a2⟩ ⟨b1, b2⟩
      refine ⟨by omega, fun g r hr => ?_⟩
      rw [B6] at hr
      cases ho : A4 os g with
      | some r' => have := a2 g r' ho; omega
      | none => rw [ho] at hr; have := b2 g r hr; omega
    by_cases hc : ∃ cs, v = .agg cs
    · obtain ⟨cs, rfl⟩ := hc
      simp only [Br] at hk ⊢
      obtain ⟨cs', os, m, h1, h2, t1⟩ := Cb hk
      obtain ⟨vs', os', m', h3, h4, t2⟩ := Cp h1
      exact ⟨_, _, _, h3, app h2 h4, fun K' h => t1 _ (t2 (fun vs'' os'' n' => K' (.agg cs' :: vs'') (os ++ os'') n') h)⟩
    · by_cases ho : ∃ s xs, v = .own s xs
      · obtain ⟨s, xs, rfl⟩ := ho
        simp only [Br] at hk ⊢
        obtain ⟨vs', os', m', h3, h4, t2⟩ := Cp hk
        refine ⟨_, _, _, h3, app (m := id + 1) ⟨by omega, fun g r hr => ?_⟩ h4, fun K' h => t2 (fun vs'' os'' n' => K' (.view id [] 0 xs.length :: vs'') ([(id, .own s xs)] ++ os'') n') h⟩
        rw [A9] at hr
        by_cases e : id = g
        · omega
        · rw [if_neg e] at hr; simp [A4] at hr
      · have e : ∀ K, Br id (v :: vs) K = Br id vs fun vs' os' n' => K (v :: vs') ([] ++ os') n' := by
          intro K
          cases v <;> first | rfl | exact absurd ⟨_, _, rfl⟩ ho | exact absurd ⟨_, rfl⟩ hc
        rw [e] at hk
        obtain ⟨vs', os', m', h3, h4, t2⟩ := Cp hk
        exact ⟨_, _, _, h3, h4, fun K' h => by rw [e]; exact t2 (fun vs'' os'' n' => K' (v :: vs'') ([] ++ os'') n') h⟩
theorem Ox {v : AV} {K : AV → Af → Prop} (hk : Ha id v K) : ∃ v' os, K v' os ∧ (∀ g r, A4 os g = some r → id ≤ g ∧ g < id + 16) ∧ ∀ K', K' v' os → Ha id v K' := by
  by_cases hc : ∃ cs, v = .agg cs
  · obtain ⟨cs, rfl⟩ := hc
    have hk' : B0 id cs fun cs' os n => leN n (id + 16) (K (.agg cs') os) := hk
    obtain ⟨cs', os, m, h1, h2, t1⟩ := Cb hk'
    obtain ⟨e, h1⟩ := Bb h1
    exact ⟨_, _, h1, fun g r hr => by have := h2.2 g r hr; omega, fun K' h => t1 (fun cs' os n => leN n (id + 16) (K' (.agg cs') os)) (E9 e h)⟩
  · by_cases ht : ∃ vs, v = .tup vs
    · obtain ⟨vs, rfl⟩ := ht
      have hk' : Br id vs fun vs' os n => leN n (id + 16) (K (.tup vs') os) := hk
      obtain ⟨cs', os, m, h1, h2, t1⟩ := Cp hk'
      obtain ⟨e, h1⟩ := Bb h1
      exact ⟨_, _, h1, fun g r hr => by have := h2.2 g r hr; omega, fun K' h => t1 (fun cs' os n => leN n (id + 16) (K' (.tup cs') os)) (E9 e h)⟩
    · by_cases ho : ∃ s xs, v = .own s xs
      · obtain ⟨s, xs, rfl⟩ := ho
        refine ⟨_, _, hk, fun g r hr => ?_, fun K' h => h⟩
        rw [A9] at hr
        by_cases e : id = g
        · omega
        · rw [if_neg e] at hr; simp [A4] at hr
      · have e : ∀ K, Ha id v K = K v [] := by
          intro K
          cases v <;> first | rfl | exact absurd ⟨_, _, rfl⟩ ho | exact absurd ⟨_, rfl⟩ hc | exact absurd ⟨_, rfl⟩ ht
        rw [e] at hk
        exact ⟨_, _, hk, by simp [A4], fun K' h => by rw [e]; exact h⟩
theorem Q5 {pt : Bool} {v : AV} {K : AV → Af → Prop} (hk : Lx pt id v K) : ∃ v' os, K v' os ∧ (∀ g r, A4 os g = some r → id ≤ g ∧ g < id + 16) ∧ ∀ K', K' v' os → Lx pt id v K' := by
  cases pt with
  | false => exact Ox hk
  | true =>
    cases v <;> try exact hk.elim
    refine ⟨_, _, hk, fun g r hr => ?_, fun K' h => h⟩
    rw [A9] at hr
    by_cases e : id = g
    · omega
    · rw [if_neg e] at hr; simp [A4] at hr
theorem B2k {g : Option Bool} {x : Bool} {v : AV} {K : Bool → Prop} (h : B1x g x v K) : ∃ r, K r ∧ ∀ K', K' r → B1x g x v K' := by
  cases v <;> try exact h.elim
  · exact ⟨_, h, fun _ h => h⟩
  · exact ⟨_, h.2, fun _ h' => ⟨h.1, h'⟩⟩
theorem B3j {g : Option Bool} {x : Bool} {v : AV} {K : Bool → Prop} (h : A9w g x v K) : ∃ r, K r ∧ ∀ K', K' r → A9w g x v K' := by
  cases v <;> try exact h.elim
  · exact ⟨_, h, fun _ h => h⟩
  · exact ⟨_, h.2, fun _ h' => ⟨h.1, h'⟩⟩
theorem A72 {l : List Operand} {S S' : Ac} (h : OAg l S S') : ∀ y, y ∈ l → A30 S' y = A30 S y := by
  intro y hy
  cases y with
  | tmp d => simp only [A30]; rw [h d hy]
  | _ => rfl
theorem A0o {S S' : Ac} : ∀ {l : List Operand}, OAg l S S' → Uz S' l = Uz S l
  | [], _ => rfl
  | y :: r, h => by
    simp only [Uz]
    rw [A72 h y (by simp), A0o (l := r) (h.mono (by simp; exact fun a ha => .inr ha))]
theorem A1u {o : Oper} {S S' : Ac} (h : OAg o.op.operands.toList S S') : Ly S' o = Ly S o := by
  unfold Ly
  cases ho : o.op <;> simp only <;> rw [ho] at h <;> first | exact A0o h | exact A72 h _ (by simp [Op.operands])
theorem Qa {o : Oper} (hv : C7 E o = true) {K : Ac → Af → Prop} (hk : At E id o g S h K) :
    ∃ v, K (B4 S o.dst g v) h ∧ ∀ S' h' K', OAg o.op.operands.toList S S' → HAg (readIds S o) h h' → K' (B4 S' o.dst g v) h' → At E id o g S' h' K' := by
  obtain ⟨dst, op, type, pos, after, guard⟩ := o
  cases op <;> simp only [C7] at hv <;> (try (cases hv; done)) <;> simp only [At] at hk
  case move y =>
    obtain ⟨v, hk, _, t1⟩ := C0 hk
    exact ⟨v, hk, fun S' h' K' oa ha hk' => by simp only [At]; exact t1 S' (fun v => K' (B4 S' dst g v) h') (oa.one (by simp [Op.operands])) hk'⟩
  case assign y =>
    obtain ⟨v, hk, _, t1⟩ := C0 hk
    exact ⟨v, hk, fun S' h' K' oa ha hk' => by simp only [At]; exact t1 S' (fun v => K' (B4 S' dst g v) h') (oa.one (by simp [Op.operands])) hk'⟩
  case pick c y z =>
    obtain ⟨cv, h1, _, t1⟩ := C0 hk
    clear hk
    cases cv with
    | bool xb =>
      simp only at h1
      split at h1
      · obtain ⟨v, h2, _, t2⟩ := C0 h1
        obtain ⟨r, h2, t3⟩ := B2k h2
        refine ⟨_, h2, fun S' h' K' oa ha hk' => ?_⟩
        simp only [At]
        exact t1 S' _ (oa.one (by simp [Op.operands])) (t2 S' (fun bv => B1x g xb bv fun y => K' (B4 S' dst g (.bool y)) h') (oa.one (by simp [Op.operands])) (t3 (fun y => K' (B4 S' dst g (.bool y)) h') hk'))
      · rename_i hne
        obtain ⟨v, h2, _, t2⟩ := C0 h1
        obtain ⟨r, h2, t3⟩ := B3j h2
        refine ⟨_, h2, fun S' h' K' oa ha hk' => ?_⟩
        simp only [At]
        refine t1 S' _ (oa.one (by simp [Op.operands])) ?_
        exact t2 S' (fun bv => A9w g xb bv fun y => K' (B4 S' dst g (.bool y)) h') (oa.one (by simp [Op.operands])) (t3 (fun y => K' (B4 S' dst g (.bool y)) h') hk')
      · exact h1.elim
    | _ => exact h1.elim
  case build t parts =>
    obtain ⟨ty, ht, hk⟩ := B1 hk
    obtain ⟨vs, hk, _, t1⟩ := Ga hk
    cases hq : ty.k <;> rw [hq] at hk <;> simp only at hk
    obtain ⟨cs, hk, t2⟩ := Uy hk
    refine ⟨_, hk, fun S' h' K' oa ha hk' => ?_⟩
    simp only [At]
    refine Cf ht (t1 S' _ (oa.mono (by simp [Op.operands])) ?_)
    rw [hq]
    exact t2 (fun cs => K' (B4 S' dst g (.agg cs)) h') hk'
  case load t y =>
    obtain ⟨ty, ht, hk⟩ := B1 hk
    obtain ⟨v, hk, i1, t1⟩ := C0 hk
    obtain ⟨u, hk, t2⟩ := B1v (K := fun v => K (B4 S dst g v) h) hk
    exact ⟨u, hk, fun S' h' K' oa ha hk' => by
      simp only [At]
      exact Cf ht (t1 S' _ (oa.one (by simp [Op.operands])) (t2 h' (fun v => K' (B4 S' dst g v) h') (ha.mono fun i hi => Ct (by simp [Op.operands]) (i1 i hi)) hk'))⟩
  case nilCheck y =>
    obtain ⟨v, hk, i1, t1⟩ := C0 hk
    cases v <;> simp only at hk
    · obtain ⟨_, _, e, hk⟩ := Iv hk
      exact ⟨_, hk, fun S' h' K' oa ha hk' => by
        simp only [At]
        exact t1 S' _ (oa.one (by simp [Op.operands])) (Vc ((ha.hget (Ct (y := y) (by simp [Op.operands]) (i1 _ (by simp [AV.ids, AV.ids1]))) _).trans e) hk')⟩
    · obtain ⟨_, _, e, hk⟩ := Iv hk
      exact ⟨_, hk, fun S' h' K' oa ha hk' => by
        simp only [At]
        exact t1 S' _ (oa.one (by simp [Op.operands])) (Vc ((ha.hget (Ct (y := y) (by simp [Op.operands]) (i1 _ (by simp [AV.ids, AV.ids1]))) _).trans e) hk')⟩
    · exact ⟨_, hk, fun S' h' K' oa ha hk' => by
        simp only [At]
        exact t1 S' _ (oa.one (by simp [Op.operands])) hk'⟩
  case binOp op t y z cmp =>
    obtain ⟨v1, hk, i1, t1⟩ := C0 hk
    obtain ⟨v2, hk, i2, t2⟩ := C0 hk
    obtain ⟨u, hk, t3⟩ := B3c hk
    exact ⟨u, hk, fun S' h' K' oa ha hk' => by
      simp only [At]
      exact t1 S' _ (oa.one (by simp [Op.operands])) (t2 S' _ (oa.one (by simp [Op.operands])) (t3 h' (fun v => K' (B4 S' dst g v) h') (ha.mono fun i hi => Ct (y := y) (by simp [Op.operands]) (i1 i hi)) hk'))⟩
  case unOp op t y =>
    obtain ⟨v1, hk, i1, t1⟩ := C0 hk
    obtain ⟨u, hk, t3⟩ := B5f hk
    exact ⟨u, hk, fun S' h' K' oa ha hk' => by
      simp only [At]
      exact t1 S' _ (oa.one (by simp [Op.operands])) (t3 (fun v => K' (B4 S' dst g v) h') hk')⟩
  case convert s t y =>
    obtain ⟨ts, hts, hk⟩ := B1 hk
    obtain ⟨ty, htt, hk⟩ := B1 hk
    obtain ⟨v1, hk, i1, t1⟩ := C0 hk
    rw [htt] at hv
    simp only at hv
    cases hq : ty.k <;> rw [hq] at hv hk <;> simp only at hv hk <;> try (cases hv; done)
    obtain ⟨u, hk, t2⟩ := Qo hk
    refine ⟨u, hk, fun S' h' K' oa ha hk' => ?_⟩
    simp only [At]
    refine Cf hts (Cf htt (t1 S' _ (oa.one (by simp [Op.operands])) ?_))
    rw [hq]
    exact t2 (fun u => K' (B4 S' dst g u) h') hk'
  case fieldAddr t y f =>
    obtain ⟨v1, hk, i1, t1⟩ := C0 hk
    obtain ⟨o, u, hk, t2⟩ := Sz hk
    obtain ⟨r, hk, t3⟩ := A7x hk
    exact ⟨r, hk, fun S' h' K' oa ha hk' => by
      simp only [At]
      exact t1 S' _ (oa.one (by simp [Op.operands])) (t2 _ (t3 h' (fun v => K' (B4 S' dst g v) h') (ha.mono fun i hi => Ct (y := y) (by simp [Op.operands]) (i1 i hi)) hk'))⟩
  case field t y f =>
    obtain ⟨v1, hk, i1, t1⟩ := C0 hk
    obtain ⟨o, u, hk, t2⟩ := Sz hk
    obtain ⟨ty, ht, hk⟩ := B1 hk
    obtain ⟨r, hk, t3⟩ := A9s hk
    exact ⟨r, hk, fun S' h' K' oa ha hk' => by
      simp only [At]
      exact t1 S' _ (oa.one (by simp [Op.operands])) (t2 _ (Cf ht (t3 (fun v => K' (B4 S' dst g v) h') hk')))⟩
  case indexAddr t y i =>
    obtain ⟨v1, hk, i1, t1⟩ := C0 hk
    obtain ⟨v2, hk, i2, t2⟩ := C0 hk
    obtain ⟨ty, hk, t3⟩ := Ey hk
    obtain ⟨r, hk, t4⟩ := A8s hk
    exact ⟨r, hk, fun S' h' K' oa ha hk' => by
      simp only [At]
      exact t1 S' _ (oa.one (by simp [Op.operands])) (t2 S' _ (oa.one (by simp [Op.operands])) (t3 _ (t4 h' (fun v => K' (B4 S' dst g v) h') (ha.mono fun j hi => Ct (y := y) (by simp [Op.operands]) (i1 j hi)) hk')))⟩
  case index t y i =>
    obtain ⟨ty, ht, hk⟩ := B1 hk
    obtain ⟨v1, hk, i1, t1⟩ := C0 hk
    obtain ⟨v2, hk, i2, t2⟩ := C0 hk
    cases hq : ty.k <;> rw [hq] at hk <;> simp only at hk
    cases v1 <;> try exact hk.elim
    cases v2 <;> try exact hk.elim
    obtain ⟨b, hb, hk⟩ := hk
    refine ⟨_, hk, fun S' h' K' oa ha hk' => ?_⟩
    simp only [At]
    refine Cf ht (t1 S' _ (oa.one (by simp [Op.operands])) (t2 S' _ (oa.one (by simp [Op.operands])) ?_))
    rw [hq]
    exact ⟨b, hb, hk'⟩
  case slice t y lo hi mx =>
    obtain ⟨v1, hk, i1, t1⟩ := C0 hk
    obtain ⟨v2, hk, t2⟩ := Wp hk
    obtain ⟨v3, hk, t3⟩ := Wp hk
    obtain ⟨v4, hk, t4⟩ := Wp hk
    obtain ⟨m, hk, t5⟩ := A2h hk
    obtain ⟨l, hk, t6⟩ := A2m hk
    obtain ⟨u, hk, t7⟩ := A2m hk
    obtain ⟨r, hk, t8⟩ := A9d hk
    refine ⟨r, hk, fun S' h' K' oa ha hk' => ?_⟩
    simp only [At]
    have hy : HAg v1.ids h h' := ha.mono fun j hi => Ct (y := y) (by simp [Op.operands]) (i1 j hi)
    exact t1 S' _ (oa.one (by simp [Op.operands])) (t2 S' _ (oa.mono (by intro z hz; simp [Op.operands]; simp at hz; simp [hz])) (t3 S' _ (oa.mono (by intro z hz; simp [Op.operands]; simp at hz; simp [hz])) (t4 S' _ (oa.mono (by intro z hz; simp [Op.operands]; simp at hz; simp [hz]))
      (t5 h' _ hy (t6 _ (t7 _ (t8 h' (fun v => K' (B4 S' dst g v) h') hy hk')))))))
  case extract y i =>
    obtain ⟨v1, hk, i1, t1⟩ := C0 hk
    cases v1 <;> simp only at hk
    rename_i vs
    cases hi : vs[i]? with
    | none => rw [hi] at hk; exact hk.elim
    | some v =>
      rw [hi] at hk
      refine ⟨_, hk, fun S' h' K' oa ha hk' => ?_⟩
      simp only [At]
      refine t1 S' _ (oa.one (by simp [Op.operands])) ?_
      simp only
      rw [hi]
      exact hk'
  case makeFunc f first caps =>
    cases f <;> try exact hk.elim
    obtain ⟨e, hk⟩ := C1 hk
    obtain ⟨vs, hk, _, t1⟩ := Ga hk
    refine ⟨_, hk, fun S' h' K' oa ha hk' => ?_⟩
    simp only [At]
    exact I4 e (t1 S' (fun cs => K' (B4 S' dst g (.fn _ cs)) h') (oa.mono (by intro z hz; simp [Op.operands]; simp at hz; simp [hz])) hk')
  case call c =>
    cases hc : c.callee <;> simp only [hc] at hv hk <;> try (cases hv; done)
    · rename_i y
      cases y <;> simp only at hv <;> try (cases hv; done)
      rename_i f
      obtain ⟨fv, h1⟩ : ∃ fv, fv = AV.fn f [] ∧ Wj S g c.args.toList fun vs => match fv with
          | .fn f caps => Nc E S h id dst g f (vs ++ caps) K
          | _ => False := ⟨_, rfl, hk⟩
      obtain ⟨rfl, h1⟩ := h1
      obtain ⟨vs, h1, i1, t1⟩ := Ga h1
      simp only [List.append_nil] at h1
      unfold Nc at h1
      cases hE : E.F f with
      | none => rw [hE] at h1; exact h1.elim
      | some cc =>
        rw [hE] at h1 hv
        simp only at h1 hv
        have hrd : I1 cc.ms = true := by
          cases ha : I1 cc.ms with
          | true => rfl
          | false =>
            exfalso
            obtain ⟨as, qs, rs, ws, S1, h1', hb⟩ : ∃ as qs rs ws S1 h1', leN (H8 as) id (match Oi rs ws with
              | true => False
              | false => ∃ x : cc.α, as = cc.enc x ∧ (Cn g → cc.pre x) ∧ Lx cc.ptr id (cc.res x) fun v os => match cc.sc with
                | true => match I1 cc.ms with
                  | true => match os with
                    | [] => K (B4 S1 dst g v) h1'
                    | _ => False
                  | false => False
                | false => T2 S1 h1' qs (cc.out x) fun S' h' => K (B4 S' dst g v) (os ++ h')) := N9 h1
            obtain ⟨_, hb⟩ := Bb hb
            cases hm : Oi rs ws with
            | true => rw [hm] at hb; exact hb.elim
            | false =>
              rw [hm] at hb
              obtain ⟨xx, _, _, hb⟩ := hb
              obtain ⟨v, os, hb⟩ := A2p hb
              rw [hv, ha] at hb
              exact hb
        obtain ⟨as, rs, hb, t2⟩ := Nk hrd h1
        obtain ⟨e1, hb⟩ := Bb hb
        cases hm : Oi rs [] with
        | true => rw [hm] at hb; exact hb.elim
        | false =>
          rw [hm] at hb
          obtain ⟨xx, e2, e3, hb⟩ := hb
          obtain ⟨v, os, hb, _, t3⟩ := Q5 hb
          rw [hv, hrd] at hb
          simp only at hb
          match os, hb, t3 with
          | _ :: _, hb, _ => exact hb.elim
          | [], hb, t3 =>
            refine ⟨v, hb, fun S' h' K' oa ha hk' => ?_⟩
            simp only [At, hc]
            show Wj S' g c.args.toList fun vs => Nc E S' h' id dst g f (vs ++ []) K'
            refine t1 S' _ (oa.mono (by intro z hz; simp [Op.operands, Call.operands]; simp at hz; simp [hz])) ?_
            simp only [List.append_nil]
            unfold Nc
            rw [hE]
            refine t2 S' h' _ (ha.mono fun i hi => Ig (ys := c.args.toList) (by intro z hz; simp [Op.operands, Call.operands]; simp at hz; simp [hz]) (i1 i hi)) (E9 e1 ?_)
            rw [hm]
            refine ⟨xx, e2, e3, t3 _ ?_⟩
            rw [hv, hrd]
            exact hk'
    · rename_i b
      obtain ⟨vs, hk, i1, t1⟩ := Ga hk
      have oa1 : ∀ {S'}, OAg (Op.call c).operands.toList S S' → OAg c.args.toList S S' := fun oa => oa.mono (by intro z hz; simp [Op.operands, Call.operands]; simp at hz; simp [hz])
      cases b <;> simp only at hv <;> try (cases hv; done)
      · rcases vs with _ | ⟨y, _ | ⟨z, _ | ⟨q, r⟩⟩⟩ <;> try exact hk.elim
        · obtain ⟨e1, hk⟩ := Bb hk
          obtain ⟨m, hk, t2⟩ := B3i hk
          refine ⟨_, hk, fun S' h' K' oa ha hk' => ?_⟩
          simp only [At, hc]
          refine t1 S' _ (oa1 oa) (E9 e1 (t2 h' (fun n => K' (B4 S' dst g (.int .i64 n)) h') (ha.mono fun i hi => Ig (ys := c.args.toList) (by intro z hz; simp [Op.operands, Call.operands]; simp at hz; simp [hz]) (i1 i (by simp [Ek, hi]))) hk'))
        · obtain ⟨v, hk, t2⟩ := S9 (b := .len) hk
          exact ⟨v, hk, fun S' h' K' oa ha hk' => by
            simp only [At, hc]
            exact t1 S' _ (oa1 oa) (t2 (fun v => K' (B4 S' dst g v) h') hk')⟩
      · rcases vs with _ | ⟨y, _ | ⟨z, _ | ⟨q, r⟩⟩⟩ <;> try exact hk.elim
        obtain ⟨v, hk, t2⟩ := S9 (b := .max) hk
        exact ⟨v, hk, fun S' h' K' oa ha hk' => by
          simp only [At, hc]
          exact t1 S' _ (oa1 oa) (t2 (fun v => K' (B4 S' dst g v) h') hk')⟩
      · rcases vs with _ | ⟨y, _ | ⟨z, _ | ⟨q, r⟩⟩⟩ <;> try exact hk.elim
        obtain ⟨v, hk, t2⟩ := S9 (b := .min) hk
        exact ⟨v, hk, fun S' h' K' oa ha hk' => by
          simp only [At, hc]
          exact t1 S' _ (oa1 oa) (t2 (fun v => K' (B4 S' dst g v) h') hk')⟩
end
end Go.GH


set_option linter.unusedVariables false
set_option linter.unusedSimpArgs false
namespace Go.GH
open Go
def By : List Nat → Ac → Ac
  | [], S => S
  | g :: gs, S => By gs (voids g S)
theorem Cv : ∀ (a b : List Nat) (S : Ac), By (a ++ b) S = By b (By a S)
  | [], b, S => rfl
  | g :: a, b, S => Cv a b (voids g S)
def Frm (ids gs : List Nat) (h h' : Af) : Prop := (∀ g, g ∈ gs → g ∈ ids) ∧ ∀ g, g ∉ ids → A4 h' g = A4 h g
theorem Frm.rfl {ids : List Nat} {h : Af} : Frm ids [] h h := ⟨by simp, fun _ _ => .refl _⟩
theorem Frm.comp {a b gs gs' : List Nat} {h ha hb : Af} (h1 : Frm a gs h ha) (h2 : Frm b gs' ha hb) : Frm (a ++ b) (gs ++ gs') h hb :=
  ⟨fun g hg => by
    rcases List.mem_append.1 hg with hg | hg
    · exact List.mem_append.2 (.inl (h1.1 g hg))
    · exact List.mem_append.2 (.inr (h2.1 g hg)), fun g hg => by
    rw [h2.2 g fun h => hg (List.mem_append.2 (.inr h)), h1.2 g fun h => hg (List.mem_append.2 (.inl h))]⟩
theorem Frm.mono {a b gs : List Nat} {h ha : Af} (h1 : Frm a gs h ha) (hs : ∀ g, g ∈ a → g ∈ b) : Frm b gs h ha :=
  ⟨fun g hg => hs g (h1.1 g hg), fun g hg => h1.2 g fun h => hg (hs g h)⟩
section
variable {P : Program} {E : Env} {x : Ctx} {w w' : World} {h : Af} {n n' : Nat → Prop} {ρ : Option Nat → Ai} {id : Nat} {S : Ac} {g : Option Bool}
theorem La {g e : Nat} {p : Bj} {y : AV} (he : e ≠ g) : A4 (hput h g p y) e = A4 h e := by
  cases hl : A4 h g with
  | none => unfold hput; rw [hl]
  | some r => rw [E6 hl, if_neg (Ne.symm he)]
theorem A6j {g : Nat} {p : Bj} {s : Nat} {xs : List (List AV)} (hg : hget h g p = some (.own s xs)) {K : Ac → Af → Prop} (hk : Rg S h g p K) :
    ∃ gs h', K (By gs S) h' ∧ Frm [g] gs h h' ∧ ∀ S' K', K' (By gs S') h' → Rg S' h g p K' := by
  rw [H6] at hk
  obtain ⟨r, hl, _⟩ := Bz hg
  have hfr : ∀ e, e ∉ [g] → A4 (Gf h g p) e = A4 h e := fun e he => Ix hl p (by simpa using he)
  cases p with
  | nil => exact ⟨[], _, hk, ⟨by simp, hfr⟩, fun S' K' h => by rw [H6]; exact h⟩
  | cons a p => exact ⟨[g], _, hk, ⟨by simp, hfr⟩, fun S' K' h => by rw [H6]; exact h⟩
theorem A5q {t : Option Nat} {v : AV} {K : AV → Ac → Af → Prop} (hk : Dp S h t v K) :
    ∃ c gs h', K c (By gs S) h' ∧ Frm v.ids1 gs h h' ∧ ∀ S' K', K' c (By gs S') h' → Dp S' h t v K' := by
  cases v <;> simp only [Dp] at hk
  case view g p o l =>
    obtain ⟨s, xs, hg, hk⟩ := Bo hk
    obtain ⟨gs, h', h1, f1, t1⟩ := A6j hg hk
    exact ⟨_, gs, h', h1, f1, fun S' K' h => by simp only [Dp]; exact Hc hg (t1 S' (fun S'' h'' => K' (.own s ((xs.drop o).take l)) S'' h'') h)⟩
  case nils =>
    cases t <;> first
      | exact hk.elim
      | exact ⟨_, [], _, hk, .rfl, fun S' K' h => h⟩
  case emp =>
    cases t <;> first
      | exact hk.elim
      | exact ⟨_, [], _, hk, .rfl, fun S' K' h => h⟩
  all_goals exact ⟨_, [], _, hk, .rfl, fun S' K' h => h⟩
theorem I9 : ∀ {ts : List (Option Nat)} {vs : List AV} {S : Ac} {h : Af} {K : List AV → Ac → Af → Prop}, Bt S h ts vs K →
    ∃ cs gs h', K cs (By gs S) h' ∧ Frm (F6 vs) gs h h' ∧ ∀ S' K', K' cs (By gs S') h' → Bt S' h ts vs K'
  | [], [], S, h, K, hk => ⟨_, [], _, hk, .rfl, fun S' K' h => h⟩
  | [], _ :: _, S, h, K, hk => by simp [Bt] at hk
  | _ :: _, [], S, h, K, hk => by simp [Bt] at hk
  | t :: ts, v :: vs, S, h, K, hk => by
    simp only [Bt] at hk
    obtain ⟨c, gs, h1, hk, f1, t1⟩ := A5q hk
    obtain ⟨cs, gs2, h2, hk, f2, t2⟩ := I9 hk
    rw [← Cv] at hk
    refine ⟨_, _, _, hk, f1.comp f2, fun S' K' h => ?_⟩
    rw [Cv] at h
    simp only [Bt]
    exact t1 S' _ (t2 _ (fun cs S'' h'' => K' (c :: cs) S'' h'') h)
theorem I5 {v : AV} : ∀ g, g ∈ F6 v.cells → g ∈ v.ids := by
  intro g hg
  cases v <;> simp only [AV.cells, F6, AV.ids1, List.append_nil] at hg <;> first | exact hg | cases hg
theorem Uc {ts : List (Option Nat)} : ∀ {vs : List AV} {S : Ac} {h : Af} {K : List (List AV) → Ac → Af → Prop}, I8 S h ts vs K →
    ∃ cs gs h', K cs (By gs S) h' ∧ Frm (Ek vs) gs h h' ∧ ∀ S' K', K' cs (By gs S') h' → I8 S' h ts vs K'
  | [], S, h, K, hk => ⟨_, [], _, hk, .rfl, fun S' K' h => h⟩
  | v :: vs, S, h, K, hk => by
    simp only [I8] at hk
    obtain ⟨c, gs, h1, hk, f1, t1⟩ := I9 hk
    obtain ⟨cs, gs2, h2, hk, f2, t2⟩ := Uc hk
    rw [← Cv] at hk
    refine ⟨_, _, _, hk, (f1.mono I5).comp f2, fun S' K' h => ?_⟩
    rw [Cv] at h
    simp only [I8]
    exact t1 S' _ (t2 _ (fun cs S'' h'' => K' (c :: cs) S'' h'') h)
theorem Lt {g e : Nat} {y : AV} (he : e ≠ g) : A4 (update h g y) e = A4 h e := by
  rw [K1, if_neg (Ne.symm he)]
theorem Frm.one {ids gs : List Nat} {h h1 h2 : Af} {g : Nat} (f : Frm ids gs h h1) (hg : g ∈ ids) (h2e : ∀ e, e ≠ g → A4 h2 e = A4 h1 e) {gs' : List Nat} (hgs : ∀ e, e ∈ gs' → e = g) : Frm ids (gs ++ gs') h h2 :=
  ⟨fun e he => by
    rcases List.mem_append.1 he with he | he
    · exact f.1 e he
    · exact hgs e he ▸ hg, fun e he => by
    rw [h2e e fun h => he (h ▸ hg), f.2 e he]⟩
theorem A9f {ty : Ty} {a y : AV} {K : Ac → Af → Prop} (hk : storeAt ty S h a y K) :
    ∃ gs h', K (By gs S) h' ∧ Frm (a.ids ++ y.ids) gs h h' ∧ ∀ S' K', K' (By gs S') h' → storeAt ty S' h a y K' := by
  cases a <;> simp only [storeAt] at hk
  case bx g f =>
    have hgi : g ∈ (AV.bx g f).ids ++ y.ids := by simp [AV.ids, AV.ids1]
    cases hsc : ty.k.scalar with
    | true =>
      rw [hsc] at hk
      simp only at hk
      cases hy : y.scalar <;> rw [hy] at hk <;> simp only at hk
      obtain ⟨s, xs, hg, hk⟩ := Bo hk
      match xs, hg, hk with
      | [], _, hk => exact hk.elim
      | _ :: _ :: _, _, hk => exact hk.elim
      | [r], hg, hk =>
        obtain ⟨e, hk⟩ := Bb hk
        cases hc : (cell r f).scalar <;> rw [hc] at hk <;> simp only at hk
        refine ⟨[], _, hk, Frm.rfl.one hgi (fun e he => Lt he) (gs' := []) (by simp), fun S' K' h => ?_⟩
        simp only [storeAt, hsc, hy]
        exact Hc hg (E9 e (by rw [hc]; exact h))
    | false =>
      rw [hsc] at hk
      simp only at hk
      obtain ⟨cs, gs, h1, hk, f1, t1⟩ := I9 hk
      obtain ⟨s, xs, hg, hk⟩ := Bo hk
      match xs, hg, hk with
      | [], _, hk => exact hk.elim
      | _ :: _ :: _, _, hk => exact hk.elim
      | [r], hg, hk =>
        obtain ⟨e, hk⟩ := Bb hk
        refine ⟨gs ++ [g], _, by rw [Cv]; exact hk, (f1.mono fun g hg => by simp [I5 g hg]).one hgi (fun e he => Lt he) (by simp), fun S' K' h => ?_⟩
        simp only [storeAt, hsc]
        rw [Cv] at h
        exact t1 S' _ (Hc hg (E9 e h))
  case ptr g p i f =>
    have hgi : g ∈ (AV.ptr g p i f).ids ++ y.ids := by simp [AV.ids, AV.ids1]
    cases hsc : ty.k.scalar with
    | true =>
      rw [hsc] at hk
      simp only at hk
      cases hy : y.scalar <;> rw [hy] at hk <;> simp only at hk
      obtain ⟨s, xs, hg, hk⟩ := Bo hk
      obtain ⟨e, r, hr, hk⟩ := Bb hk
      cases hc : (cell r f).scalar <;> rw [hc] at hk <;> simp only at hk
      refine ⟨[], _, hk, Frm.rfl.one hgi (fun e he => La he) (gs' := []) (by simp), fun S' K' h => ?_⟩
      simp only [storeAt, hsc, hy]
      exact Hc hg (E9 e ⟨r, hr, by rw [hc]; exact h⟩)
    | false =>
      rw [hsc] at hk
      simp only at hk
      obtain ⟨cs, gs, h1, hk, f1, t1⟩ := I9 hk
      obtain ⟨s, xs, hg, hk⟩ := Bo hk
      obtain ⟨e, r, hr, hk⟩ := Bb hk
      refine ⟨gs ++ [g], _, by rw [Cv]; exact hk, (f1.mono fun g hg => by simp [I5 g hg]).one hgi (fun e he => La he) (by simp), fun S' K' h => ?_⟩
      simp only [storeAt, hsc]
      rw [Cv] at h
      exact t1 S' _ (Hc hg (E9 e ⟨r, hr, h⟩))
theorem Ub {keep : Bool} {sz : Nat} {y : AV} {K : List (List AV) → Ac → Af → Prop} (hk : Iq S h keep sz y K) :
    ∃ r gs h', K r (By gs S) h' ∧ Frm y.ids gs h h' ∧ ∀ S' K', K' r (By gs S') h' → Iq S' h keep sz y K' := by
  cases y <;> simp only [Iq] at hk
  case view g p o l =>
    obtain ⟨s, xs, hg, hk⟩ := Bo hk
    obtain ⟨e, hk⟩ := C1 hk
    cases keep <;> simp only at hk
    · obtain ⟨gs, h', h1, f1, t1⟩ := A6j hg hk
      exact ⟨_, gs, h', h1, f1.mono (b := (AV.view g p o l).ids) (by simp [AV.ids, AV.ids1]), fun S' K' h => by simp only [Iq]; exact Hc hg (I4 e (t1 S' (fun S'' h'' => K' ((xs.drop o).take l) S'' h'') h))⟩
    · exact ⟨_, [], _, hk.2, .rfl, fun S' K' h => by simp only [Iq]; exact Hc hg (I4 e ⟨hk.1, h⟩)⟩
  case rd s xs =>
    obtain ⟨e, hk⟩ := C1 hk
    exact ⟨_, [], _, hk, .rfl, fun S' K' h => I4 e h⟩
  case str s =>
    obtain ⟨e, hk⟩ := C1 hk
    exact ⟨_, [], _, hk, .rfl, fun S' K' h => I4 e h⟩
  all_goals exact ⟨_, [], _, hk, .rfl, fun S' K' h => h⟩
theorem A5s {g e : Nat} {y : AV} (he : e ≠ g) : A4 ((g, y) :: h) e = A4 h e := by
  rw [A9, if_neg (Ne.symm he)]
theorem B5j {id : Nat} : id ∈ List.range' id 16 := by simp [List.mem_range']
theorem Frm.new {ids gs : List Nat} {h h1 : Af} {y : AV} (f : Frm ids gs h h1) : Frm (List.range' id 16 ++ ids) gs h ((id, y) :: h1) :=
  ⟨fun g hg => by simp [f.1 g hg], fun g hg => by
    rw [A5s (fun e => hg (by subst e; exact List.mem_append.2 (.inl B5j))), f.2 g fun h => hg (by simp [h])]⟩
theorem A5z {ty : Ty} {d : Option Nat} {y z : AV} {K : Ac → Af → Prop} (hk : Is ty S h id d y z K) :
    ∃ gs v h', K (B4 (By gs S) d none v) h' ∧ Frm (List.range' id 16 ++ (y.ids ++ z.ids)) gs h h' ∧ ∀ S' K', K' (B4 (By gs S') d none v) h' → Is ty S' h id d y z K' := by
  unfold Is at hk
  cases hr : Pu y <;> rw [hr] at hk <;> simp only at hk
  obtain ⟨ys, gs, h1, hk, f1, t1⟩ := Ub hk
  obtain ⟨xs, gs2, h2, hk, f2, t2⟩ := Ub hk
  rw [← Cv] at hk
  refine ⟨_, _, _, hk.2, ((f1.comp f2).mono (by simp; intro g hg; exact hg.symm)).new, fun S' K' h => ?_⟩
  unfold Is
  rw [hr]
  rw [Cv] at h
  exact t1 S' _ (t2 _ _ ⟨hk.1, h⟩)
theorem A80 {v : AV} {K : List UInt8 → Prop} (hk : Ky h v K) : ∃ s, K s ∧ ∀ K' : List UInt8 → Prop, K' s → Ky h v K' := by
  cases v <;> simp only [Ky] at hk
  case view g p o l =>
    obtain ⟨s, xs, hg, hk⟩ := Bo hk
    obtain ⟨e, bs, hb, hk⟩ := C1 hk
    exact ⟨_, hk, fun K' h => Hc hg (I4 e ⟨bs, hb, h⟩)⟩
  case rd s xs =>
    obtain ⟨e, bs, hb, hk⟩ := C1 hk
    exact ⟨_, hk, fun K' h => I4 e ⟨bs, hb, h⟩⟩
  all_goals exact ⟨_, hk, fun K' h => h⟩
theorem Te {e : Nat} {K : Prop} (hk : A4k E e K) : K ∧ ∀ K' : Prop, K' → A4k E e K' := by
  obtain ⟨te, ht, hk⟩ := B1 hk
  cases hq : te.k <;> rw [hq] at hk <;> simp only at hk
  rename_i k
  cases k <;> simp only at hk
  exact ⟨hk, fun K' h => Cf ht (by rw [hq]; exact h)⟩
theorem If {sh : Bool} : ∀ {ms : List L6} {vs : List AV} {S : Ac} {h : Af} {K : List AV → List (Nat × Bj) → List Nat → List Nat → Ac → Af → Prop}, D3 sh S h ms vs K →
    ∃ as qs rs ws gs h', K as qs rs ws (By gs S) h' ∧ Frm (Ek vs) gs h h' ∧ (∀ q, q ∈ qs → q.1 ∈ Ek vs) ∧ ∀ S' K', K' as qs rs ws (By gs S') h' → D3 sh S' h ms vs K'
  | [], [], S, h, K, hk => ⟨[], [], [], [], [], h, hk, .rfl, by simp, fun _ _ h => h⟩
  | [], v :: vs, S, h, K, hk => hk.elim
  | m :: ms, [], S, h, K, hk => by cases m <;> exact hk.elim
  | .rd ts :: ms, v :: vs, S, h, K, hk => by
    simp only [D3] at hk
    obtain ⟨as, qs, rs, ws, gs, h', hk, f1, q1, t1⟩ := If hk
    exact ⟨_, qs, _, _, gs, h', hk, f1.mono (by simp [Ek]; intro g hg; exact .inr hg), fun q hq => by simp [Ek, q1 q hq], fun S' K' h => by
      simp only [D3]; exact t1 S' (fun as qs rs ws S' h' => K' (Qz sh h' ts v :: as) qs (v.ids ++ rs) ws S' h') h⟩
  | .co ts :: ms, v :: vs, S, h, K, hk => by
    simp only [D3] at hk
    obtain ⟨cs, gs, h1, hk, f1, t1⟩ := I9 hk
    obtain ⟨as, qs, rs, ws, gs2, h', hk, f2, q1, t2⟩ := If hk
    rw [← Cv] at hk
    refine ⟨_, qs, _, _, _, h', hk, (f1.mono I5).comp f2, fun q hq => by simp [Ek, q1 q hq], fun S' K' h => ?_⟩
    rw [Cv] at h
    simp only [D3]
    exact t1 S' _ (t2 _ (fun as qs rs ws S' h' => K' (wrap v cs :: as) qs rs (v.ids ++ ws) S' h') h)
  | .mv :: ms, v :: vs, S, h, K, hk => by
    cases v <;> simp only [D3] at hk
    case arg s0 g n0 =>
      obtain ⟨as, qs, rs, ws, gs, h', hk, f1, q1, t1⟩ := If hk
      obtain ⟨s, xs, hg, e1, e2, hk⟩ := Bo hk
      refine ⟨_, _, _, _, gs, h', hk, f1.mono (by simp [Ek]; intro g hg; exact .inr hg), fun q hq => ?_, fun S' K' h => by
        simp only [D3]
        exact t1 S' (fun as qs rs ws S' h' => arr h' g [] fun s xs => s0 = s ∧ n0 = xs.length ∧ K' (.own s xs :: as) ((g, []) :: qs) rs (g :: ws) S' h') (Hc hg ⟨e1, e2, h⟩)⟩
      rcases List.mem_cons.1 hq with rfl | hq
      · simp [Ek, AV.ids, AV.ids1]
      · simp [Ek, q1 q hq]
    rename_i g p off len
    obtain ⟨as, qs, rs, ws, gs, h', hk, f1, q1, t1⟩ := If hk
    obtain ⟨s, xs, hg, e1, e2, hk⟩ := Bo hk
    refine ⟨_, _, _, _, gs, h', hk, f1.mono (by simp [Ek]; intro g hg; exact .inr hg), fun q hq => ?_, fun S' K' h => by
      simp only [D3]
      exact t1 S' (fun as qs rs ws S' h' => arr h' g p fun s xs => off = 0 ∧ len = xs.length ∧ K' (.own s xs :: as) ((g, p) :: qs) rs (g :: ws) S' h') (Hc hg ⟨e1, e2, h⟩)⟩
    rcases List.mem_cons.1 hq with rfl | hq
    · simp [Ek, AV.ids, AV.ids1]
    · simp [Ek, q1 q hq]
  | .ma :: ms, v :: vs, S, h, K, hk => by
    rcases Zj hk with ⟨g, p, off, len, rfl, hk2⟩ | ⟨s0, g, n0, rfl, hk2⟩
    · clear hk
      obtain ⟨as, qs, rs, ws, gs, h', hk, f1, q1, t1⟩ := If hk2
      obtain ⟨s, xs, hg, e1, e2, hk⟩ := Bo hk
      refine ⟨_, _, _, _, gs, h', hk, f1.mono (by simp [Ek]; intro g hg; exact .inr hg), fun q hq => ?_, fun S' K' h => by
        simp only [D3]
        exact t1 S' (fun as qs rs ws S' h' => arr h' g p fun s xs => off = 0 ∧ len = xs.length ∧ K' (.agg [.own s xs] :: as) ((g, p) :: qs) rs (g :: ws) S' h') (Hc hg ⟨e1, e2, h⟩)⟩
      rcases List.mem_cons.1 hq with rfl | hq
      · simp [Ek, AV.ids, F6, AV.ids1]
      · simp [Ek, q1 q hq]
    · clear hk
      obtain ⟨as, qs, rs, ws, gs, h', hk, f1, q1, t1⟩ := If hk2
      obtain ⟨s, xs, hg, e1, e2, hk⟩ := Bo hk
      refine ⟨_, _, _, _, gs, h', hk, f1.mono (by simp [Ek]; intro g hg; exact .inr hg), fun q hq => ?_, fun S' K' h => by
        simp only [D3]
        exact t1 S' (fun as qs rs ws S' h' => arr h' g [] fun s xs => s0 = s ∧ n0 = xs.length ∧ K' (.agg [.own s xs] :: as) ((g, []) :: qs) rs (g :: ws) S' h') (Hc hg ⟨e1, e2, h⟩)⟩
      rcases List.mem_cons.1 hq with rfl | hq
      · simp [Ek, AV.ids, F6, AV.ids1]
      · simp [Ek, q1 q hq]
  | .mp :: ms, v :: vs, S, h, K, hk => by
    cases v <;> simp only [D3] at hk
    rename_i g f
    cases f with
    | succ f => exact hk.elim
    | zero =>
      obtain ⟨as, qs, rs, ws, gs, h', hk, f1, q1, t1⟩ := If hk
      obtain ⟨s, xs, hg, hk⟩ := Bo hk
      match xs, hg, hk with
      | [], _, hk => exact hk.elim
      | _ :: _ :: _, _, hk => exact hk.elim
      | [r], hg, hk =>
        refine ⟨_, _, _, _, gs, h', hk, f1.mono (by simp [Ek]; intro g hg; exact .inr hg), fun q hq => ?_, fun S' K' h => by
          simp only [D3]
          exact t1 S' (fun as qs rs ws S' h' => arr h' g [] fun s xs => match xs with
            | [_] => K' (.own s xs :: as) ((g, []) :: qs) rs (g :: ws) S' h'
            | _ => False) (Hc hg h)⟩
        rcases List.mem_cons.1 hq with rfl | hq
        · simp [Ek, AV.ids, AV.ids1]
        · simp [Ek, q1 q hq]
theorem B2b {qs : List (Nat × Bj)} {out : List AV} {K : Ac → Af → Prop} (hk : T2 S h qs out K) :
    ∃ gs h', K (By gs S) h' ∧ Frm (qs.map (·.1)) gs h h' ∧ ∀ S' K', K' (By gs S') h' → T2 S' h qs out K' := by
  match qs, out, hk with
  | [], [], hk => exact ⟨[], h, hk, .rfl, fun _ _ h => h⟩
  | [], _ :: _, hk => exact hk.elim
  | [(g, p)], [], hk => exact hk.elim
  | [(g, p)], [y], hk => exact ⟨[g], _, hk, ⟨by simp, fun e he => La (by simpa using he)⟩, fun _ _ h => h⟩
  | [(g, p)], _ :: _ :: _, hk => exact hk.elim
  | _ :: _ :: _, [], hk => exact hk.elim
  | _ :: _ :: _, [_], hk => exact hk.elim
  | _ :: _ :: _, _ :: _ :: _, hk => exact hk.elim
theorem B3q {d : Option Nat} {f : Nat} {vs : List AV} {K : Ac → Af → Prop} (hk : Nc E S h id d none f vs K) :
    ∃ c, E.F f = some c ∧ ∃ gs v h', K (B4 (By gs S) d none v) h' ∧ Frm (List.range' id 16 ++ (match I1 c.ms with | true => [] | false => Ek vs)) gs h h' ∧
      ∀ S' K', K' (B4 (By gs S') d none v) h' → Nc E S' h id d none f vs K' := by
  unfold Nc at hk
  cases hE : E.F f with
  | none => rw [hE] at hk; exact hk.elim
  | some c =>
    rw [hE] at hk
    simp only at hk
    refine ⟨c, .refl _, ?_⟩
    obtain ⟨as, qs, rs, ws, gs, h1, hk, f1, q1, t1⟩ : ∃ as qs rs ws gs h1, (leN (H8 as) id (match Oi rs ws with
            | true => False
            | false => ∃ x : c.α, as = c.enc x ∧ (Cn none → c.pre x) ∧ Lx c.ptr id (c.res x) fun v os => match c.sc with
              | true => match I1 c.ms with
                | true => match os with
                  | [] => K (B4 (By gs S) d none v) h1
                  | _ => False
                | false => False
              | false => T2 (By gs S) h1 qs (c.out x) fun S' h' => K (B4 S' d none v) (os ++ h'))) ∧ Frm (match I1 c.ms with | true => [] | false => Ek vs) gs h h1 ∧ (∀ q, q ∈ qs → q.1 ∈ (match I1 c.ms with | true => [] | false => Ek vs)) ∧
            ∀ S' (K' : List AV → List (Nat × Bj) → List Nat → List Nat → Ac → Af → Prop), K' as qs rs ws (By gs S') h1 → D3 c.sh S' h c.ms vs K' := by
      cases ha : I1 c.ms with
      | true =>
        obtain ⟨as, rs, hb, t1⟩ := Nk ha hk
        rw [ha] at hb
        exact ⟨as, [], rs, [], [], h, hb, .rfl, by simp, fun S' K' hk' => t1 S' h K' (fun _ _ => .refl _) hk'⟩
      | false =>
        obtain ⟨as, qs, rs, ws, gs, h1, hb, f1, q1, t1⟩ := If hk
        rw [ha] at hb
        exact ⟨as, qs, rs, ws, gs, h1, hb, f1, q1, t1⟩
    obtain ⟨e1, hk⟩ := Bb hk
    cases hm : Oi rs ws with
    | true => rw [hm] at hk; exact hk.elim
    | false =>
      rw [hm] at hk
      obtain ⟨xx, e2, e3, hk⟩ := hk
      obtain ⟨v, os, hk, hos, t3⟩ := Q5 hk
      have hfin : ∀ {gs' : List Nat} {h2 : Af}, Frm (match I1 c.ms with | true => [] | false => Ek vs) gs' h h2 → Frm (List.range' id 16 ++ (match I1 c.ms with | true => [] | false => Ek vs)) gs' h (os ++ h2) := by
        intro gs' h2 f
        refine ⟨fun g hg => by simp [f.1 g hg], fun g hg => ?_⟩
        rw [B6]
        cases ho : A4 os g with
        | some r => exact absurd (List.mem_append.2 (.inl (by have := hos g r ho; simp [List.mem_range']; exact ⟨g - id, by omega, by omega⟩))) hg
        | none => exact f.2 g fun h => hg (by simp [h])
      have hback : ∀ S' K', (Lx c.ptr id (c.res xx) fun v os => match c.sc with
              | true => match I1 c.ms with
                | true => match os with
                  | [] => K' (B4 (By gs S') d none v) h1
                  | _ => False
                | false => False
              | false => T2 (By gs S') h1 qs (c.out xx) fun S' h' => K' (B4 S' d none v) (os ++ h')) → Nc E S' h id d none f vs K' := by
        intro S' K' hb
        unfold Nc
        rw [hE]
        refine t1 S' _ (E9 e1 ?_)
        rw [hm]
        exact ⟨xx, e2, e3, hb⟩
      cases hsc : c.sc with
      | true =>
        rw [hsc] at hk
        simp only at hk
        cases ha : I1 c.ms with
        | false => rw [ha] at hk; exact hk.elim
        | true =>
          rw [ha] at hk f1
          simp only at hk f1
          match os, hk, t3 with
          | _ :: _, hk, _ => exact hk.elim
          | [], hk, t3 =>
            refine ⟨gs, v, h1, hk, f1.mono (by simp), fun S' K' h => hback S' K' (t3 _ ?_)⟩
            rw [hsc, ha]
            exact h
      | false =>
        rw [hsc] at hk
        simp only at hk
        obtain ⟨gs2, h2, hk, f2, t4⟩ := B2b hk
        rw [← Cv] at hk
        have fq : Frm (match I1 c.ms with | true => [] | false => Ek vs) (gs ++ gs2) h h2 :=
          (f1.comp (f2.mono (b := match I1 c.ms with | true => [] | false => Ek vs) fun g hg => by
            obtain ⟨q, hq, rfl⟩ := List.mem_map.1 hg
            exact q1 q hq)).mono fun g hg => by rcases List.mem_append.1 hg with h | h <;> exact h
        refine ⟨gs ++ gs2, v, _, hk, hfin fq, fun S' K' h => hback S' K' (t3 _ ?_)⟩
        rw [hsc]
        rw [Cv] at h
        exact t4 _ (fun S' h' => K' (B4 S' d none v) (os ++ h')) h
end
end Go.GH


set_option linter.unusedVariables false
set_option linter.unusedSimpArgs false
namespace Go.GH
open Go
section
variable {P : Program} {E : Env} {x : Ctx} {w w' : World} {h : Af} {n n' : Nat → Prop} {ρ : Option Nat → Ai} {id : Nat} {S : Ac} {g : Option Bool}
def cvt (E : Env) (id : Nat) (ts ty : Ty) (v : AV) (dst : Option Nat) (S : Ac) (h : Af) (K : Ac → Af → Prop) : Prop :=
  match ty.k with
  | .slice e => match v with
    | .str bs => A4k E e (K (B4 S dst none (.view id [] 0 bs.length)) ((id, .own 1 (bs.map fun b => [.int .u8 b.toNat])) :: h))
    | _ => False
  | .str => match v with
    | .str s => K (B4 S dst none (.str s)) h
    | v => match ts.k with
      | .slice e => A4k E e (Ky h v fun s => K (B4 S dst none (.str s)) h)
      | _ => False
  | _ => convert ty v fun u => K (B4 S dst none u) h
theorem B6v {ts ty : Ty} {v : AV} {dst : Option Nat} {K : Ac → Af → Prop} (hk : cvt E id ts ty v dst S h K) :
    ∃ u h', K (B4 S dst none u) h' ∧ Frm (List.range' id 16) [] h h' ∧ ∀ S' (K' : Ac → Af → Prop), K' (B4 S' dst none u) h' → cvt E id ts ty v dst S' h K' := by
  have h0 : Frm (List.range' id 16) [] h h := .rfl
  have conv : (∀ S (K : Ac → Af → Prop), cvt E id ts ty v dst S h K = convert ty v fun u => K (B4 S dst none u) h) → ∃ u h', K (B4 S dst none u) h' ∧ Frm (List.range' id 16) [] h h' ∧ ∀ S' (K' : Ac → Af → Prop), K' (B4 S' dst none u) h' → cvt E id ts ty v dst S' h K' := by
    intro e
    rw [e] at hk
    obtain ⟨u, hk, t2⟩ := Qo hk
    exact ⟨u, _, hk, h0, fun S' K' h => by rw [e]; exact t2 (fun u => K' (B4 S' dst none u) _) h⟩
  cases hq : ty.k
  case slice e =>
    unfold cvt at hk ⊢
    rw [hq] at hk ⊢
    cases v <;> simp only at hk ⊢
    obtain ⟨hk, t2⟩ := Te hk
    exact ⟨_, _, hk, (Frm.rfl.new (id := id) (ids := []) (h := h)).mono (by simp), fun S' K' h => t2 _ h⟩
  case str =>
    by_cases hs : ∃ s, v = .str s
    · obtain ⟨s, rfl⟩ := hs
      unfold cvt at hk ⊢
      rw [hq] at hk ⊢
      exact ⟨_, _, hk, h0, fun S' K' h => h⟩
    · have e : ∀ (S : Ac) (K : Ac → Af → Prop), cvt E id ts ty v dst S h K = (match (generalizing := false) ts.k with
            | .slice e => A4k E e (Ky h v fun s => K (B4 S dst none (.str s)) h)
            | _ => False) := by
        intro S K
        unfold cvt
        rw [hq]
        cases v <;> first | rfl | exact absurd ⟨_, rfl⟩ hs
      simp only [e] at hk ⊢
      cases hq2 : ts.k <;> rw [hq2] at hk <;> simp only at hk
      obtain ⟨hk, t2⟩ := Te hk
      obtain ⟨s, hk, t3⟩ := A80 hk
      exact ⟨_, _, hk, h0, fun S' K' h => t2 _ (t3 (fun s => K' (B4 S' dst none (.str s)) _) h)⟩
  all_goals exact conv fun S K => by unfold cvt; rw [hq]
theorem Sb {o : Oper} (hv : C7 E o = false) {K : Ac → Af → Prop} (hk : At E id o none S h K) :
    ∃ gs v h', K (B4 (By gs S) o.dst none v) h' ∧ Frm (wroteIds E id S o) gs h h' ∧ ∀ S' K', OAg o.op.operands.toList S S' → K' (B4 (By gs S') o.dst none v) h' → At E id o none S' h K' := by
  have hnm : ∀ {l : List Nat} {g : Nat}, g ∈ List.range' id 16 → g ∈ 1000000007 :: List.range' id 16 ++ l := fun hg => List.mem_append.2 (.inl (List.mem_cons_of_mem _ hg))
  obtain ⟨dst, op, type, pos, after, guard⟩ := o
  have hwr : wroteIds E id S ⟨dst, op, type, pos, after, guard⟩ = 1000000007 :: List.range' id 16 ++ B38 E S ⟨dst, op, type, pos, after, guard⟩ := by
    unfold wroteIds
    rw [hv]
  cases op with
  | alloc t =>
    simp only [At] at hk
    obtain ⟨ty, ht, hk⟩ := B1 hk
    refine ⟨[], _, _, hk, Frm.rfl.new (ids := []) |>.mono fun g hg => ?_, fun S' K' oa hk' => ?_⟩
    · rw [hwr]; simp only [List.append_nil] at hg; exact hnm hg
    · simp only [At]; exact Cf ht hk'
  | box t y =>
    simp only [At] at hk
    obtain ⟨ty, ht, hk⟩ := B1 hk
    obtain ⟨v, hk, i1, t1⟩ := C0 hk
    obtain ⟨cs, gs, h1, hk, f1, t2⟩ := I9 hk
    refine ⟨gs, _, _, hk, f1.new.mono fun g hg => ?_, fun S' K' oa hk' => ?_⟩
    · rw [hwr]
      rcases List.mem_append.1 hg with hg | hg
      · exact hnm hg
      · exact List.mem_append.2 (.inr (Ct (y := y) (by simp [Op.operands]) (i1 g (I5 g hg))))
    · simp only [At]
      exact Cf ht (t1 S' _ (oa.one (by simp [Op.operands])) (t2 S' (fun cs S' h' => K' (B4 S' dst none (.bx id 0)) ((id, .own ty.size [cs]) :: h')) hk'))
  | store t y z =>
    simp only [At] at hk
    obtain ⟨ty, ht, hk⟩ := B1 hk
    obtain ⟨v, hk, i1, t1⟩ := C0 hk
    obtain ⟨u, hk, i2, t2⟩ := C0 hk
    obtain ⟨gs, h1, hk, f1, t3⟩ := A9f hk
    refine ⟨gs, _, _, hk, f1.mono fun g hg => ?_, fun S' K' oa hk' => ?_⟩
    · rw [hwr]
      rcases List.mem_append.1 hg with hg | hg
      · exact List.mem_append.2 (.inr (Ct (y := y) (by simp [Op.operands]) (i1 g hg)))
      · exact List.mem_append.2 (.inr (Ct (y := z) (by simp [Op.operands]) (i2 g hg)))
    · simp only [At]
      exact Cf ht (t1 S' _ (oa.one (by simp [Op.operands])) (t2 S' _ (oa.one (by simp [Op.operands])) (t3 S' (fun S' h' => K' (B4 S' dst none .undef) h') hk')))
  | convert s t y =>
    have hk0 : J6 E s fun ts => J6 E t fun ty => val S none y fun v => cvt E id ts ty v dst S h K := hk
    obtain ⟨ts, hts, hk0⟩ := B1 hk0
    obtain ⟨ty, htt, hk0⟩ := B1 hk0
    obtain ⟨v, hk0, i1, t1⟩ := C0 hk0
    obtain ⟨u, h', hk0, f1, t2⟩ := B6v hk0
    refine ⟨[], u, h', hk0, f1.mono fun g hg => by rw [hwr]; exact hnm hg, fun S' K' oa hk' => ?_⟩
    show J6 E s fun ts => J6 E t fun ty => val S' none y fun v => cvt E id ts ty v dst S' h K'
    exact Cf hts (Cf htt (t1 S' _ (oa.one (by simp [Op.operands])) (t2 S' K' hk')))
  | buildSlice t m parts =>
    simp only [At] at hk
    obtain ⟨ty, hk, t0⟩ := Ey hk
    obtain ⟨e1, hk⟩ := Bb hk
    obtain ⟨vs, hk, i1, t1⟩ := Ga hk
    obtain ⟨rows, gs, h1, hk, f1, t2⟩ := Uc hk
    cases hr : Ou 0 (parts.toList.map fun q => q.1) <;> rw [hr] at hk <;> simp only at hk
    obtain ⟨e2, hk⟩ := C1 hk
    refine ⟨gs, _, _, hk, f1.new.mono fun g hg => ?_, fun S' K' oa hk' => ?_⟩
    · rw [hwr]
      rcases List.mem_append.1 hg with hg | hg
      · exact hnm hg
      · exact List.mem_append.2 (.inr (Ig (ys := parts.toList.map fun q => q.2) (by simp [Op.operands]) (i1 g hg)))
    · simp only [At]
      refine t0 _ (E9 e1 (t1 S' _ (oa.mono (by simp [Op.operands])) (t2 S' _ ?_)))
      rw [hr]
      exact I4 e2 hk'
  | makeSlice t l c =>
    simp only [At] at hk
    obtain ⟨ty, hk, t0⟩ := Ey hk
    obtain ⟨v1, hk, i1, t1⟩ := C0 hk
    obtain ⟨v2, hk, i2, t2⟩ := C0 hk
    cases v1 <;> try exact hk.elim
    cases v2 <;> try exact hk.elim
    obtain ⟨q1, q2, q3, q4, hk⟩ := hk
    refine ⟨[], _, _, hk, Frm.rfl.new (ids := []) |>.mono fun g hg => ?_, fun S' K' oa hk' => ?_⟩
    · rw [hwr]; simp only [List.append_nil] at hg; exact hnm hg
    · simp only [At]
      exact t0 _ (t1 S' _ (oa.one (by simp [Op.operands])) (t2 S' _ (oa.one (by simp [Op.operands])) ⟨q1, q2, q3, q4, hk'⟩))
  | call c =>
    cases hc : c.callee with
    | invoke r m => simp only [At, hc] at hk
    | builtin b =>
      simp only [B38, hc] at hwr
      simp only [At, hc] at hk
      simp only [C7, hc] at hv
      obtain ⟨vs, hk, i1, t1⟩ := Ga hk
      cases b <;> first
        | (cases hv; done)
        | (rcases vs with _ | ⟨y, _ | ⟨z, _ | ⟨q, r⟩⟩⟩ <;> first
            | (exact hk.elim)
            | (exfalso; cases y <;> (try exact hk.elim) <;> cases z <;> exact hk.elim)
            | skip)
      obtain ⟨e1, hk⟩ := Bb hk
      obtain ⟨ty, hk, t2⟩ := Ey hk
      obtain ⟨ta, hta, hk⟩ := B1 hk
      have hk' : (∀ k, ta.k ≠ .int k) ∧ Is ty S h id dst y z K := by
        cases hq : ta.k <;> rw [hq] at hk <;> first | exact hk.elim | exact ⟨by simp, hk⟩
      obtain ⟨hni, hk⟩ := hk'
      obtain ⟨gs, v, h', hk, f1, t3⟩ := A5z hk
      refine ⟨gs, v, h', hk, f1.mono fun g hg => ?_, fun S' K' oa hk' => ?_⟩
      · rw [hwr]
        rcases List.mem_append.1 hg with hg | hg
        · exact hnm hg
        · refine List.mem_append.2 (.inr (Ig (ys := c.args.toList) (by intro z hz; simp [Op.operands, Call.operands]; simp at hz; simp [hz]) (i1 g ?_)))
          simp only [Ek, List.append_nil]
          exact hg
      · simp only [At, hc]
        refine t1 S' _ (oa.mono (by intro z hz; simp [Op.operands, Call.operands]; simp at hz; simp [hz])) (E9 e1 (t2 _ (Cf hta ?_)))
        have := t3 S' K' hk'
        cases hq : ta.k <;> first | exact absurd hq (hni _) | exact this
    | value f =>
      simp only [B38, hc] at hwr
      simp only [At, hc] at hk
      obtain ⟨f', caps, hk1, i1, hfn, t1⟩ := Y5 hk (by
        intro v hv
        obtain ⟨vs, hv, _⟩ := Ga hv
        cases v <;> first | exact hv.elim | exact ⟨_, _, rfl⟩)
      obtain ⟨vs, hk2, i2, t2⟩ := Ga hk1
      simp only at hk2
      obtain ⟨c', hE, gs, v, h', hk, f1, t3⟩ := B3q hk2
      refine ⟨gs, v, h', hk, f1.mono fun g hg => ?_, fun S' K' oa hk' => ?_⟩
      · rw [hwr]
        rcases List.mem_append.1 hg with hg | hg
        · exact hnm hg
        · cases ha : I1 c'.ms with
          | true => rw [ha] at hg; cases hg
          | false =>
            rw [ha] at hg
            simp only at hg
            have hin : g ∈ touched S ⟨dst, .call c, type, pos, after, guard⟩ := by
              rcases (S6 _ _ _).1 hg with hg | hg
              · exact Ig (ys := c.args.toList) (by intro z hz; simp [Op.operands, Call.operands]; simp at hz; simp [hz]) (i2 g hg)
              · exact Ct (y := f) (by simp [Op.operands, Call.operands, hc]) (i1 g hg)
            cases f with
            | func f2 =>
              obtain ⟨rfl, _⟩ := hfn f2 rfl
              simp only
              rw [hE]
              simp only [ha]
              exact List.mem_append.2 (.inr hin)
            | _ => exact List.mem_append.2 (.inr hin)
      · simp only [At, hc]
        exact t1 S' _ (oa.one (by simp [Op.operands, Call.operands, hc])) (t2 S' _ (oa.mono (by intro z hz; simp [Op.operands, Call.operands]; simp at hz; simp [hz])) (t3 S' K' hk'))
  | _ =>
    exfalso
    first
      | (simp only [At] at hk; done)
      | (simp only [C7] at hv; cases hv; done)
      | (simp only [At] at hk; exact hk)
theorem A49 {ty : Ty} {a y : AV} {K : Ac → Af → Prop} (hsc : ty.k.scalar = true) (hk : storeAt ty S h a y K) :
    ∃ h', K S h' ∧ Frm (a.ids ++ y.ids) [] h h' ∧ ∀ S' K', K' S' h' → storeAt ty S' h a y K' := by
  cases a <;> simp only [storeAt] at hk
  case bx g f =>
    have hgi : g ∈ (AV.bx g f).ids ++ y.ids := by simp [AV.ids, AV.ids1]
    rw [hsc] at hk
    simp only at hk
    cases hy : y.scalar <;> rw [hy] at hk <;> simp only at hk
    obtain ⟨s, xs, hg, hk⟩ := Bo hk
    match xs, hg, hk with
    | [], _, hk => exact hk.elim
    | _ :: _ :: _, _, hk => exact hk.elim
    | [r], hg, hk =>
      obtain ⟨e, hk⟩ := Bb hk
      cases hc : (cell r f).scalar <;> rw [hc] at hk <;> simp only at hk
      refine ⟨_, hk, Frm.rfl.one hgi (fun e he => Lt he) (gs' := []) (by simp), fun S' K' h => ?_⟩
      simp only [storeAt, hsc, hy]
      exact Hc hg (E9 e (by rw [hc]; exact h))
  case ptr g p i f =>
    have hgi : g ∈ (AV.ptr g p i f).ids ++ y.ids := by simp [AV.ids, AV.ids1]
    rw [hsc] at hk
    simp only at hk
    cases hy : y.scalar <;> rw [hy] at hk <;> simp only at hk
    obtain ⟨s, xs, hg, hk⟩ := Bo hk
    obtain ⟨e, r, hr, hk⟩ := Bb hk
    cases hc : (cell r f).scalar <;> rw [hc] at hk <;> simp only at hk
    refine ⟨_, hk, Frm.rfl.one hgi (fun e he => La he) (gs' := []) (by simp), fun S' K' h => ?_⟩
    simp only [storeAt, hsc, hy]
    exact Hc hg (E9 e ⟨r, hr, by rw [hc]; exact h⟩)
theorem A8g {o : Oper} (hv : C7 E o = false) {K : Ac → Af → Prop} (hk : At E id o none S h K) :
    ∃ gs v h', K (B4 (By gs S) o.dst none v) h' ∧ Frm (wroteIds E id S o) gs h h' ∧ (∀ g, g ∈ gs → g ∈ Ms E id S o) ∧ ∀ S' K', OAg o.op.operands.toList S S' → K' (B4 (By gs S') o.dst none v) h' → At E id o none S' h K' := by
  cases hp : Lj E o with
  | false =>
    obtain ⟨gs, v, h', k, f, t⟩ := Sb hv hk
    exact ⟨gs, v, h', k, f, fun g hg => by unfold Ms; rw [hp]; exact f.1 g hg, t⟩
  | true =>
    obtain ⟨dst, op, type, pos, after, guard⟩ := o
    unfold Lj at hp
    cases op <;> simp only at hp <;> (try (cases hp; done))
    rename_i t y z
    simp only [At] at hk
    obtain ⟨ty, ht, hk⟩ := B1 hk
    rw [ht] at hp
    simp only at hp
    obtain ⟨v, hk, i1, t1⟩ := C0 hk
    obtain ⟨u, hk, i2, t2⟩ := C0 hk
    obtain ⟨h1, hk, f1, t3⟩ := A49 hp hk
    refine ⟨[], _, _, hk, f1.mono fun g hg => ?_, by simp, fun S' K' oa hk' => ?_⟩
    · unfold wroteIds
      rw [hv]
      rcases List.mem_append.1 hg with hg | hg
      · exact List.mem_append.2 (.inr (Ct (y := y) (by simp [Op.operands]) (i1 g hg)))
      · exact List.mem_append.2 (.inr (Ct (y := z) (by simp [Op.operands]) (i2 g hg)))
    · simp only [At]
      exact Cf ht (t1 S' _ (oa.one (by simp [Op.operands])) (t2 S' _ (oa.one (by simp [Op.operands])) (t3 S' (fun S' h' => K' (B4 S' dst none .undef) h') hk')))
end
end Go.GH


set_option linter.unusedVariables false
set_option linter.unusedSimpArgs false
namespace Go.GH
open Go
section
variable {P : Program} {E : Env} {x : Ctx} {w w' : World} {h : Af} {n n' : Nat → Prop} {ρ : Option Nat → Ai} {id : Nat} {S : Ac}
theorem B07 {ops : List Oper} {o : Oper} {a : Act} {K : Option Bool → Prop} (hs : An x w h n ρ S a.tmps) (hk : L7 S ops o K) :
    ∃ g, K g ∧ ((Cn g ∧ Region.wanted o (yielded ops.toArray a.tmps) = true) ∨ (g = some false ∧ Region.wanted o (yielded ops.toArray a.tmps) = false)) := by
  unfold L7 at hk
  unfold Region.wanted
  cases hg : o.guard with
  | none => rw [hg] at hk; exact ⟨none, hk, .inl ⟨trivial, rfl⟩⟩
  | some jb =>
    obtain ⟨j, b⟩ := jb
    rw [hg] at hk
    simp only at hk ⊢
    cases hj : ops[j]? with
    | none => rw [hj] at hk; exact hk.elim
    | some oj =>
      rw [hj] at hk
      simp only at hk
      cases hd : oj.dst with
      | none => rw [hd] at hk; exact hk.elim
      | some d =>
        rw [hd] at hk
        simp only at hk
        cases hl : A4 S d with
        | none => rw [hl] at hk; exact hk.elim
        | some s =>
          rw [hl] at hk
          obtain ⟨c, v⟩ := s
          obtain ⟨h1, h2⟩ := hs d _ hl
          have hdst : ((ops.toArray[j]?).bind (·.dst)) = some d := by simp [hj, hd]
          have hyu : a.tmps.getD d undef = undef → yielded ops.toArray a.tmps j = none := by
            intro hu
            unfold yielded
            rw [hdst, Option.bind_some]
            cases e : a.tmps[d]? with
            | none => rfl
            | some u =>
              have : u = undef := by rw [← hu]; simp [Array.getD_eq_getD_getElem?, e]
              subst this; rfl
          have hyb : ∀ xb, a.tmps.getD d undef = .bool xb → yielded ops.toArray a.tmps j = some xb := by
            intro xb hu
            unfold yielded
            rw [hdst, Option.bind_some]
            cases e : a.tmps[d]? with
            | none => simp [Array.getD_eq_getD_getElem?, e, undef] at hu
            | some u =>
              have : u = .bool xb := by rw [← hu]; simp [Array.getD_eq_getD_getElem?, e]
              subst this; rfl
          cases v <;> simp only at hk
          case bool xb =>
            have fin : ∀ g0 : Option Bool, Cn g0 → c = g0 → ∃ g, (match b with | true => (fun K : Option Bool → Prop => K (W0 c xb)) | false => fun K => K (W0 c (!xb))) (fun q => q = g) ∧ ((Cn g ∧ (yielded ops.toArray a.tmps j == some b) = true) ∨ (g = some false ∧ (yielded ops.toArray a.tmps j == some b) = false)) := by
              intro g0 hg0 hc
              have hy := hyb xb (I6 (h1 (hc ▸ hg0)))
              rw [hy]
              subst hc
              cases b <;> cases xb <;> cases c <;> first
                | exact ⟨_, rfl, .inl ⟨by simp_all [Cn, W0], by decide⟩⟩
                | exact ⟨_, rfl, .inr ⟨by simp_all [Cn, W0], by decide⟩⟩
            have use : ∀ g, (match b with | true => (fun K : Option Bool → Prop => K (W0 c xb)) | false => fun K => K (W0 c (!xb))) (fun q => q = g) → K g := by
              intro g hg
              cases b <;> simp only at hg hk <;> exact hg ▸ hk
            cases c with
            | none =>
              obtain ⟨g, e1, e2⟩ := fin none trivial rfl
              exact ⟨g, use g e1, e2⟩
            | some c0 =>
              cases c0 with
              | true =>
                obtain ⟨g, e1, e2⟩ := fin (some true) rfl rfl
                exact ⟨g, use g e1, e2⟩
              | false =>
                have hy := hyu (h2 rfl)
                refine ⟨some false, use _ ?_, .inr ⟨rfl, by rw [hy]; rfl⟩⟩
                cases b <;> cases xb <;> rfl
          case undef =>
            cases c with
            | none => exact hk.elim
            | some c0 =>
              cases c0 with
              | true => exact hk.elim
              | false =>
                have hy := hyu (h2 rfl)
                exact ⟨some false, hk, .inr ⟨rfl, by rw [hy]; rfl⟩⟩
def Iz (E : Env) (ops : List Oper) (id : Nat) (o : Oper) (S : Ac) (h : Af) (S' : Ac) (h' : Af) : Prop := L7 S ops o fun g => J7 E id o g S h fun a b => a = S' ∧ b = h'
theorem Sts.trans {x' : Ctx} {N : Nat} {a : Act} (h1 : ∃ R wr, (∀ b, x.R b → R b) ∧ x' = { x with R := R, wr := wr }) (h2 : Sts x' N S h n a w) : Sts x N S h n a w := by
  obtain ⟨R, wr, hR, rfl⟩ := h1
  obtain ⟨R2, wr2, hR2, h3⟩ := h2
  exact ⟨R2, wr2, fun b hb => hR2 b (hR b hb), h3⟩
theorem Sts.mono_n {N : Nat} {a : Act} (h1 : Sts x N S h n a w) (hn : ∀ g, n g → n' g) : Sts x N S h n' a w := by
  obtain ⟨R, wr, hR, ρ, H, hs, hN, hd⟩ := h1
  exact ⟨R, wr, hR, ρ, H.mono_n hn, hs.mono_n H hn, hN, hd⟩
def Xf (P : Program) (ops : Array Oper) (o : Oper) (a : Act) (w : World) (Q : Exit → Act → World → Prop) (R : Act → World → Prop) : Prop :=
  if Region.wanted o (yielded ops a.tmps) then o.wp P a w R Q ∨ (o.asks P a w ∧ LetsOut Q) else R (a.put o.dst undef) w
theorem A0u (hT : TOk P E) (hF : FE P E x) {N : Nat} {a : Act} {ops : List Oper} {o : Oper} {S' : Ac} {h' : Af} (hx : Iz E ops id o S h S' h') (hst : Sts x N S h n a w)
    (hbd : ∃ B, ∀ g, n g → g < B) (hid : Pq n id) (hd : ∀ k, o.dst = some k → k < N) (Q : Exit → Act → World → Prop) : Xf P ops.toArray o a w Q fun a' w' => Sts x N S' h' (Jq n id) a' w' := by
  obtain ⟨R, wr, hR, ρ, H, hs, hN, hdf⟩ := hst
  obtain ⟨g, hk, hg⟩ := B07 hs hx
  have back : ∀ {S'' h'' n'' a'' w''}, Sts { x with R := R, wr := wr } N S'' h'' n'' a'' w'' → Sts x N S'' h'' n'' a'' w'' := fun h => Sts.trans ⟨R, wr, hR, rfl⟩ h
  unfold Xf
  rcases hg with ⟨hg, hw⟩ | ⟨rfl, hw⟩
  · rw [if_pos hw]
    left
    have run : ∀ {g : Option Bool}, Cn g → (g ≠ none → C7 E o = true) → (At E id o g S h fun a b => a = S' ∧ b = h') → o.wp P a w (fun a' w' => Sts x N S' h' (Jq n id) a' w') Q := by
      intro g hg hv hk
      obtain ⟨S2, h2, ⟨rfl, rfl⟩, hwp⟩ := A81 (Q := Q) hT (show FE P E { x with R := R, wr := wr } from hF) H hs hN hdf hbd hid hg hv hd hk
      exact Oper.wp_mono (fun a' w' h => back h) hwp
    cases g with
    | none => exact run (g := none) trivial (by simp) hk
    | some b =>
      cases b with
      | false => simp [Cn] at hg
      | true =>
        simp only [J7] at hk
        cases hv : C7 E o <;> rw [hv] at hk <;> simp only at hk
        · exact run (g := none) trivial (by simp) (hk.1 (by trivial))
        · cases hvo : Ly S o <;> rw [hvo] at hk <;> simp only at hk
          · exact run hg (fun _ => hv) hk
          · exact (hk.1 trivial).elim
  · rw [hw]
    simp only [Bool.false_eq_true, if_false]
    have skip : S' = B4 S o.dst (some false) .undef ∧ h' = h ∨ ∃ v, S' = B4 S o.dst (some false) v ∧ h' = h := by
      simp only [J7] at hk
      cases hv : C7 E o <;> rw [hv] at hk <;> simp only at hk
      · exact .inl ⟨(hk.2 (by trivial)).1.symm, (hk.2 (by trivial)).2.symm⟩
      · cases hvo : Ly S o <;> rw [hvo] at hk <;> simp only at hk
        · obtain ⟨v, ⟨e1, e2⟩, _⟩ := Qa hv hk
          exact .inr ⟨v, e1.symm, e2.symm⟩
        · exact .inl ⟨hk.2.1.symm, hk.2.2.symm⟩
    have : ∃ v, S' = B4 S o.dst (some false) v ∧ h' = h := by
      rcases skip with h | h
      · exact ⟨_, h⟩
      · exact h
    obtain ⟨v, rfl, rfl⟩ := this
    exact back (Stt.put (x := { x with R := R, wr := wr }) H hs hN hdf hd (fun ht => by simp [Cn] at ht) (fun _ => rfl) A0h).sts
def Ho (ops : List Oper) (o : Oper) (S S' : Ac) : Prop := ∀ d, d ∈ o.looksAt ops.toArray → A4 S' d = A4 S d
theorem Ho.oag {ops : List Oper} {o : Oper} {S S' : Ac} (h : Ho ops o S S') : OAg o.op.operands.toList S S' := fun d hd => h d (by
  unfold Oper.looksAt
  refine List.mem_append.2 (.inl (List.mem_filterMap.2 ⟨_, hd, rfl⟩)))
theorem Ie {ops : List Oper} {o : Oper} {S S' : Ac} (h : Ho ops o S S') {K : Option Bool → Prop} : L7 S ops o K = L7 S' ops o K := by
  unfold L7
  cases hg : o.guard with
  | none => rfl
  | some jb =>
    obtain ⟨j, b⟩ := jb
    simp only
    cases hj : ops[j]? with
    | none => rfl
    | some oj =>
      simp only
      cases hd : oj.dst with
      | none => rfl
      | some d =>
        simp only
        rw [h d (by unfold Oper.looksAt; rw [hg]; refine List.mem_append.2 (.inr ?_); simp [hj, hd])]
theorem Qh {ops : List Oper} {o : Oper} {K : Option Bool → Prop} (hk : L7 S ops o K) : ∃ g, K g ∧ ∀ K', K' g → L7 S ops o K' := by
  unfold L7 at hk ⊢
  cases hg : o.guard with
  | none => rw [hg] at hk; exact ⟨_, hk, fun _ h => h⟩
  | some jb =>
    obtain ⟨j, b⟩ := jb
    rw [hg] at hk
    simp only at hk ⊢
    cases hj : ops[j]? with
    | none => rw [hj] at hk; exact hk.elim
    | some oj =>
      rw [hj] at hk
      simp only at hk ⊢
      cases hd : oj.dst with
      | none => rw [hd] at hk; exact hk.elim
      | some d =>
        rw [hd] at hk
        simp only at hk ⊢
        cases hl : A4 S d with
        | none => rw [hl] at hk; exact hk.elim
        | some s =>
          rw [hl] at hk
          obtain ⟨c, v⟩ := s
          cases v <;> simp only at hk ⊢
          case bool xb => exact ⟨_, hk, fun _ h => h⟩
          case undef =>
            cases c with
            | none => exact hk.elim
            | some c0 =>
              cases c0 with
              | true => exact hk.elim
              | false => exact ⟨_, hk, fun _ h => h⟩
theorem Px {ops : List Oper} {o : Oper} {S' : Ac} {h' : Af} (hx : Iz E ops id o S h S' h') :
    (∃ c v, S' = B4 S o.dst c v ∧ h' = h ∧ ∀ S1 h1, Ho ops o S S1 → HAg (readIds S o) h h1 → Iz E ops id o S1 h1 (B4 S1 o.dst c v) h1) ∨
    (C7 E o = false ∧ ∃ gs v, S' = B4 (By gs S) o.dst none v ∧ Frm (wroteIds E id S o) gs h h' ∧ (∀ g, g ∈ gs → g ∈ Ms E id S o) ∧ ∀ S1, Ho ops o S S1 → Iz E ops id o S1 h (B4 (By gs S1) o.dst none v) h') := by
  unfold Iz at hx
  obtain ⟨g, hk, tg⟩ := Qh hx
  have anchor : C7 E o = false → (At E id o none S h fun a b => a = S' ∧ b = h') → (∀ S1 h1 S2 h2, (At E id o none S1 h1 fun a b => a = S2 ∧ b = h2) → J7 E id o g S1 h1 fun a b => a = S2 ∧ b = h2) →
      (C7 E o = false ∧ ∃ gs v, S' = B4 (By gs S) o.dst none v ∧ Frm (wroteIds E id S o) gs h h' ∧ (∀ g, g ∈ gs → g ∈ Ms E id S o) ∧ ∀ S1, Ho ops o S S1 → Iz E ops id o S1 h (B4 (By gs S1) o.dst none v) h') := by
    intro hv hk hr
    obtain ⟨gs, v, h2, ⟨e1, e2⟩, f1, fk, t1⟩ := A8g hv hk
    subst e2
    refine ⟨hv, gs, v, e1.symm, f1, fk, fun S1 ha => ?_⟩
    unfold Iz
    rw [← Ie ha]
    exact tg _ (hr _ _ _ _ (t1 S1 _ ha.oag ⟨rfl, rfl⟩))
  have value : ∀ g', C7 E o = true → (At E id o g' S h fun a b => a = S' ∧ b = h') → (∀ S1 h1 S2 h2, (At E id o g' S1 h1 fun a b => a = S2 ∧ b = h2) → J7 E id o g S1 h1 fun a b => a = S2 ∧ b = h2) →
      (∃ c v, S' = B4 S o.dst c v ∧ h' = h ∧ ∀ S1 h1, Ho ops o S S1 → HAg (readIds S o) h h1 → Iz E ops id o S1 h1 (B4 S1 o.dst c v) h1) := by
    intro g' hv hk hr
    obtain ⟨v, ⟨e1, e2⟩, t1⟩ := Qa hv hk
    refine ⟨g', v, e1.symm, e2.symm, fun S1 h1 ha hh => ?_⟩
    unfold Iz
    rw [← Ie ha]
    exact tg _ (hr _ _ _ _ (t1 S1 h1 _ ha.oag hh ⟨rfl, rfl⟩))
  by_cases hv : C7 E o = true
  · cases g with
    | none => exact .inl (value none hv hk fun _ _ _ _ h => h)
    | some b =>
      cases hvo : Ly S o with
      | true =>
        have e : ∀ S1 h K, Ly S1 o = true → J7 E id o (some b) S1 h K = ((b = true → False) ∧ K (B4 S1 o.dst (some false) .undef) h) := by intro S h K hvo; unfold J7; rw [hv]; simp only [hvo]
        rw [e _ _ _ hvo] at hk
        obtain ⟨hb, e1, e2⟩ := hk
        refine .inl ⟨some false, .undef, e1.symm, e2.symm, fun S1 h1 ha hh => ?_⟩
        unfold Iz
        rw [← Ie ha]
        exact tg _ (by rw [e _ _ _ ((A1u ha.oag).trans hvo)]; exact ⟨hb, rfl, rfl⟩)
      | false =>
        have e : ∀ S1 h K, Ly S1 o = false → J7 E id o (some b) S1 h K = At E id o (some b) S1 h K := by intro S h K hvo; unfold J7; rw [hv]; simp only [hvo]
        rw [e _ _ _ hvo] at hk
        obtain ⟨v, ⟨e1, e2⟩, t1⟩ := Qa hv hk
        refine .inl ⟨some b, v, e1.symm, e2.symm, fun S1 h1 ha hh => ?_⟩
        unfold Iz
        rw [← Ie ha]
        exact tg _ (by rw [e _ _ _ ((A1u ha.oag).trans hvo)]; exact t1 S1 h1 _ ha.oag hh ⟨rfl, rfl⟩)
  · have hv : C7 E o = false := by simpa using hv
    cases g with
    | none => exact .inr (anchor hv hk fun _ _ _ _ h => h)
    | some b =>
      have e : ∀ S h K, J7 E id o (some b) S h K = ((b = true → At E id o none S h K) ∧ (b = false → K (B4 S o.dst (some false) .undef) h)) := by intro S h K; unfold J7; rw [hv]
      rw [e] at hk
      cases b with
      | true => exact .inr (anchor hv (hk.1 rfl) fun _ _ _ _ h => by rw [e]; exact ⟨fun _ => h, by simp⟩)
      | false =>
        obtain ⟨e1, e2⟩ := hk.2 rfl
        refine .inl ⟨some false, .undef, e1.symm, e2.symm, fun S1 h1 ha hh => ?_⟩
        unfold Iz
        rw [← Ie ha]
        exact tg _ (by rw [e]; exact ⟨by simp, fun _ => ⟨rfl, rfl⟩⟩)
end
end Go.GH


set_option linter.unusedVariables false
set_option linter.unusedSimpArgs false
namespace Go.GH
open Go
abbrev U3 := Nat × Oper × (List Nat × List Nat)
inductive To (E : Env) (ops : List Oper) (b : Nat) : List U3 → Ac → Af → Ac → Af → Prop
  | nil {S : Ac} {h : Af} : To E ops b [] S h S h
  | cons {i : Nat} {o : Oper} {r : List U3} {S : Ac} {h : Af} {S1 : Ac} {h1 : Af} {S2 : Ac} {h2 : Af} (hx : Iz E ops (b + 16 * i) o S h S1 h1) (hr : To E ops b r S1 h1 S2 h2) : To E ops b ((i, o, D8 E ops (b + 16 * i) o S S1) :: r) S h S2 h2
section
variable {P : Program} {E : Env} {x : Ctx} {w w' : World} {h : Af} {n n' : Nat → Prop} {ρ : Option Nat → Ai} {id : Nat} {S : Ac}
theorem B8o {ops : List Oper} {o : Oper} {K : Ac → Af → Prop} (hk : L7 S ops o fun g => J7 E id o g S h K) : ∃ S' h', K S' h' ∧ Iz E ops id o S h S' h' := by
  obtain ⟨g, hk, tg⟩ := Qh hk
  have anchor : C7 E o = false → At E id o none S h K → ∃ S' h', K S' h' ∧ At E id o none S h fun a b => a = S' ∧ b = h' := by
    intro hv hk
    obtain ⟨gs, v, h2, hk, f1, t1⟩ := Sb hv hk
    exact ⟨_, _, hk, t1 S (fun a b => a = _ ∧ b = _) (fun _ _ => rfl) ⟨rfl, rfl⟩⟩
  have value : ∀ g', C7 E o = true → At E id o g' S h K → ∃ S' h', K S' h' ∧ At E id o g' S h fun a b => a = S' ∧ b = h' := by
    intro g' hv hk
    obtain ⟨v, hk, t1⟩ := Qa hv hk
    exact ⟨_, _, hk, t1 S h (fun a b => a = _ ∧ b = _) (fun _ _ => rfl) (fun _ _ => rfl) ⟨rfl, rfl⟩⟩
  by_cases hv : C7 E o = true
  · cases g with
    | none =>
      obtain ⟨S', h', hk, hx⟩ := value none hv hk
      exact ⟨S', h', hk, tg _ hx⟩
    | some b =>
      cases hvo : Ly S o with
      | true =>
        have e : ∀ K, J7 E id o (some b) S h K = ((b = true → False) ∧ K (B4 S o.dst (some false) .undef) h) := by intro K; unfold J7; rw [hv]; simp only [hvo]
        rw [e] at hk
        exact ⟨_, _, hk.2, tg _ (by rw [e]; exact ⟨hk.1, rfl, rfl⟩)⟩
      | false =>
        have e : ∀ K, J7 E id o (some b) S h K = At E id o (some b) S h K := by intro K; unfold J7; rw [hv]; simp only [hvo]
        rw [e] at hk
        obtain ⟨S', h', hk, hx⟩ := value (some b) hv hk
        exact ⟨S', h', hk, tg _ (by rw [e]; exact hx)⟩
  · have hv : C7 E o = false := by simpa using hv
    cases g with
    | none =>
      obtain ⟨S', h', hk, hx⟩ := anchor hv hk
      exact ⟨S', h', hk, tg _ hx⟩
    | some b =>
      have e : ∀ K, J7 E id o (some b) S h K = ((b = true → At E id o none S h K) ∧ (b = false → K (B4 S o.dst (some false) .undef) h)) := by intro K; unfold J7; rw [hv]
      rw [e] at hk
      cases b with
      | true =>
        obtain ⟨S', h', hk, hx⟩ := anchor hv (hk.1 rfl)
        exact ⟨S', h', hk, tg _ (by rw [e]; exact ⟨fun _ => hx, by simp⟩)⟩
      | false => exact ⟨_, _, hk.2 rfl, tg _ (by rw [e]; exact ⟨by simp, fun _ => ⟨rfl, rfl⟩⟩)⟩
theorem B0c {ops : List Oper} {b : Nat} : ∀ (r : List Oper) (k : Nat) (S : Ac) (h : Af) (t : B7p) (K : Ac → Af → B7p → Prop), A89 E ops r (b + 16 * k) S h t K →
    ∃ l Sn hn, To E ops b l S h Sn hn ∧ K Sn hn ((l.map (·.2.2)).reverse ++ t) ∧ l.map (fun q => (q.2.1, q.1)) = r.zipIdx k
  | [], k, S, h, t, K, hk => ⟨[], S, h, .nil, hk, rfl⟩
  | o :: r, k, S, h, t, K, hk => by
    obtain ⟨S1, h1, hk, hx⟩ := B8o hk
    have e : b + 16 * k + 16 = b + 16 * (k + 1) := by omega
    rw [e] at hk
    obtain ⟨l, Sn, hn, hc, hk, hl⟩ := B0c r (k + 1) S1 h1 _ K hk
    refine ⟨(k, o, D8 E ops (b + 16 * k) o S S1) :: l, Sn, hn, .cons hx hc, ?_, ?_⟩
    · simpa using hk
    · simp [hl]
theorem Xf.mono {ops : Array Oper} {o : Oper} {a : Act} {Q : Exit → Act → World → Prop} {R R' : Act → World → Prop} (h : Xf P ops o a w Q R) (hr : ∀ a w, R a w → R' a w) : Xf P ops o a w Q R' := by
  unfold Xf at h ⊢
  split
  · rename_i hw
    rw [if_pos hw] at h
    exact h.imp (Oper.wp_mono hr) (fun h => h)
  · rename_i hw
    rw [if_neg hw] at h
    exact hr _ _ h
theorem B8i {n : Nat → Prop} {b k : Nat} (h : ∀ g, n g → g < b + 16 * k) : ∀ g, Jq n (b + 16 * k) g → g < b + 16 * (k + 1) := by
  rintro g (hg | ⟨h1, h2⟩)
  · have := h g hg; omega
  · omega
theorem B08 {n : Nat → Prop} {id : Nat} (h : ∀ g, n g → g < id) : Pq n id := fun g h1 _ hn => by have := h g hn; omega
theorem A21 (hT : TOk P E) (hF : FE P E x) {N : Nat} {ops : List Oper} {b : Nat} {Q : Exit → Act → World → Prop} (hd : ∀ o, o ∈ ops → ∀ k, o.dst = some k → k < N) : ∀ (r : List Oper) (k : Nat) {l : List U3} {S : Ac} {h : Af} {Sn : Ac} {hn : Af} {n : Nat → Prop} {a : Act} {w : World},
    (∀ o, o ∈ r → o ∈ ops) → To E ops b l S h Sn hn → l.map (fun q => (q.2.1, q.1)) = r.zipIdx k → Sts x N S h n a w → (∀ g, n g → g < b + 16 * k) → (∀ a w n', (∀ g, n' g → g < b + 16 * (k + r.length)) → Sts x N Sn hn n' a w → Q .normal a w) →
    wpList P ops.toArray Q r a w
  | [], k, l, S, h, Sn, hn, n, a, w, hm, hc, hl, hst, hlt, hQ => by
    have : l = [] := by simpa using hl
    subst this
    cases hc
    exact hQ a w n (by simpa using hlt) hst
  | o :: r, k, l, S, h, Sn, hn, n, a, w, hm, hc, hl, hst, hlt, hQ => by
    cases hc with
    | nil => simp at hl
    | cons hx hr =>
      simp only [List.map_cons, List.zipIdx_cons, List.cons.injEq, Prod.mk.injEq] at hl
      obtain ⟨⟨rfl, rfl⟩, hl⟩ := hl
      have hs := A0u hT hF hx hst ⟨_, hlt⟩ (B08 hlt) (hd _ (hm _ (by simp))) Q
      have := hs.mono (R' := wpList P ops.toArray Q r) fun a' w' h' => A21 hT hF hd r _ (fun o ho => hm o (by simp [ho])) hr hl h' (B8i hlt) fun a w n' hn' hs' => hQ a w n' (fun g hg => by have := hn' g hg; simp only [List.length_cons]; omega) hs'
      exact this
def SEq (S S' : Ac) : Prop := ∀ d, A4 S' d = A4 S d
theorem SEq.agree {ops : List Oper} {o : Oper} {S S' : Ac} (h : SEq S S') : Ho ops o S S' := fun d _ => h d
theorem Di {S : Ac} {dst : Option Nat} {c : Option Bool} {v : AV} {d : Nat} : A4 (B4 S dst c v) d = if dst = some d then some ⟨c, v⟩ else A4 S d := by
  cases dst with
  | none => simp [B4]
  | some k => simp [B4, A9]
def vs1 (g : Nat) (s : A5n) : A5n := match J2 g s.v with
  | true => ⟨s.c, .undef⟩
  | false => s
theorem U0 (g d : Nat) : ∀ (S : Ac), A4 (voids g S) d = (A4 S d).map (vs1 g)
  | [] => rfl
  | (k, s) :: S => by
    have ih := U0 g d S
    simp only [voids]
    cases hv : J2 g s.v <;> simp only <;> rw [A9, A9, ih] <;> split <;> simp [vs1, hv]
def vsL : List Nat → A5n → A5n
  | [], s => s
  | g :: gs, s => vsL gs (vs1 g s)
theorem Eh (d : Nat) : ∀ (gs : List Nat) (S : Ac), A4 (By gs S) d = (A4 S d).map (vsL gs)
  | [], S => by simp only [By]; cases A4 S d <;> rfl
  | g :: gs, S => by
    simp only [By]
    rw [Eh d gs, U0]
    cases A4 S d <;> rfl
theorem B4v (g : Nat) (c : Option Bool) : vs1 g ⟨c, .undef⟩ = ⟨c, .undef⟩ := rfl
theorem A74 (c : Option Bool) : ∀ gs, vsL gs ⟨c, .undef⟩ = ⟨c, .undef⟩
  | [] => rfl
  | g :: gs => by simp only [vsL, B4v, A74 c gs]
theorem Kv {g : Nat} {v : AV} (h : Fz g v = true) : g ∈ v.ids1 ∨ v.nest = true := by
  cases v with
  | view g' p o l =>
    cases p with
    | nil => simp [Fz] at h
    | cons a p => have : g' = g := Nat.eq_of_beq_eq_true h; subst this; simp [AV.ids1]
  | ptr g' p i f =>
    cases p with
    | nil => simp [Fz] at h
    | cons a p => have : g' = g := Nat.eq_of_beq_eq_true h; subst this; simp [AV.ids1]
  | agg cs => exact .inr rfl
  | tup cs => exact .inr rfl
  | fn f cs => exact .inr rfl
  | _ => simp [Fz] at h
theorem Ql {g : Nat} : ∀ {cs : List AV}, Qc g cs = true → g ∈ F6 cs ∨ W7 cs = true
  | [], h => by cases h
  | c :: cs, h => by
    simp only [Qc] at h
    simp only [F6, W7, List.mem_append, Bool.or_eq_true]
    cases hl : Fz g c <;> rw [hl] at h <;> simp only at h
    · rcases Ql h with h | h
      · exact .inl (.inr h)
      · exact .inr (.inr h)
    · rcases Kv hl with h | h
      · exact .inl (.inl h)
      · exact .inr (.inl h)
theorem A7q {g : Nat} {c : AV} {cs : List AV} (h : L4 g (c :: cs) = true) : (g ∈ c.ids ∨ L3 [c] = true) ∨ L4 g cs = true := by
  have gen : ∀ b : Bool, (match b with | true => true | false => L4 g cs) = true → b = true ∨ L4 g cs = true := by intro b; cases b <;> simp
  cases c with
  | agg d =>
    rcases gen (Qc g d) h with h | h
    · refine .inl ((Ql h).imp (fun h => h) fun h => ?_)
      simp [L3, h]
    · exact .inr h
  | view g' p o l =>
    rcases gen (Fz g (.view g' p o l)) h with h | h
    · exact .inl ((Kv h).imp Ss fun h => by cases h)
    · exact .inr h
  | ptr g' p i f =>
    rcases gen (Fz g (.ptr g' p i f)) h with h | h
    · exact .inl ((Kv h).imp Ss fun h => by cases h)
    · exact .inr h
  | tup d => exact .inl (.inr (by simp [L3, AV.nest]))
  | fn f d => exact .inl (.inr (by simp [L3, AV.nest]))
  | _ => exact .inr h
theorem A83 {c : AV} {cs : List AV} : L3 (c :: cs) = (L3 [c] || L3 cs) := by simp [L3]
theorem Ye {g : Nat} : ∀ {cs : List AV}, L4 g cs = true → g ∈ Kc cs ∨ L3 cs = true
  | [], h => by cases h
  | c :: cs, h => by
    simp only [Kc, List.mem_append]
    rw [A83, Bool.or_eq_true]
    rcases A7q h with (h | h) | h
    · exact .inl (.inl h)
    · exact .inr (.inl h)
    · rcases Ye h with h | h
      · exact .inl (.inr h)
      · exact .inr (.inr h)
theorem B1z {g : Nat} {v : AV} (h : J2 g v = true) : g ∈ v.ids2 ∨ v.deepNest = true := by
  cases v with
  | agg cs => exact Ql h
  | fn f cs =>
    rcases Ql (cs := cs) h with h | h
    · exact .inl (Pz h)
    · exact .inr h
  | tup cs => exact Ye h
  | view g' p o l =>
    rcases Kv (v := .view g' p o l) h with h | h
    · exact .inl h
    · cases h
  | ptr g' p o l =>
    rcases Kv (v := .ptr g' p o l) h with h | h
    · exact .inl h
    · cases h
  | _ => simp [J2, Fz] at h
theorem Tf {v : AV} {i : Nat} (h : i ∈ v.idsU) (h2 : i = 1000000007 ∨ J2 i v = true) : i ∈ v.keepU := by
  refine List.mem_filter.2 ⟨h, ?_⟩
  rcases h2 with rfl | h2
  · simp
  · simp [h2]
theorem B5u {v : AV} {i : Nat} (h : i ∈ v.keepU) : i ∈ v.idsU := (List.mem_filter.1 h).1
theorem B4i {c : Option Bool} {v : AV} : ∀ {gs : List Nat}, (∀ g, g ∈ gs → g ∉ v.keepU) → 1000000007 ∉ v.keepU → vsL gs ⟨c, v⟩ = ⟨c, v⟩
  | [], _, _ => rfl
  | g :: gs, h, hm0 => by
    have hm : 1000000007 ∉ v.idsU := fun hh => hm0 (Tf hh (.inl rfl))
    have hu : v ≠ .undef := by rintro rfl; exact hm (by simp [AV.idsU])
    have hn : v.deepNest = false := by
      cases hd : v.deepNest with
      | false => rfl
      | true =>
        exfalso; apply hm
        unfold AV.idsU
        split
        · exact absurd rfl hu
        · rw [hd]; simp
    have hid : v.idsU = v.ids2 := by
      unfold AV.idsU
      split
      · exact absurd rfl hu
      · rw [hn]
    have hg : J2 g v = false := by
      cases hd : J2 g v with
      | false => rfl
      | true =>
        rcases B1z hd with h1 | h1
        · exact absurd (Tf (hid ▸ h1) (.inr hd)) (h g (by simp))
        · rw [hn] at h1; cases h1
    simp only [vsL, vs1, hg]
    exact B4i (fun g hg => h g (by simp [hg])) hm0
theorem X1 : ∀ (gs : List Nat) (s : A5n), vsL gs s = s ∨ vsL gs s = ⟨s.c, .undef⟩
  | [], s => .inl rfl
  | g :: gs, s => by
    simp only [vsL]
    unfold vs1
    cases J2 g s.v <;> simp only
    · exact X1 gs s
    · exact .inr (A74 _ gs)
end
end Go.GH


set_option linter.unusedVariables false
set_option linter.unusedSimpArgs false
namespace Go.GH
open Go
structure Hd (a : Nat) (o : Option AV) (h h2 : Af) : Prop where
  eq : ∀ g, g ≠ a → A4 h2 g = A4 h g
  at_ : A4 h2 a = o
section
variable {P : Program} {E : Env} {x : Ctx} {w w' : World} {h h2 : Af} {n n' : Nat → Prop} {ρ : Option Nat → Ai} {id : Nat} {S : Ac} {gd : Option Bool} {a : Nat} {o : Option AV}
theorem Hd.hget (he : Hd a o h h2) {g : Nat} (hg : g ≠ a) (p : Bj) : hget h2 g p = hget h g p := by
  unfold Go.GH.hget; rw [he.eq g hg]
theorem Hd.remove (he : Hd a o h h2) {g : Nat} (hg : g ≠ a) : Hd a o (remove h g) (remove h2 g) :=
  ⟨fun e hh => by rw [Gp, Gp, he.eq e hh], by rw [Gp, if_neg hg, he.at_]⟩
theorem Hd.hput (he : Hd a o h h2) {g : Nat} (hg : g ≠ a) (p : Bj) (y : AV) : Hd a o (hput h g p y) (hput h2 g p y) := by
  cases hl : A4 h g with
  | none =>
    have h1 : Go.GH.hput h g p y = h := by unfold Go.GH.hput; rw [hl]
    have h3 : Go.GH.hput h2 g p y = h2 := by unfold Go.GH.hput; rw [he.eq g hg, hl]
    rw [h1, h3]; exact he
  | some r =>
    have hl2 : A4 h2 g = some r := by rw [he.eq g hg, hl]
    exact ⟨fun e hh => by rw [E6 hl, E6 hl2, he.eq e hh], by rw [E6 hl2, if_neg hg, he.at_]⟩
theorem Hd.update (he : Hd a o h h2) {g : Nat} (hg : g ≠ a) (y : AV) : Hd a o (update h g y) (update h2 g y) :=
  ⟨fun e hh => by rw [K1, K1, he.eq e hh], by rw [K1, if_neg hg, he.at_]⟩
theorem Hd.cons (he : Hd a o h h2) {g : Nat} (hg : g ≠ a) (y : AV) : Hd a o ((g, y) :: h) ((g, y) :: h2) :=
  ⟨fun e hh => by rw [A9, A9, he.eq e hh], by rw [A9, if_neg hg, he.at_]⟩
theorem Hd.app (he : Hd a o h h2) {os : Af} (ho : A4 os a = none) : Hd a o (os ++ h) (os ++ h2) :=
  ⟨fun e hh => by rw [B6, B6, he.eq e hh], by rw [B6, ho, he.at_]⟩
theorem K7 (he : Hd a o h h2) {g : Nat} {p : Bj} {K K' : Nat → List (List AV) → Prop} (hg : g ≠ a) (hk : arr h g p K) (hK : ∀ s xs, hget h g p = some (.own s xs) → K s xs → K' s xs) : arr h2 g p K' := by
  obtain ⟨s, xs, h1, h3⟩ := Bo hk
  exact Hc (by rw [he.hget hg]; exact h1) (hK s xs h1 h3)
theorem B0t (he : Hd a o h h2) {g : Nat} {p : Bj} {K K' : Ac → Af → Prop} (hg : g ≠ a) (hk : Rg S h g p K) (hK : ∀ S' h' h2', Hd a o h' h2' → K S' h' → K' S' h2') : Rg S h2 g p K' := by
  cases p with
  | nil => exact hK _ _ _ (he.remove hg) hk
  | cons q p => exact hK _ _ _ (he.hput hg _ _) hk
theorem A9t (he : Hd a o h h2) {t : Option Nat} {v : AV} {K K' : AV → Ac → Af → Prop} (hv : a ∉ v.ids1) (hk : Dp S h t v K) (hK : ∀ c S' h' h2', Hd a o h' h2' → K c S' h' → K' c S' h2') : Dp S h2 t v K' := by
  cases v <;> simp only [Dp] at hk ⊢ <;> first
    | exact hK _ _ _ _ he hk
    | (cases t with
       | none => exact hk.elim
       | some s => exact hK _ _ _ _ he hk)
    | skip
  rename_i g p off len
  have hg : g ≠ a := fun e => hv (by simp [AV.ids1, e])
  exact K7 he hg hk fun s xs _ hk => B0t he hg hk fun S' h' h2' he' hk => hK _ _ _ _ he' hk
theorem Iy : ∀ {ts : List (Option Nat)} {vs : List AV} {S : Ac} {h h2 : Af} {K K' : List AV → Ac → Af → Prop}, Hd a o h h2 → a ∉ F6 vs → Bt S h ts vs K → (∀ cs S' h' h2', Hd a o h' h2' → K cs S' h' → K' cs S' h2') → Bt S h2 ts vs K'
  | [], [], S, h, h2, K, K', he, hv, hk, hK => hK _ _ _ _ he hk
  | [], _ :: _, S, h, h2, K, K', he, hv, hk, hK => hk.elim
  | _ :: _, [], S, h, h2, K, K', he, hv, hk, hK => hk.elim
  | t :: ts, v :: vs, S, h, h2, K, K', he, hv, hk, hK => by
    simp only [F6, List.mem_append, not_or] at hv
    exact A9t he hv.1 hk fun c S' h' h2' he' hk => Iy he' hv.2 hk fun cs S' h' h2' he'' hk => hK _ _ _ _ he'' hk
theorem V0 {ts : List (Option Nat)} : ∀ {vs : List AV} {S : Ac} {h h2 : Af} {K K' : List (List AV) → Ac → Af → Prop}, Hd a o h h2 → a ∉ Ek vs → I8 S h ts vs K → (∀ cs S' h' h2', Hd a o h' h2' → K cs S' h' → K' cs S' h2') → I8 S h2 ts vs K'
  | [], S, h, h2, K, K', he, hv, hk, hK => hK _ _ _ _ he hk
  | v :: vs, S, h, h2, K, K', he, hv, hk, hK => by
    simp only [Ek, List.mem_append, not_or] at hv
    exact Iy he (fun hh => hv.1 (I5 _ hh)) hk fun c S' h' h2' he' hk => V0 he' hv.2 hk fun cs S' h' h2' he'' hk => hK _ _ _ _ he'' hk
theorem B1k (he : Hd a o h h2) {keep : Bool} {sz : Nat} {v : AV} {K K' : List (List AV) → Ac → Af → Prop} (hv : a ∉ v.ids) (hk : Iq S h keep sz v K) (hK : ∀ c S' h' h2', Hd a o h' h2' → K c S' h' → K' c S' h2') : Iq S h2 keep sz v K' := by
  cases v <;> simp only [Iq] at hk ⊢ <;> first
    | exact hk.elim
    | exact hK _ _ _ _ he hk
    | (obtain ⟨e, hk⟩ := C1 hk; exact I4 e (hK _ _ _ _ he hk))
    | skip
  rename_i g p off len
  have hg : g ≠ a := fun e => hv (by simp [AV.ids, AV.ids1, e])
  refine K7 he hg hk fun s xs _ hk => ?_
  obtain ⟨e, hk⟩ := C1 hk
  refine I4 e ?_
  cases keep with
  | true => exact ⟨hk.1, hK _ _ _ _ he hk.2⟩
  | false => exact B0t he hg hk fun S' h' h2' he' hk => hK _ _ _ _ he' hk
theorem B3e (he : Hd a o h h2) (hid : id ≠ a) {ty : Ty} {d : Option Nat} {y z : AV} {K K' : Ac → Af → Prop} (hy : a ∉ y.ids) (hz : a ∉ z.ids) (hk : Is ty S h id d y z K) (hK : ∀ S' h' h2', Hd a o h' h2' → K S' h' → K' S' h2') : Is ty S h2 id d y z K' := by
  unfold Is at hk ⊢
  cases hr : Pu y <;> rw [hr] at hk <;> simp only at hk ⊢
  exact B1k he hz hk fun ys S' h' h2' he' hk => B1k he' hy hk fun xs S' h' h2' he'' hk => ⟨hk.1, hK _ _ _ (he''.cons hid _) hk.2⟩
theorem B4x (he : Hd a o h h2) {ty : Ty} {y z : AV} {K K' : Ac → Af → Prop} (hy : a ∉ y.ids) (hz : a ∉ z.ids) (hk : storeAt ty S h y z K) (hK : ∀ S' h' h2', Hd a o h' h2' → K S' h' → K' S' h2') : storeAt ty S h2 y z K' := by
  cases y <;> try exact hk.elim
  · rename_i g p i f
    have hg : g ≠ a := fun e => hy (by simp [AV.ids, AV.ids1, e])
    unfold storeAt at hk ⊢
    simp only at hk ⊢
    cases hs : ty.k.scalar <;> rw [hs] at hk <;> simp only at hk ⊢
    · exact Iy he (fun hh => hz (I5 _ hh)) hk fun cs S' h' h2' he' hk => K7 he' hg hk fun s xs _ hk => by
        obtain ⟨e, hk⟩ := Bb hk
        obtain ⟨r, e2, hk⟩ := hk
        exact E9 e ⟨r, e2, hK _ _ _ (he'.hput hg _ _) hk⟩
    · cases hx : z.scalar <;> rw [hx] at hk <;> simp only at hk ⊢
      exact K7 he hg hk fun s xs _ hk => by
        obtain ⟨e, hk⟩ := Bb hk
        obtain ⟨r, e2, hk⟩ := hk
        refine E9 e ⟨r, e2, ?_⟩
        cases hc : (cell r f).scalar <;> rw [hc] at hk <;> simp only at hk ⊢
        exact hK _ _ _ (he.hput hg _ _) hk
  · rename_i g f
    have hg : g ≠ a := fun e => hy (by simp [AV.ids, AV.ids1, e])
    unfold storeAt at hk ⊢
    simp only at hk ⊢
    cases hs : ty.k.scalar <;> rw [hs] at hk <;> simp only at hk ⊢
    · exact Iy he (fun hh => hz (I5 _ hh)) hk fun cs S' h' h2' he' hk => K7 he' hg hk fun s xs _ hk => by
        match xs, hk with
        | [], hk => exact hk.elim
        | [r], hk =>
          obtain ⟨e, hk⟩ := Bb hk
          exact E9 e (hK _ _ _ (he'.update hg _) hk)
        | _ :: _ :: _, hk => exact hk.elim
    · cases hx : z.scalar <;> rw [hx] at hk <;> simp only at hk ⊢
      exact K7 he hg hk fun s xs _ hk => by
        match xs, hk with
        | [], hk => exact hk.elim
        | [r], hk =>
          obtain ⟨e, hk⟩ := Bb hk
          refine E9 e ?_
          cases hc : (cell r f).scalar <;> rw [hc] at hk <;> simp only at hk ⊢
          exact hK _ _ _ (he.update hg _) hk
        | _ :: _ :: _, hk => exact hk.elim
theorem Ma {sh : Bool} : ∀ {ms : List L6} {vs : List AV} {S : Ac} {h h2 : Af} {K K' : List AV → List (Nat × Bj) → List Nat → List Nat → Ac → Af → Prop}, Hd a o h h2 → a ∉ Ek vs → D3 sh S h ms vs K →
    (∀ as qs rs ws S' h' h2', Hd a o h' h2' → (∀ q, q ∈ qs → q.1 ≠ a) → K as qs rs ws S' h' → K' as qs rs ws S' h2') → D3 sh S h2 ms vs K'
  | [], [], S, h, h2, K, K', he, hv, hk, hK => hK _ _ _ _ _ _ _ he (by simp) hk
  | [], v :: vs, S, h, h2, K, K', he, hv, hk, hK => hk.elim
  | m :: ms, [], S, h, h2, K, K', he, hv, hk, hK => by cases m <;> exact hk.elim
  | .rd ts :: ms, v :: vs, S, h, h2, K, K', he, hv, hk, hK => by
    simp only [Ek, List.mem_append, not_or] at hv
    exact Ma (ms := ms) (vs := vs) he hv.2 hk fun as qs rs ws S' h' h2' he' hq hk => by
      rw [Sg (n := fun g => g ≠ a) (h := h') (h2 := h2') he'.eq fun g hg e => hv.1 (e ▸ hg)] at hk
      exact hK _ _ _ _ _ _ _ he' hq hk
  | .co ts :: ms, v :: vs, S, h, h2, K, K', he, hv, hk, hK => by
    simp only [Ek, List.mem_append, not_or] at hv
    exact Iy he (fun hh => hv.1 (I5 _ hh)) hk fun cs S1 h1 h12 he1 hk => Ma (ms := ms) (vs := vs) he1 hv.2 hk fun as qs rs ws S' h' h2' he' hq hk => hK _ _ _ _ _ _ _ he' hq hk
  | .mv :: ms, v :: vs, S, h, h2, K, K', he, hv, hk, hK => by
    simp only [Ek, List.mem_append, not_or] at hv
    cases v <;> try exact hk.elim
    · rename_i g p off len
      have hg : g ≠ a := fun e => hv.1 (by simp [AV.ids, AV.ids1, e])
      exact Ma (ms := ms) (vs := vs) he hv.2 hk fun as qs rs ws S' h' h2' he' hq hk => K7 he' hg hk fun s xs _ hk => ⟨hk.1, hk.2.1, hK _ _ _ _ _ _ _ he' (by intro q hm; rcases List.mem_cons.1 hm with rfl | hm; exact hg; exact hq q hm) hk.2.2⟩
    · rename_i s g n
      have hg : g ≠ a := fun e => hv.1 (by simp [AV.ids, AV.ids1, e])
      exact Ma (ms := ms) (vs := vs) he hv.2 hk fun as qs rs ws S' h' h2' he' hq hk => K7 he' hg hk fun s xs _ hk => ⟨hk.1, hk.2.1, hK _ _ _ _ _ _ _ he' (by intro q hm; rcases List.mem_cons.1 hm with rfl | hm; exact hg; exact hq q hm) hk.2.2⟩
  | .mp :: ms, v :: vs, S, h, h2, K, K', he, hv, hk, hK => by
    simp only [Ek, List.mem_append, not_or] at hv
    cases v <;> try exact hk.elim
    rename_i g f
    have hg : g ≠ a := fun e => hv.1 (by simp [AV.ids, AV.ids1, e])
    cases f with
    | succ f => exact hk.elim
    | zero =>
      exact Ma (ms := ms) (vs := vs) he hv.2 hk fun as qs rs ws S' h' h2' he' hq hk => K7 he' hg hk fun s xs _ hk => by
        match xs, hk with
        | [], hk => exact hk.elim
        | [r], hk => exact hK _ _ _ _ _ _ _ he' (by intro q hm; rcases List.mem_cons.1 hm with rfl | hm; exact hg; exact hq q hm) hk
        | _ :: _ :: _, hk => exact hk.elim
  | .ma :: ms, v :: vs, S, h, h2, K, K', he, hv, hk, hK => by
    simp only [Ek, List.mem_append, not_or] at hv
    rcases Zj hk with ⟨g, p, off, len, rfl, hk2⟩ | ⟨s0, g, n0, rfl, hk2⟩
    · have hg : g ≠ a := fun e => hv.1 (by simp [AV.ids, F6, AV.ids1, e])
      exact Ma (ms := ms) (vs := vs) he hv.2 hk2 fun as qs rs ws S' h' h2' he' hq hk => K7 he' hg hk fun s xs _ hk => ⟨hk.1, hk.2.1, hK _ _ _ _ _ _ _ he' (by intro q hm; rcases List.mem_cons.1 hm with rfl | hm; exact hg; exact hq q hm) hk.2.2⟩
    · have hg : g ≠ a := fun e => hv.1 (by simp [AV.ids, F6, AV.ids1, e])
      exact Ma (ms := ms) (vs := vs) he hv.2 hk2 fun as qs rs ws S' h' h2' he' hq hk => K7 he' hg hk fun s xs _ hk => ⟨hk.1, hk.2.1, hK _ _ _ _ _ _ _ he' (by intro q hm; rcases List.mem_cons.1 hm with rfl | hm; exact hg; exact hq q hm) hk.2.2⟩
theorem B3o (he : Hd a o h h2) : ∀ {qs : List (Nat × Bj)} {ys : List AV} {K K' : Ac → Af → Prop}, (∀ q, q ∈ qs → q.1 ≠ a) → T2 S h qs ys K → (∀ S' h' h2', Hd a o h' h2' → K S' h' → K' S' h2') → T2 S h2 qs ys K'
  | [], [], K, K', hq, hk, hK => hK _ _ _ he hk
  | [], _ :: _, K, K', hq, hk, hK => hk.elim
  | [(g, p)], [], K, K', hq, hk, hK => hk.elim
  | [(g, p)], [y], K, K', hq, hk, hK => hK _ _ _ (he.hput (hq (g, p) (by simp)) _ _) hk
  | [(g, p)], _ :: _ :: _, K, K', hq, hk, hK => hk.elim
  | _ :: _ :: _, ys, K, K', hq, hk, hK => by cases ys <;> exact hk.elim
theorem B5n (he : Hd a o h h2) (hid : a < id ∨ id + 16 ≤ a) {d : Option Nat} {f : Nat} {vs : List AV} {K K' : Ac → Af → Prop} (hv : a ∉ Ek vs) (hk : Nc E S h id d gd f vs K) (hK : ∀ S' h' h2', Hd a o h' h2' → K S' h' → K' S' h2') : Nc E S h2 id d gd f vs K' := by
  unfold Nc at hk ⊢
  cases hE : E.F f with
  | none => rw [hE] at hk; exact hk.elim
  | some c =>
    rw [hE] at hk
    simp only at hk ⊢
    refine Ma he hv hk fun as qs rs ws S' h' h2' he' hq hk => ?_
    obtain ⟨e, hk⟩ := Bb hk
    refine E9 e ?_
    cases hm : Oi rs ws <;> rw [hm] at hk <;> simp only at hk ⊢
    obtain ⟨x, e1, e2, hk⟩ := hk
    refine ⟨x, e1, e2, ?_⟩
    obtain ⟨v, os, hk, hn, t⟩ := Q5 hk
    refine t _ ?_
    have ho : A4 os a = none := by
      cases hl : A4 os a with
      | none => rfl
      | some r => have := hn a r hl; omega
    cases hsc : c.sc <;> rw [hsc] at hk <;> simp only at hk ⊢
    · exact B3o he' hq hk fun S' h' h2' he' hk => hK _ _ _ (he'.app ho) hk
    · cases hr : I1 c.ms <;> rw [hr] at hk <;> simp only at hk ⊢
      match os, hk with
      | [], hk => exact hK _ _ _ he' hk
      | _ :: _, hk => exact hk.elim
theorem B1o (he : Hd a o h h2) {v : AV} {K K' : List UInt8 → Prop} (hv : a ∉ v.ids) (hk : Ky h v K) (hK : ∀ s, K s → K' s) : Ky h2 v K' := by
  cases v <;> simp only [Ky] at hk ⊢ <;> first
    | exact hk.elim
    | exact hK _ hk
    | (obtain ⟨e, bs, e2, hk⟩ := C1 hk; exact I4 e ⟨bs, e2, hK _ hk⟩)
    | skip
  rename_i g p off len
  have hg : g ≠ a := fun e => hv (by simp [AV.ids, AV.ids1, e])
  refine K7 he hg hk fun s xs _ hk => ?_
  obtain ⟨e, bs, e2, hk⟩ := C1 hk
  exact I4 e ⟨bs, e2, hK _ hk⟩
theorem B80 (he : Hd a o h h2) (hid : id ≠ a) {ts ty : Ty} {v : AV} {dst : Option Nat} {K K' : Ac → Af → Prop} (hv : a ∉ v.ids) (hk : cvt E id ts ty v dst S h K) (hK : ∀ S' h' h2', Hd a o h' h2' → K S' h' → K' S' h2') : cvt E id ts ty v dst S h2 K' := by
  have conv : (∀ (h : Af) (K : Ac → Af → Prop), cvt E id ts ty v dst S h K = convert ty v fun u => K (B4 S dst none u) h) → cvt E id ts ty v dst S h2 K' := by
    intro e
    rw [e] at hk ⊢
    obtain ⟨u, hk, t2⟩ := Qo hk
    exact t2 _ (hK _ _ _ he hk)
  cases hq : ty.k
  case slice e =>
    unfold cvt at hk ⊢
    rw [hq] at hk ⊢
    cases v <;> simp only at hk ⊢
    obtain ⟨hk, t2⟩ := Te hk
    exact t2 _ (hK _ _ _ (he.cons hid _) hk)
  case str =>
    by_cases hs : ∃ s, v = .str s
    · obtain ⟨s, rfl⟩ := hs
      unfold cvt at hk ⊢
      rw [hq] at hk ⊢
      exact hK _ _ _ he hk
    · have e : ∀ (h : Af) (K : Ac → Af → Prop), cvt E id ts ty v dst S h K = (match (generalizing := false) ts.k with
            | .slice e => A4k E e (Ky h v fun s => K (B4 S dst none (.str s)) h)
            | _ => False) := by
        intro h K
        unfold cvt
        rw [hq]
        cases v <;> first | rfl | exact absurd ⟨_, rfl⟩ hs
      rw [e] at hk ⊢
      cases hq2 : ts.k <;> rw [hq2] at hk <;> simp only at hk ⊢
      obtain ⟨hk, t2⟩ := Te hk
      exact t2 _ (B1o he hv hk fun s hk => hK _ _ _ he hk)
  all_goals exact conv fun h K => by unfold cvt; rw [hq]
theorem Jf {ys : List Operand} : OAg ys S S := fun _ _ => rfl
theorem B2j {op0 : Oper} (hv : C7 E op0 = false) (he : Hd a o h h2) (hid : a < id ∨ id + 16 ≤ a) (ha : a ∉ touched S op0) {K K' : Ac → Af → Prop} (hk : At E id op0 none S h K) (hK : ∀ S' h' h2', Hd a o h' h2' → K S' h' → K' S' h2') :
    At E id op0 none S h2 K' := by
  have hida : id ≠ a := by omega
  obtain ⟨dst, op, type, pos, after, guard⟩ := op0
  cases op with
  | alloc t =>
    simp only [At] at hk ⊢
    obtain ⟨ty, ht, hk⟩ := B1 hk
    exact Cf ht (hK _ _ _ (he.cons hida _) hk)
  | box t y =>
    simp only [At] at hk ⊢
    obtain ⟨ty, ht, hk⟩ := B1 hk
    obtain ⟨v, hk, i1, t1⟩ := C0 hk
    have hn : a ∉ v.ids := fun hh => ha (Ct (y := y) (by simp [Op.operands]) (i1 a hh))
    exact Cf ht (t1 S _ Jf (Iy he (fun hh => hn (I5 _ hh)) hk fun cs S' h' h2' he' hk => hK _ _ _ (he'.cons hida _) hk))
  | store t y z =>
    simp only [At] at hk ⊢
    obtain ⟨ty, ht, hk⟩ := B1 hk
    obtain ⟨v, hk, i1, t1⟩ := C0 hk
    obtain ⟨u, hk, i2, t2⟩ := C0 hk
    have hn : a ∉ v.ids := fun hh => ha (Ct (y := y) (by simp [Op.operands]) (i1 a hh))
    have hn2 : a ∉ u.ids := fun hh => ha (Ct (y := z) (by simp [Op.operands]) (i2 a hh))
    exact Cf ht (t1 S _ Jf (t2 S _ Jf (B4x he hn hn2 hk fun S' h' h2' he' hk => hK _ _ _ he' hk)))
  | convert s t y =>
    have hk0 : J6 E s fun ts => J6 E t fun ty => val S none y fun v => cvt E id ts ty v dst S h K := hk
    show J6 E s fun ts => J6 E t fun ty => val S none y fun v => cvt E id ts ty v dst S h2 K'
    obtain ⟨ts, hts, hk0⟩ := B1 hk0
    obtain ⟨ty, htt, hk0⟩ := B1 hk0
    obtain ⟨v, hk0, i1, t1⟩ := C0 hk0
    have hn : a ∉ v.ids := fun hh => ha (Ct (y := y) (by simp [Op.operands]) (i1 a hh))
    exact Cf hts (Cf htt (t1 S _ Jf (B80 he hida hn hk0 hK)))
  | buildSlice t m parts =>
    simp only [At] at hk ⊢
    obtain ⟨ty, hk, t0⟩ := Ey hk
    obtain ⟨e1, hk⟩ := Bb hk
    obtain ⟨vs, hk, i1, t1⟩ := Ga hk
    have hn : a ∉ Ek vs := fun hh => ha (Ig (ys := parts.toList.map fun q => q.2) (by simp [Op.operands]) (i1 a hh))
    refine t0 _ (E9 e1 (t1 S _ Jf (V0 he hn hk fun rows S' h' h2' he' hk => ?_)))
    cases hr : Ou 0 (parts.toList.map fun q => q.1) <;> rw [hr] at hk <;> simp only at hk ⊢
    obtain ⟨e2, hk⟩ := C1 hk
    exact I4 e2 (hK _ _ _ (he'.cons hida _) hk)
  | makeSlice t l c =>
    simp only [At] at hk ⊢
    obtain ⟨ty, hk, t0⟩ := Ey hk
    obtain ⟨v1, hk, i1, t1⟩ := C0 hk
    obtain ⟨v2, hk, i2, t2⟩ := C0 hk
    cases v1 <;> try exact hk.elim
    cases v2 <;> try exact hk.elim
    obtain ⟨q1, q2, q3, q4, hk⟩ := hk
    exact t0 _ (t1 S _ Jf (t2 S _ Jf ⟨q1, q2, q3, q4, hK _ _ _ (he.cons hida _) hk⟩))
  | call c =>
    cases hc : c.callee with
    | invoke r m => simp only [At, hc] at hk
    | builtin b =>
      simp only [At, hc] at hk ⊢
      simp only [C7, hc] at hv
      obtain ⟨vs, hk, i1, t1⟩ := Ga hk
      cases b <;> first
        | (cases hv; done)
        | (rcases vs with _ | ⟨y, _ | ⟨z, _ | ⟨q, r⟩⟩⟩ <;> first
            | (exact hk.elim)
            | (exfalso; cases y <;> (try exact hk.elim) <;> cases z <;> exact hk.elim)
            | skip)
      obtain ⟨e1, hk⟩ := Bb hk
      obtain ⟨ty, hk, t2⟩ := Ey hk
      obtain ⟨ta, hta, hk⟩ := B1 hk
      have hk' : (∀ k, ta.k ≠ .int k) ∧ Is ty S h id dst y z K := by
        cases hq : ta.k <;> rw [hq] at hk <;> first | exact hk.elim | exact ⟨by simp, hk⟩
      obtain ⟨hni, hk⟩ := hk'
      have hn : a ∉ Ek [y, z] := fun hh => ha (Ig (ys := c.args.toList) (by intro z hz; simp [Op.operands, Call.operands]; simp at hz; simp [hz]) (i1 a hh))
      simp only [Ek, List.append_nil, List.mem_append, not_or] at hn
      refine t1 S _ Jf (E9 e1 (t2 _ (Cf hta ?_)))
      have := B3e he hida hn.1 hn.2 hk hK
      cases hq : ta.k <;> first | exact absurd hq (hni _) | exact this
    | value f =>
      simp only [At, hc] at hk ⊢
      obtain ⟨f', caps, hk1, i1, hfn, t1⟩ := Y5 hk (by
        intro v hv
        obtain ⟨vs, hv, _⟩ := Ga hv
        cases v <;> first | exact hv.elim | exact ⟨_, _, rfl⟩)
      obtain ⟨vs, hk2, i2, t2⟩ := Ga hk1
      simp only at hk2
      have hn : a ∉ Ek (vs ++ caps) := fun hh => by
        rcases (S6 _ _ _).1 hh with hg | hg
        · exact ha (Ig (ys := c.args.toList) (by intro z hz; simp [Op.operands, Call.operands]; simp at hz; simp [hz]) (i2 a hg))
        · exact ha (Ct (y := f) (by simp [Op.operands, Call.operands, hc]) (i1 a hg))
      exact t1 S _ Jf (t2 S _ Jf (B5n he hid hn hk2 hK))
  | _ =>
    exfalso
    first
      | (simp only [At] at hk; done)
      | (simp only [C7] at hv; cases hv; done)
      | (simp only [At] at hk; exact hk)
end
end Go.GH


