import Derived.Test.YtpbpaijjpglmlaaGreatGB
set_option linter.unusedVariables false
set_option linter.unusedSimpArgs false
set_option linter.unusedSimpArgs false
namespace Go.GH
open Go
section
variable {P : Program} {E : Env} {x : Ctx} {w w' : World} {h h2 hf hc hy : Ah} {n n2 nn nf : Nat → Prop} {L L2 : List AV} {U U' : Nat → Value} {ρ ρ2 ρf : Option Nat → Aj} {sh : Bool} {id : Nat}
theorem C2b {d g : Nat} {ts : List (Option Nat)} {ms : List Lf} {c : AV} {as : List AV} {K : Af → Ah → Nat → List Nat → Prop} (hag : ∀ cs, c ≠ .agg cs) (hk : Bl d g (.co ts :: ms) (c :: as) K) :
    B2 g [c] fun cs' os n1 => Bl (d + 1) n1 ms as fun S h n mu => K ((d, ⟨none, cs'.headD .undef⟩) :: S) (os ++ h) n mu := by
  cases c <;> first | exact hk | exact absurd rfl (hag _)
theorem B47 {gs : List (Nat × Bo)} (H2 : Bp x w h2 n2 L2 U' ρ2) {ts : List (Option Nat)} {v : AV} {u : Value} (hm : A3c x w h2 n2 ρ2 v u) (hg : ∀ g, g ∈ v.ids → ∀ (j : Nat) (p : Bo), gs[j]? ≠ some (g, p)) (hfr : (Sf sh h2 ts v).free) {hy : Ah} {ny : Nat → Prop} {ρy : Option Nat → Aj} :
    Ay (Fm sh x w ρ2 gs) w hy ny ρy (Sf sh h2 ts v) u := by
  have cells : ∀ {ts : List (Option Nat)} {cs : List AV}, (Gl sh h2 ts cs).length = cs.length ∧ ∀ (i : Nat) c, (Gl sh h2 ts cs)[i]? = some c → ∃ t d, cs[i]? = some d ∧ c = Ju sh h2 t d := by
    intro ts cs
    induction cs generalizing ts with
    | nil => cases ts <;> exact ⟨rfl, by simp [Gl]⟩
    | cons a r ih =>
      cases ts with
      | nil =>
        obtain ⟨h1, h3⟩ := ih (ts := [])
        refine ⟨by simp [Gl, h1], fun i c hi => ?_⟩
        cases i with
        | zero => exact ⟨none, a, rfl, by simpa [Gl] using hi.symm⟩
        | succ i => simpa using h3 i c (by simpa [Gl] using hi)
      | cons t ts =>
        obtain ⟨h1, h3⟩ := ih (ts := ts)
        refine ⟨by simp [Gl, h1], fun i c hi => ?_⟩
        cases i with
        | zero => exact ⟨t, a, rfl, by simpa [Gl] using hi.symm⟩
        | succ i => simpa using h3 i c (by simpa [Gl] using hi)
  cases v with
  | agg cs =>
    obtain ⟨us, rfl, h1, h3⟩ := hm
    obtain ⟨c1, c2⟩ := cells (ts := ts) (cs := cs)
    refine .agg (by rw [c1]; exact h1) fun i c hi => ?_
    obtain ⟨t, d, hd, rfl⟩ := c2 i c hi
    exact Q7 H2 (h3 i d hd) (fun g hgg => hg g (Mr hd g hgg)) (Gh hfr (List.mem_of_getElem? hi))
  | fn f cs =>
    obtain ⟨us, rfl, h1, h3⟩ := hm
    obtain ⟨c1, c2⟩ := cells (ts := []) (cs := cs)
    refine .fn (by rw [c1]; exact h1) fun i c hi => ?_
    obtain ⟨t, d, hd, rfl⟩ := c2 i c hi
    exact Q7 H2 (h3 i d hd) (fun g hgg => hg g (Mr hd g hgg)) (Gh hfr (List.mem_of_getElem? hi))
  | tup cs => exact .void
  | _ => refine Q7 (sh := sh) (t := ts.headD none) H2 (by rw [Qv (by simp) (by simp)] at hm; exact hm) (fun g hgg => hg g (by rw [U6 (by simp) (by simp) (by simp)]; exact hgg)) (by exact hfr)
theorem Su (h1 : ∀ g, n g → A4 h2 g = A4 h g) {ts : List (Option Nat)} {v : AV} (hv : ∀ g, g ∈ v.ids → n g) : Sf sh h ts v = Sf sh h2 ts v := by
  have hget' : ∀ g p, n g → hget h2 g p = hget h g p := fun g p hn => by unfold hget; rw [h1 g hn]
  have cell : ∀ {t : Option Nat} {c : AV}, (∀ g, g ∈ c.ids1 → n g) → Ju sh h t c = Ju sh h2 t c := by
    intro t c hc
    cases c with
    | view g p off len => simp only [Ju]; rw [hget' g p (hc g (by simp [AV.ids1]))]
    | bx g f => simp only [Ju]; rw [h1 g (hc g (by simp [AV.ids1]))]
    | ptr g p i f => simp only [Ju]; rw [hget' g p (hc g (by simp [AV.ids1]))]
    | _ => rfl
  have cells : ∀ {ts : List (Option Nat)} {cs : List AV}, (∀ g, g ∈ Fg cs → n g) → Gl sh h ts cs = Gl sh h2 ts cs := by
    intro ts cs hcs
    induction cs generalizing ts with
    | nil => cases ts <;> rfl
    | cons a r ih =>
      have ha := cell (t := none) (c := a) fun g hg => hcs g (by simp [Fg, hg])
      have hr := fun ts => ih (ts := ts) fun g hg => hcs g (by simp [Fg, hg])
      cases ts with
      | nil => simp only [Gl]; rw [ha, hr]
      | cons t ts =>
        have ha := cell (t := t) (c := a) fun g hg => hcs g (by simp [Fg, hg])
        simp only [Gl]; rw [ha, hr]
  cases v with
  | agg cs => simp only [Sf]; rw [cells hv]
  | fn f cs => simp only [Sf]; rw [cells hv]
  | tup cs => rfl
  | _ => exact cell (t := ts.headD none) fun g hg => hv g (by rw [U6 (by simp) (by simp) (by simp)]; exact hg)
theorem B6l (H : Bp x w h n L U ρ) (H2 : Bp x w h2 n2 L2 U' ρ2) (R1 : ∀ (i : Nat) s xs, L[i]? = some (.own s xs) → A4 h2 (id + i) = some (.own s xs) ∧ ∀ q, ρ2 (some (id + i)) q = ρ none ((0, i) :: q))
    (R2 : ∀ g, n g → A4 h2 g = A4 h g ∧ ρ2 (some g) = ρ (some g)) (R3 : ∀ g, n g → n2 g) (R4 : ∀ (i : Nat) s xs, L[i]? = some (.own s xs) → ¬ n (id + i)) :
    ∀ {i : Nat} {ms : List Lf} {as : List AV} {us : List Value} {qs : List (Nat × Bo)} {rs ws : List Nat}, Q9 sh x w h n ρ L U i ms as us qs rs ws → A2 as → qs.length ≤ 1 → ∀ d g0, ∃ gs Sy hy mu, (∀ K, Bl d g0 ms as K → K Sy hy (g0 + gs.length) mu) ∧
      A1i id L h2 qs i g0 gs hy ∧ (∀ (t t' g : Nat) (p p' : Bo), gs[t]? = some (g, p) → gs[t']? = some (g, p') → t = t') ∧
      (mu.length = qs.length ∧ ∀ (t j : Nat), mu[t]? = some j → ∃ (g : Nat) (p : Bo), qs[t]? = some (g, p) ∧ g0 ≤ j ∧ gs[j - g0]? = some (g, p)) ∧ (∀ g p, (g, p) ∈ qs → n g ∧ g ∈ ws) ∧
      ∀ (GS : List (Nat × Bo)) (HY : Ah), (∀ t gp, gs[t]? = some gp → GS[g0 + t]? = some gp) → (∀ j r, A4 hy j = some r → A4 HY j = some r) → (∀ g, g ∈ rs → ∀ (j : Nat) (p : Bo), GS[j]? ≠ some (g, p)) → ∀ ny, ∀ D s, A4 Sy D = some s →
        d ≤ D ∧ s.c = none ∧ ∃ u, us[D - d]? = some u ∧ Ay (Fm sh x w ρ2 GS) w HY ny (Cg ρ2 GS) s.v u := by
  intro i ms as us qs rs ws A
  have hget2 : ∀ g p, n g → hget h2 g p = hget h g p := fun g p hn => by unfold hget; rw [(R2 g hn).1]
  induction A with
  | nil => exact fun _ _ d g0 => ⟨[], [], [], [], fun K hk => hk, ⟨by simp [A4], by simp, by simp⟩, by simp, ⟨rfl, by simp⟩, by simp, fun GS HY _ _ _ ny D s hs => by simp [A4] at hs⟩
  | rd hv hn hr ih =>
    rename_i i ts v u ms as us qs rs ws
    intro hfa hq d g0
    obtain ⟨gs, Sy, hy, mu, a1, a2, a3, a4, a5, a6⟩ := ih hfa.2 hq (d + 1) g0
    refine ⟨gs, (d, ⟨none, Sf sh h ts v⟩) :: Sy, hy, mu, fun K hk => a1 _ hk, a2, a3, a4, a5, fun GS HY hG hH hrs ny D s hs => ?_⟩
    rw [Aa] at hs
    by_cases hD : d = D
    · subst hD
      rw [if_pos rfl] at hs
      simp only [Option.some.injEq] at hs
      subst hs
      refine ⟨Nat.le_refl _, rfl, u, by simp, ?_⟩
      have hfv := hfa.1
      rw [Su (fun g hg => (R2 g hg).1) hn] at hfv ⊢
      refine B47 H2 ?_ (fun g hg => hrs g (List.mem_append_left _ hg)) hfv
      cases v with
      | agg cs =>
        obtain ⟨vs, e, h1, h3⟩ := hv
        exact ⟨vs, e, h1, fun i c hi => (h3 i c hi).known (fun g hg => hn g (Mr hi g hg)) H.ids R2 R3⟩
      | fn f cs =>
        obtain ⟨vs, e, h1, h3⟩ := hv
        exact ⟨vs, e, h1, fun i c hi => (h3 i c hi).known (fun g hg => hn g (Mr hi g hg)) H.ids R2 R3⟩
      | tup cs =>
        rw [Qv (by simp) (by simp)] at hv ⊢
        intro hh; cases hh
      | _ =>
        rw [Qv (by simp) (by simp)] at hv ⊢
        exact hv.known (fun g hg => hn g (by rw [U6 (by simp) (by simp) (by simp)]; exact hg)) H.ids R2 R3
    · rw [if_neg hD] at hs
      obtain ⟨b1, b2, u', b3, b4⟩ := a6 GS HY hG hH (fun g hg => hrs g (List.mem_append_right _ hg)) ny D s hs
      exact ⟨by omega, b2, u', by rw [show D - d = (D - (d + 1)) + 1 from by omega]; simpa using b3, b4⟩
  | one hc hu hag hr ih =>
    rename_i i ts c u wv ms as us qs rs ws
    intro hfa hq d g0
    obtain ⟨gc, cs', os, c1, c2, c3, c4, c5, c6⟩ := Pm (x := x) (sh := sh) H R1 (fun gs => H2.liftCall) [c] i g0 ⟨hfa.1, trivial⟩ (fun j d hj => by
      cases j with
      | zero => simp only [List.getElem?_cons_zero, Option.some.injEq] at hj; subst hj; exact hc
      | succ j => simp at hj)
    obtain ⟨gs, Sy, hy, mu, a1, a2, a3, a4, a5, a6⟩ := ih hfa.2 hq (d + 1) (g0 + gc.length)
    have A := A1i.append c2 a2 (by omega)
    refine ⟨gc ++ gs, (d, ⟨none, cs'.headD .undef⟩) :: Sy, os ++ hy, mu, fun K hk => ?_, A, ?_, ⟨a4.1, fun t j hj => ?_⟩, fun g p hg => ⟨(a5 g p hg).1, List.mem_append_right _ (a5 g p hg).2⟩, ?_⟩
    · have := a1 _ (c1 _ (C2b hag hk))
      rw [List.length_append, ← Nat.add_assoc]
      exact this
    · intro t t' g p p' ht ht'
      by_cases h1 : t < gc.length <;> by_cases h1' : t' < gc.length
      · rw [List.getElem?_append_left h1] at ht; rw [List.getElem?_append_left h1'] at ht'; exact c4 _ _ _ _ _ ht ht'
      · rw [List.getElem?_append_left h1] at ht; rw [List.getElem?_append_right (by omega)] at ht'
        have hlt := c5 _ _ _ ht
        simp only [List.length_cons, List.length_nil] at hlt
        rcases a2.src _ _ _ ht' with ⟨m, q1, q2, _⟩ | q
        · omega
        · rcases c2.src _ _ _ ht with ⟨m, _, q2, _, s, xs, q3⟩ | q'
          · exact absurd (q2 ▸ (a5 _ _ q).1) (R4 m s xs q3)
          · cases q'
      · rw [List.getElem?_append_right (by omega)] at ht; rw [List.getElem?_append_left h1'] at ht'
        have hlt := c5 _ _ _ ht'
        simp only [List.length_cons, List.length_nil] at hlt
        rcases a2.src _ _ _ ht with ⟨m, q1, q2, _⟩ | q
        · omega
        · rcases c2.src _ _ _ ht' with ⟨m, _, q2, _, s, xs, q3⟩ | q'
          · exact absurd (q2 ▸ (a5 _ _ q).1) (R4 m s xs q3)
          · cases q'
      · rw [List.getElem?_append_right (by omega)] at ht ht'
        have := a3 _ _ _ _ _ ht ht'
        omega
    · obtain ⟨g, p, q1, q2, q3⟩ := a4.2 t j hj
      refine ⟨g, p, q1, by omega, ?_⟩
      rw [List.getElem?_append_right (by omega), show j - g0 - gc.length = j - (g0 + gc.length) from by omega]
      exact q3
    · intro GS HY hG hH hrs ny D s hs
      rw [Aa] at hs
      by_cases hD : d = D
      · subst hD
        rw [if_pos rfl] at hs
        simp only [Option.some.injEq] at hs
        subst hs
        refine ⟨Nat.le_refl _, rfl, u, by simp, ?_⟩
        obtain ⟨c', hc'⟩ : ∃ c', cs' = [c'] := by
          match cs', c3 with
          | [c'], _ => exact ⟨c', rfl⟩
        subst hc'
        have := c6 GS HY (fun t gp ht => hG t gp (by
          have : t < gc.length := by
            rcases Nat.lt_or_ge t gc.length with h | h
            · exact h
            · rw [List.getElem?_eq_none h] at ht; cases ht
          rw [List.getElem?_append_left this]; exact ht)) (fun j r hr => hH j r (by rw [B9, hr])) ny 0 c' rfl
        simp only [Nat.add_zero] at this
        rw [hu] at this
        exact this
      · rw [if_neg hD] at hs
        obtain ⟨b1, b2, u', b3, b4⟩ := a6 GS HY (fun t gp ht => by
          have := hG (gc.length + t) gp (by rw [List.getElem?_append_right (by omega), show gc.length + t - gc.length = t from by omega]; exact ht)
          rw [← this]
          congr 1
          omega) (fun j r hr => hH j r (by
          rw [B9]
          have hn : A4 os j = none := by
            cases hl : A4 os j with
            | none => rfl
            | some v =>
              obtain ⟨q1, g', p', q2, _⟩ := c2.of _ v hl
              have := (a2.of j r hr).1
              rw [List.getElem?_eq_none (by omega)] at q2
              cases q2
          rw [hn]
          exact hr)) hrs ny D s hs
        exact ⟨by omega, b2, u', by rw [show D - d = (D - (d + 1)) + 1 from by omega]; simpa using b3, b4⟩
  | many hl hc hr ih =>
    rename_i i ts cs vs wv ms as us qs rs ws
    intro hfa hq d g0
    obtain ⟨gc, cs', os, c1, c2, c3, c4, c5, c6⟩ := Pm (x := x) (sh := sh) H R1 (fun gs => H2.liftCall) cs i g0 hfa.1 (fun j d hj => (hc j d hj).1)
    obtain ⟨gs, Sy, hy, mu, a1, a2, a3, a4, a5, a6⟩ := ih hfa.2 hq (d + 1) (g0 + gc.length)
    have A := A1i.append c2 a2 (by omega)
    refine ⟨gc ++ gs, (d, ⟨none, .agg cs'⟩) :: Sy, os ++ hy, mu, fun K hk => ?_, A, ?_, ⟨a4.1, fun t j hj => ?_⟩, fun g p hg => ⟨(a5 g p hg).1, List.mem_append_right _ (a5 g p hg).2⟩, ?_⟩
    · have hk' : B2 g0 cs fun cs' os n1 => Bl (d + 1) n1 ms as fun S h n mu => K ((d, ⟨none, .agg cs'⟩) :: S) (os ++ h) n mu := hk
      have := a1 _ (c1 _ hk')
      rw [List.length_append, ← Nat.add_assoc]
      exact this
    · intro t t' g p p' ht ht'
      by_cases h1 : t < gc.length <;> by_cases h1' : t' < gc.length
      · rw [List.getElem?_append_left h1] at ht; rw [List.getElem?_append_left h1'] at ht'; exact c4 _ _ _ _ _ ht ht'
      · rw [List.getElem?_append_left h1] at ht; rw [List.getElem?_append_right (by omega)] at ht'
        have hlt := c5 _ _ _ ht
        rcases a2.src _ _ _ ht' with ⟨m, q1, q2, _⟩ | q
        · omega
        · rcases c2.src _ _ _ ht with ⟨m, _, q2, _, s, xs, q3⟩ | q'
          · exact absurd (q2 ▸ (a5 _ _ q).1) (R4 m s xs q3)
          · cases q'
      · rw [List.getElem?_append_right (by omega)] at ht; rw [List.getElem?_append_left h1'] at ht'
        have hlt := c5 _ _ _ ht'
        rcases a2.src _ _ _ ht with ⟨m, q1, q2, _⟩ | q
        · omega
        · rcases c2.src _ _ _ ht' with ⟨m, _, q2, _, s, xs, q3⟩ | q'
          · exact absurd (q2 ▸ (a5 _ _ q).1) (R4 m s xs q3)
          · cases q'
      · rw [List.getElem?_append_right (by omega)] at ht ht'
        have := a3 _ _ _ _ _ ht ht'
        omega
    · obtain ⟨g, p, q1, q2, q3⟩ := a4.2 t j hj
      refine ⟨g, p, q1, by omega, ?_⟩
      rw [List.getElem?_append_right (by omega), show j - g0 - gc.length = j - (g0 + gc.length) from by omega]
      exact q3
    · intro GS HY hG hH hrs ny D s hs
      rw [Aa] at hs
      by_cases hD : d = D
      · subst hD
        rw [if_pos rfl] at hs
        simp only [Option.some.injEq] at hs
        subst hs
        refine ⟨Nat.le_refl _, rfl, .agg vs, by simp, .agg (by rw [c3]; exact hl) fun j c' hj => ?_⟩
        have := c6 GS HY (fun t gp ht => hG t gp (by
          have : t < gc.length := by
            rcases Nat.lt_or_ge t gc.length with h | h
            · exact h
            · rw [List.getElem?_eq_none h] at ht; cases ht
          rw [List.getElem?_append_left this]; exact ht)) (fun j r hr => hH j r (by rw [B9, hr])) ny j c' hj
        have hjl : j < cs.length := by
          rw [← c3]
          rcases Nat.lt_or_ge j cs'.length with h | h
          · exact h
          · rw [List.getElem?_eq_none h] at hj; cases hj
        rw [(hc j _ (List.getElem?_eq_getElem hjl)).2] at this
        exact this
      · rw [if_neg hD] at hs
        obtain ⟨b1, b2, u', b3, b4⟩ := a6 GS HY (fun t gp ht => by
          have := hG (gc.length + t) gp (by rw [List.getElem?_append_right (by omega), show gc.length + t - gc.length = t from by omega]; exact ht)
          rw [← this]
          congr 1
          omega) (fun j r hr => hH j r (by
          rw [B9]
          have hn : A4 os j = none := by
            cases hl : A4 os j with
            | none => rfl
            | some v =>
              obtain ⟨q1, g', p', q2, _⟩ := c2.of _ v hl
              have := (a2.of j r hr).1
              rw [List.getElem?_eq_none (by omega)] at q2
              cases q2
          rw [hn]
          exact hr)) hrs ny D s hs
        exact ⟨by omega, b2, u', by rw [show D - d = (D - (d + 1)) + 1 from by omega]; simpa using b3, b4⟩
  | mv hg hv hr ih =>
    rename_i i g p s xs u ms as us qs rs ws
    intro hfa hq d g0
    have hqs : qs = [] := by simpa using hq
    subst hqs
    obtain ⟨gs, Sy, hy, mu, a1, a2, a3, a4, a5, a6⟩ := ih hfa.2 (by simp) (d + 1) (g0 + 1)
    have hmu : mu = [] := List.eq_nil_of_length_eq_zero (by simpa using a4.1)
    subst hmu
    obtain ⟨rt, hlt, _⟩ := C3 hg
    have hng := H.ids g rt hlt
    have hget' : hget h2 g p = some (.own s xs) := by rw [hget2 g _ hng]; exact hg
    have A0 : A1i id L h2 [(g, p)] i g0 ((g, p) :: gs) ((g0, .own s xs) :: hy) := ⟨fun j r hr => by
        rw [Aa] at hr
        by_cases hj : g0 = j
        · subst hj
          rw [if_pos rfl] at hr
          simp only [Option.some.injEq] at hr
          subst hr
          exact ⟨Nat.le_refl _, g, p, by simp, hget'⟩
        · rw [if_neg hj] at hr
          obtain ⟨q1, g', p', q2, q3⟩ := a2.of j r hr
          exact ⟨by omega, g', p', by rw [show j - g0 = (j - (g0 + 1)) + 1 from by omega]; simpa using q2, q3⟩,
      fun t g' p' hgt => by
        cases t with
        | zero =>
          simp only [List.getElem?_cons_zero, Option.some.injEq, Prod.mk.injEq] at hgt
          obtain ⟨rfl, rfl⟩ := hgt
          exact ⟨s, xs, hget', by simp [Aa]⟩
        | succ t =>
          obtain ⟨s', xs', q1, q2⟩ := a2.own t g' p' (by simpa using hgt)
          refine ⟨s', xs', q1, ?_⟩
          rw [Aa, if_neg (by omega), show g0 + (t + 1) = g0 + 1 + t from by omega]
          exact q2,
      fun t g' p' hgt => by
        cases t with
        | zero =>
          simp only [List.getElem?_cons_zero, Option.some.injEq, Prod.mk.injEq] at hgt
          obtain ⟨rfl, rfl⟩ := hgt
          exact .inr (by simp)
        | succ t =>
          rcases a2.src t g' p' (by simpa using hgt) with q | q
          · exact .inl q
          · cases q⟩
    have nco : ∀ (t : Nat) (p' : Bo), gs[t]? ≠ some (g, p') := by
      intro t p' ht
      rcases a2.src t g p' ht with ⟨m, _, q2, _, s', xs', q3⟩ | q
      · exact R4 m s' xs' q3 (q2 ▸ hng)
      · cases q
    refine ⟨(g, p) :: gs, (d, ⟨none, .view g0 [] 0 xs.length⟩) :: Sy, (g0, .own s xs) :: hy, [g0], fun K hk => ?_, A0, ?_, ⟨rfl, fun t j hj => ?_⟩, fun g' p' hgp => ?_, ?_⟩
    · have := a1 _ hk
      simp only [List.length_cons]
      rw [show g0 + (gs.length + 1) = g0 + 1 + gs.length from by omega]
      exact this
    · intro t t' g' p' p'' ht ht'
      cases t with
      | zero =>
        simp only [List.getElem?_cons_zero, Option.some.injEq, Prod.mk.injEq] at ht
        obtain ⟨rfl, rfl⟩ := ht
        cases t' with
        | zero => rfl
        | succ t' => exact absurd (by simpa using ht') (nco t' p'')
      | succ t =>
        cases t' with
        | zero =>
          simp only [List.getElem?_cons_zero, Option.some.injEq, Prod.mk.injEq] at ht'
          obtain ⟨rfl, rfl⟩ := ht'
          exact absurd (by simpa using ht) (nco t p')
        | succ t' => rw [a3 t t' g' p' p'' (by simpa using ht) (by simpa using ht')]
    · cases t with
      | zero =>
        simp only [List.getElem?_cons_zero, Option.some.injEq] at hj
        subst hj
        exact ⟨g, p, rfl, Nat.le_refl _, by simp⟩
      | succ t => simp at hj
    · simp only [List.mem_singleton, Prod.mk.injEq] at hgp
      obtain ⟨rfl, rfl⟩ := hgp
      exact ⟨hng, by simp⟩
    · intro GS HY hG hH hrs ny D s' hs
      rw [Aa] at hs
      by_cases hD : d = D
      · subst hD
        rw [if_pos rfl] at hs
        simp only [Option.some.injEq] at hs
        subst hs
        refine ⟨Nat.le_refl _, rfl, u, by simp, ?_⟩
        have hgs := hG 0 (g, p) rfl
        simp only [Nat.add_zero] at hgs
        have hl := hH g0 (.own s xs) (by simp [Aa])
        have hget0 : hget HY g0 [] = some (.own s xs) := by rw [Cq hl]; rfl
        generalize hlen : xs.length = len at hv
        cases hv with
        | cell hr => cases hr
        | gone h0 => rw [hlt] at h0; cases h0
        | view0 hg' _ => exact .view0 hget0 (by simp)
        | view hg' hl' hcap hρ hb hroom =>
          rename_i s2 xs2 cap b o c
          rw [hg] at hg'
          simp only [Option.some.injEq, AV.own.injEq] at hg'
          obtain ⟨rfl, rfl⟩ := hg'
          have := Ay.view (x := Fm sh x w ρ2 GS) (n := ny) (ρ := Cg ρ2 GS) (off := 0) (cap := cap) (b := b) (o := o) hget0 (by simpa using Nat.le_of_eq hlen.symm) hcap (by simp [Cg, hgs, Aj.at_, (R2 g hng).2, hρ]) hb (by simpa using hroom)
          simpa using this
      · rw [if_neg hD] at hs
        obtain ⟨b1, b2, u', b3, b4⟩ := a6 GS HY (fun t gp ht => by
          rw [show g0 + 1 + t = g0 + (t + 1) from by omega]
          exact hG (t + 1) gp (by simpa using ht)) (fun j r hr => hH j r (by
          rw [Aa, if_neg (by have := (a2.of j r hr).1; omega)]
          exact hr)) hrs ny D s' hs
        exact ⟨by omega, b2, u', by rw [show D - d = (D - (d + 1)) + 1 from by omega]; simpa using b3, b4⟩
  | mp hg hv hr ih =>
    rename_i i g s r u ms as us qs rs ws
    intro hfa hq d g0
    have hqs : qs = [] := by simpa using hq
    subst hqs
    obtain ⟨gs, Sy, hy, mu, a1, a2, a3, a4, a5, a6⟩ := ih hfa.2 (by simp) (d + 1) (g0 + 1)
    have hmu : mu = [] := List.eq_nil_of_length_eq_zero (by simpa using a4.1)
    subst hmu
    have hng := H.ids g _ hg
    have hget' : hget h2 g [] = some (.own s [r]) := by rw [hget2 g _ hng, Cq hg]; rfl
    have A0 : A1i id L h2 [(g, [])] i g0 ((g, []) :: gs) ((g0, .own s [r]) :: hy) := ⟨fun j r hr => by
        rw [Aa] at hr
        by_cases hj : g0 = j
        · subst hj
          rw [if_pos rfl] at hr
          simp only [Option.some.injEq] at hr
          subst hr
          exact ⟨Nat.le_refl _, g, [], by simp, hget'⟩
        · rw [if_neg hj] at hr
          obtain ⟨q1, g', p', q2, q3⟩ := a2.of j r hr
          exact ⟨by omega, g', p', by rw [show j - g0 = (j - (g0 + 1)) + 1 from by omega]; simpa using q2, q3⟩,
      fun t g' p' hgt => by
        cases t with
        | zero =>
          simp only [List.getElem?_cons_zero, Option.some.injEq, Prod.mk.injEq] at hgt
          obtain ⟨rfl, rfl⟩ := hgt
          exact ⟨s, [r], hget', by simp [Aa]⟩
        | succ t =>
          obtain ⟨s', xs', q1, q2⟩ := a2.own t g' p' (by simpa using hgt)
          refine ⟨s', xs', q1, ?_⟩
          rw [Aa, if_neg (by omega), show g0 + (t + 1) = g0 + 1 + t from by omega]
          exact q2,
      fun t g' p' hgt => by
        cases t with
        | zero =>
          simp only [List.getElem?_cons_zero, Option.some.injEq, Prod.mk.injEq] at hgt
          obtain ⟨rfl, rfl⟩ := hgt
          exact .inr (by simp)
        | succ t =>
          rcases a2.src t g' p' (by simpa using hgt) with q | q
          · exact .inl q
          · cases q⟩
    have nco : ∀ (t : Nat) (p' : Bo), gs[t]? ≠ some (g, p') := by
      intro t p' ht
      rcases a2.src t g p' ht with ⟨m, _, q2, _, s', xs', q3⟩ | q
      · exact R4 m s' xs' q3 (q2 ▸ hng)
      · cases q
    refine ⟨(g, []) :: gs, (d, ⟨none, .bx g0 0⟩) :: Sy, (g0, .own s [r]) :: hy, [g0], fun K hk => ?_, A0, ?_, ⟨rfl, fun t j hj => ?_⟩, fun g' p' hgp => ?_, ?_⟩
    · have := a1 _ hk
      simp only [List.length_cons]
      rw [show g0 + (gs.length + 1) = g0 + 1 + gs.length from by omega]
      exact this
    · intro t t' g' p' p'' ht ht'
      cases t with
      | zero =>
        simp only [List.getElem?_cons_zero, Option.some.injEq, Prod.mk.injEq] at ht
        obtain ⟨rfl, rfl⟩ := ht
        cases t' with
        | zero => rfl
        | succ t' => exact absurd (by simpa using ht') (nco t' p'')
      | succ t =>
        cases t' with
        | zero =>
          simp only [List.getElem?_cons_zero, Option.some.injEq, Prod.mk.injEq] at ht'
          obtain ⟨rfl, rfl⟩ := ht'
          exact absurd (by simpa using ht) (nco t p')
        | succ t' => rw [a3 t t' g' p' p'' (by simpa using ht) (by simpa using ht')]
    · cases t with
      | zero =>
        simp only [List.getElem?_cons_zero, Option.some.injEq] at hj
        subst hj
        exact ⟨g, [], rfl, Nat.le_refl _, by simp⟩
      | succ t => simp at hj
    · simp only [List.mem_singleton, Prod.mk.injEq] at hgp
      obtain ⟨rfl, rfl⟩ := hgp
      exact ⟨hng, by simp⟩
    · intro GS HY hG hH hrs ny D s' hs
      rw [Aa] at hs
      by_cases hD : d = D
      · subst hD
        rw [if_pos rfl] at hs
        simp only [Option.some.injEq] at hs
        subst hs
        refine ⟨Nat.le_refl _, rfl, u, by simp, ?_⟩
        have hgs := hG 0 (g, []) rfl
        simp only [Nat.add_zero] at hgs
        have hl := hH g0 (.own s [r]) (by simp [Aa])
        cases hv with
        | cell hr => cases hr
        | goneb h0 => rw [hg] at h0; cases h0
        | bx hg' hρ =>
          rename_i s2 r2 b o
          exact .bx hl (by simp [Cg, hgs, Aj.at_, (R2 g hng).2, hρ])
      · rw [if_neg hD] at hs
        obtain ⟨b1, b2, u', b3, b4⟩ := a6 GS HY (fun t gp ht => by
          rw [show g0 + 1 + t = g0 + (t + 1) from by omega]
          exact hG (t + 1) gp (by simpa using ht)) (fun j r hr => hH j r (by
          rw [Aa, if_neg (by have := (a2.of j r hr).1; omega)]
          exact hr)) hrs ny D s' hs
        exact ⟨by omega, b2, u', by rw [show D - d = (D - (d + 1)) + 1 from by omega]; simpa using b3, b4⟩
  | ma hg hv hr ih =>
    rename_i i g p s xs u ms as us qs rs ws
    intro hfa hq d g0
    have hqs : qs = [] := by simpa using hq
    subst hqs
    obtain ⟨gs, Sy, hy, mu, a1, a2, a3, a4, a5, a6⟩ := ih hfa.2 (by simp) (d + 1) (g0 + 1)
    have hmu : mu = [] := List.eq_nil_of_length_eq_zero (by simpa using a4.1)
    subst hmu
    obtain ⟨rt, hlt, _⟩ := C3 hg
    have hng := H.ids g rt hlt
    have hget' : hget h2 g p = some (.own s xs) := by rw [hget2 g _ hng]; exact hg
    have A0 : A1i id L h2 [(g, p)] i g0 ((g, p) :: gs) ((g0, .own s xs) :: hy) := ⟨fun j r hr => by
        rw [Aa] at hr
        by_cases hj : g0 = j
        · subst hj
          rw [if_pos rfl] at hr
          simp only [Option.some.injEq] at hr
          subst hr
          exact ⟨Nat.le_refl _, g, p, by simp, hget'⟩
        · rw [if_neg hj] at hr
          obtain ⟨q1, g', p', q2, q3⟩ := a2.of j r hr
          exact ⟨by omega, g', p', by rw [show j - g0 = (j - (g0 + 1)) + 1 from by omega]; simpa using q2, q3⟩,
      fun t g' p' hgt => by
        cases t with
        | zero =>
          simp only [List.getElem?_cons_zero, Option.some.injEq, Prod.mk.injEq] at hgt
          obtain ⟨rfl, rfl⟩ := hgt
          exact ⟨s, xs, hget', by simp [Aa]⟩
        | succ t =>
          obtain ⟨s', xs', q1, q2⟩ := a2.own t g' p' (by simpa using hgt)
          refine ⟨s', xs', q1, ?_⟩
          rw [Aa, if_neg (by omega), show g0 + (t + 1) = g0 + 1 + t from by omega]
          exact q2,
      fun t g' p' hgt => by
        cases t with
        | zero =>
          simp only [List.getElem?_cons_zero, Option.some.injEq, Prod.mk.injEq] at hgt
          obtain ⟨rfl, rfl⟩ := hgt
          exact .inr (by simp)
        | succ t =>
          rcases a2.src t g' p' (by simpa using hgt) with q | q
          · exact .inl q
          · cases q⟩
    have nco : ∀ (t : Nat) (p' : Bo), gs[t]? ≠ some (g, p') := by
      intro t p' ht
      rcases a2.src t g p' ht with ⟨m, _, q2, _, s', xs', q3⟩ | q
      · exact R4 m s' xs' q3 (q2 ▸ hng)
      · cases q
    refine ⟨(g, p) :: gs, (d, ⟨none, .agg [.arg s g0 xs.length]⟩) :: Sy, (g0, .own s xs) :: hy, [g0], fun K hk => ?_, A0, ?_, ⟨rfl, fun t j hj => ?_⟩, fun g' p' hgp => ?_, ?_⟩
    · have := a1 _ hk
      simp only [List.length_cons]
      rw [show g0 + (gs.length + 1) = g0 + 1 + gs.length from by omega]
      exact this
    · intro t t' g' p' p'' ht ht'
      cases t with
      | zero =>
        simp only [List.getElem?_cons_zero, Option.some.injEq, Prod.mk.injEq] at ht
        obtain ⟨rfl, rfl⟩ := ht
        cases t' with
        | zero => rfl
        | succ t' => exact absurd (by simpa using ht') (nco t' p'')
      | succ t =>
        cases t' with
        | zero =>
          simp only [List.getElem?_cons_zero, Option.some.injEq, Prod.mk.injEq] at ht'
          obtain ⟨rfl, rfl⟩ := ht'
          exact absurd (by simpa using ht) (nco t p')
        | succ t' => rw [a3 t t' g' p' p'' (by simpa using ht) (by simpa using ht')]
    · cases t with
      | zero =>
        simp only [List.getElem?_cons_zero, Option.some.injEq] at hj
        subst hj
        exact ⟨g, p, rfl, Nat.le_refl _, by simp⟩
      | succ t => simp at hj
    · simp only [List.mem_singleton, Prod.mk.injEq] at hgp
      obtain ⟨rfl, rfl⟩ := hgp
      exact ⟨hng, by simp⟩
    · intro GS HY hG hH hrs ny D s' hs
      rw [Aa] at hs
      by_cases hD : d = D
      · subst hD
        rw [if_pos rfl] at hs
        simp only [Option.some.injEq] at hs
        subst hs
        refine ⟨Nat.le_refl _, rfl, .agg #[u], by simp, .agg rfl fun i c hi => ?_⟩
        obtain ⟨rfl, rfl⟩ : i = 0 ∧ c = .arg s g0 xs.length := by
          cases i with
          | zero => simpa using hi.symm
          | succ i => simp at hi
        show Ay _ _ _ _ _ _ u
        have hgs := hG 0 (g, p) rfl
        simp only [Nat.add_zero] at hgs
        have hk0 : g0 < GS.length := by
          rcases Nat.lt_or_ge g0 GS.length with h | h
          · exact h
          · rw [List.getElem?_eq_none h] at hgs; cases hgs
        generalize hlen : xs.length = len at hv
        cases hv with
        | cell hr => cases hr
        | gone h0 => rw [hlt] at h0; cases h0
        | view0 hg' _ => exact .cell (.arg0 hk0)
        | view hg' hl' hcap hρ hb hroom =>
          rename_i s2 xs2 cap b o c
          rw [hg] at hg'
          simp only [Option.some.injEq, AV.own.injEq] at hg'
          obtain ⟨rfl, rfl⟩ := hg'
          have : Rep (Fm sh x w ρ2 GS) w As (.arg s g0 len) (.slice (some ⟨b, o, none⟩) len cap) :=
            .arg (by show Cg ρ2 GS (some g0) [] = _; simp [Cg, hgs, Aj.at_, (R2 g hng).2, hρ]) hk0 hcap hb (by simpa using hroom)
          exact .cell (by simpa using this)
      · rw [if_neg hD] at hs
        obtain ⟨b1, b2, u', b3, b4⟩ := a6 GS HY (fun t gp ht => by
          rw [show g0 + 1 + t = g0 + (t + 1) from by omega]
          exact hG (t + 1) gp (by simpa using ht)) (fun j r hr => hH j r (by
          rw [Aa, if_neg (by have := (a2.of j r hr).1; omega)]
          exact hr)) hrs ny D s' hs
        exact ⟨by omega, b2, u', by rw [show D - d = (D - (d + 1)) + 1 from by omega]; simpa using b3, b4⟩
end
end Go.GH


set_option linter.unusedVariables false
set_option linter.unusedSimpArgs false
namespace Go.GH
open Go
section
variable {P : Program} {E : Env} {x : Ctx} {w w' : World} {h h2 hf hc hy : Ah} {n n2 nn nf : Nat → Prop} {L L2 : List AV} {U U' : Nat → Value} {ρ ρ2 ρf : Option Nat → Aj} {sh : Bool} {id : Nat}
theorem Dq.mono {P Q : Nat → Bo → Prop} {v : AV} (h : Dq P v) (hpq : ∀ g p, P g p → Q g p) : Dq Q v := by
  induction h with
  | view h => exact .view (hpq _ _ h)
  | ptr h => exact .ptr (hpq _ _ h)
  | bx h => exact .bx (hpq _ _ h)
  | agg h ih => exact .agg ih
  | tup h ih => exact .tup ih
  | fn h ih => exact .fn ih
  | int => exact .int
  | bool => exact .bool
  | str => exact .str
  | nils => exact .nils
  | emp => exact .emp
  | rd => exact .rd
  | own => exact .own
  | pin => exact .pin
  | nilI => exact .nilI
  | arg h => exact .arg (hpq _ _ h)
  | someI => exact .someI
  | nilp => exact .nilp
  | undef => exact .undef
theorem Dq.and {P Q : Nat → Bo → Prop} {v : AV} (h : Dq P v) : Dq Q v → Dq (fun g p => P g p ∧ Q g p) v := by
  induction h with
  | view h => intro h'; cases h' with | view h' => exact .view ⟨h, h'⟩
  | ptr h => intro h'; cases h' with | ptr h' => exact .ptr ⟨h, h'⟩
  | bx h => intro h'; cases h' with | bx h' => exact .bx ⟨h, h'⟩
  | agg h ih => intro h'; cases h' with | agg h' => exact .agg fun c hc => ih c hc (h' c hc)
  | tup h ih => intro h'; cases h' with | tup h' => exact .tup fun c hc => ih c hc (h' c hc)
  | fn h ih => intro h'; cases h' with | fn h' => exact .fn fun c hc => ih c hc (h' c hc)
  | int => intro _; exact .int
  | bool => intro _; exact .bool
  | str => intro _; exact .str
  | nils => intro _; exact .nils
  | emp => intro _; exact .emp
  | rd => intro _; exact .rd
  | own => intro _; exact .own
  | pin => intro _; exact .pin
  | nilI => intro _; exact .nilI
  | arg h => intro hg; cases hg with | arg h' => exact .arg ⟨h, h'⟩
  | someI => intro _; exact .someI
  | nilp => intro _; exact .nilp
  | undef => intro _; exact .undef
theorem Ay.names {v : AV} {u : Value} (hs : Ay x w h n ρ v u) (hlt : ∀ g r, A4 h g = some r → n g) (hkn : ∀ g, g < x.k → n g) : Dq (fun g _ => n g) v := by
  have hl : ∀ {g p c}, hget h g p = some c → n g := fun {g p c} hg => by
    obtain ⟨r, hl, _⟩ := C3 hg
    exact hlt g r hl
  induction hs with
  | cell hr => cases hr <;> first | exact .arg (hkn _ (by assumption)) | constructor
  | nils => exact .nils
  | emp => exact .emp
  | void => exact .undef
  | someI => exact .someI
  | nilp => exact .nilp
  | gone hg hn => exact .view hn
  | gonep hg hn => exact .ptr hn
  | goneb hg hn => exact .bx hn
  | view0 hg _ => exact .view (hl hg)
  | view hg => exact .view (hl hg)
  | ptr hg => exact .ptr (hl hg)
  | bx hg => exact .bx (hlt _ _ hg)
  | pin => exact .pin
  | agg hl hc ih => exact .agg fun c hc' => by obtain ⟨i, hi⟩ := List.getElem?_of_mem hc'; exact ih i c hi
  | tup hl hc ih => exact .tup fun c hc' => by obtain ⟨i, hi⟩ := List.getElem?_of_mem hc'; exact ih i c hi
  | fn hl hc ih => exact .fn fun c hc' => by obtain ⟨i, hi⟩ := List.getElem?_of_mem hc'; exact ih i c hi
theorem Ay.down {v : AV} {u : Value} (hs : Ay x w h n ρ v u) (hg : Dq (fun g _ => n2 g) v) : Ay x w h n2 ρ v u := by
  induction hs with
  | cell hr => exact .cell hr
  | nils => exact .nils
  | emp => exact .emp
  | void => exact .void
  | someI => exact .someI
  | nilp => exact .nilp
  | gone hl hn => cases hg with | view h => exact .gone hl h
  | gonep hl hn => cases hg with | ptr h => exact .gonep hl h
  | goneb hl hn => cases hg with | bx h => exact .goneb hl h
  | view0 hl hh => exact .view0 hl hh
  | view hl hh hcap hρ hb hroom => exact .view hl hh hcap hρ hb hroom
  | ptr hl hρ => exact .ptr hl hρ
  | bx hl hρ => exact .bx hl hρ
  | pin V hc => exact .pin V hc
  | agg hl hc ih => cases hg with | agg h => exact .agg hl fun i c hi => ih i c hi (h c (List.mem_of_getElem? hi))
  | tup hl hc ih => cases hg with | tup h => exact .tup hl fun i c hi => ih i c hi (h c (List.mem_of_getElem? hi))
  | fn hl hc ih => cases hg with | fn h => exact .fn hl fun i c hi => ih i c hi (h c (List.mem_of_getElem? hi))
theorem Ay.place {v : AV} {u : Value} (hs : Ay x w h n ρ v u) (hp : ∀ g, ρ2 (some g) = ρ (some g)) : Ay x w h n ρ2 v u := by
  induction hs with
  | cell hr => exact .cell hr
  | nils => exact .nils
  | emp => exact .emp
  | void => exact .void
  | someI => exact .someI
  | nilp => exact .nilp
  | gone hl hn => exact .gone hl hn
  | gonep hl hn => exact .gonep hl hn
  | goneb hl hn => exact .goneb hl hn
  | view0 hl hh => exact .view0 hl hh
  | view hl hh hcap hρ hb hroom => exact .view hl hh hcap (by rw [hp]; exact hρ) hb hroom
  | ptr hl hρ => exact .ptr hl (by rw [hp]; exact hρ)
  | bx hl hρ => exact .bx hl (by rw [hp]; exact hρ)
  | pin V hc => exact .pin V hc
  | agg hl hc ih => exact .agg hl ih
  | tup hl hc ih => exact .tup hl ih
  | fn hl hc ih => exact .fn hl ih
theorem Q9.rs_known {i : Nat} {ms : List Lf} {as : List AV} {us : List Value} {qs : List (Nat × Bo)} {rs ws : List Nat} (A : Q9 sh x w h n ρ L U i ms as us qs rs ws) : ∀ g, g ∈ rs → n g := by
  induction A with
  | nil => simp
  | rd hv hn hr ih =>
    intro g hg
    rcases List.mem_append.1 hg with h | h
    · exact hn g h
    · exact ih g h
  | one hc hu hag hr ih => exact ih
  | many hl hc hr ih => exact ih
  | mv hg hv hr ih => exact ih
  | mp hg hv hr ih => exact ih
  | ma hg hv hr ih => exact ih
theorem Q9.len {i : Nat} {ms : List Lf} {as : List AV} {us : List Value} {qs : List (Nat × Bo)} {rs ws : List Nat} (A : Q9 sh x w h n ρ L U i ms as us qs rs ws) : us.length = ms.length := by
  induction A with
  | nil => rfl
  | rd hv hn hr ih => simp [ih]
  | one hc hu hag hr ih => simp [ih]
  | many hl hc hr ih => simp [ih]
  | mv hg hv hr ih => simp [ih]
  | mp hg hv hr ih => simp [ih]
  | ma hg hv hr ih => simp [ih]
theorem Xk {g : Nat} : ∀ {l : List Nat}, Sl g l = true ↔ g ∈ l
  | [] => by simp [Sl]
  | a :: r => by
    simp only [Sl, List.mem_cons]
    by_cases h : a = g
    · subst h; simp
    · rw [O8 h]
      simp only [Xk]
      constructor
      · exact .inr
      · rintro (e | e)
        · exact absurd e.symm h
        · exact e
theorem B2s {a b : List Nat} (h : Pf a b = false) : ∀ g, g ∈ a → g ∉ b := by
  intro g ha hb
  unfold Pf at h
  have : (a.any fun x => Sl x b) = true := List.any_eq_true.2 ⟨g, ha, Xk.2 hb⟩
  rw [h] at this
  cases this
theorem H6 : ∀ {cs : List AV} {g : Nat} {K : List AV → Ah → Nat → Prop}, B2 g cs K → B2 g cs fun cs' os n1 => n1 = g + Io cs ∧ K cs' os n1
  | [], g, K, hk => ⟨rfl, hk⟩
  | c :: cs, g, K, hk => by
    by_cases ho : ∃ s xs, c = .own s xs
    · obtain ⟨s, xs, rfl⟩ := ho
      have := H6 (cs := cs) (g := g + 1) (K := fun cs os n => K (.view g [] 0 xs.length :: cs) ((g, .own s xs) :: os) n) hk
      show B2 (g + 1) cs _
      refine rootCells_imp this fun cs' os n1 h => ⟨?_, h.2⟩
      rw [h.1]
      simp only [Io]
      omega
    · have hk' : B2 g cs fun cs os n => K (c :: cs) os n := by cases c <;> first | exact hk | exact absurd ⟨_, _, rfl⟩ ho
      have := H6 hk'
      have hcount : Io (c :: cs) = Io cs := by cases c <;> first | rfl | exact absurd ⟨_, _, rfl⟩ ho
      rw [hcount]
      cases c <;> first | exact this | exact absurd ⟨_, _, rfl⟩ ho
where
  rootCells_imp : ∀ {cs : List AV} {g : Nat} {K K' : List AV → Ah → Nat → Prop}, B2 g cs K → (∀ cs' os n1, K cs' os n1 → K' cs' os n1) → B2 g cs K'
    | [], g, K, K', hk, h => h _ _ _ hk
    | c :: cs, g, K, K', hk, h => by
      cases c <;> first
        | exact rootCells_imp (cs := cs) hk fun _ _ _ hh => h _ _ _ hh
theorem A1o {d g : Nat} {ms : List Lf} {a : AV} {as : List AV} {K : Af → Ah → Nat → List Nat → Prop} (hk : Bl d g (.ma :: ms) (a :: as) K) :
    ∃ s xs, a = .agg [.own s xs] ∧ Bl (d + 1) (g + 1) ms as fun S h n mu => K ((d, ⟨none, .agg [.arg s g xs.length]⟩) :: S) ((g, .own s xs) :: h) n (g :: mu) := by
  cases a <;> try exact hk.elim
  rename_i cs
  match cs, hk with
  | [], hk => exact hk.elim
  | [c], hk =>
    cases c <;> try exact hk.elim
    exact ⟨_, _, rfl, hk⟩
  | _ :: _ :: _, hk => exact hk.elim
theorem Fe : ∀ {ms : List Lf} {as : List AV} {d g : Nat} {K K' : Af → Ah → Nat → List Nat → Prop}, Bl d g ms as K → (∀ S h k mu, K S h k mu → K' S h k mu) → Bl d g ms as K' := by
  intro ms
  induction ms with
  | nil => intro as d g K K' hk h; cases as <;> first | exact h _ _ _ _ hk | exact hk.elim
  | cons m ms ih =>
    intro as d g K K' hk h
    cases as with
    | nil => cases m <;> exact hk.elim
    | cons a as =>
      cases m with
      | rd ts => exact ih hk fun _ _ _ _ hh => h _ _ _ _ hh
      | co ts =>
        cases a <;> first
          | exact ih (K := fun S h n mu => _) hk fun _ _ _ _ hh => h _ _ _ _ hh
          | exact H6.rootCells_imp hk fun _ _ _ hh => ih hh fun _ _ _ _ hh => h _ _ _ _ hh
      | mv => cases a <;> first | exact hk.elim | exact ih hk fun _ _ _ _ hh => h _ _ _ _ hh
      | mp => cases a <;> first | exact hk.elim | exact ih hk fun _ _ _ _ hh => h _ _ _ _ hh
      | ma =>
        obtain ⟨s, xs, rfl, hk⟩ := A1o hk
        exact ih hk fun _ _ _ _ hh => h _ _ _ _ hh
theorem Qz {g : Nat} {r : AV} {h : Ah} (hr : r.free) (hh : ∀ j r, A4 h j = some r → r.free) : ∀ j q, A4 ((g, r) :: h) j = some q → q.free := by
  intro j q hq
  rw [Aa] at hq
  by_cases hj : g = j
  · rw [if_pos hj] at hq
    obtain rfl := Option.some.inj hq
    exact hr
  · rw [if_neg hj] at hq; exact hh j q hq
theorem Oh : ∀ {cs : List AV} {g : Nat} {K : List AV → Ah → Nat → Prop}, A2 cs → B2 g cs K → B2 g cs fun cs' os n1 => (∀ j r, A4 os j = some r → r.free) ∧ K cs' os n1
  | [], g, K, _, hk => ⟨fun j r hr => by simp [A4] at hr, hk⟩
  | c :: cs, g, K, hf, hk => by
    by_cases ho : ∃ s xs, c = .own s xs
    · obtain ⟨s, xs, rfl⟩ := ho
      have := Oh (cs := cs) (g := g + 1) (K := fun cs os n => K (.view g [] 0 xs.length :: cs) ((g, .own s xs) :: os) n) hf.2 hk
      show B2 (g + 1) cs _
      exact H6.rootCells_imp this fun cs' os n1 h => ⟨Qz hf.1 h.1, h.2⟩
    · have hk' : B2 g cs fun cs os n => K (c :: cs) os n := by cases c <;> first | exact hk | exact absurd ⟨_, _, rfl⟩ ho
      have := Oh hf.2 hk'
      cases c <;> first | exact this | exact absurd ⟨_, _, rfl⟩ ho
theorem B8r : ∀ {ms : List Lf} {as : List AV} {d g : Nat} {K : Af → Ah → Nat → List Nat → Prop}, A2 as → Bl d g ms as K → Bl d g ms as fun S h k mu => (∀ j r, A4 h j = some r → r.free) ∧ K S h k mu := by
  intro ms
  induction ms with
  | nil => intro as d g K hf hk; cases as <;> first | exact ⟨fun j r hr => by simp [A4] at hr, hk⟩ | exact hk.elim
  | cons m ms ih =>
    intro as d g K hf hk
    cases as with
    | nil => cases m <;> exact hk.elim
    | cons a as =>
      cases m with
      | rd ts => exact Fe (ms := ms) (as := as) (d := d + 1) (g := g) (ih hf.2 hk) fun S h k mu hh => hh
      | co ts =>
        by_cases ho : ∃ s xs, a = .own s xs
        · obtain ⟨s, xs, rfl⟩ := ho
          exact Fe (ms := ms) (as := as) (d := d + 1) (g := g + 1) (ih hf.2 hk) fun S h k mu hh => ⟨Qz hf.1 hh.1, hh.2⟩
        · by_cases hag : ∃ cs, a = .agg cs
          · obtain ⟨cs, rfl⟩ := hag
            refine H6.rootCells_imp (Oh hf.1 hk) fun cs' os n1 hh => Fe (ih hf.2 hh.2) fun S h k mu h3 => ⟨fun j r hr => ?_, h3.2⟩
            rw [B9] at hr
            cases ho2 : A4 os j with
            | some r' => rw [ho2] at hr; obtain rfl := Option.some.inj hr; exact hh.1 j r' ho2
            | none => rw [ho2] at hr; exact h3.1 j r hr
          · cases a <;> first
              | exact absurd ⟨_, _, rfl⟩ ho
              | exact absurd ⟨_, rfl⟩ hag
              | exact Fe (ms := ms) (as := as) (d := d + 1) (g := g) (ih hf.2 hk) fun S h k mu hh => hh
      | mv => cases a <;> first | exact hk.elim | exact Fe (ms := ms) (as := as) (d := d + 1) (g := g + 1) (ih hf.2 hk) fun S h k mu hh => ⟨Qz hf.1 hh.1, hh.2⟩
      | mp => cases a <;> first | exact hk.elim | exact Fe (ms := ms) (as := as) (d := d + 1) (g := g + 1) (ih hf.2 hk) fun S h k mu hh => ⟨Qz hf.1 hh.1, hh.2⟩
      | ma =>
        obtain ⟨s, xs, rfl, hk⟩ := A1o hk
        exact Fe (ms := ms) (as := as) (d := d + 1) (g := g + 1) (ih hf.2 hk) fun S h k mu hh => ⟨Qz hf.1.1 hh.1, hh.2⟩
theorem B5n : ∀ {ms : List Lf} {as : List AV} {d g : Nat} {K : Af → Ah → Nat → List Nat → Prop}, Bl d g ms as K → Bl d g ms as fun S h k mu => k ≤ g + Hv as ∧ K S h k mu := by
  intro ms as d g K
  have imp := @Fe
  induction ms generalizing as d g K with
  | nil => intro hk; cases as <;> first | exact ⟨Nat.le_add_right _ _, hk⟩ | exact hk.elim
  | cons m ms ih =>
    intro hk
    cases as with
    | nil => cases m <;> exact hk.elim
    | cons a as =>
      have hle : Hv as ≤ Hv (a :: as) := by cases a <;> simp only [Hv] <;> omega
      cases m with
      | rd ts => exact imp (ms := ms) (as := as) (d := d + 1) (g := g) (ih hk) fun S h k mu hh => ⟨by omega, hh.2⟩
      | co ts =>
        by_cases ho : ∃ s xs, a = .own s xs
        · obtain ⟨s, xs, rfl⟩ := ho
          exact imp (ms := ms) (as := as) (d := d + 1) (g := g + 1) (ih (g := g + 1) hk) fun S h k mu hh => ⟨by simp only [Hv]; omega, hh.2⟩
        · by_cases hag : ∃ cs, a = .agg cs
          · obtain ⟨cs, rfl⟩ := hag
            refine H6.rootCells_imp (H6 hk) fun cs' os n1 hh => imp (ih hh.2) fun S h k mu h3 => ⟨?_, h3.2⟩
            have := hh.1
            simp only [Hv]
            omega
          · cases a <;> first
              | exact absurd ⟨_, _, rfl⟩ ho
              | exact absurd ⟨_, rfl⟩ hag
              | exact imp (ms := ms) (as := as) (d := d + 1) (g := g) (ih hk) fun S h k mu hh => ⟨by omega, hh.2⟩
      | mv => cases a <;> first | exact hk.elim | exact imp (ms := ms) (as := as) (d := d + 1) (g := g + 1) (ih (g := g + 1) hk) fun S h k mu hh => ⟨by simp only [Hv]; omega, hh.2⟩
      | mp => cases a <;> first | exact hk.elim | exact imp (ms := ms) (as := as) (d := d + 1) (g := g + 1) (ih (g := g + 1) hk) fun S h k mu hh => ⟨by simp only [Hv]; omega, hh.2⟩
      | ma =>
        obtain ⟨s, xs, rfl, hk⟩ := A1o hk
        exact imp (ms := ms) (as := as) (d := d + 1) (g := g + 1) (ih (g := g + 1) hk) fun S h k mu hh => ⟨by simp only [Hv, Io]; omega, hh.2⟩
end
end Go.GH


set_option linter.unusedVariables false
set_option linter.unusedSimpArgs false
namespace Go.GH
open Go
section
variable {P : Program} {E : Env} {x : Ctx} {w w' : World} {h h2 hf hc hy : Ah} {n n2 nn nf : Nat → Prop} {L L2 : List AV} {U U' : Nat → Value} {ρ ρ2 ρf : Option Nat → Aj} {sh : Bool} {id : Nat}
theorem B89 {v : AV} (hg : Dq (fun g _ => n g) v) : ∀ g, g ∈ v.ids1 → n g := by
  intro g hgg
  cases hg <;> simp only [AV.ids1, List.mem_singleton, List.not_mem_nil] at hgg <;> (subst hgg; assumption)
theorem Pn : ∀ {cs : List AV}, (∀ c, c ∈ cs → Dq (fun g _ => n g) c) → ∀ g, g ∈ Fg cs → n g
  | [], _, g, hg => by simp [Fg] at hg
  | c :: cs, h, g, hg => by
    simp only [Fg, List.mem_append] at hg
    rcases hg with hg | hg
    · exact B89 (h c (by simp)) g hg
    · exact Pn (fun c hc => h c (by simp [hc])) g hg
theorem C0p {v : AV} (hg : Dq (fun g _ => n g) v) : ∀ g, g ∈ v.ids → n g := by
  cases hg with
  | agg h => exact Pn h
  | tup h => exact Pn h
  | fn h => exact Pn h
  | view h => intro g hg; simp only [AV.ids, AV.ids1, List.mem_singleton] at hg; subst hg; exact h
  | ptr h => intro g hg; simp only [AV.ids, AV.ids1, List.mem_singleton] at hg; subst hg; exact h
  | bx h => intro g hg; simp only [AV.ids, AV.ids1, List.mem_singleton] at hg; subst hg; exact h
  | arg h => intro g hg; simp only [AV.ids, AV.ids1, List.mem_singleton] at hg; subst hg; exact h
  | _ => intro g hg; simp [AV.ids, AV.ids1] at hg
theorem O4 : ∀ {cs : List AV} {g : Nat} {K : List AV → Ah → Nat → Prop}, B2 g cs K → ∃ cs' os n1, K cs' os n1
  | [], g, K, hk => ⟨_, _, _, hk⟩
  | c :: cs, g, K, hk => by
    by_cases ho : ∃ s xs, c = .own s xs
    · obtain ⟨s, xs, rfl⟩ := ho
      obtain ⟨a, b, d, h⟩ := O4 (cs := cs) (g := g + 1) (K := fun cs os n => K (.view g [] 0 xs.length :: cs) ((g, .own s xs) :: os) n) hk
      exact ⟨_, _, _, h⟩
    · have hk' : B2 g cs fun cs os n => K (c :: cs) os n := by cases c <;> first | exact hk | exact absurd ⟨_, _, rfl⟩ ho
      obtain ⟨a, b, d, h⟩ := O4 hk'
      exact ⟨_, _, _, h⟩
theorem Pg : ∀ {vs : List AV} {g : Nat} {K : List AV → Ah → Nat → Prop}, Bt g vs K → ∃ vs' os n1, K vs' os n1
  | [], g, K, hk => ⟨_, _, _, hk⟩
  | v :: vs, g, K, hk => by
    cases v with
    | own s xs =>
      simp only [Bt] at hk
      obtain ⟨a, b, d, h⟩ := Pg hk
      exact ⟨_, _, _, h⟩
    | agg cs =>
      simp only [Bt] at hk
      obtain ⟨a, b, d, h⟩ := O4 hk
      obtain ⟨a', b', d', h'⟩ := Pg h
      exact ⟨_, _, _, h'⟩
    | _ =>
      simp only [Bt] at hk
      obtain ⟨a, b, d, h⟩ := Pg hk
      exact ⟨_, _, _, h⟩
theorem A8i {v : AV} {K : AV → Ah → Prop} (hk : Hc id v K) : ∃ v' os, K v' os := by
  cases v with
  | own s xs => exact ⟨_, _, hk⟩
  | agg cs =>
    have hk' : B2 id cs fun cs' os n => leN n (id + 16) (K (.agg cs') os) := hk
    obtain ⟨a, b, d, h⟩ := O4 hk'
    exact ⟨_, _, (Bf h).2⟩
  | tup vs =>
    have hk' : Bt id vs fun vs' os n => leN n (id + 16) (K (.tup vs') os) := hk
    obtain ⟨a, b, d, h⟩ := Pg hk'
    exact ⟨_, _, (Bf h).2⟩
  | _ => exact ⟨_, _, hk⟩
theorem A48 {pt : Bool} {v : AV} {K : AV → Ah → Prop} (hk : Kt pt id v K) : ∃ v' os, K v' os := by
  cases pt with
  | false => exact A8i hk
  | true => cases v <;> first | exact hk.elim | exact ⟨_, _, hk⟩
def Sts (x : Ctx) (N : Nat) (S : Af) (h : Ah) (n : Nat → Prop) (a : Act) (w : World) : Prop :=
  ∃ R wr, (∀ b, x.R b → R b) ∧ Stt { x with R := R, wr := wr } N S h n a w
theorem B67 (sh : Bool) (x : Ctx) (R' : Nat → Prop) (w' : World) (hR : sh = true → ∀ b, x.R b → R' b) : ∃ R wr, Im sh x R' w' = { x with R := R, wr := wr } ∧ ∀ b, x.R b → R b := by
  cases sh with
  | false => exact ⟨x.R, x.wr, rfl, fun _ h => h⟩
  | true => exact ⟨R', w', rfl, hR rfl⟩
theorem A9n {gs : List (Nat × Bo)} {R' : Nat → Prop} {wr' : World} {src : Nat → Src} {N : Nat} {S S' : Af} {a : Act} (hN : a.tmps.size = N) (hdf : a.defers = []) {d : Option Nat} (hd : ∀ k, d = some k → k < N) {g : Option Bool} (hg : Cw g)
    (H : Bp x w h2 n2 [] U ρ) (A : B1c h2 gs hy) (hs : Ar x w h2 n2 ρ S a.tmps) (hR : ∀ b, Xi sh x w ρ gs b → R' b) (H' : Bp { Fm sh x w ρ gs with R := R', wr := wr' } w' hf nf [] U' ρf)
    (G : A8l sh n2 nn x.k h2 hf hc gs src) {v : AV} {u : Value} (hu : Ay { Fm sh x w ρ gs with R := R', wr := wr' } w' hf nf ρf v u) (hgv : Dq (fun g _ => src g = .new) v) (hnr : sh = false → v.noRd) (hvf : v.free)
    (hS : ∀ d s, A4 S' d = some s → ∃ s0, A4 S d = some s0 ∧ s.c = s0.c ∧ (s.v = s0.v ∨ s.v = .undef) ∧ (Cw s.c → Dq (fun g p => ∀ j q, src g = .wri j q → p = []) s.v))
    (hids : ∀ g r, A4 hc g = some r → Ke n id g) (hkn : ∀ g, g < x.k → Ke n id g) (hgv2 : Dq (fun g _ => Ke n id g) v) (hS2 : ∀ d s, A4 S' d = some s → Cw s.c → Dq (fun g _ => Ke n id g) s.v) :
    Sts x N (B6 S' d g v) hc (Ke n id) (a.put d u) w' := by
  have hRx : sh = true → ∀ b, x.R b → R' b := by
    rintro rfl b hb
    exact hR b hb
  obtain ⟨R, wr, e, hRR⟩ := B67 sh x R' w' hRx
  have M1 := Bp.merge H A hR H' G
  have M2 := Ar.merge H hs hR H' G hS
  have M3 := Ay.back (x := x) H' G hu hgv hnr
  rw [e] at M1 M2 M3
  have M4 := M1.forget (n' := Ke n id) (h' := hc) (fun g r hr => ⟨hr, hids g r hr⟩) hkn
  refine ⟨R, wr, hRR, ?_⟩
  have hplace : ∀ {v : AV} {u : Value}, Ay { x with R := R, wr := wr } w' hc nn (De ρ ρf src) v u → Dq (fun g _ => Ke n id g) v → Ay { x with R := R, wr := wr } w' hc (Ke n id) (Kp hc (De ρ ρf src)) v u := by
    intro v u hv hgd
    have h1 := hv.down hgd
    refine h1.weaken (P := fun _ _ => True) (Dq.all (fun _ _ => trivial) h1) (fun _ h => h) (fun _ _ h => h) hids fun g p _ => ?_
    cases hl : A4 hc g with
    | none => exact .inl rfl
    | some r => exact .inr ⟨fun s xs h => ⟨xs, h, rfl⟩, fun q hq => by simp [Kp, hl]; exact hq⟩
  have M5 : Ar { x with R := R, wr := wr } w' hc (Ke n id) (Kp hc (De ρ ρf src)) S' a.tmps := fun d s hd => ⟨fun ht => hplace ((M2 d s hd).1 ht) (hS2 d s hd ht), (M2 d s hd).2⟩
  exact Stt.put M4 M5 hN hdf hd (fun _ => hplace (M3 hvf) hgv2) (fun hg' => absurd hg' (Sj hg)) (fun _ h => h)
end
end Go.GH


set_option linter.unusedVariables false
set_option linter.unusedSimpArgs false
namespace Go.GH
open Go
theorem Q2.mono {P : Program} {f : Nat} {args : Array Value} {w : World} {R R' : Value → World → Prop} (h : Q2 P f args w R) (hr : ∀ u w', R u w' → R' u w') : Q2 P f args w R' := by
  rcases h with ⟨h1, h2⟩ | ⟨u, w', h1, h2⟩ | ⟨row, as, w1, h1, h2⟩
  · exact .inl ⟨h1, h2.mono fun e w' ⟨u, he, hu⟩ => ⟨u, he, hr _ _ hu⟩⟩
  · exact .inr (.inl ⟨u, w', h1, hr _ _ h2⟩)
  · exact .inr (.inr ⟨row, as, w1, h1, h2.mono hr⟩)
section
variable {P : Program} {E : Env} {x : Ctx} {w w' : World} {h h2 hf hc hy : Ah} {n n2 nn nf : Nat → Prop} {L L2 : List AV} {U U' : Nat → Value} {ρ ρ2 ρf : Option Nat → Aj} {sh : Bool} {id : Nat}
theorem Qh : ∀ {mu : List Nat} {out : List AV} {g : Nat}, g ∉ mu → A4 (Bg mu out) g = none
  | [], out, g, h => by cases out <;> rfl
  | m :: mu, [], g, h => rfl
  | m :: mu, y :: out, g, h => by
    simp only [Bg]
    rw [Aa, if_neg (fun e => h (by simp [e]))]
    exact Qh fun hh => h (by simp [hh])
def A1j (L : List AV) (i : Nat) : Bool := match L[i]? with
  | some (.own _ _) => true
  | _ => false
theorem Q9.rd_qs {i : Nat} {ms : List Lf} {as : List AV} {us : List Value} {qs : List (Nat × Bo)} {rs ws : List Nat} (A : Q9 sh x w h n ρ L U i ms as us qs rs ws) : Ik ms = true → qs = [] := by
  induction A with
  | nil => intro _; rfl
  | rd hv hn hr ih => intro ha; exact ih ha
  | _ => intro ha; cases ha
theorem A0a {i : Nat} : A1j L i = true ↔ ∃ s xs, L[i]? = some (.own s xs) := by
  unfold A1j
  cases hi : L[i]? with
  | none => simp
  | some c => cases c <;> simp
theorem A8o {g p y} {r : AV} (hl : A4 h g = some r) (e : Nat) : A4 (hput h g p y) e = if g = e then some (AV.put y p r) else A4 h e := Em hl e
open Classical in
theorem B42 (hF : FE P E x) {N : Nat} {S : Af} {a : Act} (H : Bp x w h n [] (fun _ => undef) ρ) (hs : Ar x w h n ρ S a.tmps) (hN : a.tmps.size = N) (hdf : a.defers = [])
    (hbd : ∃ B, ∀ g, n g → g < B) (hid : Qs n id) {g : Option Bool} (hg : Cw g) {d : Option Nat} (hd : ∀ k, d = some k → k < N) {f : Nat} {vs : List AV} {us : List Value} (hl : vs.length = us.length)
    (hv : ∀ (i : Nat) v u, vs[i]? = some v → us[i]? = some u → Ay x w h n ρ v u) {K : Af → Ah → Prop} (hk : Oi E S h id d g f vs K) :
    ∃ S' h', K S' h' ∧ Q2 P f us.toArray w fun u w' => Sts x N S' h' (Ke n id) (a.put d u) w' := by
  unfold Oi at hk
  cases hEf : E.F f with
  | none => rw [hEf] at hk; exact hk.elim
  | some c =>
  rw [hEf] at hk
  have hC := (hF f c hEf).1
  obtain ⟨as, qs, rs, ws, S1, h1, ρ1, L1, U1, hk, H1, hs1, hmv, _, A⟩ := J5 H hs hl (fun i v u hv' hu => ⟨(hv i v u hv' hu).movV, C0p ((hv i v u hv' hu).names H.ids H.kn)⟩) hk
  simp only [List.nil_append, List.length_nil] at H1 A
  obtain ⟨hcount, hkB⟩ := Bf hk
  clear hk
  cases hmt : Pf rs ws with
  | true => rw [hmt] at hkB; exact hkB.elim
  | false =>
  rw [hmt] at hkB
  obtain ⟨xx, has, hpre0, hk⟩ := hkB
  have hpre := hpre0 hg
  clear hpre0
  subst has
  have hq : qs.length ≤ 1 := by
    obtain ⟨v', os, hk'⟩ := A48 hk
    cases hsc : c.sc with
    | true =>
      simp only [hsc] at hk'
      cases ha : Ik c.ms with
      | true => rw [A.rd_qs ha]; simp
      | false => simp only [ha] at hk'
    | false =>
      simp only [hsc] at hk'
      match qs, hk' with
      | [], _ => simp
      | [_], _ => simp
      | _ :: _ :: _, hk' => exact hk'.elim
  obtain ⟨B, hB⟩ := hbd
  obtain ⟨id2, hid2, hid3⟩ : ∃ id2, B ≤ id2 ∧ id + 16 ≤ id2 := ⟨max B (id + 16), Nat.le_max_left _ _, Nat.le_max_right _ _⟩
  have hgh : ∀ i, ¬ n (id2 + i) := fun i hn => by have := hB _ hn; omega
  obtain ⟨h2, n2, L2, ρ2, H2, S2, r1, r2, r3⟩ := A3b (id := id2) (S := S1) ((List.range L1.length).filter (A1j L1)) (List.filter_sublist.nodup List.nodup_range) (fun i hi => A0a.1 (List.mem_filter.1 hi).2) (fun i _ => hgh i) H1 hs1
  have hmem : ∀ {i s xs}, L1[i]? = some (.own s xs) → i ∈ (List.range L1.length).filter (A1j L1) := by
    intro i s xs hi
    refine List.mem_filter.2 ⟨List.mem_range.2 ?_, A0a.2 ⟨s, xs, hi⟩⟩
    rcases Nat.lt_or_ge i L1.length with h | h
    · exact h
    · rw [List.getElem?_eq_none h] at hi; cases hi
  obtain ⟨ρ3, H3, hp3⟩ : ∃ ρ3 : Option Nat → Aj, Bp x w h2 n2 [] (fun _ => undef) ρ3 ∧ ∀ g, ρ3 (some g) = ρ2 (some g) := ⟨_, H2.dropL, fun g => rfl⟩
  have S3 : Ar x w h2 n2 ρ3 S1 a.tmps := fun d s hd => ⟨fun ht => ((S2 d s hd).1 ht).place hp3, (S2 d s hd).2⟩
  have R1 : ∀ (i : Nat) s xs, L1[i]? = some (.own s xs) → A4 h2 (id2 + i) = some (.own s xs) ∧ ∀ q, ρ3 (some (id2 + i)) q = ρ1 none ((0, i) :: q) := fun i s xs hi => by
    obtain ⟨b1, b2⟩ := r1 i (hmem hi)
    exact ⟨by rw [b1, hi], fun q => by rw [hp3, b2]⟩
  have R2 : ∀ g, n g → A4 h2 g = A4 h1 g ∧ ρ3 (some g) = ρ1 (some g) := fun g hn => by
    obtain ⟨b1, b2⟩ := r2 g (fun i _ e => hgh i (e ▸ hn))
    exact ⟨b1, by rw [hp3, b2]⟩
  have R3 : ∀ g, n g → n2 g := fun g hn => (r3 g).2 (.inl hn)
  obtain ⟨hfenc, hfout, hout0, hini0⟩ := hC xx hpre
  obtain ⟨gs, Sy, hy, mu, e1, e2, e3, e4, e5, e6⟩ := B6l (x := x) (sh := c.sh) H1 H3 R1 R2 R3 (fun i _ _ _ => hgh i) A hfenc hq 0 0
  simp only [Nat.zero_add, Nat.sub_zero] at e1 e2 e4
  have hHand : B1c h2 gs hy := ⟨fun j r hr => by
      obtain ⟨_, g, p, h3, h4⟩ := e2.of j r hr
      exact ⟨g, p, by simpa using h3, h4⟩, fun j g p hj => by
      obtain ⟨s, xs, h3, h4⟩ := e2.own j g p hj
      exact ⟨s, xs, h3, by simpa using h4⟩, fun j j' g p p' hj hj' => e3 j j' g p p' hj hj'⟩
  have hfree : ∀ j r, A4 hy j = some r → r.free := (e1 _ (B8r hfenc hini0)).1
  have HE := H3.enter (sh := c.sh) hHand hfree
  have hrsn := A.rs_known
  have hrs : ∀ g, g ∈ rs → ∀ (j : Nat) (p : Bo), gs[j]? ≠ some (g, p) := by
    intro g hgr j p hj
    rcases e2.src j g p hj with ⟨m, _, rfl, _⟩ | hq'
    · exact hgh m (hrsn _ hgr)
    · exact B2s hmt g hgr (e5 g p hq').2
  have SE : Ar (Fm c.sh x w ρ3 gs) w hy (fun j => j < gs.length) (Cg ρ3 gs) Sy us.toArray := by
    intro D s hD
    obtain ⟨_, b2, u, b3, b4⟩ := e6 gs hy (fun t gp ht => by simpa using ht) (fun j r hr => hr) hrs (fun j => j < gs.length) D s hD
    simp only [Nat.sub_zero] at b3
    have : us.toArray.getD D undef = u := by simp [Array.getD_eq_getD_getElem?, b3]
    rw [this]
    exact ⟨fun _ => b4, fun hf => by rw [b2] at hf; cases hf⟩
  have hout := hout0
  have hini := hini0
  obtain ⟨hkle, hshape, hcon⟩ := e1 _ (B5n hini)
  simp only [Nat.zero_add] at hkle
  obtain ⟨v, os, hk, hgood, hos, hvr, hvf, hcall⟩ := hcon (Fm c.sh x w ρ3 gs) w us.toArray (Cg ρ3 gs) rfl rfl rfl rfl (H3.gok (hF f c hEf).2) (by simpa using A.len) HE SE id (Nat.le_trans hkle hcount) _ hk
  have hnn : ∀ {g}, Dk id g → ¬ n g := fun {g} hgn hn => hid g hgn.1 hgn.2 hn
  have hnn2 : ∀ {g}, Dk id g → ¬ n2 g := fun {g} hgn hn => by
    rcases (r3 g).1 hn with h | ⟨i, _, rfl⟩
    · exact hnn hgn h
    · have := hgn.2; omega
  have hosn : ∀ {g}, ¬ Dk id g → A4 os g = none := fun {g} hng => by
    cases hl : A4 os g with
    | none => rfl
    | some r => exact absurd (hos g r hl).1 hng
  have hmuk : ∀ j, j ∈ mu → j < gs.length := fun j hj => by
    obtain ⟨t, ht⟩ := List.getElem?_of_mem hj
    obtain ⟨g, p, _, _, h5⟩ := e4.2 t j ht
    rcases Nat.lt_or_ge j gs.length with h | h
    · exact h
    · rw [List.getElem?_eq_none h] at h5; cases h5
  have houtn : ∀ {g}, Dk id g → A4 (Bg mu (c.out xx)) g = none := fun {g} hgn => Qh fun hm => by
    have := hmuk g hm
    have := hgn.1
    omega
  have hold : ∀ {g}, n g → A4 h2 g = A4 h1 g := fun hn => (R2 _ hn).1
  have hn1 : ∀ {g}, ¬ n g → A4 h1 g = none := fun {g} hn => by
    cases hl : A4 h1 g with
    | none => rfl
    | some r => exact absurd (H1.ids g r hl) hn
  have hslots1 : ∀ d s, A4 S1 d = some s → Cw s.c → Dq (fun g _ => n g) s.v := fun d s hd ht => ((hs1 d s hd).1 ht).names H1.ids H1.kn
  have plain : qs = [] → ∀ {Sn : Af} {hn : Ah}, Sn = B6 S1 d g v → hn = os ++ h1 → K Sn hn → ∃ S' h', K S' h' ∧ Q2 P f us.toArray w fun u w' => Sts x N S' h' (Ke n id) (a.put d u) w' := by
    rintro rfl Sn hn rfl rfl hK
    have hmu : mu = [] := List.eq_nil_of_length_eq_zero (by simpa using e4.1)
    subst hmu
    have hoE : Bg [] (c.out xx) = [] := by cases c.out xx <;> rfl
    refine ⟨_, _, hK, hcall.mono fun u w' ⟨R', wr', ρf, q1, q2, q3⟩ => ?_⟩
    rw [hoE, List.nil_append] at q2 q3
    have G : A8l c.sh n2 (fun g => n2 g ∨ Dk id g) x.k h2 os (os ++ h1) gs (fun g => if Dk id g then .new else if n g then .old else .gone) := by
      refine ⟨fun g => ?_, fun g hgo => ?_, fun g hgn => ?_, fun g j p hgw => ?_, fun g hgg => ?_, fun g hn => .inl hn, fun g hgn => ?_⟩
      · rw [B9]
        by_cases h3 : Dk id g
        · rw [if_pos h3]
          simp only
          cases A4 os g with
          | some r => rfl
          | none => exact hn1 (hnn h3)
        · rw [if_neg h3, hosn h3]
          by_cases h4 : n g
          · rw [if_pos h4]; exact (hold h4).symm
          · rw [if_neg h4]; exact hn1 h4
      · by_cases h3 : Dk id g
        · simp [h3] at hgo
        · by_cases h4 : n g
          · intro j p hj
            rcases e2.src j g p hj with ⟨m, _, rfl, _⟩ | hq'
            · exact hgh m h4
            · cases hq'
          · simp [h3, h4] at hgo
      · have h3 : Dk id g := by
          by_cases h3 : Dk id g
          · exact h3
          · by_cases h4 : n g <;> simp [h3, h4] at hgn
        exact ⟨hnn2 h3, by have := h3.1; omega, fun hsh r hr => (hos g r hr).2.1 hsh, fun r hr => (hos g r hr).2.2⟩
      · by_cases h3 : Dk id g
        · simp [h3] at hgw
        · by_cases h4 : n g <;> simp [h3, h4] at hgw
      · intro hlt
        have h4 := H1.kn g hlt
        have h3 : ¬ Dk id g := fun h => hnn h h4
        simp [h3, h4] at hgg
      · by_cases h3 : Dk id g
        · exact .inr h3
        · by_cases h4 : n g <;> simp [h3, h4] at hgn
    refine A9n (x := x) (n := n) (id := id) (S := S1) (S' := S1) (src := fun g => if Dk id g then .new else if n g then .old else .gone) hN hdf hd hg H3 hHand S3 q1 q2 G q3 (hgood.mono fun g _ hn => by simp [hn]) hvr hvf
      (fun d s hd => ⟨s, hd, rfl, .inl rfl, fun ht => (hslots1 d s hd ht).mono fun g p hn => fun j q hw => by
        have h3 : ¬ Dk id g := fun h => hnn h hn
        simp [h3, hn] at hw⟩) (fun g r hr => ?_) (fun g hlt => .inl (H1.kn g hlt)) (hgood.mono fun g _ hn => .inr hn) (fun d s hd ht => (hslots1 d s hd ht).mono fun g _ hn => .inl hn)
    rw [B9] at hr
    cases ho : A4 os g with
    | some r' => exact .inr (hos g r' ho).1
    | none => rw [ho] at hr; exact .inl (H1.ids g r hr)
  cases hsc : c.sc with
  | true =>
    simp only [hsc] at hk
    cases ha : Ik c.ms with
    | false => simp only [ha] at hk
    | true =>
      simp only [ha] at hk
      match os, hk, plain with
      | [], hk, plain => exact plain (A.rd_qs ha) rfl rfl hk
      | _ :: _, hk, _ => exact hk.elim
  | false =>
    simp only [hsc] at hk
    match hqs : qs, hk with
    | _ :: _ :: _, hk => exact hk.elim
    | [], hk =>
      cases ho : c.out xx with
      | nil => rw [ho] at hk; exact plain rfl rfl rfl hk
      | cons y ys => rw [ho] at hk; exact hk.elim
    | [(gm, p)], hk =>
      cases ho : c.out xx with
      | nil => rw [ho] at hk; exact hk.elim
      | cons y ys =>
        cases ys with
        | cons y2 ys => rw [ho] at hk; exact hk.elim
        | nil =>
          rw [ho] at hk hout hshape hcall hfout
          have hngm := (e5 gm p (by simp)).1
          obtain ⟨jm, hmu⟩ : ∃ jm, mu = [jm] := by
            match mu, e4.1 with
            | [jm], _ => exact ⟨jm, rfl⟩
          subst hmu
          obtain ⟨gm', p', hq1, _, hq2⟩ := e4.2 0 jm rfl
          simp only [List.getElem?_cons_zero, Option.some.injEq, Prod.mk.injEq] at hq1
          obtain ⟨rfl, rfl⟩ := hq1
          obtain ⟨⟨s, xs, zs, hs1', hs2', hs3'⟩, _⟩ := hshape
          subst hs2'
          obtain ⟨s', xs', ho1, ho2⟩ := e2.own jm gm p hq2
          simp only [Nat.zero_add] at ho2
          rw [hs1'] at ho2
          simp only [Option.some.injEq, AV.own.injEq] at ho2
          obtain ⟨rfl, rfl⟩ := ho2
          obtain ⟨rt, hrt, _⟩ := C3 ho1
          have hrt1 : A4 h1 gm = some rt := by rw [← hold hngm]; exact hrt
          have hjk := hmuk jm (by simp)
          have hgm3 : ¬ Dk id gm := fun h => hnn h hngm
          refine ⟨_, _, hk, hcall.mono fun u w' ⟨R', wr', ρf, q1, q2, q3⟩ => ?_⟩
          have G : A8l c.sh n2 (fun g => n2 g ∨ Dk id g) x.k h2 (Bg [jm] [.own s zs] ++ os) (os ++ hput h1 gm p (.own s zs)) gs (fun g => if Dk id g then .new else if g = gm then .wri jm p else if n g then .old else .gone) := by
            refine ⟨fun g => ?_, fun g hgo => ?_, fun g hgn => ?_, fun g j q hgw => ?_, fun g hgg => ?_, fun g hn => .inl hn, fun g hgn => ?_⟩
            · rw [B9, A8o hrt1]
              by_cases h3 : Dk id g
              · rw [if_pos h3]
                simp only [Bg, List.cons_append, List.nil_append]
                rw [Aa, if_neg (show ¬ jm = g from fun e => by have := h3.1; omega), if_neg (show ¬ gm = g from fun e => hgm3 (e ▸ h3))]
                cases A4 os g with
                | some r => rfl
                | none => exact hn1 (hnn h3)
              · rw [if_neg h3, hosn h3]
                by_cases h5 : g = gm
                · subst h5
                  rw [if_pos rfl]
                  simp only [hrt, if_true, Bg, List.cons_append, List.nil_append]
                  rw [Aa, if_pos rfl]
                · rw [if_neg h5]
                  simp only [if_neg (Ne.symm h5)]
                  by_cases h4 : n g
                  · rw [if_pos h4]; exact (hold h4).symm
                  · rw [if_neg h4]; exact hn1 h4
            · by_cases h3 : Dk id g
              · simp [h3] at hgo
              · by_cases h5 : g = gm
                · subst h5; simp [h3] at hgo
                · by_cases h4 : n g
                  · intro j q hj
                    rcases e2.src j g q hj with ⟨m, _, rfl, _⟩ | hq'
                    · exact hgh m h4
                    · simp only [List.mem_singleton, Prod.mk.injEq] at hq'
                      exact h5 hq'.1
                  · simp [h3, h5, h4] at hgo
            · have h3 : Dk id g := by
                by_cases h3 : Dk id g
                · exact h3
                · by_cases h5 : g = gm
                  · subst h5; simp [h3] at hgn
                  · by_cases h4 : n g <;> simp [h3, h5, h4] at hgn
              have hlook : ∀ r, A4 (Bg [jm] [.own s zs] ++ os) g = some r → A4 os g = some r := fun r hr => by
                simp only [Bg, List.cons_append, List.nil_append] at hr
                rw [Aa, if_neg (show ¬ jm = g from fun e => by have := h3.1; omega)] at hr
                exact hr
              exact ⟨hnn2 h3, by have := h3.1; omega, fun hsh r hr => (hos g r (hlook r hr)).2.1 hsh, fun r hr => (hos g r (hlook r hr)).2.2⟩
            · by_cases h3 : Dk id g
              · simp [h3] at hgw
              · by_cases h5 : g = gm
                · subst h5
                  simp only [h3, if_false, if_true, Src.wri.injEq] at hgw
                  obtain ⟨rfl, rfl⟩ := hgw
                  exact ⟨hq2, s, xs, zs, ho1, by simp [Bg, Aa], hs3', fun hsh => (hout hsh).1, hfout.1⟩
                · by_cases h4 : n g <;> simp [h3, h5, h4] at hgw
            · intro hlt
              have h4 := H1.kn g hlt
              have h3 : ¬ Dk id g := fun h => hnn h h4
              by_cases h5 : g = gm
              · subst h5; simp [h3] at hgg
              · simp [h3, h5, h4] at hgg
            · by_cases h3 : Dk id g
              · exact .inr h3
              · by_cases h5 : g = gm
                · subst h5; simp [h3] at hgn
                · by_cases h4 : n g <;> simp [h3, h5, h4] at hgn
          refine A9n (x := x) (n := n) (id := id) (S := S1) (S' := voids gm S1) (src := fun g => if Dk id g then .new else if g = gm then .wri jm p else if n g then .old else .gone) hN hdf hd hg H3 hHand S3 q1 q2 G q3 (hgood.mono fun g _ hn => by simp [hn]) hvr hvf
            (fun d s hd => ?_) (fun g r hr => ?_) (fun g hlt => .inl (H1.kn g hlt)) (hgood.mono fun g _ hn => .inr hn) (fun d s hd ht => ?_)
          · obtain ⟨s0, v1, v2, v3, v4⟩ := To d s hd
            refine ⟨s0, v1, v2, v3, fun ht => ?_⟩
            have hnm : Dq (fun g _ => n g) s.v := by
              rcases v3 with v3 | v3
              · rw [v3]; exact hslots1 d s0 v1 (v2 ▸ ht)
              · rw [v3]; exact .undef
            refine ((v4 ht).and hnm).mono fun g q hgq => fun j q' hw => ?_
            obtain ⟨hg1, hg2⟩ := hgq
            rcases hg1 with hg1 | hg1
            · have h3 : ¬ Dk id g := fun h => hnn h hg2
              simp [h3, hg1, hg2] at hw
            · exact hg1
          · rw [B9] at hr
            cases ho' : A4 os g with
            | some r' => exact .inr (hos g r' ho').1
            | none =>
              rw [ho', A8o hrt1] at hr
              by_cases h5 : gm = g
              · subst h5; exact .inl hngm
              · simp only [if_neg h5] at hr; exact .inl (H1.ids g r hr)
          · obtain ⟨s0, v1, v2, v3, v4⟩ := To d s hd
            rcases v3 with v3 | v3
            · rw [v3]; exact (hslots1 d s0 v1 (v2 ▸ ht)).mono fun g _ hn => .inl hn
            · rw [v3]; exact .undef
end
end Go.GH


set_option linter.unusedVariables false
set_option linter.unusedSimpArgs false
namespace Go.GH
open Go
section
variable {P : Program} {E : Env} {x : Ctx} {w w' : World} {h : Ah} {n n' : Nat → Prop} {ρ : Option Nat → Aj} {id : Nat}
theorem Stt.sts {N : Nat} {S : Af} {a : Act} (hst : Stt x N S h n a w) : Sts x N S h n a w := ⟨x.R, x.wr, fun _ h => h, hst⟩
theorem M7.wp {N : Nat} {o : Oper} {a : Act} {K : Af → Ah → Prop} {Q : Exit → Act → World → Prop} (hc : M7 P x N o a w n' K) : ∃ S' h', K S' h' ∧ o.wp P a w (fun a' w' => Sts x N S' h' n' a' w') Q := by
  obtain ⟨S', h', hK, w', ⟨u, hrun, hst⟩ | ⟨hrun, hst⟩⟩ := hc
  · exact ⟨S', h', hK, B2q hrun hst.sts⟩
  · refine ⟨S', h', hK, ?_⟩
    unfold Oper.wp
    rw [hrun]
    exact hst.sts
theorem B5w {o : Oper} {a : Act} {f : Nat} {args : Array Value} {next : Act → World → Prop} {Q : Exit → Act → World → Prop} (hrun : (execOp a.eval o).run P w = (callFunc f args).run P w) (hc : Q2 P f args w fun u w' => next (a.put o.dst u) w') :
    o.wp P a w next Q := by
  unfold Oper.wp
  rw [hrun]
  rcases hc with ⟨h1, h2⟩ | ⟨u, w', h1, h2⟩ | ⟨row, as, w1, h1, h2⟩
  · rw [h1]
    exact h2.mono fun e w' ⟨u, he, hu⟩ => by subst he; exact hu
  · rw [h1]; exact h2
  · rw [h1]; exact h2
theorem B28 (hT : TOk P E) (hF : FE P E x) {N : Nat} {S : Af} {a : Act} (H : Bp x w h n [] (fun _ => undef) ρ) (hs : Ar x w h n ρ S a.tmps) (hN : a.tmps.size = N) (hdf : a.defers = [])
    (hbd : ∃ B, ∀ g, n g → g < B) (hid : Qs n id) {g : Option Bool} (hg : Cw g) {o : Oper} (hgv : g ≠ none → Cd E o = true) (hd : ∀ k, o.dst = some k → k < N) {K : Af → Ah → Prop} {Q : Exit → Act → World → Prop}
    (hk : Aw E id o g S h K) : ∃ S' h', K S' h' ∧ o.wp P a w (fun a' w' => Sts x N S' h' (Ke n id) a' w') Q := by
  by_cases hp : A1w E o = true
  · obtain ⟨v, u, h1, h2, h3⟩ := B5b hT H hs hg hp hk
    exact ⟨_, _, h1, B2q h2 (Stt.put H hs hN hdf hd (fun _ => h3) (fun hg' => absurd hg' (Sj hg)) A3a).sts⟩
  · by_cases hcall : ∃ c f, o.op = .call c ∧ c.callee = .value f
    · obtain ⟨c, f, ho, hc⟩ := hcall
      obtain ⟨dst, op, type, pos, after, guard⟩ := o
      simp only at ho
      subst ho
      simp only [Aw, hc] at hk
      obtain ⟨fv, hk1, hfv⟩ := Cc hs hg hk
      obtain ⟨vs, hk2, hl, hvs⟩ := Ka hs hg hk1
      cases fv <;> try exact hk2.elim
      rename_i f' caps
      revert hfv
      generalize e0 : a.eval f = uf
      intro hfv
      cases hfv with
      | cell hr => cases hr
      | fn hcl hcc =>
        rename_i us
        obtain ⟨S', h', hK, hcl2⟩ := B42 (P := P) (us := c.args.toList.map a.eval ++ us.toList) hF H hs hN hdf hbd hid hg (d := dst) hd (by simp [hl, hcl]) (fun i v u hv hu => by
          by_cases hi : i < vs.length
          · rw [List.getElem?_append_left hi] at hv
            rw [List.getElem?_append_left (by simp only [List.length_map]; omega), List.getElem?_map] at hu
            cases hy : c.args.toList[i]? with
            | none => rw [hy] at hu; cases hu
            | some y =>
              rw [hy] at hu
              simp only [Option.map_some, Option.some.injEq] at hu
              subst hu
              exact hvs i v y hv hy
          · rw [List.getElem?_append_right (by omega)] at hv
            rw [List.getElem?_append_right (by simp only [List.length_map]; omega)] at hu
            have := hcc _ v hv
            have e : us.getD (i - vs.length) undef = u := by
              have h9 : us[i - vs.length]? = some u := by
                rw [← hu]
                simp [hl]
              simp [Array.getD_eq_getD_getElem?, h9]
            rwa [e] at this) hk2
        refine ⟨S', h', hK, B5w (f := f') ?_ hcl2⟩
        have hargs : (c.args.toList.map a.eval ++ us.toList).toArray = c.args.map a.eval ++ us := by
          apply Array.ext'
          simp
        rw [hargs]
        simp only [execOp, resolve, hc, e0, Deferred.ofValue, Sem.run_bind, Sem.run_pure, Result.andThen_ok, invoke]
        simp
    · have hvo : Cd E o = false := by
        cases hv : Cd E o with
        | false => rfl
        | true =>
          exfalso
          apply hp
          unfold A1w
          cases ho : o.op <;> simp only [ho] <;> try exact hv
          rename_i c
          cases hcc : c.callee <;> simp only [hcc]
          · exact absurd ⟨c, _, ho, hcc⟩ hcall
          · unfold Cd at hv
            simp only [ho, hcc] at hv
            cases hv
          · exact hv
      have hgn : g = none := by
        cases g with
        | none => rfl
        | some b => have := hgv (by simp); rw [hvo] at this; cases this
      subst hgn
      cases ho : o.op with
      | alloc t => exact (B6i hT H hs hN hdf hid hd ho hk).wp
      | box t y => exact (C1b hT H hs hN hdf hid hd ho hk).wp
      | store t y z => exact (B5x hT H hs hN hdf hd ho hk).wp
      | convert s t y => exact (B1v hT H hs hN hdf hid hd ho hvo hk).wp
      | buildSlice t m parts => exact (A17 hT H hs hN hdf hid hd ho hk).wp
      | makeSlice t l c => exact (A56 hT H hs hN hdf hid hd ho hk).wp
      | call c =>
        cases hcc : c.callee with
        | value f => exact absurd ⟨c, f, ho, hcc⟩ hcall
        | invoke r m => simp only [Aw, ho, hcc] at hk
        | builtin b =>
          by_cases hb : b = .append
          · subst hb
            exact (B2k hT H hs hN hdf hid hd ho hcc hk).wp
          · exfalso
            simp only [Aw, ho, hcc] at hk
            obtain ⟨vs, hk2, _, _⟩ := Ka hs (g := none) trivial hk
            simp only [Cd, ho, hcc] at hvo
            cases b <;> first
              | exact absurd rfl hb
              | (cases hvo; done)
              | (rcases vs with _ | ⟨y, _ | ⟨z, _ | ⟨q, r⟩⟩⟩ <;> first
                  | exact hk2.elim
                  | (cases y <;> (try exact hk2.elim) <;> cases z <;> exact hk2.elim))
      | _ =>
        exfalso
        first
          | (simp only [Aw, ho] at hk; done)
          | (simp only [Cd, ho] at hvo; cases hvo; done)
          | (simp only [Aw, ho] at hk; exact hk)
end
end Go.GH


set_option linter.unusedVariables false
set_option linter.unusedSimpArgs false
namespace Go.GH
open Go
def HAg (l : List Nat) (h h' : Ah) : Prop := ∀ g, g ∈ l → A4 h' g = A4 h g
theorem HAg.mono {l l' : List Nat} {h h' : Ah} (ha : HAg l h h') (hs : ∀ g, g ∈ l' → g ∈ l) : HAg l' h h' := fun g hg => ha g (hs g hg)
theorem HAg.hget {l : List Nat} {h h' : Ah} (ha : HAg l h h') {g : Nat} (hg : g ∈ l) (p : Bo) : hget h' g p = hget h g p := by unfold Go.GH.hget; rw [ha g hg]
def OAg (ys : List Operand) (S S' : Af) : Prop := ∀ d, .tmp d ∈ ys → A4 S' d = A4 S d
theorem Et {a b : Nat} {K : Prop} (h : a ≤ b) (hk : K) : leN a b K := by
  unfold leN; rw [Nat.ble_eq_true_of_le h]; exact hk
theorem Ir {a b : Nat} {K : Prop} (h : a = b) (hk : K) : eqN a b K := by
  subst h; unfold eqN; rw [Nat.beq_refl]; exact hk
section
variable {P : Program} {E : Env} {x : Ctx} {w w' : World} {h : Ah} {n n' : Nat → Prop} {ρ : Option Nat → Aj} {id : Nat} {S : Af} {g : Option Bool}
theorem Cj {t : Nat} {ty : Ty} {K : Ty → Prop} (h : E.T t = some ty) (hk : K ty) : Jx E t K := by
  unfold Jx; rw [h]; exact hk
theorem Hx {g : Nat} {p : Bo} {s : Nat} {xs : List (List AV)} {K : Nat → List (List AV) → Prop} (hg : hget h g p = some (.own s xs)) (hk : K s xs) : arr h g p K := by
  unfold arr; rw [hg]; exact hk
theorem Ws {g : Nat} {p : Bo} {s : Nat} {xs : List (List AV)} {K : Prop} (hg : hget h g p = some (.own s xs)) (hk : K) : live h g p K := by
  unfold live; rw [hg]; exact hk
theorem Tn {v : AV} {i : Nat} (h : i ∈ v.ids1) : i ∈ v.ids := by
  cases v <;> first | exact h | cases h
theorem Rh {i : Nat} : ∀ {cs : List AV}, i ∈ Fg cs → i ∈ Kx cs
  | [], h => h
  | c :: cs, h => by
    simp only [Fg, Kx, List.mem_append] at h ⊢
    exact h.imp Tn Rh
theorem C0o {v : AV} {i : Nat} (h : i ∈ v.ids) : i ∈ v.idsU := by
  have h2 : i ∈ v.ids2 := by cases v <;> first | exact h | exact Rh h | cases h
  unfold AV.idsU
  split
  · cases h
  · split
    · exact List.mem_cons_of_mem _ h2
    · exact h2
theorem C7 {y : Operand} {k : AV → Prop} (hk : val S g y k) : ∃ v, k v ∧ (∀ i, i ∈ v.ids → i ∈ Pj S y) ∧ ∀ S' k', OAg [y] S S' → k' v → val S' g y k' := by
  cases y with
  | const v =>
    refine ⟨_, hk, ?_, fun _ _ _ h => h⟩
    intro i hi
    exfalso
    have : (v.toAV).ids = [] := by
      unfold Value.toAV
      repeat' split
      all_goals rfl
    rw [this] at hi; cases hi
  | func f => exact ⟨_, hk, (by intro i hi; cases hi), fun _ _ _ h => h⟩
  | global q => exact hk.elim
  | tmp d =>
    simp only [val] at hk
    cases hl : A4 S d with
    | none => rw [hl] at hk; exact hk.elim
    | some s =>
      rw [hl] at hk
      obtain ⟨c, v⟩ := s
      have hi : ∀ i, i ∈ v.ids → i ∈ Pj S (.tmp d) := by intro i hi; simp only [Pj, hl]; exact C0o hi
      cases c with
      | none => exact ⟨v, hk, hi, fun S' k' ha h => by simp only [val]; rw [ha d (by simp), hl]; exact h⟩
      | some b => exact ⟨v, hk.2, hi, fun S' k' ha h => by simp only [val]; rw [ha d (by simp), hl]; exact ⟨hk.1, h⟩⟩
def F3 : List AV → List Nat
  | [] => []
  | v :: r => v.ids ++ F3 r
theorem B4p : ∀ (cs : List AV), F3 cs = Kx cs
  | [] => rfl
  | c :: cs => by simp only [F3, Kx, B4p cs]
theorem A00 {y : Operand} {k : AV → Prop} (hk : val S g y k) (hno : ∀ v, k v → ∃ f cs, v = .fn f cs) :
    ∃ f cs, k (.fn f cs) ∧ (∀ i, i ∈ F3 cs → i ∈ Pj S y) ∧ (∀ f2, y = .func f2 → f = f2 ∧ cs = []) ∧ ∀ S' k', OAg [y] S S' → k' (.fn f cs) → val S' g y k' := by
  cases y with
  | const v =>
    obtain ⟨f, cs, e⟩ := hno _ hk
    have hcs : cs = [] := by
      unfold Value.toAV at e
      repeat' split at e
      all_goals first | (cases e; done) | (simp only [AV.fn.injEq] at e; exact e.2.symm)
    subst hcs
    have hk' : k v.toAV := hk
    rw [e] at hk'
    exact ⟨f, [], hk', by simp [F3], by simp, fun S' k' _ h => by simp only [val]; rw [e]; exact h⟩
  | func f => exact ⟨f, [], hk, by simp [F3], by simp, fun _ _ _ h => h⟩
  | global q => exact hk.elim
  | tmp d =>
    simp only [val] at hk
    cases hl : A4 S d with
    | none => rw [hl] at hk; exact hk.elim
    | some s =>
      rw [hl] at hk
      obtain ⟨c, v⟩ := s
      have hv : ∃ f cs, v = .fn f cs := by
        cases c with
        | none => exact hno _ hk
        | some b => exact hno _ hk.2
      obtain ⟨f, cs, rfl⟩ := hv
      have hi : ∀ i, i ∈ F3 cs → i ∈ Pj S (.tmp d) := by intro i hi; rw [B4p] at hi; simp only [Pj, hl, AV.idsU]; split <;> first | exact List.mem_cons_of_mem _ hi | exact hi
      cases c with
      | none => exact ⟨f, cs, hk, hi, by simp, fun S' k' ha h => by simp only [val]; rw [ha d (by simp), hl]; exact h⟩
      | some b => exact ⟨f, cs, hk.2, hi, by simp, fun S' k' ha h => by simp only [val]; rw [ha d (by simp), hl]; exact ⟨hk.1, h⟩⟩
theorem OAg.head {y : Operand} {ys : List Operand} {S S' : Af} (h : OAg (y :: ys) S S') : OAg [y] S S' := fun d hd => h d (by simp at hd; simp [hd])
theorem OAg.tail {y : Operand} {ys : List Operand} {S S' : Af} (h : OAg (y :: ys) S S') : OAg ys S S' := fun d hd => h d (by simp [hd])
theorem OAg.mono {zs ys : List Operand} {S S' : Af} (h : OAg ys S S') (hz : ∀ z, z ∈ zs → z ∈ ys) : OAg zs S S' := fun d hd => h d (hz _ hd)
theorem OAg.one {z : Operand} {ys : List Operand} {S S' : Af} (h : OAg ys S S') (hz : z ∈ ys) : OAg [z] S S' := h.mono (by simpa using hz)
theorem A4w {y : Operand} {i : Nat} : ∀ {ys : List Operand}, y ∈ ys → i ∈ Pj S y → i ∈ Nt S ys
  | [], hy, _ => by cases hy
  | z :: ys, hy, hi => by
    simp only [Nt, List.mem_append]
    rcases List.mem_cons.1 hy with rfl | hy
    · exact .inl hi
    · exact .inr (A4w hy hi)
theorem Gz : ∀ {ys : List Operand} {k : List AV → Prop}, Yk S g ys k → ∃ vs, k vs ∧ (∀ i, i ∈ F3 vs → i ∈ Nt S ys) ∧ ∀ S' k', OAg ys S S' → k' vs → Yk S' g ys k'
  | [], k, hk => ⟨[], hk, fun _ h => h, fun _ _ _ h => h⟩
  | y :: ys, k, hk => by
    obtain ⟨v, h1, i1, t1⟩ := C7 hk
    obtain ⟨vs, h2, i2, t2⟩ := Gz h1
    refine ⟨v :: vs, h2, fun i hi => ?_, fun S' k' ha hk' => t1 _ _ ha.head (t2 _ _ ha.tail hk')⟩
    simp only [F3, Nt, List.mem_append] at hi ⊢
    exact hi.imp (i1 i) (i2 i)
theorem Yv {y : Option Operand} {k : Option AV → Prop} (hk : B69 S g y k) : ∃ v, k v ∧ ∀ S' k', OAg y.toList S S' → k' v → B69 S' g y k' := by
  cases y with
  | none => exact ⟨none, hk, fun _ _ _ h => h⟩
  | some y =>
    have hk' : val S g y fun v => k (some v) := hk
    obtain ⟨v, h1, _, t1⟩ := C7 hk'
    exact ⟨some v, h1, fun S' k' ha h => t1 S' (fun v => k' (some v)) ha h⟩
theorem B51 {gd : Option Bool} {ty : Ty} {a : AV} {K : AV → Prop} (hk : loadAt gd ty h a K) : ∃ v, K v ∧ ∀ h' K', HAg a.ids h h' → K' v → loadAt gd ty h' a K' := by
  cases a <;> simp only [loadAt] at hk
  case bx g f =>
    obtain ⟨s, xs, hg, hk⟩ := Br hk
    match xs, hk, hg with
    | [], hk, _ => exact hk.elim
    | _ :: _ :: _, hk, _ => exact hk.elim
    | [r], hk, hg =>
      obtain ⟨hl, hk⟩ := Bf hk
      cases hq : ty.k.agg <;> rw [hq] at hk <;> refine ⟨_, hk, fun h' K' ha hk' => ?_⟩ <;> simp only [loadAt] <;>
        exact Hx ((ha.hget (by simp [AV.ids, AV.ids1]) _).trans hg) (Et hl (by rw [hq]; exact hk'))
  case ptr g p i f =>
    obtain ⟨s, xs, hg, hk⟩ := Br hk
    obtain ⟨hl, r, hr, hk⟩ := Bf hk
    cases hq : ty.k.agg <;> rw [hq] at hk <;> refine ⟨_, hk, fun h' K' ha hk' => ?_⟩ <;> simp only [loadAt] <;>
      exact Hx ((ha.hget (by simp [AV.ids, AV.ids1]) _).trans hg) (Et hl ⟨r, hr, by rw [hq]; exact hk'⟩)
  case pin cs =>
    obtain ⟨hl, hk⟩ := Bf hk
    cases hq : ty.k.agg <;> rw [hq] at hk <;> refine ⟨_, hk, fun h' K' ha hk' => ?_⟩ <;> simp only [loadAt] <;>
      exact Et hl (by rw [hq]; exact hk')
theorem B6e {op : BinOp} {k : IntKind} {a b : Int} {K : AV → Prop} (hk : A9d op k a b K) : ∃ v, K v ∧ ∀ K' : AV → Prop, K' v → A9d op k a b K' := by
  cases op <;> simp only [A9d] at hk <;> first | exact ⟨_, Gx hk, fun K' h => A8j h⟩ | exact ⟨_, Gx hk.2, fun K' h => ⟨hk.1, A8j h⟩⟩ | exact ⟨_, hk, fun K' h => h⟩
theorem B0p {op : BinOp} {k : IntKind} {a b : Int} {K : AV → Prop} (hk : Uq op k a b K) : ∃ v, K v ∧ ∀ K' : AV → Prop, K' v → Uq op k a b K' := by
  cases op <;> simp only [Uq] at hk <;> exact ⟨_, Gx hk.2, fun K' h => ⟨hk.1, A8j h⟩⟩
theorem B6r {op : BinOp} {a b : List UInt8} {K : AV → Prop} (hk : A8v op a b K) : ∃ v, K v ∧ ∀ K' : AV → Prop, K' v → A8v op a b K' := by
  cases op <;> simp only [A8v] at hk <;> first | exact ⟨_, hk, fun K' h => h⟩ | exact ⟨_, hk.2, fun K' h => ⟨hk.1, h⟩⟩
theorem B8o {k : TK} {a b : AV} {K : Bool → Prop} (hk : B5c k a b K) : ∃ v, K v ∧ ∀ K' : Bool → Prop, K' v → B5c k a b K' := by
  cases k <;> simp only [B5c] at hk
  case int k0 =>
    cases a <;> cases b <;> simp only at hk
    rename_i k m k' m'
    cases hd : decide (k = k') <;> rw [hd] at hk
    · exact hk.elim
    · exact ⟨_, hk, fun K' h => by simp only [B5c]; rw [hd]; exact h⟩
  case str => cases a <;> cases b <;> simp only at hk; exact ⟨_, hk, fun K' h => h⟩
  case bool => cases a <;> cases b <;> simp only at hk; exact ⟨_, hk, fun K' h => h⟩
theorem Vj : ∀ {fs : List (Nat × Nat)} {k : Nat} {as bs : List AV} {K : Bool → Prop}, Ic E k fs as bs K → ∃ v, K v ∧ ∀ K' : Bool → Prop, K' v → Ic E k fs as bs K'
  | [], k, as, bs, K, hk => by cases as <;> cases bs <;> simp only [Ic] at hk; exact ⟨_, hk, fun K' h => h⟩
  | (o, u) :: fs, k, as, bs, K, hk => by
    cases as with
    | nil => simp only [Ic] at hk
    | cons a as =>
      cases bs with
      | nil => simp only [Ic] at hk
      | cons b bs =>
        simp only [Ic] at hk
        obtain ⟨e1, hk⟩ := C6 hk
        obtain ⟨ty, e2, hk⟩ := B3 hk
        obtain ⟨r, hk, t1⟩ := B8o hk
        obtain ⟨r2, hk, t2⟩ := Vj hk
        exact ⟨_, hk, fun K' h => by simp only [Ic]; exact Ir e1 (Cj e2 (t1 _ (t2 (fun y => K' (r && y)) h)))⟩
theorem B5z {a : AV} {K : Bool → Prop} (hk : A3v h a K) : ∃ v, K v ∧ ∀ h' (K' : Bool → Prop), HAg a.ids h h' → K' v → A3v h' a K' := by
  cases a <;> simp only [A3v] at hk
  case nils => exact ⟨_, hk, fun _ _ _ h => h⟩
  case rd => exact ⟨_, hk.2, fun _ _ _ h => ⟨hk.1, h⟩⟩
  case view g p o l =>
    cases hg : hget h g p with
    | none => rw [hg] at hk; exact hk.elim
    | some c =>
      rw [hg] at hk
      cases c <;> first
        | exact hk.elim
        | (refine ⟨_, hk.2, fun h' K' ha h => ?_⟩
           simp only [A3v]
           rw [ha.hget (by simp [AV.ids, AV.ids1]), hg]
           exact ⟨hk.1, h⟩)
theorem A9f {t : Nat} {c : Bool} {a b : AV} {K : Bool → Prop} (hk : B16 E t h c a b K) : ∃ v, K v ∧ ∀ h' (K' : Bool → Prop), HAg a.ids h h' → K' v → B16 E t h' c a b K' := by
  obtain ⟨ty, ht, hk⟩ := B3 hk
  cases hq : ty.k <;> rw [hq] at hk <;> simp only at hk
  case bool => cases a <;> cases b <;> simp only at hk; exact ⟨_, hk, fun h' K' _ h => Cj ht (by rw [hq]; exact h)⟩
  case struct fs =>
    cases a <;> try exact hk.elim
    cases b <;> try exact hk.elim
    obtain ⟨r, hk, t1⟩ := Vj hk
    exact ⟨_, hk, fun h' K' _ h => Cj ht (by rw [hq]; exact t1 _ h)⟩
  case slice e =>
    cases b <;> try exact hk.elim
    obtain ⟨r, hk, t1⟩ := B5z hk
    exact ⟨_, hk, fun h' K' ha h => Cj ht (by rw [hq]; exact t1 _ _ ha h)⟩
  case iface =>
    cases a <;> try exact hk.elim
    · cases b <;> try exact hk.elim
      cases c <;> first | exact hk.elim | exact ⟨_, hk, fun h' K' _ h => Cj ht (by rw [hq]; exact h)⟩
    · cases b <;> try exact hk.elim
      exact ⟨_, hk, fun h' K' _ h => Cj ht (by rw [hq]; exact h)⟩
theorem B6k {t : Nat} {c : Bool} {op : BinOp} {a b : AV} {K : AV → Prop} (hk : binOp E t h c op a b K) : ∃ v, K v ∧ ∀ h' (K' : AV → Prop), HAg a.ids h h' → K' v → binOp E t h' c op a b K' := by
  by_cases hint : (∃ k m, a = .int k m) ∧ ∃ k m, b = .int k m
  · obtain ⟨⟨k, m, rfl⟩, k', m', rfl⟩ := hint
    simp only [binOp] at hk ⊢
    cases hsh : A1k op with
    | true =>
      rw [hsh] at hk
      obtain ⟨v, h1, t1⟩ := B0p hk
      exact ⟨v, h1, fun _ K' _ h => t1 _ h⟩
    | false =>
      rw [hsh] at hk
      cases hd : decide (k = k') <;> rw [hd] at hk
      · exact hk.elim
      · obtain ⟨v, h1, t1⟩ := B6e hk
        exact ⟨v, h1, fun _ K' _ h => t1 _ h⟩
  · by_cases hstr : (∃ s, a = .str s) ∧ ∃ s, b = .str s
    · obtain ⟨⟨s, rfl⟩, s', rfl⟩ := hstr
      simp only [binOp] at hk ⊢
      obtain ⟨v, h1, t1⟩ := B6r hk
      exact ⟨v, h1, fun _ K' _ h => t1 _ h⟩
    · have conv : ∀ h K, binOp E t h c op a b K = (match (generalizing := false) op with
          | .eql => B16 E t h c a b fun b => K (.bool b)
          | .neq => B16 E t h c a b fun b => K (.bool (!b))
          | _ => False) := by
        intro h K
        unfold binOp
        split
        · exact absurd ⟨⟨_, _, rfl⟩, _, _, rfl⟩ hint
        · exact absurd ⟨⟨_, rfl⟩, _, rfl⟩ hstr
        · cases op <;> rfl
      rw [conv] at hk
      cases op <;> simp only at hk
      · obtain ⟨r, h1, t1⟩ := A9f hk
        exact ⟨_, h1, fun h' K' ha h => by rw [conv]; exact t1 _ _ ha h⟩
      · obtain ⟨r, h1, t1⟩ := A9f hk
        exact ⟨_, h1, fun h' K' ha h => by rw [conv]; exact t1 _ (fun b => K' (.bool (!b))) ha h⟩
theorem B8d {op : UnOp} {a : AV} {K : AV → Prop} (hk : unOp op a K) : ∃ v, K v ∧ ∀ K' : AV → Prop, K' v → unOp op a K' := by
  cases op <;> cases a <;> simp only [unOp] at hk <;> first | exact ⟨_, Gx hk, fun _ h => A8j h⟩ | exact ⟨_, hk, fun _ h => h⟩ | exact hk.elim
theorem Rp {ty : Ty} {a : AV} {K : AV → Prop} (hk : convert ty a K) : ∃ v, K v ∧ ∀ K' : AV → Prop, K' v → convert ty a K' := by
  unfold Go.GH.convert at hk ⊢
  cases hq : ty.k <;> rw [hq] at hk <;> cases a <;> first | exact ⟨_, Gx hk, fun _ h => A8j h⟩ | exact ⟨_, hk, fun _ h => h⟩ | exact hk.elim
theorem Uf {t f : Nat} {K : Nat → Nat → Prop} (hk : Mp E t f K) : ∃ o u, K o u ∧ ∀ K' : Nat → Nat → Prop, K' o u → Mp E t f K' := by
  obtain ⟨ty, ht, hk⟩ := B3 hk
  cases hq : ty.k <;> rw [hq] at hk <;> simp only at hk
  rename_i fs
  cases hf : fs[f]? with
  | none => rw [hf] at hk; exact hk.elim
  | some ou => obtain ⟨o, u⟩ := ou; rw [hf] at hk; exact ⟨o, u, hk, fun K' h => Cj ht (by rw [hq]; simp only; rw [hf]; exact h)⟩
theorem B1s {a : AV} {o : Nat} {K : AV → Prop} (hk : fieldAt h a o K) : ∃ v, K v ∧ ∀ h' (K' : AV → Prop), HAg a.ids h h' → K' v → fieldAt h' a o K' := by
  cases a <;> simp only [fieldAt] at hk
  · obtain ⟨_, _, e, hk⟩ := Jn hk; exact ⟨_, hk, fun h' K' ha h => Ws ((ha.hget (by simp [AV.ids, AV.ids1]) _).trans e) h⟩
  · obtain ⟨_, _, e, hk⟩ := Jn hk; exact ⟨_, hk, fun h' K' ha h => Ws ((ha.hget (by simp [AV.ids, AV.ids1]) _).trans e) h⟩
  · exact ⟨_, hk, fun _ _ _ h => h⟩
theorem B27 {ty : Ty} {o : Nat} {a : AV} {K : AV → Prop} (hk : Xe ty o a K) : ∃ v, K v ∧ ∀ K' : AV → Prop, K' v → Xe ty o a K' := by
  cases a <;> simp only [Xe] at hk ⊢
  obtain ⟨e, hk⟩ := Bf hk
  cases hq : ty.k.agg <;> rw [hq] at hk <;> exact ⟨_, hk, fun _ h => Et e h⟩
theorem Fp {t : Nat} {K : Ty → Prop} (hk : Lc E t K) : ∃ v, K v ∧ ∀ K' : Ty → Prop, K' v → Lc E t K' := by
  obtain ⟨ty, ht, hk⟩ := B3 hk
  cases hq : ty.k <;> rw [hq] at hk <;> simp only at hk
  obtain ⟨te, hte, hk⟩ := B3 hk
  exact ⟨_, hk, fun K' h => Cj ht (by rw [hq]; exact Cj hte h)⟩
theorem B1a {ty : Ty} {a i : AV} {K : AV → Prop} (hk : indexAt ty h g a i K) : ∃ v, K v ∧ ∀ h' (K' : AV → Prop), HAg a.ids h h' → K' v → indexAt ty h' g a i K' := by
  cases i <;> cases a <;> simp only [indexAt] at hk
  · obtain ⟨e, r, hr, hk⟩ := C6 hk
    exact ⟨_, hk, fun h' K' _ h => by simp only [indexAt]; exact Ir e ⟨r, hr, h⟩⟩
  · obtain ⟨s, xs, hg, hk⟩ := Br hk
    obtain ⟨e, hb, hk⟩ := C6 hk
    exact ⟨_, hk, fun h' K' ha h => by simp only [indexAt]; exact Hx ((ha.hget (by simp [AV.ids, AV.ids1]) _).trans hg) (Ir e ⟨hb, h⟩)⟩
theorem A2o {sz : Nat} {a : AV} {l u : Int} {K : AV → Prop} (hk : A91 sz h a l u K) : ∃ v, K v ∧ ∀ h' (K' : AV → Prop), HAg a.ids h h' → K' v → A91 sz h' a l u K' := by
  cases a <;> simp only [A91] at hk
  case view =>
    obtain ⟨s, xs, hg, hk⟩ := Br hk
    obtain ⟨e, hk⟩ := C6 hk
    exact ⟨_, hk, fun h' K' ha h => Hx ((ha.hget (by simp [AV.ids, AV.ids1]) _).trans hg) (Ir e h)⟩
  case rd => obtain ⟨e, hk⟩ := C6 hk; exact ⟨_, hk, fun h' K' ha h => Ir e h⟩
  case nils => exact ⟨_, hk, fun _ _ _ h => h⟩
  case emp => exact ⟨_, hk, fun _ _ _ h => h⟩
theorem A3e {a : AV} {K : Nat → Prop} (hk : lenOf h a K) : ∃ m, K m ∧ ∀ h' (K' : Nat → Prop), HAg a.ids h h' → K' m → lenOf h' a K' := by
  cases a <;> simp only [lenOf] at hk <;> first
    | exact ⟨_, hk, fun _ _ _ h => h⟩
    | (obtain ⟨_, _, e, hk⟩ := Jn hk; exact ⟨_, hk, fun h' K' ha h => Ws ((ha.hget (by simp [AV.ids, AV.ids1]) _).trans e) h⟩)
theorem A44 {lo : Option AV} {d : Nat} {K : Int → Prop} (hk : A04 lo d K) : ∃ m, K m ∧ ∀ K' : Int → Prop, K' m → A04 lo d K' := by
  cases lo with
  | none => exact ⟨_, hk, fun _ h => h⟩
  | some v => cases v <;> simp only [A04] at hk ⊢; exact ⟨_, hk, fun _ h => h⟩
theorem B13 {gd : Option Bool} {t : Nat} {a : AV} {hi mx : Option AV} {m : Nat} {l u : Int} {K : AV → Prop} (hk : Xb E gd t h a hi mx m l u K) : ∃ v, K v ∧ ∀ h' (K' : AV → Prop), HAg a.ids h h' → K' v → Xb E gd t h' a hi mx m l u K' := by
  obtain ⟨ty, ht, hk⟩ := B3 hk
  cases hq : ty.k <;> rw [hq] at hk <;> simp only at hk
  · cases mx with
    | some v => exact hk.elim
    | none =>
      cases a <;> simp only at hk
      exact ⟨_, hk.2, fun h' K' _ h => Cj ht (by rw [hq]; exact ⟨hk.1, h⟩)⟩
  · obtain ⟨te, hte, hk⟩ := B3 hk
    cases mx with
    | none =>
      obtain ⟨v, h1, t1⟩ := A2o hk.2
      exact ⟨v, h1, fun h' K' ha h => Cj ht (by rw [hq]; exact Cj hte ⟨hk.1, t1 _ _ ha h⟩)⟩
    | some v =>
      cases v <;> simp only at hk
      cases hi with
      | none => exact hk.elim
      | some hv =>
        rcases hk with ⟨q1, q2, q3, q4, hk⟩ | ⟨q1, q2, q3, q4, hk⟩
        · exact ⟨_, hk, fun h' K' ha h => Cj ht (by rw [hq]; exact Cj hte (.inl ⟨q1, q2, q3, q4, h⟩))⟩
        · obtain ⟨v, h1, t1⟩ := A2o hk
          exact ⟨v, h1, fun h' K' ha h => Cj ht (by rw [hq]; exact Cj hte (.inr ⟨q1, q2, q3, q4, t1 _ _ ha h⟩))⟩
theorem U0 {b : Builtin} {y z : AV} {K : AV → Prop} (hk : Za b y z K) : ∃ v, K v ∧ ∀ K' : AV → Prop, K' v → Za b y z K' := by
  cases y <;> (try exact hk.elim) <;> cases z <;> (try exact hk.elim)
  cases b <;> first | exact ⟨_, Gx hk, fun _ h => A8j h⟩ | exact hk.elim
theorem B6q {t : Nat} {a : AV} {K : Nat → Prop} (hk : B77 E t h a K) : ∃ m, K m ∧ ∀ h' (K' : Nat → Prop), HAg a.ids h h' → K' m → B77 E t h' a K' := by
  obtain ⟨ty, ht, hk⟩ := B3 hk
  cases hq : ty.k <;> rw [hq] at hk <;> simp only at hk
  · cases a <;> simp only at hk
    exact ⟨_, hk, fun h' K' _ h => Cj ht (by rw [hq]; exact h)⟩
  · have hk' : lenOf h a K ∧ ∀ s, a ≠ .str s := by cases a <;> first | exact hk.elim | exact ⟨hk, by simp⟩
    obtain ⟨m, h1, t1⟩ := A3e hk'.1
    refine ⟨m, h1, fun h' K' ha h => Cj ht ?_⟩
    have h2 := t1 h' K' ha h
    have h3 := hk'.2
    rw [hq]
    cases a <;> first | exact absurd rfl (h3 _) | exact h2
theorem Wt {fs : List (Nat × Nat)} : ∀ {is : List Nat} {vs zs : List AV} {K : List AV → Prop}, L4 E fs zs is vs K → ∃ cs, K cs ∧ ∀ K' : List AV → Prop, K' cs → L4 E fs zs is vs K'
  | [], [], zs, K, hk => ⟨_, hk, fun _ h => h⟩
  | [], _ :: _, zs, K, hk => hk.elim
  | i :: is, [], zs, K, hk => hk.elim
  | i :: is, v :: vs, zs, K, hk => by
    simp only [L4] at hk
    cases hf : fs[i]? with
    | none => rw [hf] at hk; exact hk.elim
    | some ou =>
      obtain ⟨o, t⟩ := ou
      rw [hf] at hk
      obtain ⟨ty, ht, hk⟩ := B3 hk
      have hk' : (v ≠ .undef) ∧ eqN v.cells.length ty.size (leN (o + ty.size) zs.length (L4 E fs (Bc o v.cells zs) is vs K)) := by
        cases v <;> first | exact hk.elim | exact ⟨by simp, hk⟩
      obtain ⟨hv, hk'⟩ := hk'
      obtain ⟨e1, hk⟩ := C6 hk'
      obtain ⟨e2, hk⟩ := Bf hk
      obtain ⟨cs, h1, t1⟩ := Wt hk
      refine ⟨cs, h1, fun K' h => ?_⟩
      simp only [L4]
      rw [hf]
      refine Cj ht ?_
      have h2 := Ir e1 (Et e2 (t1 K' h))
      cases v <;> first | exact absurd rfl hv | exact h2
theorem B30 {t : Option Nat} {v : AV} {K : AV → Af → Ah → Prop} (hk : E7 S h t v K) : ∃ c S' h', K c S' h' := by
  cases v <;> simp only [E7] at hk
  case view g p o l =>
    obtain ⟨s, xs, _, hk⟩ := Br hk
    rw [Hs] at hk
    exact ⟨_, _, _, hk⟩
  case nils => cases t <;> first | exact hk.elim | exact ⟨_, _, _, hk⟩
  case emp => cases t <;> first | exact hk.elim | exact ⟨_, _, _, hk⟩
  all_goals exact ⟨_, _, _, hk⟩
theorem Y3 : ∀ {ts : List (Option Nat)} {vs : List AV} {S : Af} {h : Ah} {K : List AV → Af → Ah → Prop}, By S h ts vs K → ∃ cs S' h', K cs S' h'
  | [], [], S, h, K, hk => ⟨_, _, _, hk⟩
  | [], _ :: _, S, h, K, hk => by simp [By] at hk
  | _ :: _, [], S, h, K, hk => by simp [By] at hk
  | t :: ts, v :: vs, S, h, K, hk => by
    simp only [By] at hk
    obtain ⟨c, S1, h1, hk⟩ := B30 hk
    obtain ⟨cs, S2, h2, hk⟩ := Y3 hk
    exact ⟨_, _, _, hk⟩
theorem O9 {sh : Bool} : ∀ {ms : List Lf} {vs : List AV} {S : Af} {h : Ah} {K : List AV → List (Nat × Bo) → List Nat → List Nat → Af → Ah → Prop}, Dh sh S h ms vs K → ∃ as qs rs ws S' h', K as qs rs ws S' h'
  | [], [], S, h, K, hk => ⟨_, _, _, _, _, _, hk⟩
  | [], _ :: _, S, h, K, hk => hk.elim
  | m :: ms, [], S, h, K, hk => by cases m <;> exact hk.elim
  | .rd ts :: ms, v :: vs, S, h, K, hk => by
    simp only [Dh] at hk
    obtain ⟨as, qs, rs, ws, S', h', hk⟩ := O9 hk
    exact ⟨_, _, _, _, _, _, hk⟩
  | .co ts :: ms, v :: vs, S, h, K, hk => by
    simp only [Dh] at hk
    obtain ⟨cs, S1, h1, hk⟩ := Y3 hk
    obtain ⟨as, qs, rs, ws, S', h', hk⟩ := O9 hk
    exact ⟨_, _, _, _, _, _, hk⟩
  | .mv :: ms, v :: vs, S, h, K, hk => by
    cases v <;> simp only [Dh] at hk
    all_goals
      obtain ⟨as, qs, rs, ws, S', h', hk⟩ := O9 hk
      obtain ⟨s, xs, _, _, _, hk⟩ := Br hk
      exact ⟨_, _, _, _, _, _, hk⟩
  | .mp :: ms, v :: vs, S, h, K, hk => by
    cases v <;> simp only [Dh] at hk
    rename_i g f
    cases f with
    | succ f => exact hk.elim
    | zero =>
      obtain ⟨as, qs, rs, ws, S', h', hk⟩ := O9 hk
      obtain ⟨s, xs, _, hk⟩ := Br hk
      match xs, hk with
      | [], hk => exact hk.elim
      | _ :: _ :: _, hk => exact hk.elim
      | [r], hk => exact ⟨_, _, _, _, _, _, hk⟩
  | .ma :: ms, v :: vs, S, h, K, hk => by
    rcases A1t hk with ⟨g, p, off, len, rfl, hk2⟩ | ⟨s0, g, n0, rfl, hk2⟩
    all_goals
      clear hk
      obtain ⟨as, qs, rs, ws, S', h', hk⟩ := O9 hk2
      obtain ⟨s, xs, _, _, _, hk⟩ := Br hk
      exact ⟨_, _, _, _, _, _, hk⟩
end
end Go.GH


set_option linter.unusedVariables false
set_option linter.unusedSimpArgs false
namespace Go.GH
open Go
section
variable {P : Program} {E : Env} {x : Ctx} {w w' : World} {h : Ah} {n n' : Nat → Prop} {ρ : Option Nat → Aj} {id : Nat} {S : Af} {g : Option Bool}
theorem D4 {o : Oper} {y : Operand} {i : Nat} (hy : y ∈ o.op.operands.toList) (hi : i ∈ Pj S y) : i ∈ touched S o := A4w hy hi
theorem J3 {o : Oper} {ys : List Operand} {i : Nat} (hy : ∀ y, y ∈ ys → y ∈ o.op.operands.toList) (hi : i ∈ Nt S ys) : i ∈ touched S o := by
  induction ys with
  | nil => cases hi
  | cons z ys ih =>
    simp only [Nt, List.mem_append] at hi
    rcases hi with hi | hi
    · exact D4 (hy z (by simp)) hi
    · exact ih (fun y hy' => hy y (by simp [hy'])) hi
theorem Oa {sh : Bool} : ∀ {ms : List Lf} {vs : List AV} {S : Af} {h : Ah} {K : List AV → List (Nat × Bo) → List Nat → List Nat → Af → Ah → Prop}, Ik ms = true → Dh sh S h ms vs K →
    ∃ as rs, K as [] rs [] S h ∧ ∀ S' h' K', HAg (F3 vs) h h' → K' as [] rs [] S' h' → Dh sh S' h' ms vs K'
  | [], [], S, h, K, ha, hk => ⟨[], [], hk, fun _ _ _ _ h => h⟩
  | [], v :: vs, S, h, K, ha, hk => hk.elim
  | .rd ts :: ms, [], S, h, K, ha, hk => hk.elim
  | .rd ts :: ms, v :: vs, S, h, K, ha, hk => by
    obtain ⟨as, rs, h1, t1⟩ := Oa (ms := ms) (vs := vs) ha hk
    refine ⟨_, _, h1, fun S' h' K' hag hk' => ?_⟩
    show Dh sh S' h' ms vs fun as qs rs ws S'' h'' => K' (Sf sh h'' ts v :: as) qs (v.ids ++ rs) ws S'' h''
    refine t1 S' h' _ (hag.mono fun g hg => by simp [F3, hg]) ?_
    rw [← Su (n := fun g => g ∈ v.ids) (h := h) (h2 := h') (fun g hg => hag g (by simp [F3, hg])) (fun _ h => h)]
    exact hk'
  | .co ts :: ms, vs, S, h, K, ha, hk => by cases ha
  | .mv :: ms, vs, S, h, K, ha, hk => by cases ha
  | .mp :: ms, vs, S, h, K, ha, hk => by cases ha
  | .ma :: ms, vs, S, h, K, ha, hk => by cases ha
theorem U4 : ∀ (a b : List AV) (i : Nat), i ∈ F3 (a ++ b) ↔ i ∈ F3 a ∨ i ∈ F3 b
  | [], b, i => by simp [F3]
  | v :: a, b, i => by simp [F3, U4 a b i, or_assoc]
theorem Cf : ∀ {cs : List AV} {id : Nat} {K : List AV → Ah → Nat → Prop}, B2 id cs K → ∃ cs' os m, K cs' os m ∧ (id ≤ m ∧ ∀ g r, A4 os g = some r → id ≤ g ∧ g < m) ∧ ∀ K', K' cs' os m → B2 id cs K'
  | [], id, K, hk => ⟨_, _, _, hk, ⟨Nat.le_refl _, by simp [A4]⟩, fun _ h => h⟩
  | c :: cs, id, K, hk => by
    by_cases hc : ∃ s xs, c = .own s xs
    · obtain ⟨s, xs, rfl⟩ := hc
      simp only [B2] at hk ⊢
      obtain ⟨cs', os, m, h1, ⟨h2, h3⟩, t1⟩ := Cf hk
      refine ⟨_, _, _, h1, ⟨by omega, fun g r hr => ?_⟩, fun K' h => t1 (fun cs os n => K' (.view id [] 0 xs.length :: cs) ((id, .own s xs) :: os) n) h⟩
      rw [Aa] at hr
      by_cases e : id = g
      · omega
      · rw [if_neg e] at hr; have := h3 g r hr; omega
    · have e : ∀ K, B2 id (c :: cs) K = B2 id cs fun cs os n => K (c :: cs) os n := by
        intro K
        cases c <;> first | rfl | exact absurd ⟨_, _, rfl⟩ hc
      rw [e] at hk
      obtain ⟨cs', os, m, h1, h2, t1⟩ := Cf hk
      exact ⟨_, _, _, h1, h2, fun K' h => by rw [e]; exact t1 (fun cs os n => K' (c :: cs) os n) h⟩
theorem Cv : ∀ {vs : List AV} {id : Nat} {K : List AV → Ah → Nat → Prop}, Bt id vs K → ∃ cs' os m, K cs' os m ∧ (id ≤ m ∧ ∀ g r, A4 os g = some r → id ≤ g ∧ g < m) ∧ ∀ K', K' cs' os m → Bt id vs K'
  | [], id, K, hk => ⟨_, _, _, hk, ⟨Nat.le_refl _, by simp [A4]⟩, fun _ h => h⟩
  | v :: vs, id, K, hk => by
    have app : ∀ {os os' : Ah} {m m' : Nat}, (id ≤ m ∧ ∀ g r, A4 os g = some r → id ≤ g ∧ g < m) → (m ≤ m' ∧ ∀ g r, A4 os' g = some r → m ≤ g ∧ g < m') → (id ≤ m' ∧ ∀ g r, A4 (os ++ os') g = some r → id ≤ g ∧ g < m') := by
      rintro os os' m m' ⟨a1, a2⟩ ⟨b1, b2⟩
      refine ⟨by omega, fun g r hr => ?_⟩
      rw [B9] at hr
      cases ho : A4 os g with
      | some r' => have := a2 g r' ho; omega
      | none => rw [ho] at hr; have := b2 g r hr; omega
    by_cases hc : ∃ cs, v = .agg cs
    · obtain ⟨cs, rfl⟩ := hc
      simp only [Bt] at hk ⊢
      obtain ⟨cs', os, m, h1, h2, t1⟩ := Cf hk
      obtain ⟨vs', os', m', h3, h4, t2⟩ := Cv h1
      exact ⟨_, _, _, h3, app h2 h4, fun K' h => t1 _ (t2 (fun vs'' os'' n' => K' (.agg cs' :: vs'') (os ++ os'') n') h)⟩
    · by_cases ho : ∃ s xs, v = .own s xs
      · obtain ⟨s, xs, rfl⟩ := ho
        simp only [Bt] at hk ⊢
        obtain ⟨vs', os', m', h3, h4, t2⟩ := Cv hk
        refine ⟨_, _, _, h3, app (m := id + 1) ⟨by omega, fun g r hr => ?_⟩ h4, fun K' h => t2 (fun vs'' os'' n' => K' (.view id [] 0 xs.length :: vs'') ([(id, .own s xs)] ++ os'') n') h⟩
        rw [Aa] at hr
        by_cases e : id = g
        · omega
        · rw [if_neg e] at hr; simp [A4] at hr
      · have e : ∀ K, Bt id (v :: vs) K = Bt id vs fun vs' os' n' => K (v :: vs') ([] ++ os') n' := by
          intro K
          cases v <;> first | rfl | exact absurd ⟨_, _, rfl⟩ ho | exact absurd ⟨_, rfl⟩ hc
        rw [e] at hk
        obtain ⟨vs', os', m', h3, h4, t2⟩ := Cv hk
        exact ⟨_, _, _, h3, h4, fun K' h => by rw [e]; exact t2 (fun vs'' os'' n' => K' (v :: vs'') ([] ++ os'') n') h⟩
theorem Pw {v : AV} {K : AV → Ah → Prop} (hk : Hc id v K) : ∃ v' os, K v' os ∧ (∀ g r, A4 os g = some r → id ≤ g ∧ g < id + 16) ∧ ∀ K', K' v' os → Hc id v K' := by
  by_cases hc : ∃ cs, v = .agg cs
  · obtain ⟨cs, rfl⟩ := hc
    have hk' : B2 id cs fun cs' os n => leN n (id + 16) (K (.agg cs') os) := hk
    obtain ⟨cs', os, m, h1, h2, t1⟩ := Cf hk'
    obtain ⟨e, h1⟩ := Bf h1
    exact ⟨_, _, h1, fun g r hr => by have := h2.2 g r hr; omega, fun K' h => t1 (fun cs' os n => leN n (id + 16) (K' (.agg cs') os)) (Et e h)⟩
  · by_cases ht : ∃ vs, v = .tup vs
    · obtain ⟨vs, rfl⟩ := ht
      have hk' : Bt id vs fun vs' os n => leN n (id + 16) (K (.tup vs') os) := hk
      obtain ⟨cs', os, m, h1, h2, t1⟩ := Cv hk'
      obtain ⟨e, h1⟩ := Bf h1
      exact ⟨_, _, h1, fun g r hr => by have := h2.2 g r hr; omega, fun K' h => t1 (fun cs' os n => leN n (id + 16) (K' (.tup cs') os)) (Et e h)⟩
    · by_cases ho : ∃ s xs, v = .own s xs
      · obtain ⟨s, xs, rfl⟩ := ho
        refine ⟨_, _, hk, fun g r hr => ?_, fun K' h => h⟩
        rw [Aa] at hr
        by_cases e : id = g
        · omega
        · rw [if_neg e] at hr; simp [A4] at hr
      · have e : ∀ K, Hc id v K = K v [] := by
          intro K
          cases v <;> first | rfl | exact absurd ⟨_, _, rfl⟩ ho | exact absurd ⟨_, rfl⟩ hc | exact absurd ⟨_, rfl⟩ ht
        rw [e] at hk
        exact ⟨_, _, hk, by simp [A4], fun K' h => by rw [e]; exact h⟩
theorem Rx {pt : Bool} {v : AV} {K : AV → Ah → Prop} (hk : Kt pt id v K) : ∃ v' os, K v' os ∧ (∀ g r, A4 os g = some r → id ≤ g ∧ g < id + 16) ∧ ∀ K', K' v' os → Kt pt id v K' := by
  cases pt with
  | false => exact Pw hk
  | true =>
    cases v <;> try exact hk.elim
    refine ⟨_, _, hk, fun g r hr => ?_, fun K' h => h⟩
    rw [Aa] at hr
    by_cases e : id = g
    · omega
    · rw [if_neg e] at hr; simp [A4] at hr
theorem B63 {g : Option Bool} {x : Bool} {v : AV} {K : Bool → Prop} (h : B2x g x v K) : ∃ r, K r ∧ ∀ K', K' r → B2x g x v K' := by
  cases v <;> try exact h.elim
  · exact ⟨_, h, fun _ h => h⟩
  · exact ⟨_, h.2, fun _ h' => ⟨h.1, h'⟩⟩
theorem B5o {g : Option Bool} {x : Bool} {v : AV} {K : Bool → Prop} (h : B4d g x v K) : ∃ r, K r ∧ ∀ K', K' r → B4d g x v K' := by
  cases v <;> try exact h.elim
  · exact ⟨_, h, fun _ h => h⟩
  · exact ⟨_, h.2, fun _ h' => ⟨h.1, h'⟩⟩
theorem A97 {l : List Operand} {S S' : Af} (h : OAg l S S') : ∀ y, y ∈ l → A4z S' y = A4z S y := by
  intro y hy
  cases y with
  | tmp d => simp only [A4z]; rw [h d hy]
  | _ => rfl
theorem A3d {S S' : Af} : ∀ {l : List Operand}, OAg l S S' → X2 S' l = X2 S l
  | [], _ => rfl
  | y :: r, h => by
    simp only [X2]
    rw [A97 h y (by simp), A3d (l := r) (h.mono (by simp; exact fun a ha => .inr ha))]
theorem A4j {o : Oper} {S S' : Af} (h : OAg o.op.operands.toList S S') : N5 S' o = N5 S o := by
  unfold N5
  cases ho : o.op <;> simp only <;> rw [ho] at h <;> first | exact A3d h | exact A97 h _ (by simp [Op.operands])
theorem Rg {o : Oper} (hv : Cd E o = true) {K : Af → Ah → Prop} (hk : Aw E id o g S h K) :
    ∃ v, K (B6 S o.dst g v) h ∧ ∀ S' h' K', OAg o.op.operands.toList S S' → HAg (readIds S o) h h' → K' (B6 S' o.dst g v) h' → Aw E id o g S' h' K' := by
  obtain ⟨dst, op, type, pos, after, guard⟩ := o
  cases op <;> simp only [Cd] at hv <;> (try (cases hv; done)) <;> simp only [Aw] at hk
  case move y =>
    obtain ⟨v, hk, _, t1⟩ := C7 hk
    exact ⟨v, hk, fun S' h' K' oa ha hk' => by simp only [Aw]; exact t1 S' (fun v => K' (B6 S' dst g v) h') (oa.one (by simp [Op.operands])) hk'⟩
  case assign y =>
    obtain ⟨v, hk, _, t1⟩ := C7 hk
    exact ⟨v, hk, fun S' h' K' oa ha hk' => by simp only [Aw]; exact t1 S' (fun v => K' (B6 S' dst g v) h') (oa.one (by simp [Op.operands])) hk'⟩
  case pick c y z =>
    obtain ⟨cv, h1, _, t1⟩ := C7 hk
    clear hk
    cases cv with
    | bool xb =>
      simp only at h1
      split at h1
      · obtain ⟨v, h2, _, t2⟩ := C7 h1
        obtain ⟨r, h2, t3⟩ := B63 h2
        refine ⟨_, h2, fun S' h' K' oa ha hk' => ?_⟩
        simp only [Aw]
        exact t1 S' _ (oa.one (by simp [Op.operands])) (t2 S' (fun bv => B2x g xb bv fun y => K' (B6 S' dst g (.bool y)) h') (oa.one (by simp [Op.operands])) (t3 (fun y => K' (B6 S' dst g (.bool y)) h') hk'))
      · rename_i hne
        obtain ⟨v, h2, _, t2⟩ := C7 h1
        obtain ⟨r, h2, t3⟩ := B5o h2
        refine ⟨_, h2, fun S' h' K' oa ha hk' => ?_⟩
        simp only [Aw]
        refine t1 S' _ (oa.one (by simp [Op.operands])) ?_
        exact t2 S' (fun bv => B4d g xb bv fun y => K' (B6 S' dst g (.bool y)) h') (oa.one (by simp [Op.operands])) (t3 (fun y => K' (B6 S' dst g (.bool y)) h') hk')
      · exact h1.elim
    | _ => exact h1.elim
  case build t parts =>
    obtain ⟨ty, ht, hk⟩ := B3 hk
    obtain ⟨vs, hk, _, t1⟩ := Gz hk
    cases hq : ty.k <;> rw [hq] at hk <;> simp only at hk
    obtain ⟨cs, hk, t2⟩ := Wt hk
    refine ⟨_, hk, fun S' h' K' oa ha hk' => ?_⟩
    simp only [Aw]
    refine Cj ht (t1 S' _ (oa.mono (by simp [Op.operands])) ?_)
    rw [hq]
    exact t2 (fun cs => K' (B6 S' dst g (.agg cs)) h') hk'
  case load t y =>
    obtain ⟨ty, ht, hk⟩ := B3 hk
    obtain ⟨v, hk, i1, t1⟩ := C7 hk
    obtain ⟨u, hk, t2⟩ := B51 (K := fun v => K (B6 S dst g v) h) hk
    exact ⟨u, hk, fun S' h' K' oa ha hk' => by
      simp only [Aw]
      exact Cj ht (t1 S' _ (oa.one (by simp [Op.operands])) (t2 h' (fun v => K' (B6 S' dst g v) h') (ha.mono fun i hi => D4 (by simp [Op.operands]) (i1 i hi)) hk'))⟩
  case nilCheck y =>
    obtain ⟨v, hk, i1, t1⟩ := C7 hk
    cases v <;> simp only at hk
    · obtain ⟨_, _, e, hk⟩ := Jn hk
      exact ⟨_, hk, fun S' h' K' oa ha hk' => by
        simp only [Aw]
        exact t1 S' _ (oa.one (by simp [Op.operands])) (Ws ((ha.hget (D4 (y := y) (by simp [Op.operands]) (i1 _ (by simp [AV.ids, AV.ids1]))) _).trans e) hk')⟩
    · obtain ⟨_, _, e, hk⟩ := Jn hk
      exact ⟨_, hk, fun S' h' K' oa ha hk' => by
        simp only [Aw]
        exact t1 S' _ (oa.one (by simp [Op.operands])) (Ws ((ha.hget (D4 (y := y) (by simp [Op.operands]) (i1 _ (by simp [AV.ids, AV.ids1]))) _).trans e) hk')⟩
    · exact ⟨_, hk, fun S' h' K' oa ha hk' => by
        simp only [Aw]
        exact t1 S' _ (oa.one (by simp [Op.operands])) hk'⟩
  case binOp op t y z cmp =>
    obtain ⟨v1, hk, i1, t1⟩ := C7 hk
    obtain ⟨v2, hk, i2, t2⟩ := C7 hk
    obtain ⟨u, hk, t3⟩ := B6k hk
    exact ⟨u, hk, fun S' h' K' oa ha hk' => by
      simp only [Aw]
      exact t1 S' _ (oa.one (by simp [Op.operands])) (t2 S' _ (oa.one (by simp [Op.operands])) (t3 h' (fun v => K' (B6 S' dst g v) h') (ha.mono fun i hi => D4 (y := y) (by simp [Op.operands]) (i1 i hi)) hk'))⟩
  case unOp op t y =>
    obtain ⟨v1, hk, i1, t1⟩ := C7 hk
    obtain ⟨u, hk, t3⟩ := B8d hk
    exact ⟨u, hk, fun S' h' K' oa ha hk' => by
      simp only [Aw]
      exact t1 S' _ (oa.one (by simp [Op.operands])) (t3 (fun v => K' (B6 S' dst g v) h') hk')⟩
  case convert s t y =>
    obtain ⟨ts, hts, hk⟩ := B3 hk
    obtain ⟨ty, htt, hk⟩ := B3 hk
    obtain ⟨v1, hk, i1, t1⟩ := C7 hk
    rw [htt] at hv
    simp only at hv
    cases hq : ty.k <;> rw [hq] at hv hk <;> simp only at hv hk <;> try (cases hv; done)
    obtain ⟨u, hk, t2⟩ := Rp hk
    refine ⟨u, hk, fun S' h' K' oa ha hk' => ?_⟩
    simp only [Aw]
    refine Cj hts (Cj htt (t1 S' _ (oa.one (by simp [Op.operands])) ?_))
    rw [hq]
    exact t2 (fun u => K' (B6 S' dst g u) h') hk'
  case fieldAddr t y f =>
    obtain ⟨v1, hk, i1, t1⟩ := C7 hk
    obtain ⟨o, u, hk, t2⟩ := Uf hk
    obtain ⟨r, hk, t3⟩ := B1s hk
    exact ⟨r, hk, fun S' h' K' oa ha hk' => by
      simp only [Aw]
      exact t1 S' _ (oa.one (by simp [Op.operands])) (t2 _ (t3 h' (fun v => K' (B6 S' dst g v) h') (ha.mono fun i hi => D4 (y := y) (by simp [Op.operands]) (i1 i hi)) hk'))⟩
  case field t y f =>
    obtain ⟨v1, hk, i1, t1⟩ := C7 hk
    obtain ⟨o, u, hk, t2⟩ := Uf hk
    obtain ⟨ty, ht, hk⟩ := B3 hk
    obtain ⟨r, hk, t3⟩ := B27 hk
    exact ⟨r, hk, fun S' h' K' oa ha hk' => by
      simp only [Aw]
      exact t1 S' _ (oa.one (by simp [Op.operands])) (t2 _ (Cj ht (t3 (fun v => K' (B6 S' dst g v) h') hk')))⟩
  case indexAddr t y i =>
    obtain ⟨v1, hk, i1, t1⟩ := C7 hk
    obtain ⟨v2, hk, i2, t2⟩ := C7 hk
    obtain ⟨ty, hk, t3⟩ := Fp hk
    obtain ⟨r, hk, t4⟩ := B1a hk
    exact ⟨r, hk, fun S' h' K' oa ha hk' => by
      simp only [Aw]
      exact t1 S' _ (oa.one (by simp [Op.operands])) (t2 S' _ (oa.one (by simp [Op.operands])) (t3 _ (t4 h' (fun v => K' (B6 S' dst g v) h') (ha.mono fun j hi => D4 (y := y) (by simp [Op.operands]) (i1 j hi)) hk')))⟩
  case index t y i =>
    obtain ⟨ty, ht, hk⟩ := B3 hk
    obtain ⟨v1, hk, i1, t1⟩ := C7 hk
    obtain ⟨v2, hk, i2, t2⟩ := C7 hk
    cases hq : ty.k <;> rw [hq] at hk <;> simp only at hk
    cases v1 <;> try exact hk.elim
    cases v2 <;> try exact hk.elim
    obtain ⟨b, hb, hk⟩ := hk
    refine ⟨_, hk, fun S' h' K' oa ha hk' => ?_⟩
    simp only [Aw]
    refine Cj ht (t1 S' _ (oa.one (by simp [Op.operands])) (t2 S' _ (oa.one (by simp [Op.operands])) ?_))
    rw [hq]
    exact ⟨b, hb, hk'⟩
  case slice t y lo hi mx =>
    obtain ⟨v1, hk, i1, t1⟩ := C7 hk
    obtain ⟨v2, hk, t2⟩ := Yv hk
    obtain ⟨v3, hk, t3⟩ := Yv hk
    obtain ⟨v4, hk, t4⟩ := Yv hk
    obtain ⟨m, hk, t5⟩ := A3e hk
    obtain ⟨l, hk, t6⟩ := A44 hk
    obtain ⟨u, hk, t7⟩ := A44 hk
    obtain ⟨r, hk, t8⟩ := B13 hk
    refine ⟨r, hk, fun S' h' K' oa ha hk' => ?_⟩
    simp only [Aw]
    have hy : HAg v1.ids h h' := ha.mono fun j hi => D4 (y := y) (by simp [Op.operands]) (i1 j hi)
    exact t1 S' _ (oa.one (by simp [Op.operands])) (t2 S' _ (oa.mono (by intro z hz; simp [Op.operands]; simp at hz; simp [hz])) (t3 S' _ (oa.mono (by intro z hz; simp [Op.operands]; simp at hz; simp [hz])) (t4 S' _ (oa.mono (by intro z hz; simp [Op.operands]; simp at hz; simp [hz]))
      (t5 h' _ hy (t6 _ (t7 _ (t8 h' (fun v => K' (B6 S' dst g v) h') hy hk')))))))
  case extract y i =>
    obtain ⟨v1, hk, i1, t1⟩ := C7 hk
    cases v1 <;> simp only at hk
    rename_i vs
    cases hi : vs[i]? with
    | none => rw [hi] at hk; exact hk.elim
    | some v =>
      rw [hi] at hk
      refine ⟨_, hk, fun S' h' K' oa ha hk' => ?_⟩
      simp only [Aw]
      refine t1 S' _ (oa.one (by simp [Op.operands])) ?_
      simp only
      rw [hi]
      exact hk'
  case makeFunc f first caps =>
    cases f <;> try exact hk.elim
    obtain ⟨e, hk⟩ := C6 hk
    obtain ⟨vs, hk, _, t1⟩ := Gz hk
    refine ⟨_, hk, fun S' h' K' oa ha hk' => ?_⟩
    simp only [Aw]
    exact Ir e (t1 S' (fun cs => K' (B6 S' dst g (.fn _ cs)) h') (oa.mono (by intro z hz; simp [Op.operands]; simp at hz; simp [hz])) hk')
  case call c =>
    cases hc : c.callee <;> simp only [hc] at hv hk <;> try (cases hv; done)
    · rename_i y
      cases y <;> simp only at hv <;> try (cases hv; done)
      rename_i f
      obtain ⟨fv, h1⟩ : ∃ fv, fv = AV.fn f [] ∧ Yk S g c.args.toList fun vs => match fv with
          | .fn f caps => Oi E S h id dst g f (vs ++ caps) K
          | _ => False := ⟨_, rfl, hk⟩
      obtain ⟨rfl, h1⟩ := h1
      obtain ⟨vs, h1, i1, t1⟩ := Gz h1
      simp only [List.append_nil] at h1
      unfold Oi at h1
      cases hE : E.F f with
      | none => rw [hE] at h1; exact h1.elim
      | some cc =>
        rw [hE] at h1 hv
        simp only at h1 hv
        have hrd : Ik cc.ms = true := by
          cases ha : Ik cc.ms with
          | true => rfl
          | false =>
            exfalso
            obtain ⟨as, qs, rs, ws, S1, h1', hb⟩ : ∃ as qs rs ws S1 h1', leN (Hv as) id (match Pf rs ws with
              | true => False
              | false => ∃ x : cc.α, as = cc.enc x ∧ (Cw g → cc.pre x) ∧ Kt cc.ptr id (cc.res x) fun v os => match cc.sc with
                | true => match Ik cc.ms with
                  | true => match os with
                    | [] => K (B6 S1 dst g v) h1'
                    | _ => False
                  | false => False
                | false => T5 S1 h1' qs (cc.out x) fun S' h' => K (B6 S' dst g v) (os ++ h')) := O9 h1
            obtain ⟨_, hb⟩ := Bf hb
            cases hm : Pf rs ws with
            | true => rw [hm] at hb; exact hb.elim
            | false =>
              rw [hm] at hb
              obtain ⟨xx, _, _, hb⟩ := hb
              obtain ⟨v, os, hb⟩ := A48 hb
              rw [hv, ha] at hb
              exact hb
        obtain ⟨as, rs, hb, t2⟩ := Oa hrd h1
        obtain ⟨e1, hb⟩ := Bf hb
        cases hm : Pf rs [] with
        | true => rw [hm] at hb; exact hb.elim
        | false =>
          rw [hm] at hb
          obtain ⟨xx, e2, e3, hb⟩ := hb
          obtain ⟨v, os, hb, _, t3⟩ := Rx hb
          rw [hv, hrd] at hb
          simp only at hb
          match os, hb, t3 with
          | _ :: _, hb, _ => exact hb.elim
          | [], hb, t3 =>
            refine ⟨v, hb, fun S' h' K' oa ha hk' => ?_⟩
            simp only [Aw, hc]
            show Yk S' g c.args.toList fun vs => Oi E S' h' id dst g f (vs ++ []) K'
            refine t1 S' _ (oa.mono (by intro z hz; simp [Op.operands, Call.operands]; simp at hz; simp [hz])) ?_
            simp only [List.append_nil]
            unfold Oi
            rw [hE]
            refine t2 S' h' _ (ha.mono fun i hi => J3 (ys := c.args.toList) (by intro z hz; simp [Op.operands, Call.operands]; simp at hz; simp [hz]) (i1 i hi)) (Et e1 ?_)
            rw [hm]
            refine ⟨xx, e2, e3, t3 _ ?_⟩
            rw [hv, hrd]
            exact hk'
    · rename_i b
      obtain ⟨vs, hk, i1, t1⟩ := Gz hk
      have oa1 : ∀ {S'}, OAg (Op.call c).operands.toList S S' → OAg c.args.toList S S' := fun oa => oa.mono (by intro z hz; simp [Op.operands, Call.operands]; simp at hz; simp [hz])
      cases b <;> simp only at hv <;> try (cases hv; done)
      · rcases vs with _ | ⟨y, _ | ⟨z, _ | ⟨q, r⟩⟩⟩ <;> try exact hk.elim
        · obtain ⟨e1, hk⟩ := Bf hk
          obtain ⟨m, hk, t2⟩ := B6q hk
          refine ⟨_, hk, fun S' h' K' oa ha hk' => ?_⟩
          simp only [Aw, hc]
          refine t1 S' _ (oa1 oa) (Et e1 (t2 h' (fun n => K' (B6 S' dst g (.int .i64 n)) h') (ha.mono fun i hi => J3 (ys := c.args.toList) (by intro z hz; simp [Op.operands, Call.operands]; simp at hz; simp [hz]) (i1 i (by simp [F3, hi]))) hk'))
        · obtain ⟨v, hk, t2⟩ := U0 (b := .len) hk
          exact ⟨v, hk, fun S' h' K' oa ha hk' => by
            simp only [Aw, hc]
            exact t1 S' _ (oa1 oa) (t2 (fun v => K' (B6 S' dst g v) h') hk')⟩
      · rcases vs with _ | ⟨y, _ | ⟨z, _ | ⟨q, r⟩⟩⟩ <;> try exact hk.elim
        obtain ⟨v, hk, t2⟩ := U0 (b := .max) hk
        exact ⟨v, hk, fun S' h' K' oa ha hk' => by
          simp only [Aw, hc]
          exact t1 S' _ (oa1 oa) (t2 (fun v => K' (B6 S' dst g v) h') hk')⟩
      · rcases vs with _ | ⟨y, _ | ⟨z, _ | ⟨q, r⟩⟩⟩ <;> try exact hk.elim
        obtain ⟨v, hk, t2⟩ := U0 (b := .min) hk
        exact ⟨v, hk, fun S' h' K' oa ha hk' => by
          simp only [Aw, hc]
          exact t1 S' _ (oa1 oa) (t2 (fun v => K' (B6 S' dst g v) h') hk')⟩
end
end Go.GH


set_option linter.unusedVariables false
set_option linter.unusedSimpArgs false
namespace Go.GH
open Go
def C1 : List Nat → Af → Af
  | [], S => S
  | g :: gs, S => C1 gs (voids g S)
theorem D7 : ∀ (a b : List Nat) (S : Af), C1 (a ++ b) S = C1 b (C1 a S)
  | [], b, S => rfl
  | g :: a, b, S => D7 a b (voids g S)
def Frm (ids gs : List Nat) (h h' : Ah) : Prop := (∀ g, g ∈ gs → g ∈ ids) ∧ ∀ g, g ∉ ids → A4 h' g = A4 h g
theorem Frm.rfl {ids : List Nat} {h : Ah} : Frm ids [] h h := ⟨by simp, fun _ _ => .refl _⟩
theorem Frm.comp {a b gs gs' : List Nat} {h ha hb : Ah} (h1 : Frm a gs h ha) (h2 : Frm b gs' ha hb) : Frm (a ++ b) (gs ++ gs') h hb :=
  ⟨fun g hg => by
    rcases List.mem_append.1 hg with hg | hg
    · exact List.mem_append.2 (.inl (h1.1 g hg))
    · exact List.mem_append.2 (.inr (h2.1 g hg)), fun g hg => by
    rw [h2.2 g fun h => hg (List.mem_append.2 (.inr h)), h1.2 g fun h => hg (List.mem_append.2 (.inl h))]⟩
theorem Frm.mono {a b gs : List Nat} {h ha : Ah} (h1 : Frm a gs h ha) (hs : ∀ g, g ∈ a → g ∈ b) : Frm b gs h ha :=
  ⟨fun g hg => hs g (h1.1 g hg), fun g hg => h1.2 g fun h => hg (hs g h)⟩
section
variable {P : Program} {E : Env} {x : Ctx} {w w' : World} {h : Ah} {n n' : Nat → Prop} {ρ : Option Nat → Aj} {id : Nat} {S : Af} {g : Option Bool}
theorem Lh {g e : Nat} {p : Bo} {y : AV} (he : e ≠ g) : A4 (hput h g p y) e = A4 h e := by
  cases hl : A4 h g with
  | none => unfold hput; rw [hl]
  | some r => rw [Em hl, if_neg (Ne.symm he)]
theorem A8p {g : Nat} {p : Bo} {s : Nat} {xs : List (List AV)} (hg : hget h g p = some (.own s xs)) {K : Af → Ah → Prop} (hk : Sz S h g p K) :
    ∃ gs h', K (C1 gs S) h' ∧ Frm [g] gs h h' ∧ ∀ S' K', K' (C1 gs S') h' → Sz S' h g p K' := by
  rw [Hs] at hk
  obtain ⟨r, hl, _⟩ := C3 hg
  have hfr : ∀ e, e ∉ [g] → A4 (H5 h g p) e = A4 h e := fun e he => Jo hl p (by simpa using he)
  cases p with
  | nil => exact ⟨[], _, hk, ⟨by simp, hfr⟩, fun S' K' h => by rw [Hs]; exact h⟩
  | cons a p => exact ⟨[g], _, hk, ⟨by simp, hfr⟩, fun S' K' h => by rw [Hs]; exact h⟩
theorem A7w {t : Option Nat} {v : AV} {K : AV → Af → Ah → Prop} (hk : E7 S h t v K) :
    ∃ c gs h', K c (C1 gs S) h' ∧ Frm v.ids1 gs h h' ∧ ∀ S' K', K' c (C1 gs S') h' → E7 S' h t v K' := by
  cases v <;> simp only [E7] at hk
  case view g p o l =>
    obtain ⟨s, xs, hg, hk⟩ := Br hk
    obtain ⟨gs, h', h1, f1, t1⟩ := A8p hg hk
    exact ⟨_, gs, h', h1, f1, fun S' K' h => by simp only [E7]; exact Hx hg (t1 S' (fun S'' h'' => K' (.own s ((xs.drop o).take l)) S'' h'') h)⟩
  case nils =>
    cases t <;> first
      | exact hk.elim
      | exact ⟨_, [], _, hk, .rfl, fun S' K' h => h⟩
  case emp =>
    cases t <;> first
      | exact hk.elim
      | exact ⟨_, [], _, hk, .rfl, fun S' K' h => h⟩
  all_goals exact ⟨_, [], _, hk, .rfl, fun S' K' h => h⟩
theorem Ip : ∀ {ts : List (Option Nat)} {vs : List AV} {S : Af} {h : Ah} {K : List AV → Af → Ah → Prop}, By S h ts vs K →
    ∃ cs gs h', K cs (C1 gs S) h' ∧ Frm (Fg vs) gs h h' ∧ ∀ S' K', K' cs (C1 gs S') h' → By S' h ts vs K'
  | [], [], S, h, K, hk => ⟨_, [], _, hk, .rfl, fun S' K' h => h⟩
  | [], _ :: _, S, h, K, hk => by simp [By] at hk
  | _ :: _, [], S, h, K, hk => by simp [By] at hk
  | t :: ts, v :: vs, S, h, K, hk => by
    simp only [By] at hk
    obtain ⟨c, gs, h1, hk, f1, t1⟩ := A7w hk
    obtain ⟨cs, gs2, h2, hk, f2, t2⟩ := Ip hk
    rw [← D7] at hk
    refine ⟨_, _, _, hk, f1.comp f2, fun S' K' h => ?_⟩
    rw [D7] at h
    simp only [By]
    exact t1 S' _ (t2 _ (fun cs S'' h'' => K' (c :: cs) S'' h'') h)
theorem Iq {v : AV} : ∀ g, g ∈ Fg v.cells → g ∈ v.ids := by
  intro g hg
  cases v <;> simp only [AV.cells, Fg, AV.ids1, List.append_nil] at hg <;> first | exact hg | cases hg
theorem Vm {ts : List (Option Nat)} : ∀ {vs : List AV} {S : Af} {h : Ah} {K : List (List AV) → Af → Ah → Prop}, Iw S h ts vs K →
    ∃ cs gs h', K cs (C1 gs S) h' ∧ Frm (F3 vs) gs h h' ∧ ∀ S' K', K' cs (C1 gs S') h' → Iw S' h ts vs K'
  | [], S, h, K, hk => ⟨_, [], _, hk, .rfl, fun S' K' h => h⟩
  | v :: vs, S, h, K, hk => by
    simp only [Iw] at hk
    obtain ⟨c, gs, h1, hk, f1, t1⟩ := Ip hk
    obtain ⟨cs, gs2, h2, hk, f2, t2⟩ := Vm hk
    rw [← D7] at hk
    refine ⟨_, _, _, hk, (f1.mono Iq).comp f2, fun S' K' h => ?_⟩
    rw [D7] at h
    simp only [Iw]
    exact t1 S' _ (t2 _ (fun cs S'' h'' => K' (c :: cs) S'' h'') h)
theorem Mo {g e : Nat} {y : AV} (he : e ≠ g) : A4 (update h g y) e = A4 h e := by
  rw [Ks, if_neg (Ne.symm he)]
theorem Frm.one {ids gs : List Nat} {h h1 h2 : Ah} {g : Nat} (f : Frm ids gs h h1) (hg : g ∈ ids) (h2e : ∀ e, e ≠ g → A4 h2 e = A4 h1 e) {gs' : List Nat} (hgs : ∀ e, e ∈ gs' → e = g) : Frm ids (gs ++ gs') h h2 :=
  ⟨fun e he => by
    rcases List.mem_append.1 he with he | he
    · exact f.1 e he
    · exact hgs e he ▸ hg, fun e he => by
    rw [h2e e fun h => he (h ▸ hg), f.2 e he]⟩
theorem B0x {ty : Ty} {a y : AV} {K : Af → Ah → Prop} (hk : storeAt ty S h a y K) :
    ∃ gs h', K (C1 gs S) h' ∧ Frm (a.ids ++ y.ids) gs h h' ∧ ∀ S' K', K' (C1 gs S') h' → storeAt ty S' h a y K' := by
  cases a <;> simp only [storeAt] at hk
  case bx g f =>
    have hgi : g ∈ (AV.bx g f).ids ++ y.ids := by simp [AV.ids, AV.ids1]
    cases hsc : ty.k.scalar with
    | true =>
      rw [hsc] at hk
      simp only at hk
      cases hy : y.scalar <;> rw [hy] at hk <;> simp only at hk
      obtain ⟨s, xs, hg, hk⟩ := Br hk
      match xs, hg, hk with
      | [], _, hk => exact hk.elim
      | _ :: _ :: _, _, hk => exact hk.elim
      | [r], hg, hk =>
        obtain ⟨e, hk⟩ := Bf hk
        cases hc : (cell r f).scalar <;> rw [hc] at hk <;> simp only at hk
        refine ⟨[], _, hk, Frm.rfl.one hgi (fun e he => Mo he) (gs' := []) (by simp), fun S' K' h => ?_⟩
        simp only [storeAt, hsc, hy]
        exact Hx hg (Et e (by rw [hc]; exact h))
    | false =>
      rw [hsc] at hk
      simp only at hk
      obtain ⟨cs, gs, h1, hk, f1, t1⟩ := Ip hk
      obtain ⟨s, xs, hg, hk⟩ := Br hk
      match xs, hg, hk with
      | [], _, hk => exact hk.elim
      | _ :: _ :: _, _, hk => exact hk.elim
      | [r], hg, hk =>
        obtain ⟨e, hk⟩ := Bf hk
        refine ⟨gs ++ [g], _, by rw [D7]; exact hk, (f1.mono fun g hg => by simp [Iq g hg]).one hgi (fun e he => Mo he) (by simp), fun S' K' h => ?_⟩
        simp only [storeAt, hsc]
        rw [D7] at h
        exact t1 S' _ (Hx hg (Et e h))
  case ptr g p i f =>
    have hgi : g ∈ (AV.ptr g p i f).ids ++ y.ids := by simp [AV.ids, AV.ids1]
    cases hsc : ty.k.scalar with
    | true =>
      rw [hsc] at hk
      simp only at hk
      cases hy : y.scalar <;> rw [hy] at hk <;> simp only at hk
      obtain ⟨s, xs, hg, hk⟩ := Br hk
      obtain ⟨e, r, hr, hk⟩ := Bf hk
      cases hc : (cell r f).scalar <;> rw [hc] at hk <;> simp only at hk
      refine ⟨[], _, hk, Frm.rfl.one hgi (fun e he => Lh he) (gs' := []) (by simp), fun S' K' h => ?_⟩
      simp only [storeAt, hsc, hy]
      exact Hx hg (Et e ⟨r, hr, by rw [hc]; exact h⟩)
    | false =>
      rw [hsc] at hk
      simp only at hk
      obtain ⟨cs, gs, h1, hk, f1, t1⟩ := Ip hk
      obtain ⟨s, xs, hg, hk⟩ := Br hk
      obtain ⟨e, r, hr, hk⟩ := Bf hk
      refine ⟨gs ++ [g], _, by rw [D7]; exact hk, (f1.mono fun g hg => by simp [Iq g hg]).one hgi (fun e he => Lh he) (by simp), fun S' K' h => ?_⟩
      simp only [storeAt, hsc]
      rw [D7] at h
      exact t1 S' _ (Hx hg (Et e ⟨r, hr, h⟩))
theorem Vz {keep : Bool} {sz : Nat} {y : AV} {K : List (List AV) → Af → Ah → Prop} (hk : Jk S h keep sz y K) :
    ∃ r gs h', K r (C1 gs S) h' ∧ Frm y.ids gs h h' ∧ ∀ S' K', K' r (C1 gs S') h' → Jk S' h keep sz y K' := by
  cases y <;> simp only [Jk] at hk
  case view g p o l =>
    obtain ⟨s, xs, hg, hk⟩ := Br hk
    obtain ⟨e, hk⟩ := C6 hk
    cases keep <;> simp only at hk
    · obtain ⟨gs, h', h1, f1, t1⟩ := A8p hg hk
      exact ⟨_, gs, h', h1, f1.mono (b := (AV.view g p o l).ids) (by simp [AV.ids, AV.ids1]), fun S' K' h => by simp only [Jk]; exact Hx hg (Ir e (t1 S' (fun S'' h'' => K' ((xs.drop o).take l) S'' h'') h))⟩
    · exact ⟨_, [], _, hk.2, .rfl, fun S' K' h => by simp only [Jk]; exact Hx hg (Ir e ⟨hk.1, h⟩)⟩
  case rd s xs =>
    obtain ⟨e, hk⟩ := C6 hk
    exact ⟨_, [], _, hk, .rfl, fun S' K' h => Ir e h⟩
  case str s =>
    obtain ⟨e, hk⟩ := C6 hk
    exact ⟨_, [], _, hk, .rfl, fun S' K' h => Ir e h⟩
  all_goals exact ⟨_, [], _, hk, .rfl, fun S' K' h => h⟩
theorem A8b {g e : Nat} {y : AV} (he : e ≠ g) : A4 ((g, y) :: h) e = A4 h e := by
  rw [Aa, if_neg (Ne.symm he)]
theorem B86 {id : Nat} : id ∈ List.range' id 16 := by simp [List.mem_range']
theorem Frm.new {ids gs : List Nat} {h h1 : Ah} {y : AV} (f : Frm ids gs h h1) : Frm (List.range' id 16 ++ ids) gs h ((id, y) :: h1) :=
  ⟨fun g hg => by simp [f.1 g hg], fun g hg => by
    rw [A8b (fun e => hg (by subst e; exact List.mem_append.2 (.inl B86))), f.2 g fun h => hg (by simp [h])]⟩
theorem A8e {ty : Ty} {d : Option Nat} {y z : AV} {K : Af → Ah → Prop} (hk : Je ty S h id d y z K) :
    ∃ gs v h', K (B6 (C1 gs S) d none v) h' ∧ Frm (List.range' id 16 ++ (y.ids ++ z.ids)) gs h h' ∧ ∀ S' K', K' (B6 (C1 gs S') d none v) h' → Je ty S' h id d y z K' := by
  unfold Je at hk
  cases hr : R7 y <;> rw [hr] at hk <;> simp only at hk
  obtain ⟨ys, gs, h1, hk, f1, t1⟩ := Vz hk
  obtain ⟨xs, gs2, h2, hk, f2, t2⟩ := Vz hk
  rw [← D7] at hk
  refine ⟨_, _, _, hk.2, ((f1.comp f2).mono (by simp; intro g hg; exact hg.symm)).new, fun S' K' h => ?_⟩
  unfold Je
  rw [hr]
  rw [D7] at h
  exact t1 S' _ (t2 _ _ ⟨hk.1, h⟩)
theorem B0f {v : AV} {K : List UInt8 → Prop} (hk : Lr h v K) : ∃ s, K s ∧ ∀ K' : List UInt8 → Prop, K' s → Lr h v K' := by
  cases v <;> simp only [Lr] at hk
  case view g p o l =>
    obtain ⟨s, xs, hg, hk⟩ := Br hk
    obtain ⟨e, bs, hb, hk⟩ := C6 hk
    exact ⟨_, hk, fun K' h => Hx hg (Ir e ⟨bs, hb, h⟩)⟩
  case rd s xs =>
    obtain ⟨e, bs, hb, hk⟩ := C6 hk
    exact ⟨_, hk, fun K' h => Ir e ⟨bs, hb, h⟩⟩
  all_goals exact ⟨_, hk, fun K' h => h⟩
theorem Uv {e : Nat} {K : Prop} (hk : A86 E e K) : K ∧ ∀ K' : Prop, K' → A86 E e K' := by
  obtain ⟨te, ht, hk⟩ := B3 hk
  cases hq : te.k <;> rw [hq] at hk <;> simp only at hk
  rename_i k
  cases k <;> simp only at hk
  exact ⟨hk, fun K' h => Cj ht (by rw [hq]; exact h)⟩
theorem J1 {sh : Bool} : ∀ {ms : List Lf} {vs : List AV} {S : Af} {h : Ah} {K : List AV → List (Nat × Bo) → List Nat → List Nat → Af → Ah → Prop}, Dh sh S h ms vs K →
    ∃ as qs rs ws gs h', K as qs rs ws (C1 gs S) h' ∧ Frm (F3 vs) gs h h' ∧ (∀ q, q ∈ qs → q.1 ∈ F3 vs) ∧ ∀ S' K', K' as qs rs ws (C1 gs S') h' → Dh sh S' h ms vs K'
  | [], [], S, h, K, hk => ⟨[], [], [], [], [], h, hk, .rfl, by simp, fun _ _ h => h⟩
  | [], v :: vs, S, h, K, hk => hk.elim
  | m :: ms, [], S, h, K, hk => by cases m <;> exact hk.elim
  | .rd ts :: ms, v :: vs, S, h, K, hk => by
    simp only [Dh] at hk
    obtain ⟨as, qs, rs, ws, gs, h', hk, f1, q1, t1⟩ := J1 hk
    exact ⟨_, qs, _, _, gs, h', hk, f1.mono (by simp [F3]; intro g hg; exact .inr hg), fun q hq => by simp [F3, q1 q hq], fun S' K' h => by
      simp only [Dh]; exact t1 S' (fun as qs rs ws S' h' => K' (Sf sh h' ts v :: as) qs (v.ids ++ rs) ws S' h') h⟩
  | .co ts :: ms, v :: vs, S, h, K, hk => by
    simp only [Dh] at hk
    obtain ⟨cs, gs, h1, hk, f1, t1⟩ := Ip hk
    obtain ⟨as, qs, rs, ws, gs2, h', hk, f2, q1, t2⟩ := J1 hk
    rw [← D7] at hk
    refine ⟨_, qs, _, _, _, h', hk, (f1.mono Iq).comp f2, fun q hq => by simp [F3, q1 q hq], fun S' K' h => ?_⟩
    rw [D7] at h
    simp only [Dh]
    exact t1 S' _ (t2 _ (fun as qs rs ws S' h' => K' (wrap v cs :: as) qs rs (v.ids ++ ws) S' h') h)
  | .mv :: ms, v :: vs, S, h, K, hk => by
    cases v <;> simp only [Dh] at hk
    case arg s0 g n0 =>
      obtain ⟨as, qs, rs, ws, gs, h', hk, f1, q1, t1⟩ := J1 hk
      obtain ⟨s, xs, hg, e1, e2, hk⟩ := Br hk
      refine ⟨_, _, _, _, gs, h', hk, f1.mono (by simp [F3]; intro g hg; exact .inr hg), fun q hq => ?_, fun S' K' h => by
        simp only [Dh]
        exact t1 S' (fun as qs rs ws S' h' => arr h' g [] fun s xs => s0 = s ∧ n0 = xs.length ∧ K' (.own s xs :: as) ((g, []) :: qs) rs (g :: ws) S' h') (Hx hg ⟨e1, e2, h⟩)⟩
      rcases List.mem_cons.1 hq with rfl | hq
      · simp [F3, AV.ids, AV.ids1]
      · simp [F3, q1 q hq]
    rename_i g p off len
    obtain ⟨as, qs, rs, ws, gs, h', hk, f1, q1, t1⟩ := J1 hk
    obtain ⟨s, xs, hg, e1, e2, hk⟩ := Br hk
    refine ⟨_, _, _, _, gs, h', hk, f1.mono (by simp [F3]; intro g hg; exact .inr hg), fun q hq => ?_, fun S' K' h => by
      simp only [Dh]
      exact t1 S' (fun as qs rs ws S' h' => arr h' g p fun s xs => off = 0 ∧ len = xs.length ∧ K' (.own s xs :: as) ((g, p) :: qs) rs (g :: ws) S' h') (Hx hg ⟨e1, e2, h⟩)⟩
    rcases List.mem_cons.1 hq with rfl | hq
    · simp [F3, AV.ids, AV.ids1]
    · simp [F3, q1 q hq]
  | .ma :: ms, v :: vs, S, h, K, hk => by
    rcases A1t hk with ⟨g, p, off, len, rfl, hk2⟩ | ⟨s0, g, n0, rfl, hk2⟩
    · clear hk
      obtain ⟨as, qs, rs, ws, gs, h', hk, f1, q1, t1⟩ := J1 hk2
      obtain ⟨s, xs, hg, e1, e2, hk⟩ := Br hk
      refine ⟨_, _, _, _, gs, h', hk, f1.mono (by simp [F3]; intro g hg; exact .inr hg), fun q hq => ?_, fun S' K' h => by
        simp only [Dh]
        exact t1 S' (fun as qs rs ws S' h' => arr h' g p fun s xs => off = 0 ∧ len = xs.length ∧ K' (.agg [.own s xs] :: as) ((g, p) :: qs) rs (g :: ws) S' h') (Hx hg ⟨e1, e2, h⟩)⟩
      rcases List.mem_cons.1 hq with rfl | hq
      · simp [F3, AV.ids, Fg, AV.ids1]
      · simp [F3, q1 q hq]
    · clear hk
      obtain ⟨as, qs, rs, ws, gs, h', hk, f1, q1, t1⟩ := J1 hk2
      obtain ⟨s, xs, hg, e1, e2, hk⟩ := Br hk
      refine ⟨_, _, _, _, gs, h', hk, f1.mono (by simp [F3]; intro g hg; exact .inr hg), fun q hq => ?_, fun S' K' h => by
        simp only [Dh]
        exact t1 S' (fun as qs rs ws S' h' => arr h' g [] fun s xs => s0 = s ∧ n0 = xs.length ∧ K' (.agg [.own s xs] :: as) ((g, []) :: qs) rs (g :: ws) S' h') (Hx hg ⟨e1, e2, h⟩)⟩
      rcases List.mem_cons.1 hq with rfl | hq
      · simp [F3, AV.ids, Fg, AV.ids1]
      · simp [F3, q1 q hq]
  | .mp :: ms, v :: vs, S, h, K, hk => by
    cases v <;> simp only [Dh] at hk
    rename_i g f
    cases f with
    | succ f => exact hk.elim
    | zero =>
      obtain ⟨as, qs, rs, ws, gs, h', hk, f1, q1, t1⟩ := J1 hk
      obtain ⟨s, xs, hg, hk⟩ := Br hk
      match xs, hg, hk with
      | [], _, hk => exact hk.elim
      | _ :: _ :: _, _, hk => exact hk.elim
      | [r], hg, hk =>
        refine ⟨_, _, _, _, gs, h', hk, f1.mono (by simp [F3]; intro g hg; exact .inr hg), fun q hq => ?_, fun S' K' h => by
          simp only [Dh]
          exact t1 S' (fun as qs rs ws S' h' => arr h' g [] fun s xs => match xs with
            | [_] => K' (.own s xs :: as) ((g, []) :: qs) rs (g :: ws) S' h'
            | _ => False) (Hx hg h)⟩
        rcases List.mem_cons.1 hq with rfl | hq
        · simp [F3, AV.ids, AV.ids1]
        · simp [F3, q1 q hq]
theorem B48 {qs : List (Nat × Bo)} {out : List AV} {K : Af → Ah → Prop} (hk : T5 S h qs out K) :
    ∃ gs h', K (C1 gs S) h' ∧ Frm (qs.map (·.1)) gs h h' ∧ ∀ S' K', K' (C1 gs S') h' → T5 S' h qs out K' := by
  match qs, out, hk with
  | [], [], hk => exact ⟨[], h, hk, .rfl, fun _ _ h => h⟩
  | [], _ :: _, hk => exact hk.elim
  | [(g, p)], [], hk => exact hk.elim
  | [(g, p)], [y], hk => exact ⟨[g], _, hk, ⟨by simp, fun e he => Lh (by simpa using he)⟩, fun _ _ h => h⟩
  | [(g, p)], _ :: _ :: _, hk => exact hk.elim
  | _ :: _ :: _, [], hk => exact hk.elim
  | _ :: _ :: _, [_], hk => exact hk.elim
  | _ :: _ :: _, _ :: _ :: _, hk => exact hk.elim
theorem B6d {d : Option Nat} {f : Nat} {vs : List AV} {K : Af → Ah → Prop} (hk : Oi E S h id d none f vs K) :
    ∃ c, E.F f = some c ∧ ∃ gs v h', K (B6 (C1 gs S) d none v) h' ∧ Frm (List.range' id 16 ++ (match Ik c.ms with | true => [] | false => F3 vs)) gs h h' ∧
      ∀ S' K', K' (B6 (C1 gs S') d none v) h' → Oi E S' h id d none f vs K' := by
  unfold Oi at hk
  cases hE : E.F f with
  | none => rw [hE] at hk; exact hk.elim
  | some c =>
    rw [hE] at hk
    simp only at hk
    refine ⟨c, .refl _, ?_⟩
    obtain ⟨as, qs, rs, ws, gs, h1, hk, f1, q1, t1⟩ : ∃ as qs rs ws gs h1, (leN (Hv as) id (match Pf rs ws with
            | true => False
            | false => ∃ x : c.α, as = c.enc x ∧ (Cw none → c.pre x) ∧ Kt c.ptr id (c.res x) fun v os => match c.sc with
              | true => match Ik c.ms with
                | true => match os with
                  | [] => K (B6 (C1 gs S) d none v) h1
                  | _ => False
                | false => False
              | false => T5 (C1 gs S) h1 qs (c.out x) fun S' h' => K (B6 S' d none v) (os ++ h'))) ∧ Frm (match Ik c.ms with | true => [] | false => F3 vs) gs h h1 ∧ (∀ q, q ∈ qs → q.1 ∈ (match Ik c.ms with | true => [] | false => F3 vs)) ∧
            ∀ S' (K' : List AV → List (Nat × Bo) → List Nat → List Nat → Af → Ah → Prop), K' as qs rs ws (C1 gs S') h1 → Dh c.sh S' h c.ms vs K' := by
      cases ha : Ik c.ms with
      | true =>
        obtain ⟨as, rs, hb, t1⟩ := Oa ha hk
        rw [ha] at hb
        exact ⟨as, [], rs, [], [], h, hb, .rfl, by simp, fun S' K' hk' => t1 S' h K' (fun _ _ => .refl _) hk'⟩
      | false =>
        obtain ⟨as, qs, rs, ws, gs, h1, hb, f1, q1, t1⟩ := J1 hk
        rw [ha] at hb
        exact ⟨as, qs, rs, ws, gs, h1, hb, f1, q1, t1⟩
    obtain ⟨e1, hk⟩ := Bf hk
    cases hm : Pf rs ws with
    | true => rw [hm] at hk; exact hk.elim
    | false =>
      rw [hm] at hk
      obtain ⟨xx, e2, e3, hk⟩ := hk
      obtain ⟨v, os, hk, hos, t3⟩ := Rx hk
      have hfin : ∀ {gs' : List Nat} {h2 : Ah}, Frm (match Ik c.ms with | true => [] | false => F3 vs) gs' h h2 → Frm (List.range' id 16 ++ (match Ik c.ms with | true => [] | false => F3 vs)) gs' h (os ++ h2) := by
        intro gs' h2 f
        refine ⟨fun g hg => by simp [f.1 g hg], fun g hg => ?_⟩
        rw [B9]
        cases ho : A4 os g with
        | some r => exact absurd (List.mem_append.2 (.inl (by have := hos g r ho; simp [List.mem_range']; exact ⟨g - id, by omega, by omega⟩))) hg
        | none => exact f.2 g fun h => hg (by simp [h])
      have hback : ∀ S' K', (Kt c.ptr id (c.res xx) fun v os => match c.sc with
              | true => match Ik c.ms with
                | true => match os with
                  | [] => K' (B6 (C1 gs S') d none v) h1
                  | _ => False
                | false => False
              | false => T5 (C1 gs S') h1 qs (c.out xx) fun S' h' => K' (B6 S' d none v) (os ++ h')) → Oi E S' h id d none f vs K' := by
        intro S' K' hb
        unfold Oi
        rw [hE]
        refine t1 S' _ (Et e1 ?_)
        rw [hm]
        exact ⟨xx, e2, e3, hb⟩
      cases hsc : c.sc with
      | true =>
        rw [hsc] at hk
        simp only at hk
        cases ha : Ik c.ms with
        | false => rw [ha] at hk; exact hk.elim
        | true =>
          rw [ha] at hk f1
          simp only at hk f1
          match os, hk, t3 with
          | _ :: _, hk, _ => exact hk.elim
          | [], hk, t3 =>
            refine ⟨gs, v, h1, hk, f1.mono (by simp), fun S' K' h => hback S' K' (t3 _ ?_)⟩
            rw [hsc, ha]
            exact h
      | false =>
        rw [hsc] at hk
        simp only at hk
        obtain ⟨gs2, h2, hk, f2, t4⟩ := B48 hk
        rw [← D7] at hk
        have fq : Frm (match Ik c.ms with | true => [] | false => F3 vs) (gs ++ gs2) h h2 :=
          (f1.comp (f2.mono (b := match Ik c.ms with | true => [] | false => F3 vs) fun g hg => by
            obtain ⟨q, hq, rfl⟩ := List.mem_map.1 hg
            exact q1 q hq)).mono fun g hg => by rcases List.mem_append.1 hg with h | h <;> exact h
        refine ⟨gs ++ gs2, v, _, hk, hfin fq, fun S' K' h => hback S' K' (t3 _ ?_)⟩
        rw [hsc]
        rw [D7] at h
        exact t4 _ (fun S' h' => K' (B6 S' d none v) (os ++ h')) h
end
end Go.GH


set_option linter.unusedVariables false
set_option linter.unusedSimpArgs false
namespace Go.GH
open Go
section
variable {P : Program} {E : Env} {x : Ctx} {w w' : World} {h : Ah} {n n' : Nat → Prop} {ρ : Option Nat → Aj} {id : Nat} {S : Af} {g : Option Bool}
def cvt (E : Env) (id : Nat) (ts ty : Ty) (v : AV) (dst : Option Nat) (S : Af) (h : Ah) (K : Af → Ah → Prop) : Prop :=
  match ty.k with
  | .slice e => match v with
    | .str bs => A86 E e (K (B6 S dst none (.view id [] 0 bs.length)) ((id, .own 1 (bs.map fun b => [.int .u8 b.toNat])) :: h))
    | _ => False
  | .str => match v with
    | .str s => K (B6 S dst none (.str s)) h
    | v => match ts.k with
      | .slice e => A86 E e (Lr h v fun s => K (B6 S dst none (.str s)) h)
      | _ => False
  | _ => convert ty v fun u => K (B6 S dst none u) h
theorem C0k {ts ty : Ty} {v : AV} {dst : Option Nat} {K : Af → Ah → Prop} (hk : cvt E id ts ty v dst S h K) :
    ∃ u h', K (B6 S dst none u) h' ∧ Frm (List.range' id 16) [] h h' ∧ ∀ S' (K' : Af → Ah → Prop), K' (B6 S' dst none u) h' → cvt E id ts ty v dst S' h K' := by
  have h0 : Frm (List.range' id 16) [] h h := .rfl
  have conv : (∀ S (K : Af → Ah → Prop), cvt E id ts ty v dst S h K = convert ty v fun u => K (B6 S dst none u) h) → ∃ u h', K (B6 S dst none u) h' ∧ Frm (List.range' id 16) [] h h' ∧ ∀ S' (K' : Af → Ah → Prop), K' (B6 S' dst none u) h' → cvt E id ts ty v dst S' h K' := by
    intro e
    rw [e] at hk
    obtain ⟨u, hk, t2⟩ := Rp hk
    exact ⟨u, _, hk, h0, fun S' K' h => by rw [e]; exact t2 (fun u => K' (B6 S' dst none u) _) h⟩
  cases hq : ty.k
  case slice e =>
    unfold cvt at hk ⊢
    rw [hq] at hk ⊢
    cases v <;> simp only at hk ⊢
    obtain ⟨hk, t2⟩ := Uv hk
    exact ⟨_, _, hk, (Frm.rfl.new (id := id) (ids := []) (h := h)).mono (by simp), fun S' K' h => t2 _ h⟩
  case str =>
    by_cases hs : ∃ s, v = .str s
    · obtain ⟨s, rfl⟩ := hs
      unfold cvt at hk ⊢
      rw [hq] at hk ⊢
      exact ⟨_, _, hk, h0, fun S' K' h => h⟩
    · have e : ∀ (S : Af) (K : Af → Ah → Prop), cvt E id ts ty v dst S h K = (match (generalizing := false) ts.k with
            | .slice e => A86 E e (Lr h v fun s => K (B6 S dst none (.str s)) h)
            | _ => False) := by
        intro S K
        unfold cvt
        rw [hq]
        cases v <;> first | rfl | exact absurd ⟨_, rfl⟩ hs
      simp only [e] at hk ⊢
      cases hq2 : ts.k <;> rw [hq2] at hk <;> simp only at hk
      obtain ⟨hk, t2⟩ := Uv hk
      obtain ⟨s, hk, t3⟩ := B0f hk
      exact ⟨_, _, hk, h0, fun S' K' h => t2 _ (t3 (fun s => K' (B6 S' dst none (.str s)) _) h)⟩
  all_goals exact conv fun S K => by unfold cvt; rw [hq]
theorem Tb {o : Oper} (hv : Cd E o = false) {K : Af → Ah → Prop} (hk : Aw E id o none S h K) :
    ∃ gs v h', K (B6 (C1 gs S) o.dst none v) h' ∧ Frm (wroteIds E id S o) gs h h' ∧ ∀ S' K', OAg o.op.operands.toList S S' → K' (B6 (C1 gs S') o.dst none v) h' → Aw E id o none S' h K' := by
  have hnm : ∀ {l : List Nat} {g : Nat}, g ∈ List.range' id 16 → g ∈ 1000000007 :: List.range' id 16 ++ l := fun hg => List.mem_append.2 (.inl (List.mem_cons_of_mem _ hg))
  obtain ⟨dst, op, type, pos, after, guard⟩ := o
  have hwr : wroteIds E id S ⟨dst, op, type, pos, after, guard⟩ = 1000000007 :: List.range' id 16 ++ B52 E S ⟨dst, op, type, pos, after, guard⟩ := by
    unfold wroteIds
    rw [hv]
  cases op with
  | alloc t =>
    simp only [Aw] at hk
    obtain ⟨ty, ht, hk⟩ := B3 hk
    refine ⟨[], _, _, hk, Frm.rfl.new (ids := []) |>.mono fun g hg => ?_, fun S' K' oa hk' => ?_⟩
    · rw [hwr]; simp only [List.append_nil] at hg; exact hnm hg
    · simp only [Aw]; exact Cj ht hk'
  | box t y =>
    simp only [Aw] at hk
    obtain ⟨ty, ht, hk⟩ := B3 hk
    obtain ⟨v, hk, i1, t1⟩ := C7 hk
    obtain ⟨cs, gs, h1, hk, f1, t2⟩ := Ip hk
    refine ⟨gs, _, _, hk, f1.new.mono fun g hg => ?_, fun S' K' oa hk' => ?_⟩
    · rw [hwr]
      rcases List.mem_append.1 hg with hg | hg
      · exact hnm hg
      · exact List.mem_append.2 (.inr (D4 (y := y) (by simp [Op.operands]) (i1 g (Iq g hg))))
    · simp only [Aw]
      exact Cj ht (t1 S' _ (oa.one (by simp [Op.operands])) (t2 S' (fun cs S' h' => K' (B6 S' dst none (.bx id 0)) ((id, .own ty.size [cs]) :: h')) hk'))
  | store t y z =>
    simp only [Aw] at hk
    obtain ⟨ty, ht, hk⟩ := B3 hk
    obtain ⟨v, hk, i1, t1⟩ := C7 hk
    obtain ⟨u, hk, i2, t2⟩ := C7 hk
    obtain ⟨gs, h1, hk, f1, t3⟩ := B0x hk
    refine ⟨gs, _, _, hk, f1.mono fun g hg => ?_, fun S' K' oa hk' => ?_⟩
    · rw [hwr]
      rcases List.mem_append.1 hg with hg | hg
      · exact List.mem_append.2 (.inr (D4 (y := y) (by simp [Op.operands]) (i1 g hg)))
      · exact List.mem_append.2 (.inr (D4 (y := z) (by simp [Op.operands]) (i2 g hg)))
    · simp only [Aw]
      exact Cj ht (t1 S' _ (oa.one (by simp [Op.operands])) (t2 S' _ (oa.one (by simp [Op.operands])) (t3 S' (fun S' h' => K' (B6 S' dst none .undef) h') hk')))
  | convert s t y =>
    have hk0 : Jx E s fun ts => Jx E t fun ty => val S none y fun v => cvt E id ts ty v dst S h K := hk
    obtain ⟨ts, hts, hk0⟩ := B3 hk0
    obtain ⟨ty, htt, hk0⟩ := B3 hk0
    obtain ⟨v, hk0, i1, t1⟩ := C7 hk0
    obtain ⟨u, h', hk0, f1, t2⟩ := C0k hk0
    refine ⟨[], u, h', hk0, f1.mono fun g hg => by rw [hwr]; exact hnm hg, fun S' K' oa hk' => ?_⟩
    show Jx E s fun ts => Jx E t fun ty => val S' none y fun v => cvt E id ts ty v dst S' h K'
    exact Cj hts (Cj htt (t1 S' _ (oa.one (by simp [Op.operands])) (t2 S' K' hk')))
  | buildSlice t m parts =>
    simp only [Aw] at hk
    obtain ⟨ty, hk, t0⟩ := Fp hk
    obtain ⟨e1, hk⟩ := Bf hk
    obtain ⟨vs, hk, i1, t1⟩ := Gz hk
    obtain ⟨rows, gs, h1, hk, f1, t2⟩ := Vm hk
    cases hr : Po 0 (parts.toList.map fun q => q.1) <;> rw [hr] at hk <;> simp only at hk
    obtain ⟨e2, hk⟩ := C6 hk
    refine ⟨gs, _, _, hk, f1.new.mono fun g hg => ?_, fun S' K' oa hk' => ?_⟩
    · rw [hwr]
      rcases List.mem_append.1 hg with hg | hg
      · exact hnm hg
      · exact List.mem_append.2 (.inr (J3 (ys := parts.toList.map fun q => q.2) (by simp [Op.operands]) (i1 g hg)))
    · simp only [Aw]
      refine t0 _ (Et e1 (t1 S' _ (oa.mono (by simp [Op.operands])) (t2 S' _ ?_)))
      rw [hr]
      exact Ir e2 hk'
  | makeSlice t l c =>
    simp only [Aw] at hk
    obtain ⟨ty, hk, t0⟩ := Fp hk
    obtain ⟨v1, hk, i1, t1⟩ := C7 hk
    obtain ⟨v2, hk, i2, t2⟩ := C7 hk
    cases v1 <;> try exact hk.elim
    cases v2 <;> try exact hk.elim
    obtain ⟨q1, q2, q3, q4, hk⟩ := hk
    refine ⟨[], _, _, hk, Frm.rfl.new (ids := []) |>.mono fun g hg => ?_, fun S' K' oa hk' => ?_⟩
    · rw [hwr]; simp only [List.append_nil] at hg; exact hnm hg
    · simp only [Aw]
      exact t0 _ (t1 S' _ (oa.one (by simp [Op.operands])) (t2 S' _ (oa.one (by simp [Op.operands])) ⟨q1, q2, q3, q4, hk'⟩))
  | call c =>
    cases hc : c.callee with
    | invoke r m => simp only [Aw, hc] at hk
    | builtin b =>
      simp only [B52, hc] at hwr
      simp only [Aw, hc] at hk
      simp only [Cd, hc] at hv
      obtain ⟨vs, hk, i1, t1⟩ := Gz hk
      cases b <;> first
        | (cases hv; done)
        | (rcases vs with _ | ⟨y, _ | ⟨z, _ | ⟨q, r⟩⟩⟩ <;> first
            | (exact hk.elim)
            | (exfalso; cases y <;> (try exact hk.elim) <;> cases z <;> exact hk.elim)
            | skip)
      obtain ⟨e1, hk⟩ := Bf hk
      obtain ⟨ty, hk, t2⟩ := Fp hk
      obtain ⟨ta, hta, hk⟩ := B3 hk
      have hk' : (∀ k, ta.k ≠ .int k) ∧ Je ty S h id dst y z K := by
        cases hq : ta.k <;> rw [hq] at hk <;> first | exact hk.elim | exact ⟨by simp, hk⟩
      obtain ⟨hni, hk⟩ := hk'
      obtain ⟨gs, v, h', hk, f1, t3⟩ := A8e hk
      refine ⟨gs, v, h', hk, f1.mono fun g hg => ?_, fun S' K' oa hk' => ?_⟩
      · rw [hwr]
        rcases List.mem_append.1 hg with hg | hg
        · exact hnm hg
        · refine List.mem_append.2 (.inr (J3 (ys := c.args.toList) (by intro z hz; simp [Op.operands, Call.operands]; simp at hz; simp [hz]) (i1 g ?_)))
          simp only [F3, List.append_nil]
          exact hg
      · simp only [Aw, hc]
        refine t1 S' _ (oa.mono (by intro z hz; simp [Op.operands, Call.operands]; simp at hz; simp [hz])) (Et e1 (t2 _ (Cj hta ?_)))
        have := t3 S' K' hk'
        cases hq : ta.k <;> first | exact absurd hq (hni _) | exact this
    | value f =>
      simp only [B52, hc] at hwr
      simp only [Aw, hc] at hk
      obtain ⟨f', caps, hk1, i1, hfn, t1⟩ := A00 hk (by
        intro v hv
        obtain ⟨vs, hv, _⟩ := Gz hv
        cases v <;> first | exact hv.elim | exact ⟨_, _, rfl⟩)
      obtain ⟨vs, hk2, i2, t2⟩ := Gz hk1
      simp only at hk2
      obtain ⟨c', hE, gs, v, h', hk, f1, t3⟩ := B6d hk2
      refine ⟨gs, v, h', hk, f1.mono fun g hg => ?_, fun S' K' oa hk' => ?_⟩
      · rw [hwr]
        rcases List.mem_append.1 hg with hg | hg
        · exact hnm hg
        · cases ha : Ik c'.ms with
          | true => rw [ha] at hg; cases hg
          | false =>
            rw [ha] at hg
            simp only at hg
            have hin : g ∈ touched S ⟨dst, .call c, type, pos, after, guard⟩ := by
              rcases (U4 _ _ _).1 hg with hg | hg
              · exact J3 (ys := c.args.toList) (by intro z hz; simp [Op.operands, Call.operands]; simp at hz; simp [hz]) (i2 g hg)
              · exact D4 (y := f) (by simp [Op.operands, Call.operands, hc]) (i1 g hg)
            cases f with
            | func f2 =>
              obtain ⟨rfl, _⟩ := hfn f2 rfl
              simp only
              rw [hE]
              simp only [ha]
              exact List.mem_append.2 (.inr hin)
            | _ => exact List.mem_append.2 (.inr hin)
      · simp only [Aw, hc]
        exact t1 S' _ (oa.one (by simp [Op.operands, Call.operands, hc])) (t2 S' _ (oa.mono (by intro z hz; simp [Op.operands, Call.operands]; simp at hz; simp [hz])) (t3 S' K' hk'))
  | _ =>
    exfalso
    first
      | (simp only [Aw] at hk; done)
      | (simp only [Cd] at hv; cases hv; done)
      | (simp only [Aw] at hk; exact hk)
theorem A85 {ty : Ty} {a y : AV} {K : Af → Ah → Prop} (hsc : ty.k.scalar = true) (hk : storeAt ty S h a y K) :
    ∃ h', K S h' ∧ Frm (a.ids ++ y.ids) [] h h' ∧ ∀ S' K', K' S' h' → storeAt ty S' h a y K' := by
  cases a <;> simp only [storeAt] at hk
  case bx g f =>
    have hgi : g ∈ (AV.bx g f).ids ++ y.ids := by simp [AV.ids, AV.ids1]
    rw [hsc] at hk
    simp only at hk
    cases hy : y.scalar <;> rw [hy] at hk <;> simp only at hk
    obtain ⟨s, xs, hg, hk⟩ := Br hk
    match xs, hg, hk with
    | [], _, hk => exact hk.elim
    | _ :: _ :: _, _, hk => exact hk.elim
    | [r], hg, hk =>
      obtain ⟨e, hk⟩ := Bf hk
      cases hc : (cell r f).scalar <;> rw [hc] at hk <;> simp only at hk
      refine ⟨_, hk, Frm.rfl.one hgi (fun e he => Mo he) (gs' := []) (by simp), fun S' K' h => ?_⟩
      simp only [storeAt, hsc, hy]
      exact Hx hg (Et e (by rw [hc]; exact h))
  case ptr g p i f =>
    have hgi : g ∈ (AV.ptr g p i f).ids ++ y.ids := by simp [AV.ids, AV.ids1]
    rw [hsc] at hk
    simp only at hk
    cases hy : y.scalar <;> rw [hy] at hk <;> simp only at hk
    obtain ⟨s, xs, hg, hk⟩ := Br hk
    obtain ⟨e, r, hr, hk⟩ := Bf hk
    cases hc : (cell r f).scalar <;> rw [hc] at hk <;> simp only at hk
    refine ⟨_, hk, Frm.rfl.one hgi (fun e he => Lh he) (gs' := []) (by simp), fun S' K' h => ?_⟩
    simp only [storeAt, hsc, hy]
    exact Hx hg (Et e ⟨r, hr, by rw [hc]; exact h⟩)
theorem B02 {o : Oper} (hv : Cd E o = false) {K : Af → Ah → Prop} (hk : Aw E id o none S h K) :
    ∃ gs v h', K (B6 (C1 gs S) o.dst none v) h' ∧ Frm (wroteIds E id S o) gs h h' ∧ (∀ g, g ∈ gs → g ∈ Nu E id S o) ∧ ∀ S' K', OAg o.op.operands.toList S S' → K' (B6 (C1 gs S') o.dst none v) h' → Aw E id o none S' h K' := by
  cases hp : Mn E o with
  | false =>
    obtain ⟨gs, v, h', k, f, t⟩ := Tb hv hk
    exact ⟨gs, v, h', k, f, fun g hg => by unfold Nu; rw [hp]; exact f.1 g hg, t⟩
  | true =>
    obtain ⟨dst, op, type, pos, after, guard⟩ := o
    unfold Mn at hp
    cases op <;> simp only at hp <;> (try (cases hp; done))
    rename_i t y z
    simp only [Aw] at hk
    obtain ⟨ty, ht, hk⟩ := B3 hk
    rw [ht] at hp
    simp only at hp
    obtain ⟨v, hk, i1, t1⟩ := C7 hk
    obtain ⟨u, hk, i2, t2⟩ := C7 hk
    obtain ⟨h1, hk, f1, t3⟩ := A85 hp hk
    refine ⟨[], _, _, hk, f1.mono fun g hg => ?_, by simp, fun S' K' oa hk' => ?_⟩
    · unfold wroteIds
      rw [hv]
      rcases List.mem_append.1 hg with hg | hg
      · exact List.mem_append.2 (.inr (D4 (y := y) (by simp [Op.operands]) (i1 g hg)))
      · exact List.mem_append.2 (.inr (D4 (y := z) (by simp [Op.operands]) (i2 g hg)))
    · simp only [Aw]
      exact Cj ht (t1 S' _ (oa.one (by simp [Op.operands])) (t2 S' _ (oa.one (by simp [Op.operands])) (t3 S' (fun S' h' => K' (B6 S' dst none .undef) h') hk')))
end
end Go.GH


set_option linter.unusedVariables false
set_option linter.unusedSimpArgs false
namespace Go.GH
open Go
section
variable {P : Program} {E : Env} {x : Ctx} {w w' : World} {h : Ah} {n n' : Nat → Prop} {ρ : Option Nat → Aj} {id : Nat} {S : Af}
theorem B3i {ops : List Oper} {o : Oper} {a : Act} {K : Option Bool → Prop} (hs : Ar x w h n ρ S a.tmps) (hk : Lk S ops o K) :
    ∃ g, K g ∧ ((Cw g ∧ Region.wanted o (yielded ops.toArray a.tmps) = true) ∨ (g = some false ∧ Region.wanted o (yielded ops.toArray a.tmps) = false)) := by
  unfold Lk at hk
  unfold Region.wanted
  cases hg : o.guard with
  | none => rw [hg] at hk; exact ⟨none, hk, .inl ⟨trivial, rfl⟩⟩
  | some jb =>
    obtain ⟨j, b⟩ := jb
    rw [hg] at hk
    simp only at hk ⊢
    cases hj : ops[j]? with
    | none => rw [hj] at hk; exact hk.elim
    | some oj =>
      rw [hj] at hk
      simp only at hk
      cases hd : oj.dst with
      | none => rw [hd] at hk; exact hk.elim
      | some d =>
        rw [hd] at hk
        simp only at hk
        cases hl : A4 S d with
        | none => rw [hl] at hk; exact hk.elim
        | some s =>
          rw [hl] at hk
          obtain ⟨c, v⟩ := s
          obtain ⟨h1, h2⟩ := hs d _ hl
          have hdst : ((ops.toArray[j]?).bind (·.dst)) = some d := by simp [hj, hd]
          have hyu : a.tmps.getD d undef = undef → yielded ops.toArray a.tmps j = none := by
            intro hu
            unfold yielded
            rw [hdst, Option.bind_some]
            cases e : a.tmps[d]? with
            | none => rfl
            | some u =>
              have : u = undef := by rw [← hu]; simp [Array.getD_eq_getD_getElem?, e]
              subst this; rfl
          have hyb : ∀ xb, a.tmps.getD d undef = .bool xb → yielded ops.toArray a.tmps j = some xb := by
            intro xb hu
            unfold yielded
            rw [hdst, Option.bind_some]
            cases e : a.tmps[d]? with
            | none => simp [Array.getD_eq_getD_getElem?, e, undef] at hu
            | some u =>
              have : u = .bool xb := by rw [← hu]; simp [Array.getD_eq_getD_getElem?, e]
              subst this; rfl
          cases v <;> simp only at hk
          case bool xb =>
            have fin : ∀ g0 : Option Bool, Cw g0 → c = g0 → ∃ g, (match b with | true => (fun K : Option Bool → Prop => K (X1 c xb)) | false => fun K => K (X1 c (!xb))) (fun q => q = g) ∧ ((Cw g ∧ (yielded ops.toArray a.tmps j == some b) = true) ∨ (g = some false ∧ (yielded ops.toArray a.tmps j == some b) = false)) := by
              intro g0 hg0 hc
              have hy := hyb xb (Iv (h1 (hc ▸ hg0)))
              rw [hy]
              subst hc
              cases b <;> cases xb <;> cases c <;> first
                | exact ⟨_, rfl, .inl ⟨by simp_all [Cw, X1], by decide⟩⟩
                | exact ⟨_, rfl, .inr ⟨by simp_all [Cw, X1], by decide⟩⟩
            have use : ∀ g, (match b with | true => (fun K : Option Bool → Prop => K (X1 c xb)) | false => fun K => K (X1 c (!xb))) (fun q => q = g) → K g := by
              intro g hg
              cases b <;> simp only at hg hk <;> exact hg ▸ hk
            cases c with
            | none =>
              obtain ⟨g, e1, e2⟩ := fin none trivial rfl
              exact ⟨g, use g e1, e2⟩
            | some c0 =>
              cases c0 with
              | true =>
                obtain ⟨g, e1, e2⟩ := fin (some true) rfl rfl
                exact ⟨g, use g e1, e2⟩
              | false =>
                have hy := hyu (h2 rfl)
                refine ⟨some false, use _ ?_, .inr ⟨rfl, by rw [hy]; rfl⟩⟩
                cases b <;> cases xb <;> rfl
          case undef =>
            cases c with
            | none => exact hk.elim
            | some c0 =>
              cases c0 with
              | true => exact hk.elim
              | false =>
                have hy := hyu (h2 rfl)
                exact ⟨some false, hk, .inr ⟨rfl, by rw [hy]; rfl⟩⟩
def Jq (E : Env) (ops : List Oper) (id : Nat) (o : Oper) (S : Af) (h : Ah) (S' : Af) (h' : Ah) : Prop := Lk S ops o fun g => Jy E id o g S h fun a b => a = S' ∧ b = h'
theorem Sts.trans {x' : Ctx} {N : Nat} {a : Act} (h1 : ∃ R wr, (∀ b, x.R b → R b) ∧ x' = { x with R := R, wr := wr }) (h2 : Sts x' N S h n a w) : Sts x N S h n a w := by
  obtain ⟨R, wr, hR, rfl⟩ := h1
  obtain ⟨R2, wr2, hR2, h3⟩ := h2
  exact ⟨R2, wr2, fun b hb => hR2 b (hR b hb), h3⟩
theorem Sts.mono_n {N : Nat} {a : Act} (h1 : Sts x N S h n a w) (hn : ∀ g, n g → n' g) : Sts x N S h n' a w := by
  obtain ⟨R, wr, hR, ρ, H, hs, hN, hd⟩ := h1
  exact ⟨R, wr, hR, ρ, H.mono_n hn, hs.mono_n H hn, hN, hd⟩
def Z7 (P : Program) (ops : Array Oper) (o : Oper) (a : Act) (w : World) (Q : Exit → Act → World → Prop) (R : Act → World → Prop) : Prop :=
  if Region.wanted o (yielded ops a.tmps) then o.wp P a w R Q ∨ (o.asks P a w ∧ LetsOut Q) else R (a.put o.dst undef) w
theorem A4y (hT : TOk P E) (hF : FE P E x) {N : Nat} {a : Act} {ops : List Oper} {o : Oper} {S' : Af} {h' : Ah} (hx : Jq E ops id o S h S' h') (hst : Sts x N S h n a w)
    (hbd : ∃ B, ∀ g, n g → g < B) (hid : Qs n id) (hd : ∀ k, o.dst = some k → k < N) (Q : Exit → Act → World → Prop) : Z7 P ops.toArray o a w Q fun a' w' => Sts x N S' h' (Ke n id) a' w' := by
  obtain ⟨R, wr, hR, ρ, H, hs, hN, hdf⟩ := hst
  obtain ⟨g, hk, hg⟩ := B3i hs hx
  have back : ∀ {S'' h'' n'' a'' w''}, Sts { x with R := R, wr := wr } N S'' h'' n'' a'' w'' → Sts x N S'' h'' n'' a'' w'' := fun h => Sts.trans ⟨R, wr, hR, rfl⟩ h
  unfold Z7
  rcases hg with ⟨hg, hw⟩ | ⟨rfl, hw⟩
  · rw [if_pos hw]
    left
    have run : ∀ {g : Option Bool}, Cw g → (g ≠ none → Cd E o = true) → (Aw E id o g S h fun a b => a = S' ∧ b = h') → o.wp P a w (fun a' w' => Sts x N S' h' (Ke n id) a' w') Q := by
      intro g hg hv hk
      obtain ⟨S2, h2, ⟨rfl, rfl⟩, hwp⟩ := B28 (Q := Q) hT (show FE P E { x with R := R, wr := wr } from hF) H hs hN hdf hbd hid hg hv hd hk
      exact Oper.wp_mono (fun a' w' h => back h) hwp
    cases g with
    | none => exact run (g := none) trivial (by simp) hk
    | some b =>
      cases b with
      | false => simp [Cw] at hg
      | true =>
        simp only [Jy] at hk
        cases hv : Cd E o <;> rw [hv] at hk <;> simp only at hk
        · exact run (g := none) trivial (by simp) (hk.1 (by trivial))
        · cases hvo : N5 S o <;> rw [hvo] at hk <;> simp only at hk
          · exact run hg (fun _ => hv) hk
          · exact (hk.1 trivial).elim
  · rw [hw]
    simp only [Bool.false_eq_true, if_false]
    have skip : S' = B6 S o.dst (some false) .undef ∧ h' = h ∨ ∃ v, S' = B6 S o.dst (some false) v ∧ h' = h := by
      simp only [Jy] at hk
      cases hv : Cd E o <;> rw [hv] at hk <;> simp only at hk
      · exact .inl ⟨(hk.2 (by trivial)).1.symm, (hk.2 (by trivial)).2.symm⟩
      · cases hvo : N5 S o <;> rw [hvo] at hk <;> simp only at hk
        · obtain ⟨v, ⟨e1, e2⟩, _⟩ := Rg hv hk
          exact .inr ⟨v, e1.symm, e2.symm⟩
        · exact .inl ⟨hk.2.1.symm, hk.2.2.symm⟩
    have : ∃ v, S' = B6 S o.dst (some false) v ∧ h' = h := by
      rcases skip with h | h
      · exact ⟨_, h⟩
      · exact h
    obtain ⟨v, rfl, rfl⟩ := this
    exact back (Stt.put (x := { x with R := R, wr := wr }) H hs hN hdf hd (fun ht => by simp [Cw] at ht) (fun _ => rfl) A3a).sts
def Ib (ops : List Oper) (o : Oper) (S S' : Af) : Prop := ∀ d, d ∈ o.looksAt ops.toArray → A4 S' d = A4 S d
theorem Ib.oag {ops : List Oper} {o : Oper} {S S' : Af} (h : Ib ops o S S') : OAg o.op.operands.toList S S' := fun d hd => h d (by
  unfold Oper.looksAt
  refine List.mem_append.2 (.inl (List.mem_filterMap.2 ⟨_, hd, rfl⟩)))
theorem J0 {ops : List Oper} {o : Oper} {S S' : Af} (h : Ib ops o S S') {K : Option Bool → Prop} : Lk S ops o K = Lk S' ops o K := by
  unfold Lk
  cases hg : o.guard with
  | none => rfl
  | some jb =>
    obtain ⟨j, b⟩ := jb
    simp only
    cases hj : ops[j]? with
    | none => rfl
    | some oj =>
      simp only
      cases hd : oj.dst with
      | none => rfl
      | some d =>
        simp only
        rw [h d (by unfold Oper.looksAt; rw [hg]; refine List.mem_append.2 (.inr ?_); simp [hj, hd])]
theorem S5 {ops : List Oper} {o : Oper} {K : Option Bool → Prop} (hk : Lk S ops o K) : ∃ g, K g ∧ ∀ K', K' g → Lk S ops o K' := by
  unfold Lk at hk ⊢
  cases hg : o.guard with
  | none => rw [hg] at hk; exact ⟨_, hk, fun _ h => h⟩
  | some jb =>
    obtain ⟨j, b⟩ := jb
    rw [hg] at hk
    simp only at hk ⊢
    cases hj : ops[j]? with
    | none => rw [hj] at hk; exact hk.elim
    | some oj =>
      rw [hj] at hk
      simp only at hk ⊢
      cases hd : oj.dst with
      | none => rw [hd] at hk; exact hk.elim
      | some d =>
        rw [hd] at hk
        simp only at hk ⊢
        cases hl : A4 S d with
        | none => rw [hl] at hk; exact hk.elim
        | some s =>
          rw [hl] at hk
          obtain ⟨c, v⟩ := s
          cases v <;> simp only at hk ⊢
          case bool xb => exact ⟨_, hk, fun _ h => h⟩
          case undef =>
            cases c with
            | none => exact hk.elim
            | some c0 =>
              cases c0 with
              | true => exact hk.elim
              | false => exact ⟨_, hk, fun _ h => h⟩
theorem Qt {ops : List Oper} {o : Oper} {S' : Af} {h' : Ah} (hx : Jq E ops id o S h S' h') :
    (∃ c v, S' = B6 S o.dst c v ∧ h' = h ∧ ∀ S1 h1, Ib ops o S S1 → HAg (readIds S o) h h1 → Jq E ops id o S1 h1 (B6 S1 o.dst c v) h1) ∨
    (Cd E o = false ∧ ∃ gs v, S' = B6 (C1 gs S) o.dst none v ∧ Frm (wroteIds E id S o) gs h h' ∧ (∀ g, g ∈ gs → g ∈ Nu E id S o) ∧ ∀ S1, Ib ops o S S1 → Jq E ops id o S1 h (B6 (C1 gs S1) o.dst none v) h') := by
  unfold Jq at hx
  obtain ⟨g, hk, tg⟩ := S5 hx
  have anchor : Cd E o = false → (Aw E id o none S h fun a b => a = S' ∧ b = h') → (∀ S1 h1 S2 h2, (Aw E id o none S1 h1 fun a b => a = S2 ∧ b = h2) → Jy E id o g S1 h1 fun a b => a = S2 ∧ b = h2) →
      (Cd E o = false ∧ ∃ gs v, S' = B6 (C1 gs S) o.dst none v ∧ Frm (wroteIds E id S o) gs h h' ∧ (∀ g, g ∈ gs → g ∈ Nu E id S o) ∧ ∀ S1, Ib ops o S S1 → Jq E ops id o S1 h (B6 (C1 gs S1) o.dst none v) h') := by
    intro hv hk hr
    obtain ⟨gs, v, h2, ⟨e1, e2⟩, f1, fk, t1⟩ := B02 hv hk
    subst e2
    refine ⟨hv, gs, v, e1.symm, f1, fk, fun S1 ha => ?_⟩
    unfold Jq
    rw [← J0 ha]
    exact tg _ (hr _ _ _ _ (t1 S1 _ ha.oag ⟨rfl, rfl⟩))
  have value : ∀ g', Cd E o = true → (Aw E id o g' S h fun a b => a = S' ∧ b = h') → (∀ S1 h1 S2 h2, (Aw E id o g' S1 h1 fun a b => a = S2 ∧ b = h2) → Jy E id o g S1 h1 fun a b => a = S2 ∧ b = h2) →
      (∃ c v, S' = B6 S o.dst c v ∧ h' = h ∧ ∀ S1 h1, Ib ops o S S1 → HAg (readIds S o) h h1 → Jq E ops id o S1 h1 (B6 S1 o.dst c v) h1) := by
    intro g' hv hk hr
    obtain ⟨v, ⟨e1, e2⟩, t1⟩ := Rg hv hk
    refine ⟨g', v, e1.symm, e2.symm, fun S1 h1 ha hh => ?_⟩
    unfold Jq
    rw [← J0 ha]
    exact tg _ (hr _ _ _ _ (t1 S1 h1 _ ha.oag hh ⟨rfl, rfl⟩))
  by_cases hv : Cd E o = true
  · cases g with
    | none => exact .inl (value none hv hk fun _ _ _ _ h => h)
    | some b =>
      cases hvo : N5 S o with
      | true =>
        have e : ∀ S1 h K, N5 S1 o = true → Jy E id o (some b) S1 h K = ((b = true → False) ∧ K (B6 S1 o.dst (some false) .undef) h) := by intro S h K hvo; unfold Jy; rw [hv]; simp only [hvo]
        rw [e _ _ _ hvo] at hk
        obtain ⟨hb, e1, e2⟩ := hk
        refine .inl ⟨some false, .undef, e1.symm, e2.symm, fun S1 h1 ha hh => ?_⟩
        unfold Jq
        rw [← J0 ha]
        exact tg _ (by rw [e _ _ _ ((A4j ha.oag).trans hvo)]; exact ⟨hb, rfl, rfl⟩)
      | false =>
        have e : ∀ S1 h K, N5 S1 o = false → Jy E id o (some b) S1 h K = Aw E id o (some b) S1 h K := by intro S h K hvo; unfold Jy; rw [hv]; simp only [hvo]
        rw [e _ _ _ hvo] at hk
        obtain ⟨v, ⟨e1, e2⟩, t1⟩ := Rg hv hk
        refine .inl ⟨some b, v, e1.symm, e2.symm, fun S1 h1 ha hh => ?_⟩
        unfold Jq
        rw [← J0 ha]
        exact tg _ (by rw [e _ _ _ ((A4j ha.oag).trans hvo)]; exact t1 S1 h1 _ ha.oag hh ⟨rfl, rfl⟩)
  · have hv : Cd E o = false := by simpa using hv
    cases g with
    | none => exact .inr (anchor hv hk fun _ _ _ _ h => h)
    | some b =>
      have e : ∀ S h K, Jy E id o (some b) S h K = ((b = true → Aw E id o none S h K) ∧ (b = false → K (B6 S o.dst (some false) .undef) h)) := by intro S h K; unfold Jy; rw [hv]
      rw [e] at hk
      cases b with
      | true => exact .inr (anchor hv (hk.1 rfl) fun _ _ _ _ h => by rw [e]; exact ⟨fun _ => h, by simp⟩)
      | false =>
        obtain ⟨e1, e2⟩ := hk.2 rfl
        refine .inl ⟨some false, .undef, e1.symm, e2.symm, fun S1 h1 ha hh => ?_⟩
        unfold Jq
        rw [← J0 ha]
        exact tg _ (by rw [e]; exact ⟨by simp, fun _ => ⟨rfl, rfl⟩⟩)
end
end Go.GH


set_option linter.unusedVariables false
set_option linter.unusedSimpArgs false
namespace Go.GH
open Go
abbrev Vv := Nat × Oper × (List Nat × List Nat)
inductive Vu (E : Env) (ops : List Oper) (b : Nat) : List Vv → Af → Ah → Af → Ah → Prop
  | nil {S : Af} {h : Ah} : Vu E ops b [] S h S h
  | cons {i : Nat} {o : Oper} {r : List Vv} {S : Af} {h : Ah} {S1 : Af} {h1 : Ah} {S2 : Af} {h2 : Ah} (hx : Jq E ops (b + 16 * i) o S h S1 h1) (hr : Vu E ops b r S1 h1 S2 h2) : Vu E ops b ((i, o, Dp E ops (b + 16 * i) o S S1) :: r) S h S2 h2
section
variable {P : Program} {E : Env} {x : Ctx} {w w' : World} {h : Ah} {n n' : Nat → Prop} {ρ : Option Nat → Aj} {id : Nat} {S : Af}
theorem C25 {ops : List Oper} {o : Oper} {K : Af → Ah → Prop} (hk : Lk S ops o fun g => Jy E id o g S h K) : ∃ S' h', K S' h' ∧ Jq E ops id o S h S' h' := by
  obtain ⟨g, hk, tg⟩ := S5 hk
  have anchor : Cd E o = false → Aw E id o none S h K → ∃ S' h', K S' h' ∧ Aw E id o none S h fun a b => a = S' ∧ b = h' := by
    intro hv hk
    obtain ⟨gs, v, h2, hk, f1, t1⟩ := Tb hv hk
    exact ⟨_, _, hk, t1 S (fun a b => a = _ ∧ b = _) (fun _ _ => rfl) ⟨rfl, rfl⟩⟩
  have value : ∀ g', Cd E o = true → Aw E id o g' S h K → ∃ S' h', K S' h' ∧ Aw E id o g' S h fun a b => a = S' ∧ b = h' := by
    intro g' hv hk
    obtain ⟨v, hk, t1⟩ := Rg hv hk
    exact ⟨_, _, hk, t1 S h (fun a b => a = _ ∧ b = _) (fun _ _ => rfl) (fun _ _ => rfl) ⟨rfl, rfl⟩⟩
  by_cases hv : Cd E o = true
  · cases g with
    | none =>
      obtain ⟨S', h', hk, hx⟩ := value none hv hk
      exact ⟨S', h', hk, tg _ hx⟩
    | some b =>
      cases hvo : N5 S o with
      | true =>
        have e : ∀ K, Jy E id o (some b) S h K = ((b = true → False) ∧ K (B6 S o.dst (some false) .undef) h) := by intro K; unfold Jy; rw [hv]; simp only [hvo]
        rw [e] at hk
        exact ⟨_, _, hk.2, tg _ (by rw [e]; exact ⟨hk.1, rfl, rfl⟩)⟩
      | false =>
        have e : ∀ K, Jy E id o (some b) S h K = Aw E id o (some b) S h K := by intro K; unfold Jy; rw [hv]; simp only [hvo]
        rw [e] at hk
        obtain ⟨S', h', hk, hx⟩ := value (some b) hv hk
        exact ⟨S', h', hk, tg _ (by rw [e]; exact hx)⟩
  · have hv : Cd E o = false := by simpa using hv
    cases g with
    | none =>
      obtain ⟨S', h', hk, hx⟩ := anchor hv hk
      exact ⟨S', h', hk, tg _ hx⟩
    | some b =>
      have e : ∀ K, Jy E id o (some b) S h K = ((b = true → Aw E id o none S h K) ∧ (b = false → K (B6 S o.dst (some false) .undef) h)) := by intro K; unfold Jy; rw [hv]
      rw [e] at hk
      cases b with
      | true =>
        obtain ⟨S', h', hk, hx⟩ := anchor hv (hk.1 rfl)
        exact ⟨S', h', hk, tg _ (by rw [e]; exact ⟨fun _ => hx, by simp⟩)⟩
      | false => exact ⟨_, _, hk.2 rfl, tg _ (by rw [e]; exact ⟨by simp, fun _ => ⟨rfl, rfl⟩⟩)⟩
theorem B3l {ops : List Oper} {b : Nat} : ∀ (r : List Oper) (k : Nat) (S : Af) (h : Ah) (t : C11) (K : Af → Ah → C11 → Prop), B1m E ops r (b + 16 * k) S h t K →
    ∃ l Sn hn, Vu E ops b l S h Sn hn ∧ K Sn hn ((l.map (·.2.2)).reverse ++ t) ∧ l.map (fun q => (q.2.1, q.1)) = r.zipIdx k
  | [], k, S, h, t, K, hk => ⟨[], S, h, .nil, hk, rfl⟩
  | o :: r, k, S, h, t, K, hk => by
    obtain ⟨S1, h1, hk, hx⟩ := C25 hk
    have e : b + 16 * k + 16 = b + 16 * (k + 1) := by omega
    rw [e] at hk
    obtain ⟨l, Sn, hn, hc, hk, hl⟩ := B3l r (k + 1) S1 h1 _ K hk
    refine ⟨(k, o, Dp E ops (b + 16 * k) o S S1) :: l, Sn, hn, .cons hx hc, ?_, ?_⟩
    · simpa using hk
    · simp [hl]
theorem Z7.mono {ops : Array Oper} {o : Oper} {a : Act} {Q : Exit → Act → World → Prop} {R R' : Act → World → Prop} (h : Z7 P ops o a w Q R) (hr : ∀ a w, R a w → R' a w) : Z7 P ops o a w Q R' := by
  unfold Z7 at h ⊢
  split
  · rename_i hw
    rw [if_pos hw] at h
    exact h.imp (Oper.wp_mono hr) (fun h => h)
  · rename_i hw
    rw [if_neg hw] at h
    exact hr _ _ h
theorem C26 {n : Nat → Prop} {b k : Nat} (h : ∀ g, n g → g < b + 16 * k) : ∀ g, Ke n (b + 16 * k) g → g < b + 16 * (k + 1) := by
  rintro g (hg | ⟨h1, h2⟩)
  · have := h g hg; omega
  · omega
theorem B4r {n : Nat → Prop} {id : Nat} (h : ∀ g, n g → g < id) : Qs n id := fun g h1 _ hn => by have := h g hn; omega
theorem A4q (hT : TOk P E) (hF : FE P E x) {N : Nat} {ops : List Oper} {b : Nat} {Q : Exit → Act → World → Prop} (hd : ∀ o, o ∈ ops → ∀ k, o.dst = some k → k < N) : ∀ (r : List Oper) (k : Nat) {l : List Vv} {S : Af} {h : Ah} {Sn : Af} {hn : Ah} {n : Nat → Prop} {a : Act} {w : World},
    (∀ o, o ∈ r → o ∈ ops) → Vu E ops b l S h Sn hn → l.map (fun q => (q.2.1, q.1)) = r.zipIdx k → Sts x N S h n a w → (∀ g, n g → g < b + 16 * k) → (∀ a w n', (∀ g, n' g → g < b + 16 * (k + r.length)) → Sts x N Sn hn n' a w → Q .normal a w) →
    wpList P ops.toArray Q r a w
  | [], k, l, S, h, Sn, hn, n, a, w, hm, hc, hl, hst, hlt, hQ => by
    have : l = [] := by simpa using hl
    subst this
    cases hc
    exact hQ a w n (by simpa using hlt) hst
  | o :: r, k, l, S, h, Sn, hn, n, a, w, hm, hc, hl, hst, hlt, hQ => by
    cases hc with
    | nil => simp at hl
    | cons hx hr =>
      simp only [List.map_cons, List.zipIdx_cons, List.cons.injEq, Prod.mk.injEq] at hl
      obtain ⟨⟨rfl, rfl⟩, hl⟩ := hl
      have hs := A4y hT hF hx hst ⟨_, hlt⟩ (B4r hlt) (hd _ (hm _ (by simp))) Q
      have := hs.mono (R' := wpList P ops.toArray Q r) fun a' w' h' => A4q hT hF hd r _ (fun o ho => hm o (by simp [ho])) hr hl h' (C26 hlt) fun a w n' hn' hs' => hQ a w n' (fun g hg => by have := hn' g hg; simp only [List.length_cons]; omega) hs'
      exact this
def SEq (S S' : Af) : Prop := ∀ d, A4 S' d = A4 S d
theorem SEq.agree {ops : List Oper} {o : Oper} {S S' : Af} (h : SEq S S') : Ib ops o S S' := fun d _ => h d
theorem Dz {S : Af} {dst : Option Nat} {c : Option Bool} {v : AV} {d : Nat} : A4 (B6 S dst c v) d = if dst = some d then some ⟨c, v⟩ else A4 S d := by
  cases dst with
  | none => simp [B6]
  | some k => simp [B6, Aa]
def vs1 (g : Nat) (s : A5u) : A5u := match Jt g s.v with
  | true => ⟨s.c, .undef⟩
  | false => s
theorem Vg (g d : Nat) : ∀ (S : Af), A4 (voids g S) d = (A4 S d).map (vs1 g)
  | [] => rfl
  | (k, s) :: S => by
    have ih := Vg g d S
    simp only [voids]
    cases hv : Jt g s.v <;> simp only <;> rw [Aa, Aa, ih] <;> split <;> simp [vs1, hv]
def vsL : List Nat → A5u → A5u
  | [], s => s
  | g :: gs, s => vsL gs (vs1 g s)
theorem Ew (d : Nat) : ∀ (gs : List Nat) (S : Af), A4 (C1 gs S) d = (A4 S d).map (vsL gs)
  | [], S => by simp only [C1]; cases A4 S d <;> rfl
  | g :: gs, S => by
    simp only [C1]
    rw [Ew d gs, Vg]
    cases A4 S d <;> rfl
theorem B8g (g : Nat) (c : Option Bool) : vs1 g ⟨c, .undef⟩ = ⟨c, .undef⟩ := rfl
theorem A8q (c : Option Bool) : ∀ gs, vsL gs ⟨c, .undef⟩ = ⟨c, .undef⟩
  | [] => rfl
  | g :: gs => by simp only [vsL, B8g, A8q c gs]
theorem Ll {g : Nat} {v : AV} (h : Gm g v = true) : g ∈ v.ids1 ∨ v.nest = true := by
  cases v with
  | view g' p o l =>
    cases p with
    | nil => simp [Gm] at h
    | cons a p => have : g' = g := Nat.eq_of_beq_eq_true h; subst this; simp [AV.ids1]
  | ptr g' p i f =>
    cases p with
    | nil => simp [Gm] at h
    | cons a p => have : g' = g := Nat.eq_of_beq_eq_true h; subst this; simp [AV.ids1]
  | agg cs => exact .inr rfl
  | tup cs => exact .inr rfl
  | fn f cs => exact .inr rfl
  | _ => simp [Gm] at h
theorem Rl {g : Nat} : ∀ {cs : List AV}, Re g cs = true → g ∈ Fg cs ∨ Wz cs = true
  | [], h => by cases h
  | c :: cs, h => by
    simp only [Re] at h
    simp only [Fg, Wz, List.mem_append, Bool.or_eq_true]
    cases hl : Gm g c <;> rw [hl] at h <;> simp only at h
    · rcases Rl h with h | h
      · exact .inl (.inr h)
      · exact .inr (.inr h)
    · rcases Ll hl with h | h
      · exact .inl (.inl h)
      · exact .inr (.inl h)
theorem B0h {g : Nat} {c : AV} {cs : List AV} (h : Lx g (c :: cs) = true) : (g ∈ c.ids ∨ Lj [c] = true) ∨ Lx g cs = true := by
  have gen : ∀ b : Bool, (match b with | true => true | false => Lx g cs) = true → b = true ∨ Lx g cs = true := by intro b; cases b <;> simp
  cases c with
  | agg d =>
    rcases gen (Re g d) h with h | h
    · refine .inl ((Rl h).imp (fun h => h) fun h => ?_)
      simp [Lj, h]
    · exact .inr h
  | view g' p o l =>
    rcases gen (Gm g (.view g' p o l)) h with h | h
    · exact .inl ((Ll h).imp Tn fun h => by cases h)
    · exact .inr h
  | ptr g' p i f =>
    rcases gen (Gm g (.ptr g' p i f)) h with h | h
    · exact .inl ((Ll h).imp Tn fun h => by cases h)
    · exact .inr h
  | tup d => exact .inl (.inr (by simp [Lj, AV.nest]))
  | fn f d => exact .inl (.inr (by simp [Lj, AV.nest]))
  | _ => exact .inr h
theorem B18 {c : AV} {cs : List AV} : Lj (c :: cs) = (Lj [c] || Lj cs) := by simp [Lj]
theorem Zx {g : Nat} : ∀ {cs : List AV}, Lx g cs = true → g ∈ Kx cs ∨ Lj cs = true
  | [], h => by cases h
  | c :: cs, h => by
    simp only [Kx, List.mem_append]
    rw [B18, Bool.or_eq_true]
    rcases B0h h with (h | h) | h
    · exact .inl (.inl h)
    · exact .inr (.inl h)
    · rcases Zx h with h | h
      · exact .inl (.inr h)
      · exact .inr (.inr h)
theorem B3o {g : Nat} {v : AV} (h : Jt g v = true) : g ∈ v.ids2 ∨ v.deepNest = true := by
  cases v with
  | agg cs => exact Rl h
  | fn f cs =>
    rcases Rl (cs := cs) h with h | h
    · exact .inl (Rh h)
    · exact .inr h
  | tup cs => exact Zx h
  | view g' p o l =>
    rcases Ll (v := .view g' p o l) h with h | h
    · exact .inl h
    · cases h
  | ptr g' p o l =>
    rcases Ll (v := .ptr g' p o l) h with h | h
    · exact .inl h
    · cases h
  | _ => simp [Jt, Gm] at h
theorem V0 {v : AV} {i : Nat} (h : i ∈ v.idsU) (h2 : i = 1000000007 ∨ Jt i v = true) : i ∈ v.keepU := by
  refine List.mem_filter.2 ⟨h, ?_⟩
  rcases h2 with rfl | h2
  · simp
  · simp [h2]
theorem B7y {v : AV} {i : Nat} (h : i ∈ v.keepU) : i ∈ v.idsU := (List.mem_filter.1 h).1
theorem B6v {c : Option Bool} {v : AV} : ∀ {gs : List Nat}, (∀ g, g ∈ gs → g ∉ v.keepU) → 1000000007 ∉ v.keepU → vsL gs ⟨c, v⟩ = ⟨c, v⟩
  | [], _, _ => rfl
  | g :: gs, h, hm0 => by
    have hm : 1000000007 ∉ v.idsU := fun hh => hm0 (V0 hh (.inl rfl))
    have hu : v ≠ .undef := by rintro rfl; exact hm (by simp [AV.idsU])
    have hn : v.deepNest = false := by
      cases hd : v.deepNest with
      | false => rfl
      | true =>
        exfalso; apply hm
        unfold AV.idsU
        split
        · exact absurd rfl hu
        · rw [hd]; simp
    have hid : v.idsU = v.ids2 := by
      unfold AV.idsU
      split
      · exact absurd rfl hu
      · rw [hn]
    have hg : Jt g v = false := by
      cases hd : Jt g v with
      | false => rfl
      | true =>
        rcases B3o hd with h1 | h1
        · exact absurd (V0 (hid ▸ h1) (.inr hd)) (h g (by simp))
        · rw [hn] at h1; cases h1
    simp only [vsL, vs1, hg]
    exact B6v (fun g hg => h g (by simp [hg])) hm0
theorem Z0 : ∀ (gs : List Nat) (s : A5u), vsL gs s = s ∨ vsL gs s = ⟨s.c, .undef⟩
  | [], s => .inl rfl
  | g :: gs, s => by
    simp only [vsL]
    unfold vs1
    cases Jt g s.v <;> simp only
    · exact Z0 gs s
    · exact .inr (A8q _ gs)
end
end Go.GH


set_option linter.unusedVariables false
set_option linter.unusedSimpArgs false
namespace Go.GH
open Go
structure Hw (a : Nat) (o : Option AV) (h h2 : Ah) : Prop where
  eq : ∀ g, g ≠ a → A4 h2 g = A4 h g
  at_ : A4 h2 a = o
section
variable {P : Program} {E : Env} {x : Ctx} {w w' : World} {h h2 : Ah} {n n' : Nat → Prop} {ρ : Option Nat → Aj} {id : Nat} {S : Af} {gd : Option Bool} {a : Nat} {o : Option AV}
theorem Hw.hget (he : Hw a o h h2) {g : Nat} (hg : g ≠ a) (p : Bo) : hget h2 g p = hget h g p := by
  unfold Go.GH.hget; rw [he.eq g hg]
theorem Hw.remove (he : Hw a o h h2) {g : Nat} (hg : g ≠ a) : Hw a o (remove h g) (remove h2 g) :=
  ⟨fun e hh => by rw [Hp, Hp, he.eq e hh], by rw [Hp, if_neg hg, he.at_]⟩
theorem Hw.hput (he : Hw a o h h2) {g : Nat} (hg : g ≠ a) (p : Bo) (y : AV) : Hw a o (hput h g p y) (hput h2 g p y) := by
  cases hl : A4 h g with
  | none =>
    have h1 : Go.GH.hput h g p y = h := by unfold Go.GH.hput; rw [hl]
    have h3 : Go.GH.hput h2 g p y = h2 := by unfold Go.GH.hput; rw [he.eq g hg, hl]
    rw [h1, h3]; exact he
  | some r =>
    have hl2 : A4 h2 g = some r := by rw [he.eq g hg, hl]
    exact ⟨fun e hh => by rw [Em hl, Em hl2, he.eq e hh], by rw [Em hl2, if_neg hg, he.at_]⟩
theorem Hw.update (he : Hw a o h h2) {g : Nat} (hg : g ≠ a) (y : AV) : Hw a o (update h g y) (update h2 g y) :=
  ⟨fun e hh => by rw [Ks, Ks, he.eq e hh], by rw [Ks, if_neg hg, he.at_]⟩
theorem Hw.cons (he : Hw a o h h2) {g : Nat} (hg : g ≠ a) (y : AV) : Hw a o ((g, y) :: h) ((g, y) :: h2) :=
  ⟨fun e hh => by rw [Aa, Aa, he.eq e hh], by rw [Aa, if_neg hg, he.at_]⟩
theorem Hw.app (he : Hw a o h h2) {os : Ah} (ho : A4 os a = none) : Hw a o (os ++ h) (os ++ h2) :=
  ⟨fun e hh => by rw [B9, B9, he.eq e hh], by rw [B9, ho, he.at_]⟩
theorem Kv (he : Hw a o h h2) {g : Nat} {p : Bo} {K K' : Nat → List (List AV) → Prop} (hg : g ≠ a) (hk : arr h g p K) (hK : ∀ s xs, hget h g p = some (.own s xs) → K s xs → K' s xs) : arr h2 g p K' := by
  obtain ⟨s, xs, h1, h3⟩ := Br hk
  exact Hx (by rw [he.hget hg]; exact h1) (hK s xs h1 h3)
theorem B4a (he : Hw a o h h2) {g : Nat} {p : Bo} {K K' : Af → Ah → Prop} (hg : g ≠ a) (hk : Sz S h g p K) (hK : ∀ S' h' h2', Hw a o h' h2' → K S' h' → K' S' h2') : Sz S h2 g p K' := by
  cases p with
  | nil => exact hK _ _ _ (he.remove hg) hk
  | cons q p => exact hK _ _ _ (he.hput hg _ _) hk
theorem B0a (he : Hw a o h h2) {t : Option Nat} {v : AV} {K K' : AV → Af → Ah → Prop} (hv : a ∉ v.ids1) (hk : E7 S h t v K) (hK : ∀ c S' h' h2', Hw a o h' h2' → K c S' h' → K' c S' h2') : E7 S h2 t v K' := by
  cases v <;> simp only [E7] at hk ⊢ <;> first
    | exact hK _ _ _ _ he hk
    | (cases t with
       | none => exact hk.elim
       | some s => exact hK _ _ _ _ he hk)
    | skip
  rename_i g p off len
  have hg : g ≠ a := fun e => hv (by simp [AV.ids1, e])
  exact Kv he hg hk fun s xs _ hk => B4a he hg hk fun S' h' h2' he' hk => hK _ _ _ _ he' hk
theorem Jl : ∀ {ts : List (Option Nat)} {vs : List AV} {S : Af} {h h2 : Ah} {K K' : List AV → Af → Ah → Prop}, Hw a o h h2 → a ∉ Fg vs → By S h ts vs K → (∀ cs S' h' h2', Hw a o h' h2' → K cs S' h' → K' cs S' h2') → By S h2 ts vs K'
  | [], [], S, h, h2, K, K', he, hv, hk, hK => hK _ _ _ _ he hk
  | [], _ :: _, S, h, h2, K, K', he, hv, hk, hK => hk.elim
  | _ :: _, [], S, h, h2, K, K', he, hv, hk, hK => hk.elim
  | t :: ts, v :: vs, S, h, h2, K, K', he, hv, hk, hK => by
    simp only [Fg, List.mem_append, not_or] at hv
    exact B0a he hv.1 hk fun c S' h' h2' he' hk => Jl he' hv.2 hk fun cs S' h' h2' he'' hk => hK _ _ _ _ he'' hk
theorem Xc {ts : List (Option Nat)} : ∀ {vs : List AV} {S : Af} {h h2 : Ah} {K K' : List (List AV) → Af → Ah → Prop}, Hw a o h h2 → a ∉ F3 vs → Iw S h ts vs K → (∀ cs S' h' h2', Hw a o h' h2' → K cs S' h' → K' cs S' h2') → Iw S h2 ts vs K'
  | [], S, h, h2, K, K', he, hv, hk, hK => hK _ _ _ _ he hk
  | v :: vs, S, h, h2, K, K', he, hv, hk, hK => by
    simp only [F3, List.mem_append, not_or] at hv
    exact Jl he (fun hh => hv.1 (Iq _ hh)) hk fun c S' h' h2' he' hk => Xc he' hv.2 hk fun cs S' h' h2' he'' hk => hK _ _ _ _ he'' hk
theorem B4w (he : Hw a o h h2) {keep : Bool} {sz : Nat} {v : AV} {K K' : List (List AV) → Af → Ah → Prop} (hv : a ∉ v.ids) (hk : Jk S h keep sz v K) (hK : ∀ c S' h' h2', Hw a o h' h2' → K c S' h' → K' c S' h2') : Jk S h2 keep sz v K' := by
  cases v <;> simp only [Jk] at hk ⊢ <;> first
    | exact hk.elim
    | exact hK _ _ _ _ he hk
    | (obtain ⟨e, hk⟩ := C6 hk; exact Ir e (hK _ _ _ _ he hk))
    | skip
  rename_i g p off len
  have hg : g ≠ a := fun e => hv (by simp [AV.ids, AV.ids1, e])
  refine Kv he hg hk fun s xs _ hk => ?_
  obtain ⟨e, hk⟩ := C6 hk
  refine Ir e ?_
  cases keep with
  | true => exact ⟨hk.1, hK _ _ _ _ he hk.2⟩
  | false => exact B4a he hg hk fun S' h' h2' he' hk => hK _ _ _ _ he' hk
theorem B68 (he : Hw a o h h2) (hid : id ≠ a) {ty : Ty} {d : Option Nat} {y z : AV} {K K' : Af → Ah → Prop} (hy : a ∉ y.ids) (hz : a ∉ z.ids) (hk : Je ty S h id d y z K) (hK : ∀ S' h' h2', Hw a o h' h2' → K S' h' → K' S' h2') : Je ty S h2 id d y z K' := by
  unfold Je at hk ⊢
  cases hr : R7 y <;> rw [hr] at hk <;> simp only at hk ⊢
  exact B4w he hz hk fun ys S' h' h2' he' hk => B4w he' hy hk fun xs S' h' h2' he'' hk => ⟨hk.1, hK _ _ _ (he''.cons hid _) hk.2⟩
theorem B87 (he : Hw a o h h2) {ty : Ty} {y z : AV} {K K' : Af → Ah → Prop} (hy : a ∉ y.ids) (hz : a ∉ z.ids) (hk : storeAt ty S h y z K) (hK : ∀ S' h' h2', Hw a o h' h2' → K S' h' → K' S' h2') : storeAt ty S h2 y z K' := by
  cases y <;> try exact hk.elim
  · rename_i g p i f
    have hg : g ≠ a := fun e => hy (by simp [AV.ids, AV.ids1, e])
    unfold storeAt at hk ⊢
    simp only at hk ⊢
    cases hs : ty.k.scalar <;> rw [hs] at hk <;> simp only at hk ⊢
    · exact Jl he (fun hh => hz (Iq _ hh)) hk fun cs S' h' h2' he' hk => Kv he' hg hk fun s xs _ hk => by
        obtain ⟨e, hk⟩ := Bf hk
        obtain ⟨r, e2, hk⟩ := hk
        exact Et e ⟨r, e2, hK _ _ _ (he'.hput hg _ _) hk⟩
    · cases hx : z.scalar <;> rw [hx] at hk <;> simp only at hk ⊢
      exact Kv he hg hk fun s xs _ hk => by
        obtain ⟨e, hk⟩ := Bf hk
        obtain ⟨r, e2, hk⟩ := hk
        refine Et e ⟨r, e2, ?_⟩
        cases hc : (cell r f).scalar <;> rw [hc] at hk <;> simp only at hk ⊢
        exact hK _ _ _ (he.hput hg _ _) hk
  · rename_i g f
    have hg : g ≠ a := fun e => hy (by simp [AV.ids, AV.ids1, e])
    unfold storeAt at hk ⊢
    simp only at hk ⊢
    cases hs : ty.k.scalar <;> rw [hs] at hk <;> simp only at hk ⊢
    · exact Jl he (fun hh => hz (Iq _ hh)) hk fun cs S' h' h2' he' hk => Kv he' hg hk fun s xs _ hk => by
        match xs, hk with
        | [], hk => exact hk.elim
        | [r], hk =>
          obtain ⟨e, hk⟩ := Bf hk
          exact Et e (hK _ _ _ (he'.update hg _) hk)
        | _ :: _ :: _, hk => exact hk.elim
    · cases hx : z.scalar <;> rw [hx] at hk <;> simp only at hk ⊢
      exact Kv he hg hk fun s xs _ hk => by
        match xs, hk with
        | [], hk => exact hk.elim
        | [r], hk =>
          obtain ⟨e, hk⟩ := Bf hk
          refine Et e ?_
          cases hc : (cell r f).scalar <;> rw [hc] at hk <;> simp only at hk ⊢
          exact hK _ _ _ (he.update hg _) hk
        | _ :: _ :: _, hk => exact hk.elim
theorem Ng {sh : Bool} : ∀ {ms : List Lf} {vs : List AV} {S : Af} {h h2 : Ah} {K K' : List AV → List (Nat × Bo) → List Nat → List Nat → Af → Ah → Prop}, Hw a o h h2 → a ∉ F3 vs → Dh sh S h ms vs K →
    (∀ as qs rs ws S' h' h2', Hw a o h' h2' → (∀ q, q ∈ qs → q.1 ≠ a) → K as qs rs ws S' h' → K' as qs rs ws S' h2') → Dh sh S h2 ms vs K'
  | [], [], S, h, h2, K, K', he, hv, hk, hK => hK _ _ _ _ _ _ _ he (by simp) hk
  | [], v :: vs, S, h, h2, K, K', he, hv, hk, hK => hk.elim
  | m :: ms, [], S, h, h2, K, K', he, hv, hk, hK => by cases m <;> exact hk.elim
  | .rd ts :: ms, v :: vs, S, h, h2, K, K', he, hv, hk, hK => by
    simp only [F3, List.mem_append, not_or] at hv
    exact Ng (ms := ms) (vs := vs) he hv.2 hk fun as qs rs ws S' h' h2' he' hq hk => by
      rw [Su (n := fun g => g ≠ a) (h := h') (h2 := h2') he'.eq fun g hg e => hv.1 (e ▸ hg)] at hk
      exact hK _ _ _ _ _ _ _ he' hq hk
  | .co ts :: ms, v :: vs, S, h, h2, K, K', he, hv, hk, hK => by
    simp only [F3, List.mem_append, not_or] at hv
    exact Jl he (fun hh => hv.1 (Iq _ hh)) hk fun cs S1 h1 h12 he1 hk => Ng (ms := ms) (vs := vs) he1 hv.2 hk fun as qs rs ws S' h' h2' he' hq hk => hK _ _ _ _ _ _ _ he' hq hk
  | .mv :: ms, v :: vs, S, h, h2, K, K', he, hv, hk, hK => by
    simp only [F3, List.mem_append, not_or] at hv
    cases v <;> try exact hk.elim
    · rename_i g p off len
      have hg : g ≠ a := fun e => hv.1 (by simp [AV.ids, AV.ids1, e])
      exact Ng (ms := ms) (vs := vs) he hv.2 hk fun as qs rs ws S' h' h2' he' hq hk => Kv he' hg hk fun s xs _ hk => ⟨hk.1, hk.2.1, hK _ _ _ _ _ _ _ he' (by intro q hm; rcases List.mem_cons.1 hm with rfl | hm; exact hg; exact hq q hm) hk.2.2⟩
    · rename_i s g n
      have hg : g ≠ a := fun e => hv.1 (by simp [AV.ids, AV.ids1, e])
      exact Ng (ms := ms) (vs := vs) he hv.2 hk fun as qs rs ws S' h' h2' he' hq hk => Kv he' hg hk fun s xs _ hk => ⟨hk.1, hk.2.1, hK _ _ _ _ _ _ _ he' (by intro q hm; rcases List.mem_cons.1 hm with rfl | hm; exact hg; exact hq q hm) hk.2.2⟩
  | .mp :: ms, v :: vs, S, h, h2, K, K', he, hv, hk, hK => by
    simp only [F3, List.mem_append, not_or] at hv
    cases v <;> try exact hk.elim
    rename_i g f
    have hg : g ≠ a := fun e => hv.1 (by simp [AV.ids, AV.ids1, e])
    cases f with
    | succ f => exact hk.elim
    | zero =>
      exact Ng (ms := ms) (vs := vs) he hv.2 hk fun as qs rs ws S' h' h2' he' hq hk => Kv he' hg hk fun s xs _ hk => by
        match xs, hk with
        | [], hk => exact hk.elim
        | [r], hk => exact hK _ _ _ _ _ _ _ he' (by intro q hm; rcases List.mem_cons.1 hm with rfl | hm; exact hg; exact hq q hm) hk
        | _ :: _ :: _, hk => exact hk.elim
  | .ma :: ms, v :: vs, S, h, h2, K, K', he, hv, hk, hK => by
    simp only [F3, List.mem_append, not_or] at hv
    rcases A1t hk with ⟨g, p, off, len, rfl, hk2⟩ | ⟨s0, g, n0, rfl, hk2⟩
    · have hg : g ≠ a := fun e => hv.1 (by simp [AV.ids, Fg, AV.ids1, e])
      exact Ng (ms := ms) (vs := vs) he hv.2 hk2 fun as qs rs ws S' h' h2' he' hq hk => Kv he' hg hk fun s xs _ hk => ⟨hk.1, hk.2.1, hK _ _ _ _ _ _ _ he' (by intro q hm; rcases List.mem_cons.1 hm with rfl | hm; exact hg; exact hq q hm) hk.2.2⟩
    · have hg : g ≠ a := fun e => hv.1 (by simp [AV.ids, Fg, AV.ids1, e])
      exact Ng (ms := ms) (vs := vs) he hv.2 hk2 fun as qs rs ws S' h' h2' he' hq hk => Kv he' hg hk fun s xs _ hk => ⟨hk.1, hk.2.1, hK _ _ _ _ _ _ _ he' (by intro q hm; rcases List.mem_cons.1 hm with rfl | hm; exact hg; exact hq q hm) hk.2.2⟩
theorem B6m (he : Hw a o h h2) : ∀ {qs : List (Nat × Bo)} {ys : List AV} {K K' : Af → Ah → Prop}, (∀ q, q ∈ qs → q.1 ≠ a) → T5 S h qs ys K → (∀ S' h' h2', Hw a o h' h2' → K S' h' → K' S' h2') → T5 S h2 qs ys K'
  | [], [], K, K', hq, hk, hK => hK _ _ _ he hk
  | [], _ :: _, K, K', hq, hk, hK => hk.elim
  | [(g, p)], [], K, K', hq, hk, hK => hk.elim
  | [(g, p)], [y], K, K', hq, hk, hK => hK _ _ _ (he.hput (hq (g, p) (by simp)) _ _) hk
  | [(g, p)], _ :: _ :: _, K, K', hq, hk, hK => hk.elim
  | _ :: _ :: _, ys, K, K', hq, hk, hK => by cases ys <;> exact hk.elim
theorem B83 (he : Hw a o h h2) (hid : a < id ∨ id + 16 ≤ a) {d : Option Nat} {f : Nat} {vs : List AV} {K K' : Af → Ah → Prop} (hv : a ∉ F3 vs) (hk : Oi E S h id d gd f vs K) (hK : ∀ S' h' h2', Hw a o h' h2' → K S' h' → K' S' h2') : Oi E S h2 id d gd f vs K' := by
  unfold Oi at hk ⊢
  cases hE : E.F f with
  | none => rw [hE] at hk; exact hk.elim
  | some c =>
    rw [hE] at hk
    simp only at hk ⊢
    refine Ng he hv hk fun as qs rs ws S' h' h2' he' hq hk => ?_
    obtain ⟨e, hk⟩ := Bf hk
    refine Et e ?_
    cases hm : Pf rs ws <;> rw [hm] at hk <;> simp only at hk ⊢
    obtain ⟨x, e1, e2, hk⟩ := hk
    refine ⟨x, e1, e2, ?_⟩
    obtain ⟨v, os, hk, hn, t⟩ := Rx hk
    refine t _ ?_
    have ho : A4 os a = none := by
      cases hl : A4 os a with
      | none => rfl
      | some r => have := hn a r hl; omega
    cases hsc : c.sc <;> rw [hsc] at hk <;> simp only at hk ⊢
    · exact B6m he' hq hk fun S' h' h2' he' hk => hK _ _ _ (he'.app ho) hk
    · cases hr : Ik c.ms <;> rw [hr] at hk <;> simp only at hk ⊢
      match os, hk with
      | [], hk => exact hK _ _ _ he' hk
      | _ :: _, hk => exact hk.elim
theorem B3g (he : Hw a o h h2) {v : AV} {K K' : List UInt8 → Prop} (hv : a ∉ v.ids) (hk : Lr h v K) (hK : ∀ s, K s → K' s) : Lr h2 v K' := by
  cases v <;> simp only [Lr] at hk ⊢ <;> first
    | exact hk.elim
    | exact hK _ hk
    | (obtain ⟨e, bs, e2, hk⟩ := C6 hk; exact Ir e ⟨bs, e2, hK _ hk⟩)
    | skip
  rename_i g p off len
  have hg : g ≠ a := fun e => hv (by simp [AV.ids, AV.ids1, e])
  refine Kv he hg hk fun s xs _ hk => ?_
  obtain ⟨e, bs, e2, hk⟩ := C6 hk
  exact Ir e ⟨bs, e2, hK _ hk⟩
theorem C2l (he : Hw a o h h2) (hid : id ≠ a) {ts ty : Ty} {v : AV} {dst : Option Nat} {K K' : Af → Ah → Prop} (hv : a ∉ v.ids) (hk : cvt E id ts ty v dst S h K) (hK : ∀ S' h' h2', Hw a o h' h2' → K S' h' → K' S' h2') : cvt E id ts ty v dst S h2 K' := by
  have conv : (∀ (h : Ah) (K : Af → Ah → Prop), cvt E id ts ty v dst S h K = convert ty v fun u => K (B6 S dst none u) h) → cvt E id ts ty v dst S h2 K' := by
    intro e
    rw [e] at hk ⊢
    obtain ⟨u, hk, t2⟩ := Rp hk
    exact t2 _ (hK _ _ _ he hk)
  cases hq : ty.k
  case slice e =>
    unfold cvt at hk ⊢
    rw [hq] at hk ⊢
    cases v <;> simp only at hk ⊢
    obtain ⟨hk, t2⟩ := Uv hk
    exact t2 _ (hK _ _ _ (he.cons hid _) hk)
  case str =>
    by_cases hs : ∃ s, v = .str s
    · obtain ⟨s, rfl⟩ := hs
      unfold cvt at hk ⊢
      rw [hq] at hk ⊢
      exact hK _ _ _ he hk
    · have e : ∀ (h : Ah) (K : Af → Ah → Prop), cvt E id ts ty v dst S h K = (match (generalizing := false) ts.k with
            | .slice e => A86 E e (Lr h v fun s => K (B6 S dst none (.str s)) h)
            | _ => False) := by
        intro h K
        unfold cvt
        rw [hq]
        cases v <;> first | rfl | exact absurd ⟨_, rfl⟩ hs
      rw [e] at hk ⊢
      cases hq2 : ts.k <;> rw [hq2] at hk <;> simp only at hk ⊢
      obtain ⟨hk, t2⟩ := Uv hk
      exact t2 _ (B3g he hv hk fun s hk => hK _ _ _ he hk)
  all_goals exact conv fun h K => by unfold cvt; rw [hq]
theorem K6 {ys : List Operand} : OAg ys S S := fun _ _ => rfl
theorem B6f {op0 : Oper} (hv : Cd E op0 = false) (he : Hw a o h h2) (hid : a < id ∨ id + 16 ≤ a) (ha : a ∉ touched S op0) {K K' : Af → Ah → Prop} (hk : Aw E id op0 none S h K) (hK : ∀ S' h' h2', Hw a o h' h2' → K S' h' → K' S' h2') :
    Aw E id op0 none S h2 K' := by
  have hida : id ≠ a := by omega
  obtain ⟨dst, op, type, pos, after, guard⟩ := op0
  cases op with
  | alloc t =>
    simp only [Aw] at hk ⊢
    obtain ⟨ty, ht, hk⟩ := B3 hk
    exact Cj ht (hK _ _ _ (he.cons hida _) hk)
  | box t y =>
    simp only [Aw] at hk ⊢
    obtain ⟨ty, ht, hk⟩ := B3 hk
    obtain ⟨v, hk, i1, t1⟩ := C7 hk
    have hn : a ∉ v.ids := fun hh => ha (D4 (y := y) (by simp [Op.operands]) (i1 a hh))
    exact Cj ht (t1 S _ K6 (Jl he (fun hh => hn (Iq _ hh)) hk fun cs S' h' h2' he' hk => hK _ _ _ (he'.cons hida _) hk))
  | store t y z =>
    simp only [Aw] at hk ⊢
    obtain ⟨ty, ht, hk⟩ := B3 hk
    obtain ⟨v, hk, i1, t1⟩ := C7 hk
    obtain ⟨u, hk, i2, t2⟩ := C7 hk
    have hn : a ∉ v.ids := fun hh => ha (D4 (y := y) (by simp [Op.operands]) (i1 a hh))
    have hn2 : a ∉ u.ids := fun hh => ha (D4 (y := z) (by simp [Op.operands]) (i2 a hh))
    exact Cj ht (t1 S _ K6 (t2 S _ K6 (B87 he hn hn2 hk fun S' h' h2' he' hk => hK _ _ _ he' hk)))
  | convert s t y =>
    have hk0 : Jx E s fun ts => Jx E t fun ty => val S none y fun v => cvt E id ts ty v dst S h K := hk
    show Jx E s fun ts => Jx E t fun ty => val S none y fun v => cvt E id ts ty v dst S h2 K'
    obtain ⟨ts, hts, hk0⟩ := B3 hk0
    obtain ⟨ty, htt, hk0⟩ := B3 hk0
    obtain ⟨v, hk0, i1, t1⟩ := C7 hk0
    have hn : a ∉ v.ids := fun hh => ha (D4 (y := y) (by simp [Op.operands]) (i1 a hh))
    exact Cj hts (Cj htt (t1 S _ K6 (C2l he hida hn hk0 hK)))
  | buildSlice t m parts =>
    simp only [Aw] at hk ⊢
    obtain ⟨ty, hk, t0⟩ := Fp hk
    obtain ⟨e1, hk⟩ := Bf hk
    obtain ⟨vs, hk, i1, t1⟩ := Gz hk
    have hn : a ∉ F3 vs := fun hh => ha (J3 (ys := parts.toList.map fun q => q.2) (by simp [Op.operands]) (i1 a hh))
    refine t0 _ (Et e1 (t1 S _ K6 (Xc he hn hk fun rows S' h' h2' he' hk => ?_)))
    cases hr : Po 0 (parts.toList.map fun q => q.1) <;> rw [hr] at hk <;> simp only at hk ⊢
    obtain ⟨e2, hk⟩ := C6 hk
    exact Ir e2 (hK _ _ _ (he'.cons hida _) hk)
  | makeSlice t l c =>
    simp only [Aw] at hk ⊢
    obtain ⟨ty, hk, t0⟩ := Fp hk
    obtain ⟨v1, hk, i1, t1⟩ := C7 hk
    obtain ⟨v2, hk, i2, t2⟩ := C7 hk
    cases v1 <;> try exact hk.elim
    cases v2 <;> try exact hk.elim
    obtain ⟨q1, q2, q3, q4, hk⟩ := hk
    exact t0 _ (t1 S _ K6 (t2 S _ K6 ⟨q1, q2, q3, q4, hK _ _ _ (he.cons hida _) hk⟩))
  | call c =>
    cases hc : c.callee with
    | invoke r m => simp only [Aw, hc] at hk
    | builtin b =>
      simp only [Aw, hc] at hk ⊢
      simp only [Cd, hc] at hv
      obtain ⟨vs, hk, i1, t1⟩ := Gz hk
      cases b <;> first
        | (cases hv; done)
        | (rcases vs with _ | ⟨y, _ | ⟨z, _ | ⟨q, r⟩⟩⟩ <;> first
            | (exact hk.elim)
            | (exfalso; cases y <;> (try exact hk.elim) <;> cases z <;> exact hk.elim)
            | skip)
      obtain ⟨e1, hk⟩ := Bf hk
      obtain ⟨ty, hk, t2⟩ := Fp hk
      obtain ⟨ta, hta, hk⟩ := B3 hk
      have hk' : (∀ k, ta.k ≠ .int k) ∧ Je ty S h id dst y z K := by
        cases hq : ta.k <;> rw [hq] at hk <;> first | exact hk.elim | exact ⟨by simp, hk⟩
      obtain ⟨hni, hk⟩ := hk'
      have hn : a ∉ F3 [y, z] := fun hh => ha (J3 (ys := c.args.toList) (by intro z hz; simp [Op.operands, Call.operands]; simp at hz; simp [hz]) (i1 a hh))
      simp only [F3, List.append_nil, List.mem_append, not_or] at hn
      refine t1 S _ K6 (Et e1 (t2 _ (Cj hta ?_)))
      have := B68 he hida hn.1 hn.2 hk hK
      cases hq : ta.k <;> first | exact absurd hq (hni _) | exact this
    | value f =>
      simp only [Aw, hc] at hk ⊢
      obtain ⟨f', caps, hk1, i1, hfn, t1⟩ := A00 hk (by
        intro v hv
        obtain ⟨vs, hv, _⟩ := Gz hv
        cases v <;> first | exact hv.elim | exact ⟨_, _, rfl⟩)
      obtain ⟨vs, hk2, i2, t2⟩ := Gz hk1
      simp only at hk2
      have hn : a ∉ F3 (vs ++ caps) := fun hh => by
        rcases (U4 _ _ _).1 hh with hg | hg
        · exact ha (J3 (ys := c.args.toList) (by intro z hz; simp [Op.operands, Call.operands]; simp at hz; simp [hz]) (i2 a hg))
        · exact ha (D4 (y := f) (by simp [Op.operands, Call.operands, hc]) (i1 a hg))
      exact t1 S _ K6 (t2 S _ K6 (B83 he hid hn hk2 hK))
  | _ =>
    exfalso
    first
      | (simp only [Aw] at hk; done)
      | (simp only [Cd] at hv; cases hv; done)
      | (simp only [Aw] at hk; exact hk)
end
end Go.GH


