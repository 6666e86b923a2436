import Derived.Test.YtpbpaijjpglmlaaGreatGD
set_option linter.unusedVariables false
set_option linter.unusedSimpArgs false
set_option linter.unusedSimpArgs false
namespace Go.GH
open Go
def N2 : AV → AV
  | .own s xs => .rd s (Cl xs)
  | c => c
def Mb : AV → AV
  | .agg cs => .agg (cs.map N2)
  | v => N2 v
def frz : AV → AV
  | .tup vs => .tup (vs.map Mb)
  | v => Mb v
def AV.okC : AV → Bool
  | .own _ _ | .int _ _ | .bool _ | .str _ | .rd _ _ | .undef | .nilI | .someI => true
  | _ => false
def AV.okV : AV → Bool
  | .agg cs => cs.all AV.okC
  | v => v.okC
def AV.okT : AV → Bool
  | .tup vs => vs.all AV.okV
  | v => v.okV
def A6s : AV → Nat
  | .agg cs => Ia cs
  | .own _ _ => 1
  | _ => 0
def A6e : List AV → Nat
  | [] => 0
  | v :: r => A6s v + A6e r
def A7g : AV → Nat
  | .tup vs => A6e vs
  | v => A6s v
inductive Sa (R : AV → AV → Prop) : List AV → List AV → Prop
  | nil : Sa R [] []
  | cons {a b : AV} {l m : List AV} (h : R a b) (t : Sa R l m) : Sa R (a :: l) (b :: m)
theorem Sa.imp {R R' : AV → AV → Prop} {l m : List AV} (h : Sa R l m) (hi : ∀ a b, R a b → R' a b) : Sa R' l m := by
  induction h with
  | nil => exact .nil
  | cons h _ ih => exact .cons (hi _ _ h) ih
def RC (os : Af) (c c' : AV) : Prop := (∃ s xs g, c = .own s xs ∧ c' = .view g [] 0 xs.length ∧ A4 os g = some (.own s xs)) ∨ (c' = c ∧ ∀ s xs, c ≠ .own s xs)
def RV (os : Af) (v v' : AV) : Prop := (∃ cs cs', v = .agg cs ∧ v' = .agg cs' ∧ Sa (RC os) cs cs') ∨ ((∀ cs, v ≠ .agg cs) ∧ RC os v v')
def In (a b : Nat) (os : Af) : Prop := ∀ g r, A4 os g = some r → a ≤ g ∧ g < b
theorem RC.left {os os' : Af} {c c' : AV} (h : RC os c c') : RC (os ++ os') c c' := by
  rcases h with ⟨s, xs, g, e1, e2, hl⟩ | h
  · exact .inl ⟨s, xs, g, e1, e2, by rw [B6, hl]⟩
  · exact .inr h
theorem RC.right {os os' : Af} {c c' : AV} {a b b' : Nat} (h : RC os' c c') (i1 : In a b os) (i2 : In b b' os') : RC (os ++ os') c c' := by
  rcases h with ⟨s, xs, g, e1, e2, hl⟩ | h
  · refine .inl ⟨s, xs, g, e1, e2, ?_⟩
    rw [B6]
    cases hq : A4 os g with
    | none => exact hl
    | some r => have := i1 g r hq; have := i2 g _ hl; omega
  · exact .inr h
theorem RV.left {os os' : Af} {c c' : AV} (h : RV os c c') : RV (os ++ os') c c' := by
  rcases h with ⟨cs, cs', e1, e2, hl⟩ | ⟨h1, h2⟩
  · exact .inl ⟨cs, cs', e1, e2, hl.imp fun _ _ h => h.left⟩
  · exact .inr ⟨h1, h2.left⟩
theorem RV.right {os os' : Af} {c c' : AV} {a b b' : Nat} (h : RV os' c c') (i1 : In a b os) (i2 : In b b' os') : RV (os ++ os') c c' := by
  rcases h with ⟨cs, cs', e1, e2, hl⟩ | ⟨h1, h2⟩
  · exact .inl ⟨cs, cs', e1, e2, hl.imp fun _ _ h => h.right i1 i2⟩
  · exact .inr ⟨h1, h2.right i1 i2⟩
theorem In.app {os os' : Af} {a b b' : Nat} (i1 : In a b os) (i2 : In b b' os') (h1 : a ≤ b) (h2 : b ≤ b') : In a b' (os ++ os') := fun g r hg => by
  rw [B6] at hg
  cases hq : A4 os g with
  | none => rw [hq] at hg; have := i2 g r hg; omega
  | some q => have := i1 g q hq; omega
theorem M6 : ∀ (cs : List AV) (id : Nat), B0 id cs fun cs' os n => n = id + Ia cs ∧ In id n os ∧ Sa (RC os) cs cs'
  | [], id => ⟨rfl, (fun g r h => by cases h), .nil⟩
  | c :: cs, id => by
    by_cases hc : ∃ s xs, c = .own s xs
    · obtain ⟨s, xs, rfl⟩ := hc
      obtain ⟨cs', os, m, ⟨h1, h2, h3⟩, _, t⟩ := Cb (M6 cs (id + 1))
      simp only [B0]
      refine t (fun cs os n => _) ⟨?_, ?_, ?_⟩
      · simp only [Ia]; omega
      · intro g r hg
        rw [A9] at hg
        by_cases e : id = g
        · omega
        · rw [if_neg e] at hg
          have := h2 g r hg
          omega
      · refine .cons (.inl ⟨s, xs, id, rfl, rfl, by rw [A9, if_pos rfl]⟩) (h3.imp fun _ _ h => ?_)
        refine RC.right (os := [(id, .own s xs)]) (a := id) (b := id + 1) h (fun g r hg => ?_) h2
        rw [A9] at hg
        by_cases e : id = g
        · omega
        · rw [if_neg e] at hg; cases hg
    · obtain ⟨cs', os, m, ⟨h1, h2, h3⟩, _, t⟩ := Cb (M6 cs id)
      have e1 : ∀ K, B0 id (c :: cs) K = B0 id cs fun cs os n => K (c :: cs) os n := by
        intro K; cases c <;> first | rfl | exact absurd ⟨_, _, rfl⟩ hc
      have e2 : Ia (c :: cs) = Ia cs := by cases c <;> first | rfl | exact absurd ⟨_, _, rfl⟩ hc
      rw [e1]
      exact t (fun cs os n => _) ⟨by rw [e2]; exact h1, h2, .cons (.inr ⟨rfl, fun s xs e => hc ⟨s, xs, e⟩⟩) h3⟩
theorem N6 : ∀ (vs : List AV) (id : Nat), Br id vs fun vs' os n => n = id + A6e vs ∧ In id n os ∧ Sa (RV os) vs vs'
  | [], id => ⟨rfl, (fun g r h => by cases h), .nil⟩
  | v :: vs, id => by
    by_cases ha : ∃ cs, v = .agg cs
    · obtain ⟨cs, rfl⟩ := ha
      simp only [Br]
      obtain ⟨cs', os, m, ⟨h1, h2, h3⟩, _, t⟩ := Cb (M6 cs id)
      obtain ⟨vs', os', m', ⟨g1, g2, g3⟩, _, t'⟩ := Cp (N6 vs m)
      refine t (fun cs os n => _) ?_
      refine t' (fun cs os n => _) ?_
      refine ⟨?_, h2.app g2 (by omega) (by omega), .cons (.inl ⟨_, _, rfl, rfl, h3.imp fun _ _ h => h.left⟩) (g3.imp fun _ _ h => h.right h2 g2)⟩
      simp only [A6e, A6s]; omega
    · by_cases ho : ∃ s xs, v = .own s xs
      · obtain ⟨s, xs, rfl⟩ := ho
        simp only [Br]
        obtain ⟨vs', os', m', ⟨g1, g2, g3⟩, _, t'⟩ := Cp (N6 vs (id + 1))
        have i1 : In id (id + 1) [(id, AV.own s xs)] := by
          intro g r hg
          rw [A9] at hg
          by_cases e : id = g
          · omega
          · rw [if_neg e] at hg; cases hg
        refine t' (fun cs os n => _) ?_
        refine ⟨?_, i1.app g2 (by omega) (by omega), .cons (.inr ⟨fun cs e => AV.noConfusion e, .inl ⟨s, xs, id, rfl, rfl, ?_⟩⟩) (g3.imp fun _ _ h => h.right i1 g2)⟩
        · simp only [A6e, A6s]; omega
        · rw [B6, A9, if_pos rfl]
      · have e : ∀ K, Br id (v :: vs) K = Br id vs fun vs' os' n' => K (v :: vs') ([] ++ os') n' := by
          intro K
          cases v <;> first | rfl | exact absurd ⟨_, _, rfl⟩ ho | exact absurd ⟨_, rfl⟩ ha
        have e2 : A6s v = 0 := by cases v <;> first | rfl | exact absurd ⟨_, _, rfl⟩ ho | exact absurd ⟨_, rfl⟩ ha
        obtain ⟨vs', os', m', ⟨g1, g2, g3⟩, _, t'⟩ := Cp (N6 vs id)
        rw [e]
        refine t' (fun cs os n => _) ?_
        refine ⟨by simp only [A6e, e2]; omega, g2, .cons (.inr ⟨fun cs e => ha ⟨cs, e⟩, .inr ⟨rfl, fun s xs e => ho ⟨s, xs, e⟩⟩⟩) g3⟩
def RT (os : Af) (v v' : AV) : Prop := (∃ vs vs', v = .tup vs ∧ v' = .tup vs' ∧ Sa (RV os) vs vs') ∨ ((∀ vs, v ≠ .tup vs) ∧ RV os v v')
theorem A0s {id : Nat} {v : AV} (h : A7g v ≤ 16) : Ha id v fun v' os => RT os v v' := by
  by_cases ht : ∃ vs, v = .tup vs
  · obtain ⟨vs, rfl⟩ := ht
    obtain ⟨vs', os', m', ⟨g1, g2, g3⟩, _, t'⟩ := Cp (N6 vs id)
    refine t' (fun vs' os n => leN n (id + 16) (RT os (.tup vs) (.tup vs'))) ?_
    exact E9 (by simp only [A7g] at h; omega) (.inl ⟨_, _, rfl, rfl, g3⟩)
  · by_cases ha : ∃ cs, v = .agg cs
    · obtain ⟨cs, rfl⟩ := ha
      obtain ⟨cs', os, m, ⟨h1, h2, h3⟩, _, t⟩ := Cb (M6 cs id)
      refine t (fun vs' os n => leN n (id + 16) (RT os (.agg cs) (.agg vs'))) ?_
      exact E9 (by simp only [A7g, A6s] at h; omega) (.inr ⟨fun vs e => AV.noConfusion e, .inl ⟨_, _, rfl, rfl, h3⟩⟩)
    · by_cases ho : ∃ s xs, v = .own s xs
      · obtain ⟨s, xs, rfl⟩ := ho
        exact Or.inr ⟨fun vs e => AV.noConfusion e, Or.inr ⟨fun vs e => AV.noConfusion e, Or.inl ⟨s, xs, id, rfl, rfl, by rw [A9, if_pos rfl]⟩⟩⟩
      · have e : ∀ K, Ha id v K = K v [] := by
          intro K
          cases v <;> first | rfl | exact absurd ⟨_, _, rfl⟩ ho | exact absurd ⟨_, rfl⟩ ha | exact absurd ⟨_, rfl⟩ ht
        rw [e]
        exact Or.inr ⟨fun vs e => ht ⟨vs, e⟩, Or.inr ⟨fun cs e => ha ⟨cs, e⟩, .inr ⟨rfl, fun s xs e => ho ⟨s, xs, e⟩⟩⟩⟩
mutual
theorem A7a : ∀ (v : AV), v.free → v.toRd.free
  | .own s xs, h => by simp only [AV.toRd, AV.free] at h ⊢; exact P4 xs h
  | .rd s xs, h => by simp only [AV.toRd, AV.free] at h ⊢; exact P4 xs h
  | .agg cs, h => by simp only [AV.toRd, AV.free] at h ⊢; exact Ni cs h
  | .arg _ _ _, h => by simp [AV.free] at h
  | .int _ _, h | .bool _, h | .str _, h | .nils, h | .emp, h | .view _ _ _ _, h | .ptr _ _ _ _, h | .bx _ _, h | .tup _, h | .fn _ _, h | .pin _, h | .nilI, h | .someI, h | .nilp, h | .undef, h => by simpa only [AV.toRd] using h
theorem Ni : ∀ (cs : List AV), A2 cs → A2 (H0 cs)
  | [], _ => trivial
  | c :: r, h => ⟨A7a c h.1, Ni r h.2⟩
theorem P4 : ∀ (xs : List (List AV)), A3 xs → A3 (Cl xs)
  | [], _ => trivial
  | c :: r, h => ⟨Ni c h.1, P4 r h.2⟩
end
theorem A6f {y z : Ctx} {w : World} {os h0 hq2 : Af} {n n' : Nat → Prop} {L : List AV} {U : Nat → Value} {ρ ρ' : Option Nat → Ai} {c c' : AV} {u : Value} (H : Bk y w h0 n L U ρ) (hm : ∀ g r, A4 os g = some r → A4 h0 g = some r) (hl : Up y z) (hs : B5k y z)
    (hp : ∀ g r p b o, A4 os g = some r → ρ (some g) p = some (b, o) → z.R b ∧ z.wr.heap[b]? = w.heap[b]?) (hr : RC os c c') (h : Au y w h0 n ρ c' u) (hk : c.okC = true) : Au z w hq2 n' ρ' (N2 c) u := by
  rcases hr with ⟨s, xs, g, rfl, rfl, hg0⟩ | ⟨rfl, hn⟩
  · have hg := hm g _ hg0
    obtain ⟨s', xs', v0, e0, hroot⟩ := H.root g _ hg
    simp only [AV.own.injEq] at e0
    obtain ⟨rfl, rfl⟩ := e0
    refine .cell ?_
    show Rep z w Ar (AV.own s xs).toRd u
    generalize hln : xs.length = ln at h
    cases h with
    | cell hr => cases hr
    | gone hl _ => rw [hg] at hl; cases hl
    | view0 h1 h2 =>
      have : xs = [] := List.eq_nil_of_length_eq_zero hln
      subst this
      exact Rep.toRd (.own0 (ρ := Ar)) hl (fun p b o hq => by simp [Ar] at hq)
    | @view _ _ _ _ s2 xs2 cap b o cc hg2 hl2 hcap hρ hb hroom =>
      rw [Cq hg] at hg2
      simp only [AV.get, Option.some.injEq, AV.own.injEq] at hg2
      obtain ⟨rfl, rfl⟩ := hg2
      subst hln
      simp only [Nat.zero_mul, Nat.add_zero, Nat.zero_add] at hroom ⊢
      have hrep : Rep y w (ρ (some g)) (.own s xs) (.slice (some ⟨b, o, none⟩) xs.length cap) := by
        generalize hrx : xs = ys at hroot hcap
        cases hroot with
        | own0 => exact .own (fun _ _ => undef) hρ hcap (fun r hr => by cases hr) hb hroom (fun i f d hd => by simp [As] at hd) (fun i f d hd => by simp [As] at hd)
        | own u hρ2 hcap2 hrow2 hb2 hroom2 hc2 hr2 =>
          rw [hρ] at hρ2
          simp only [Option.some.injEq, Prod.mk.injEq] at hρ2
          obtain ⟨rfl, rfl⟩ := hρ2
          obtain rfl := hb.uniq hb2
          exact .own u hρ hcap hrow2 hb hroom hc2 hr2
      exact Rep.toRd hrep hl fun p b o hq => hp _ _ _ _ _ hg0 hq
  · have e : N2 c' = c' := by cases c' <;> first | rfl | exact absurd rfl (hn _ _)
    rw [e]
    cases h with
    | cell hr => exact .cell (hr.lift hl hs)
    | void => exact .void
    | someI => exact .someI
    | _ => simp [AV.okC] at hk
theorem A6l {y z : Ctx} {w : World} {os h0 hq2 : Af} {n n' : Nat → Prop} {L : List AV} {U : Nat → Value} {ρ ρ' : Option Nat → Ai} {c c' : AV} {u : Value} (H : Bk y w h0 n L U ρ) (hm : ∀ g r, A4 os g = some r → A4 h0 g = some r) (hl : Up y z) (hs : B5k y z)
    (hp : ∀ g r p b o, A4 os g = some r → ρ (some g) p = some (b, o) → z.R b ∧ z.wr.heap[b]? = w.heap[b]?) (hr : RV os c c') (h : Au y w h0 n ρ c' u) (hk : c.okV = true) : Au z w hq2 n' ρ' (Mb c) u := by
  rcases hr with ⟨cs, cs', rfl, rfl, h2⟩ | ⟨hn, hr⟩
  · simp only [AV.okV, List.all_eq_true] at hk
    simp only [Mb]
    have key : ∀ {cs cs' : List AV}, Sa (RC os) cs cs' → cs'.length = cs.length ∧ ∀ (i : Nat) (c' : AV), cs'[i]? = some c' → ∃ c, cs[i]? = some c ∧ RC os c c' := by
      intro cs cs' h
      induction h with
      | nil => exact ⟨rfl, fun i c h => by simp at h⟩
      | cons h t ih =>
        refine ⟨by simp [ih.1], fun i c hi => ?_⟩
        cases i with
        | zero => simp only [List.getElem?_cons_zero, Option.some.injEq] at hi; subst hi; exact ⟨_, rfl, h⟩
        | succ i => exact ih.2 i c (by simpa using hi)
    obtain ⟨k1, k2⟩ := key h2
    have key2 : ∀ {us : Array Value}, us.size = cs'.length → (∀ (i : Nat) c, cs'[i]? = some c → Au y w h0 n ρ c (us.getD i undef)) → us.size = (cs.map N2).length ∧ ∀ i c, (cs.map N2)[i]? = some c → Au z w hq2 n' ρ' c (us.getD i undef) := by
      intro us hu hc
      refine ⟨by rw [hu, k1, List.length_map], fun i c hi => ?_⟩
      rw [List.getElem?_map] at hi
      obtain ⟨d, hd, rfl⟩ := Option.map_eq_some_iff.1 hi
      have hlt : i < cs'.length := by
        have := (List.getElem?_eq_some_iff.1 hd).1
        omega
      obtain ⟨d2, q1, q2⟩ := k2 i cs'[i] (List.getElem?_eq_getElem hlt)
      rw [hd] at q1
      obtain rfl := Option.some.inj q1
      exact A6f H hm hl hs hp q2 (hc i _ (List.getElem?_eq_getElem hlt)) (hk _ (List.mem_of_getElem? hd))
    cases h with
    | cell hr => cases hr
    | agg h3 hc => exact .agg (key2 h3 hc).1 (key2 h3 hc).2
  · have e : Mb c = N2 c := by cases c <;> first | rfl | exact absurd rfl (hn _)
    have e2 : c.okV = c.okC := by cases c <;> first | rfl | exact absurd rfl (hn _)
    rw [e]
    exact A6f H hm hl hs hp hr h (by rw [← e2]; exact hk)
theorem B0z {y z : Ctx} {w : World} {os h0 hq2 : Af} {n n' : Nat → Prop} {L : List AV} {U : Nat → Value} {ρ ρ' : Option Nat → Ai} {c c' : AV} {u : Value} (H : Bk y w h0 n L U ρ) (hm : ∀ g r, A4 os g = some r → A4 h0 g = some r) (hl : Up y z) (hs : B5k y z)
    (hp : ∀ g r p b o, A4 os g = some r → ρ (some g) p = some (b, o) → z.R b ∧ z.wr.heap[b]? = w.heap[b]?) (hr : RT os c c') (h : Au y w h0 n ρ c' u) (hk : c.okT = true) : Au z w hq2 n' ρ' (frz c) u := by
  rcases hr with ⟨cs, cs', rfl, rfl, h2⟩ | ⟨hn, hr⟩
  · simp only [AV.okT, List.all_eq_true] at hk
    simp only [frz]
    have key : ∀ {cs cs' : List AV}, Sa (RV os) cs cs' → cs'.length = cs.length ∧ ∀ (i : Nat) (c' : AV), cs'[i]? = some c' → ∃ c, cs[i]? = some c ∧ RV os c c' := by
      intro cs cs' h
      induction h with
      | nil => exact ⟨rfl, fun i c h => by simp at h⟩
      | cons h t ih =>
        refine ⟨by simp [ih.1], fun i c hi => ?_⟩
        cases i with
        | zero => simp only [List.getElem?_cons_zero, Option.some.injEq] at hi; subst hi; exact ⟨_, rfl, h⟩
        | succ i => exact ih.2 i c (by simpa using hi)
    obtain ⟨k1, k2⟩ := key h2
    have key2 : ∀ {us : Array Value}, us.size = cs'.length → (∀ (i : Nat) c, cs'[i]? = some c → Au y w h0 n ρ c (us.getD i undef)) → us.size = (cs.map Mb).length ∧ ∀ i c, (cs.map Mb)[i]? = some c → Au z w hq2 n' ρ' c (us.getD i undef) := by
      intro us hu hc
      refine ⟨by rw [hu, k1, List.length_map], fun i c hi => ?_⟩
      rw [List.getElem?_map] at hi
      obtain ⟨d, hd, rfl⟩ := Option.map_eq_some_iff.1 hi
      have hlt : i < cs'.length := by
        have := (List.getElem?_eq_some_iff.1 hd).1
        omega
      obtain ⟨d2, q1, q2⟩ := k2 i cs'[i] (List.getElem?_eq_getElem hlt)
      rw [hd] at q1
      obtain rfl := Option.some.inj q1
      exact A6l H hm hl hs hp q2 (hc i _ (List.getElem?_eq_getElem hlt)) (hk _ (List.mem_of_getElem? hd))
    cases h with
    | cell hr => cases hr
    | tup h3 hc => exact .tup (key2 h3 hc).1 (key2 h3 hc).2
  · have e : frz c = Mb c := by cases c <;> first | rfl | exact absurd rfl (hn _)
    have e2 : c.okT = c.okV := by cases c <;> first | rfl | exact absurd rfl (hn _)
    rw [e]
    exact A6l H hm hl hs hp hr h (by rw [← e2]; exact hk)
theorem A73 {os : Af} {c c' : AV} (hr : RC os c c') (h1 : ∀ g r, A4 os g = some r → r.free) (h2 : c'.free) : (N2 c).free := by
  rcases hr with ⟨s, xs, g, rfl, rfl, hg⟩ | ⟨rfl, hn⟩
  · exact A7a _ (h1 g _ hg)
  · have e : N2 c' = c' := by cases c' <;> first | rfl | exact absurd rfl (hn _ _)
    rw [e]; exact h2
theorem B5t {os : Af} {cs cs' : List AV} (hr : Sa (RC os) cs cs') (h1 : ∀ g r, A4 os g = some r → r.free) (h2 : A2 cs') : A2 (cs.map N2) := by
  induction hr with
  | nil => trivial
  | cons h t ih => exact ⟨A73 h h1 h2.1, ih h2.2⟩
theorem A77 {os : Af} {c c' : AV} (hr : RV os c c') (h1 : ∀ g r, A4 os g = some r → r.free) (h2 : c'.free) : (Mb c).free := by
  rcases hr with ⟨cs, cs', rfl, rfl, h3⟩ | ⟨hn, hr⟩
  · simp only [Mb, AV.free] at h2 ⊢; exact B5t h3 h1 h2
  · have e : Mb c = N2 c := by cases c <;> first | rfl | exact absurd rfl (hn _)
    rw [e]; exact A73 hr h1 h2
theorem B2y {os : Af} {cs cs' : List AV} (hr : Sa (RV os) cs cs') (h1 : ∀ g r, A4 os g = some r → r.free) (h2 : A2 cs') : A2 (cs.map Mb) := by
  induction hr with
  | nil => trivial
  | cons h t ih => exact ⟨A77 h h1 h2.1, ih h2.2⟩
theorem B1y {os : Af} {c c' : AV} (hr : RT os c c') (h1 : ∀ g r, A4 os g = some r → r.free) (h2 : c'.free) : (frz c).free := by
  rcases hr with ⟨cs, cs', rfl, rfl, h3⟩ | ⟨hn, hr⟩
  · simp only [frz, AV.free] at h2 ⊢; exact B2y h3 h1 h2
  · have e : frz c = Mb c := by cases c <;> first | rfl | exact absurd rfl (hn _)
    rw [e]; exact A77 hr h1 h2
theorem B6e {P : Nat → Bj → Prop} {c : AV} (h : c.okC = true) : Db P (N2 c) := by
  cases c <;> first | exact .rd | exact .int | exact .bool | exact .str | exact .undef | exact .nilI | exact .someI | cases h
theorem B6q {P : Nat → Bj → Prop} {c : AV} (h : c.okV = true) : Db P (Mb c) := by
  by_cases ha : ∃ cs, c = .agg cs
  · obtain ⟨cs, rfl⟩ := ha
    simp only [AV.okV, List.all_eq_true] at h
    refine .agg fun d hd => ?_
    obtain ⟨e, he, rfl⟩ := List.mem_map.1 hd
    exact B6e (h e he)
  · have e : Mb c = N2 c := by cases c <;> first | rfl | exact absurd ⟨_, rfl⟩ ha
    have e2 : c.okV = c.okC := by cases c <;> first | rfl | exact absurd ⟨_, rfl⟩ ha
    rw [e]; exact B6e (e2 ▸ h)
theorem B69 {P : Nat → Bj → Prop} {c : AV} (h : c.okT = true) : Db P (frz c) := by
  by_cases ha : ∃ cs, c = .tup cs
  · obtain ⟨cs, rfl⟩ := ha
    simp only [AV.okT, List.all_eq_true] at h
    refine .tup fun d hd => ?_
    obtain ⟨e, he, rfl⟩ := List.mem_map.1 hd
    exact B6q (h e he)
  · have e : frz c = Mb c := by cases c <;> first | rfl | exact absurd ⟨_, rfl⟩ ha
    have e2 : c.okT = c.okV := by cases c <;> first | rfl | exact absurd ⟨_, rfl⟩ ha
    rw [e]; exact B6q (e2 ▸ h)
theorem Vr {id : Nat} {v : AV} {K : AV → Af → Prop} (h : v.okT = true) (hk : Ha id (frz v) K) : K (frz v) [] := by
  have hC : ∀ (cs : List AV) (id : Nat) (K : List AV → Af → Nat → Prop), cs.all AV.okC = true → B0 id (cs.map N2) K → K (cs.map N2) [] id := by
    intro cs
    induction cs with
    | nil => intro id K _ hk; exact hk
    | cons c r ih =>
      intro id K h hk
      simp only [List.all_cons, Bool.and_eq_true] at h
      cases c <;> first | (exact ih id (fun cs' os n => K (_ :: cs') os n) h.2 hk) | cases h.1
  have hV : ∀ (vs : List AV) (id : Nat) (K : List AV → Af → Nat → Prop), vs.all AV.okV = true → Br id (vs.map Mb) K → K (vs.map Mb) [] id := by
    intro vs
    induction vs with
    | nil => intro id K _ hk; exact hk
    | cons c r ih =>
      intro id K h hk
      simp only [List.all_cons, Bool.and_eq_true] at h
      by_cases ha : ∃ cs, c = .agg cs
      · obtain ⟨cs, rfl⟩ := ha
        have := hC cs id _ h.1 hk
        exact ih id (fun vs' os' n' => K (.agg (cs.map N2) :: vs') ([] ++ os') n') h.2 this
      · cases c <;> first | (exact ih id (fun cs' os n => K (_ :: cs') ([] ++ os) n) h.2 hk) | cases h.1 | exact absurd ⟨_, rfl⟩ ha
  by_cases ht : ∃ vs, v = .tup vs
  · obtain ⟨vs, rfl⟩ := ht
    exact (Bb (hV vs id (fun vs' os n => leN n (id + 16) (K (.tup vs') os)) h hk)).2
  · by_cases ha : ∃ cs, v = .agg cs
    · obtain ⟨cs, rfl⟩ := ha
      exact (Bb (hC cs id (fun vs' os n => leN n (id + 16) (K (.agg vs') os)) h hk)).2
    · cases v <;> first | exact hk | cases h | exact absurd ⟨_, rfl⟩ ha | exact absurd ⟨_, rfl⟩ ht
theorem Kg {P : Program} {f : Nat} {c : Bp} (res' : c.α → AV) (hc : Ay P f c) (hout : ∀ x, c.out x = []) (hpt : c.ptr = false) (hok : ∀ x, c.pre x → (c.res x).okT = true ∧ A7g (c.res x) ≤ 16 ∧ frz (c.res x) = res' x) :
    Ay P f { c with sh := true, res := res' } := by
  intro x hx
  obtain ⟨a1, a2, a3, a4⟩ := hc x hx
  obtain ⟨o1, o2, o3⟩ := hok x hx
  refine ⟨a1, a2, fun h => (Bool.noConfusion h), Eo a4 ?_⟩
  rintro S hy k mu ⟨b1, b2⟩
  refine ⟨b1, ?_⟩
  intro y w args ρ hw0 hk hR hwr hG hsz H hs idr hidr K hK
  simp only at hK hG hsz
  rw [hpt, ← o3] at hK
  have hK : Ha idr (frz (c.res x)) K := hK
  have hK := Vr o1 hK
  have hr0 : Lx c.ptr idr (c.res x) fun v' os => RT os (c.res x) v' := by rw [hpt]; exact A0s o2
  obtain ⟨v, os, hrt, _, e2, _, e3, e4⟩ := b2 y w args ρ hw0 hk hR hwr hG hsz H hs idr hidr _ hr0
  refine ⟨_, _, hK, B69 o1, (fun g r hg => by cases hg), fun h => (Bool.noConfusion h), B1y hrt (fun g r hg => (e2 g r hg).2.2) e3, e4.mono ?_⟩
  rintro u w' ⟨R', wr', ρf, f1, f2, f3⟩
  have hoh : ∀ g r, A4 (Bv mu (c.out x)) g = some r → False := by
    rw [hout]
    intro g r hg
    cases mu <;> cases hg
  have ho0 : Bv mu (c.out x) = [] := by rw [hout]; cases mu <;> rfl
  simp only [ho0, List.nil_append, List.append_nil] at f2 f3 ⊢
  refine ⟨fun b => R' b ∨ ∃ k p o, ρf k p = some (b, o), w', fun _ => Ar, fun b hb => .inl (f1 b hb), ?_, ?_⟩
  · exact {
      os := f2.os
      tape := f2.tape
      output := f2.output
      size := f2.size
      frame := f2.frame
      root := fun g r hg => by cases hg
      loose := fun j c hj => by simp at hj
      live := fun k p q hq => by simp [Ar] at hq
      nobase := rfl
      inj := fun k p k' p' b o o' hq => by simp [Ar] at hq
      mine := fun k p b o hq => by simp [Ar] at hq
      ids := fun g r hg => by cases hg
      keeps := f2.keeps
      base := fun g r _ hg => by cases hg
      kn := f2.kn
      fixed := fun b _ => rfl
      rsub := fun b hb => by
        rcases hb with hb | ⟨k, p, o, hb⟩
        · exact f2.rsub b hb
        · have := (f2.mine _ _ _ _ hb).1.1
          exact this.elim (fun h => .inr (.inr h)) (fun h => .inr (.inl h))
      rlt := fun b hb => by
        rcases hb with hb | ⟨k, p, o, hb⟩
        · exact f2.rlt b hb
        · obtain ⟨c, hc⟩ := (f2.mine _ _ _ _ hb).2
          exact hc.lt }
  · exact B0z f2 (fun _ _ h => h) (fun b hb => ⟨.inl hb, f2.fixed b hb⟩) ⟨rfl, rfl, rfl⟩ (fun g r p b o _ hq => ⟨.inr ⟨some g, p, o, hq⟩, rfl⟩) hrt f3 o1
theorem Sa.mono {R R' : AV → AV → Prop} {l m : List AV} (h : Sa R l m) (hi : ∀ a b, R a b → R' a b) : Sa R' l m := h.imp hi
theorem RC.mono {os h : Af} {c c' : AV} (hm : ∀ g r, A4 os g = some r → A4 h g = some r) (hr : RC os c c') : RC h c c' := by
  rcases hr with ⟨s, xs, g, e1, e2, hl⟩ | hr
  · exact .inl ⟨s, xs, g, e1, e2, hm g _ hl⟩
  · exact .inr hr
theorem RV.mono {os h : Af} {c c' : AV} (hm : ∀ g r, A4 os g = some r → A4 h g = some r) (hr : RV os c c') : RV h c c' := by
  rcases hr with ⟨cs, cs', e1, e2, hl⟩ | ⟨h1, h2⟩
  · exact .inl ⟨cs, cs', e1, e2, hl.imp fun _ _ h => h.mono hm⟩
  · exact .inr ⟨h1, h2.mono hm⟩
theorem RT.mono {os h : Af} {c c' : AV} (hm : ∀ g r, A4 os g = some r → A4 h g = some r) (hr : RT os c c') : RT h c c' := by
  rcases hr with ⟨cs, cs', e1, e2, hl⟩ | ⟨h1, h2⟩
  · exact .inl ⟨cs, cs', e1, e2, hl.imp fun _ _ h => h.mono hm⟩
  · exact .inr ⟨h1, h2.mono hm⟩
theorem B49 {hy : Af} {g : Nat} {r : AV} : ∀ {mu : List Nat} {ys : List AV}, Tg hy mu ys → A4 (Bv mu ys) g = some r → ∃ r', A4 hy g = some r'
  | [], [], _, h => by cases h
  | [], _ :: _, h, _ => h.elim
  | _ :: _, [], h, _ => h.elim
  | m :: mu, y :: ys, hs, h => by
    obtain ⟨⟨s, xs, zs, h1, _, _⟩, h2⟩ := hs
    simp only [Bv] at h
    rw [A9] at h
    by_cases e : m = g
    · subst e; exact ⟨_, h1⟩
    · rw [if_neg e] at h; exact B49 h2 h
theorem B0y {P : Program} {f : Nat} {c : Bp} (res' : c.α → AV) (hc : Ay P f c) (hpt : c.ptr = false) (hok : ∀ x, c.pre x → (c.res x).okT = true ∧ A7g (c.res x) ≤ 16 ∧ frz (c.res x) = res' x) :
    Ay P f { c with sh := true, res := res' } := by
  intro x hx
  obtain ⟨a1, a2, a3, a4⟩ := hc x hx
  obtain ⟨o1, o2, o3⟩ := hok x hx
  refine ⟨a1, a2, fun h => (Bool.noConfusion h), Eo a4 ?_⟩
  rintro S hy k mu ⟨b1, b2⟩
  refine ⟨b1, ?_⟩
  intro y w args ρ hw0 hk hR hwr hG hsz H hs idr hidr K hK
  simp only at hK hG hsz
  rw [hpt, ← o3] at hK
  have hK : Ha idr (frz (c.res x)) K := hK
  have hK := Vr o1 hK
  have hr0 : Lx c.ptr idr (c.res x) fun v' os => RT os (c.res x) v' := by rw [hpt]; exact A0s o2
  obtain ⟨v, os, hrt, _, e2, _, e3, e4⟩ := b2 y w args ρ hw0 hk hR hwr hG hsz H hs idr hidr _ hr0
  refine ⟨_, _, hK, B69 o1, (fun g r hg => by cases hg), fun h => (Bool.noConfusion h), B1y hrt (fun g r hg => (e2 g r hg).2.2) e3, e4.mono ?_⟩
  rintro u w' ⟨R', wr', ρf, f1, f2, f3⟩
  have hlt : ∀ g r, A4 (Bv mu (c.out x)) g = some r → g < k := fun g r hg => by
    obtain ⟨r', h1⟩ := B49 b1 hg
    exact H.ids g r' h1
  have hoso : ∀ g r, A4 os g = some r → A4 (Bv mu (c.out x)) g = none := fun g r hg => by
    cases hq : A4 (Bv mu (c.out x)) g with
    | none => rfl
    | some r' =>
      have h1 := hlt g r' hq
      have h2 := (e2 g r hg).1.1
      omega
  have hall : ∀ g r, A4 os g = some r → A4 (Bv mu (c.out x) ++ os) g = some r := fun g r hg => by rw [B6, hoso g r hg]; exact hg
  let isO : Option Nat → Prop := fun q => ∃ g r, q = some g ∧ A4 (Bv mu (c.out x)) g = some r
  have hnO : ∀ {g r}, A4 os g = some r → ¬ isO (some g) := by
    intro g r hg hi
    obtain ⟨g', r', e, h⟩ := hi
    have e : g = g' := by simpa using e
    rw [← e, hoso g r hg] at h
    cases h
  let ρ2 : Option Nat → Ai := fun q p => @ite _ (isO q) (Classical.propDecidable _) (ρf q p) none
  have r1 : ∀ {q p b}, ρ2 q p = some b → isO q ∧ ρf q p = some b := by
    intro q p b hq
    by_cases hi : isO q
    · simp only [ρ2, if_pos hi] at hq; exact ⟨hi, hq⟩
    · simp only [ρ2, if_neg hi] at hq; cases hq
  have r2 : ∀ {g r}, A4 (Bv mu (c.out x)) g = some r → ρ2 (some g) = ρf (some g) := by
    intro g r hg
    have hi : isO (some g) := ⟨g, r, rfl, hg⟩
    funext p
    simp only [ρ2, if_pos hi]
  let R2 : Nat → Prop := fun b => R' b ∨ ∃ q p o, ¬ isO q ∧ ρf q p = some (b, o)
  have hl2 : Up { y with R := R', wr := wr' } { y with R := R2, wr := w' } := fun b hb => ⟨.inl hb, f2.fixed b hb⟩
  have hmine : ∀ q p b o, ρ2 q p = some (b, o) → ((y.w0.heap.size ≤ b ∨ y.M b) ∧ ¬ R2 b) ∧ ∃ c, Blk w' b c := by
    intro q p b o hq
    have h0 := r1 hq
    have h2 := h0.2
    have h3 := f2.mine q p b o h2
    refine ⟨⟨h3.1.1, fun hb => ?_⟩, h3.2⟩
    cases hb with
    | inl hb => exact h3.1.2 hb
    | inr hb =>
      obtain ⟨q', p', o', h6, h7⟩ := hb
      have e : q = q' := (f2.inj q p q' p' b o o' h2 h7).1
      exact h6 (e ▸ h0.1)
  have hlive : ∀ q p b, ρ2 q p = some b → ∃ s xs, Vv (Bv mu (c.out x)) [] q p = some (.own s xs) := by
    intro q p b hq
    have h0 := r1 hq
    obtain ⟨g, r, e, hg⟩ := h0.1
    subst e
    obtain ⟨s, xs, h3⟩ := f2.live _ p b h0.2
    refine ⟨s, xs, ?_⟩
    simp only [Vv] at h3 ⊢
    rw [Cq (show A4 (Bv mu (c.out x) ++ os) g = some r by rw [B6, hg])] at h3
    rw [Cq hg]
    exact h3
  simp only [List.append_nil]
  refine ⟨R2, w', ρ2, fun b hb => .inl (f1 b hb), ?_, ?_⟩
  · exact {
      os := f2.os
      tape := f2.tape
      output := f2.output
      size := f2.size
      frame := f2.frame
      root := fun g r hg => by
        obtain ⟨s, xs, v, h1, h2⟩ := f2.root g r (by rw [B6, hg])
        refine ⟨s, xs, v, h1, ?_⟩
        rw [r2 hg]
        exact h2.lift hl2 ⟨rfl, rfl, rfl⟩
      loose := fun j c hj => by simp at hj
      live := hlive
      nobase := by
        have hno : ¬ isO none := fun hi => by
          obtain ⟨g, r, e, _⟩ := hi
          cases e
        simp only [ρ2, if_neg hno]
      inj := fun q p q' p' b o o' h1 h2 => f2.inj q p q' p' b o o' (r1 h1).2 (r1 h2).2
      mine := hmine
      ids := fun g r hg => .inl (hlt g r hg)
      keeps := f2.keeps
      base := fun g r hgk hg => by rw [r2 hg]; exact f2.base g r hgk (by rw [B6, hg])
      kn := f2.kn
      fixed := fun b _ => rfl
      rsub := fun b hb => by
        rcases hb with hb | ⟨q, p, o, _, hb⟩
        · exact f2.rsub b hb
        · have := (f2.mine _ _ _ _ hb).1.1
          exact this.elim (fun h => .inr (.inr h)) (fun h => .inr (.inl h))
      rlt := fun b hb => by
        rcases hb with hb | ⟨q, p, o, _, hb⟩
        · exact f2.rlt b hb
        · obtain ⟨c, hc⟩ := (f2.mine _ _ _ _ hb).2
          exact hc.lt }
  · exact B0z f2 hall hl2 ⟨rfl, rfl, rfl⟩ (fun g r p b o hg hq => ⟨.inr ⟨some g, p, o, hnO hg, hq⟩, rfl⟩) hrt f3 o1
end Go.GH


