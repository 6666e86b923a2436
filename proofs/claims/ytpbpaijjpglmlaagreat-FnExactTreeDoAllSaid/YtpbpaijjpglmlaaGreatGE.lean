import Derived.Test.YtpbpaijjpglmlaaGreatGD
set_option linter.unusedVariables false
set_option linter.unusedSimpArgs false
set_option linter.unusedSimpArgs false
namespace Go.GH
open Go
structure RowPut (w w' : World) (b o s : Nat) (xs : List (List AV)) : Prop where
  os : w'.os = w.os
  tape : w'.tape = w.tape
  output : w'.output = w.output
  size : w.heap.size ≤ w'.heap.size
  other : ∀ k, k < w.heap.size → k ≠ b → w'.heap[k]? = w.heap[k]?
  row : ∀ c e fz, w.heap[b]? = some (.cells c e fz) → ∃ c', w'.heap[b]? = some (.cells c' e fz) ∧ c'.size = c.size ∧ ∀ i f d, cellAt xs i f = some d → c'[o + (i * s + f)]? = some (flatV d)
def plainRows (s : Nat) (xs : List (List AV)) : Prop := ∀ r, r ∈ xs → r.length = s ∧ ∀ c, c ∈ r → c.plain = true
theorem plainRows_cell {s : Nat} {xs : List (List AV)} (h : plainRows s xs) {i f : Nat} {d : AV} (hd : cellAt xs i f = some d) : d.plain = true := by
  unfold cellAt at hd
  cases hr : xs[i]? with
  | none => rw [hr] at hd; simp at hd
  | some r =>
    rw [hr] at hd
    exact (h r (List.mem_of_getElem? hr)).2 d (List.mem_of_getElem? (by simpa using hd))
theorem rep_flat {x : Ctx} {w : World} {ρ : Place} {v : AV} {u : Value} (h : Rep x w ρ v u) (hp : v.plain = true) : u = flatV v := by
  cases h <;> first | rfl | cases hp
theorem plain_noRd {s : Nat} : ∀ {xs : List (List AV)}, plainRows s xs → noRdRows xs := by
  intro xs hh
  induction xs with
  | nil => trivial
  | cons r xs ih =>
    refine ⟨?_, ih fun q hq => hh q (by simp [hq])⟩
    have hr := (hh r (by simp)).2
    clear ih hh
    induction r with
    | nil => trivial
    | cons d r ih =>
      refine ⟨?_, ih fun q hq => hr q (by simp [hq])⟩
      have := hr d (by simp)
      cases d <;> first | trivial | cases this
theorem get_cell {s i f : Nat} {xs : List (List AV)} {p : Path} : AV.get ((i, f) :: p) (.own s xs) = match cellAt xs i f with
    | some c => c.get p
    | none => none := by
  unfold cellAt
  simp only [AV.get]
  cases xs[i]? with
  | none => rfl
  | some r => rfl
theorem con_of_row {P : Program} {f s : Nat} {c : PCon} {ts : List (Option Nat)} (rows rows' : c.α → List (List AV)) (snd : c.α → AV)
    (hms : c.ms = [.mv, .rd ts]) (hres : ∀ x, c.res x = .tup []) (henc : ∀ x, c.enc x = [.own s (rows x), snd x]) (hout : ∀ x, c.out x = [.own s (rows' x)])
    (hpl : ∀ x, plainRows s (rows x)) (hpl' : ∀ x, plainRows s (rows' x)) (hlen : ∀ x, (rows' x).length = (rows x).length)
    (hcall : ∀ (args : Array Value) (w : World), (callFunc f args).run P w = .ok (.enter f args) w) (hfe : ∀ x, (snd x).free)
    (h0 : ∀ x, c.pre x → rows x = [] → ∀ (y : Ctx) (w : World) (a : Option Addr) (cap : Nat) (v : Value) (ρ : Option Nat → Place), SRep y w [] (fun g => g < 0) ρ (snd x) v → Calls P f #[.slice a 0 cap, v] w fun e w' => e = .returned (.tuple #[]) ∧ RowKit.Below w.heap.size w w')
    (hsnd : ∀ x (y : Ctx) (w : World) (h : Heap) (n : Nat → Prop) (ρ : Option Nat → Place) v, SRep y w h n ρ (snd x) v → SRep y w [] (fun g => g < 0) ρ (snd x) v)
    (h : ∀ x, c.pre x → rows x ≠ [] → ∀ (y : Ctx) (w : World) (b o cap : Nat) (v : Value) (ρ : Option Nat → Place), b < w.heap.size → SRep y w [] (fun g => g < 0) ρ (snd x) v →
      (∃ c e fz, w.heap[b]? = some (.cells c e fz) ∧ Free fz c.size ∧ ∀ i f d, cellAt (rows x) i f = some d → c[o + (i * s + f)]? = some (flatV d)) →
      Calls P f #[.slice (some ⟨b, o, none⟩) (rows x).length cap, v] w fun e w' => e = .returned (.tuple #[]) ∧ RowPut w w' b o s (rows' x)) (hpt : c.ptr = false := by rfl) : ConOk P f c := by
  intro x hx
  refine ⟨?_, ?_, fun _ => ?_, ?_⟩
  · rw [henc]; exact ⟨noRdRows_free (plain_noRd (hpl x)), hfe x, trivial⟩
  · rw [hout]; exact ⟨noRdRows_free (plain_noRd (hpl' x)), trivial⟩
  · rw [hout]; exact ⟨plain_noRd (hpl' x), trivial⟩
  rw [hms, henc, hout]
  refine ⟨⟨⟨s, rows x, rows' x, rfl, rfl, hlen x⟩, trivial⟩, ?_⟩
  intro y w args ρ hw0 hk hR hwr hG hsz H hs idr hidr K hK
  rw [hpt] at hK
  rw [hres] at hK
  refine ⟨.tup [], [], (leN_elim (show leN idr (idr + 16) (K (.tup []) []) by simpa [rootedP, rooted, rootVals] using hK)).2, .tup (by simp), by intro g r hg; simp [lookup] at hg, fun _ => by simp [AV.noRd, noRdCells], by simp [AV.free, freeCells], .inl ⟨hcall _ _, ?_⟩⟩
  have hsz : args.size = 2 := hsz
  have s0 := (hs 0 ⟨none, .view 0 [] 0 (rows x).length⟩ rfl).1 trivial
  have s1 := hsnd x _ _ _ _ _ _ ((hs 1 ⟨none, snd x⟩ rfl).1 trivial)
  have hargs : args = #[args.getD 0 undef, args.getD 1 undef] := by
    apply Array.ext
    · simpa using hsz
    · intro i h1 h2
      have : i = 0 ∨ i = 1 := by simp at h2; omega
      rcases this with rfl | rfl <;> simp [h1]
  rw [hargs]
  generalize args.getD 0 undef = a0 at s0
  generalize args.getD 1 undef = a1 at s1
  have hlook : lookup [((0 : Nat), AV.own s (rows x))] 0 = some (.own s (rows x)) := rfl
  have only : ∀ k p q, ρ k p = some q → k = some 0 ∧ p = [] := by
    intro k p q hq
    obtain ⟨s', xs', hg⟩ := H.live k p q hq
    cases k with
    | none =>
      cases p with
      | nil => rw [H.nobase] at hq; cases hq
      | cons a p => obtain ⟨i, f⟩ := a; cases i <;> cases f <;> simp [getAt, AV.get, cellAt] at hg
    | some g =>
      simp only [getAt, hget] at hg
      by_cases hg0 : g = 0
      · subst hg0
        refine ⟨rfl, ?_⟩
        cases p with
        | nil => rfl
        | cons a p =>
          obtain ⟨i, f⟩ := a
          rw [hlook] at hg
          simp only [get_cell] at hg
          cases hc : cellAt (rows x) i f with
          | none => simp [hc] at hg
          | some d =>
            have := plainRows_cell (hpl x) hc
            simp only [hc] at hg
            cases d <;> first | (cases p <;> simp [AV.get] at hg; done) | (cases this; done)
      · rw [lookup_cons, if_neg (Ne.symm hg0)] at hg
        simp [lookup] at hg
  have fin : ∀ (w' : World), w'.os = w.os → w'.tape = w.tape → w'.output = w.output → w.heap.size ≤ w'.heap.size → (∀ k, k < w.heap.size → (∀ o, ρ (some 0) [] ≠ some (k, o)) → w'.heap[k]? = w.heap[k]?) →
      (∀ b o c, ρ (some 0) [] = some (b, o) → Blk w b c → ∃ c', Blk w' b c' ∧ c'.size = c.size) →
      (∃ v, Rep y w' (ρ (some 0)) (.own s (rows' x)) v) →
      ∃ R' wr' ρf, (∀ b, y.R b → R' b) ∧ HRel { y with R := R', wr := wr' } w' (outsHeap [0] [.own s (rows' x)] ++ []) (fun g => g < 1 ∨ Names idr g) [] (fun _ => undef) ρf ∧
          SRep { y with R := R', wr := wr' } w' (outsHeap [0] [.own s (rows' x)] ++ []) (fun g => g < 1 ∨ Names idr g) ρf (.tup []) (.tuple #[]) := by
    intro w' e1 e2 e3 e4 e5 e6 ⟨v, e7⟩
    have hy : ({ y with R := y.R, wr := y.wr } : Ctx) = y := rfl
    refine ⟨y.R, y.wr, ρ, fun _ hh => hh, ?_, .tup (by simp) (by simp)⟩
    rw [hy]
    have nb : ∀ {b}, y.R b → ∀ o, ρ (some 0) [] ≠ some (b, o) := fun {b} hb o ho => (H.mine _ _ _ _ ho).1.2 hb
    exact {
      os := e1.trans H.os
      tape := e2.trans H.tape
      output := e3.trans H.output
      size := Nat.le_trans H.size e4
      frame := fun b hb hm => by
        rw [e5 b (Nat.lt_of_lt_of_le hb H.size) (fun o ho => by
          have hb2 : b < y.w0.heap.size := hb
          rcases (H.mine _ _ _ _ ho).1.1 with h1 | h1
          · omega
          · exact hm h1)]
        exact H.frame b hb hm
      root := fun g r hg => by
        simp only [outsHeap, List.append_nil] at hg
        by_cases hg0 : g = 0
        · subst hg0
          rw [lookup_cons, if_pos rfl] at hg
          obtain rfl := Option.some.inj hg
          exact ⟨_, _, v, rfl, e7⟩
        · rw [lookup_cons, if_neg (Ne.symm hg0)] at hg; simp [lookup] at hg
      loose := fun j d hd => by simp at hd
      live := fun k p q hq => by
        obtain ⟨rfl, rfl⟩ := only k p q hq
        exact ⟨s, rows' x, rfl⟩
      nobase := H.nobase
      inj := H.inj
      mine := fun k p b o hq => by
        obtain ⟨rfl, rfl⟩ := only k p _ hq
        obtain ⟨h1, c1, h2⟩ := H.mine _ _ _ _ hq
        obtain ⟨c', h3, _⟩ := e6 b o c1 hq h2
        exact ⟨h1, c', h3⟩
      ids := fun g r hg => by
        simp only [outsHeap, List.append_nil] at hg
        by_cases hg0 : g = 0
        · subst hg0; exact .inl (by omega)
        · rw [lookup_cons, if_neg (Ne.symm hg0)] at hg; simp [lookup] at hg
      keeps := fun b c1 hb => by
        obtain ⟨c2, h1, h2⟩ := H.keeps b c1 hb
        by_cases hb0 : ∃ o, ρ (some 0) [] = some (b, o)
        · obtain ⟨o, ho⟩ := hb0
          obtain ⟨c3, h3, h4⟩ := e6 b o c2 ho h1
          exact ⟨c3, h3, h4.trans h2⟩
        · refine ⟨c2, h1.congr (e5 b ?_ fun o ho => hb0 ⟨o, ho⟩), h2⟩
          obtain ⟨e, fz, h3, _⟩ := h1
          exact (Array.getElem?_eq_some_iff.1 h3).1
      base := fun g r hg hr => by
        simp only [outsHeap, List.append_nil] at hr
        by_cases hg0 : g = 0
        · subst hg0; exact H.base 0 _ hg hlook
        · rw [lookup_cons, if_neg (Ne.symm hg0)] at hr; simp [lookup] at hr
      kn := fun g hg => .inl (by rw [hk] at hg; exact hg)
      fixed := fun b hb => (e5 b (H.rlt b hb) (nb hb)).trans (H.fixed b hb)
      rsub := H.rsub
      rlt := fun b hb => Nat.lt_of_lt_of_le (H.rlt b hb) e4 }
  obtain ⟨s', xs', v0, e0, hroot⟩ := H.root 0 _ hlook
  simp only [AV.own.injEq] at e0
  obtain ⟨rfl, rfl⟩ := e0
  by_cases hne : rows x = []
  · have hne' : rows' x = [] := List.eq_nil_of_length_eq_zero (by rw [hlen, hne]; rfl)
    have ha0 : ∃ a cap, a0 = .slice a 0 cap := by
      rw [hne] at s0
      cases s0 with
      | cell hr => cases hr
      | gone hl _ => simp [lookup] at hl
      | view0 _ _ => exact ⟨_, _, rfl⟩
      | view hg hl hcap hρ hb hroom => exact ⟨_, _, rfl⟩
    obtain ⟨a, cap, rfl⟩ := ha0
    refine (h0 x hx hne y w a cap a1 ρ s1).mono ?_
    rintro e w' ⟨rfl, hb⟩
    refine ⟨_, rfl, fin w' hb.os hb.tape hb.output hb.size (fun k hk _ => hb.block k hk) (fun b o c ho hbk => ?_) ?_⟩
    · have hbk2 := hbk
      obtain ⟨e, fz, h3, _⟩ := hbk2
      exact ⟨c, hbk.congr (hb.block b (Array.getElem?_eq_some_iff.1 h3).1), rfl⟩
    · rw [hne']; exact ⟨.slice none 0 0, .own0⟩
  · obtain ⟨cap, b, o, cc, rfl, hρ, hb, hroom, hcap⟩ : ∃ cap b o c, a0 = .slice (some ⟨b, o, none⟩) (rows x).length cap ∧ ρ (some 0) [] = some (b, o) ∧ Blk w b c ∧ o + cap * s ≤ c.size ∧ (rows x).length ≤ cap := by
      generalize hl0 : (rows x).length = ln at s0
      cases s0 with
      | cell hr => cases hr
      | gone hl _ => simp [lookup] at hl
      | view0 _ _ => exact absurd (List.eq_nil_of_length_eq_zero hl0) hne
      | view hg hl hcap hρ hb hroom =>
        rw [hget_of hlook] at hg
        simp only [AV.get, Option.some.injEq, AV.own.injEq] at hg
        obtain ⟨rfl, rfl⟩ := hg
        exact ⟨_, _, _, _, by simp, hρ, hb, by simpa using hroom, hcap⟩
    have hroot2 : ∀ i f d, cellAt (rows x) i f = some d → cc[o + (i * s + f)]? = some (flatV d) := by
      generalize hrx : rows x = xs at hroot hne ⊢
      cases hroot with
      | own0 => exact absurd rfl hne
      | own u hρ2 hcap2 hrow2 hb2 hroom2 hc2 hr2 =>
        rw [hρ] at hρ2
        simp only [Option.some.injEq, Prod.mk.injEq] at hρ2
        obtain ⟨rfl, rfl⟩ := hρ2
        obtain rfl := hb.uniq hb2
        intro i f d hd
        rw [hc2 i f d hd, rep_flat (hr2 i f d hd) (plainRows_cell (hrx ▸ hpl x) hd)]
    have hbl : b < w.heap.size := by
      obtain ⟨e, fz, h3, _⟩ := hb
      exact (Array.getElem?_eq_some_iff.1 h3).1
    obtain ⟨e0, fz0, hb1, hb2⟩ := hb
    refine (h x hx hne y w b o cap a1 ρ hbl s1 ⟨cc, e0, fz0, hb1, hb2, hroot2⟩).mono ?_
    rintro e w' ⟨rfl, hp⟩
    obtain ⟨c', hc1, hc2, hc3⟩ := hp.row cc e0 fz0 hb1
    have hblk' : Blk w' b c' := ⟨e0, fz0, hc1, by rw [hc2]; exact hb2⟩
    refine ⟨_, rfl, fin w' hp.os hp.tape hp.output hp.size (fun k hk hne => hp.other k hk fun e => hne o (e ▸ hρ)) (fun b' o' c1 ho hbk => ?_) ⟨.slice (some ⟨b, o, none⟩) (rows' x).length cap, ?_⟩⟩
    · rw [hρ] at ho
      simp only [Option.some.injEq, Prod.mk.injEq] at ho
      obtain ⟨rfl, rfl⟩ := ho
      obtain rfl := hbk.uniq ⟨e0, fz0, hb1, hb2⟩
      exact ⟨c', hblk', hc2⟩
    · exact .own (fun i f => match cellAt (rows' x) i f with
        | some d => flatV d
        | none => undef) hρ (by rw [hlen]; exact hcap) (fun r hr => (hpl' x r hr).1) hblk' (by rw [hc2]; exact hroom)
        (fun i f d hd => by rw [hc3 i f d hd]; simp [hd]) (fun i f d hd => by simp only [hd]; exact flat_rep (plainRows_cell (hpl' x) hd))
def ConAt (P : Program) (f : Nat) (c : PCon) (x : c.α) : Prop :=
  freeCells (c.enc x) ∧ freeCells (c.out x) ∧ (c.sh = false → noRdCells (c.out x)) ∧ initSlots 0 0 c.ms (c.enc x) fun S hy k mu => sameShape hy mu (c.out x) ∧
    ∀ (y : Ctx) (w : World) (args : Array Value) (ρ : Option Nat → Place), y.w0 = w → y.k = k → y.R0 = y.R → y.wr = w → GOk c.gw y.w0 y.M → args.size = c.ms.length →
      HRel y w hy (fun g => g < k) [] (fun _ => undef) ρ → SlotsRel y w hy (fun g => g < k) ρ S args →
      ∀ idr, k ≤ idr → ∀ K : AV → Heap → Prop, rootedP c.ptr idr (c.res x) K → ∃ v os, K v os ∧ Good (fun g _ => Names idr g) v ∧
        (∀ g r, lookup os g = some r → Names idr g ∧ (c.sh = false → r.noRd) ∧ r.free) ∧ (c.sh = false → v.noRd) ∧ v.free ∧
        CallsTo P f args w fun u w' => ∃ R' wr' ρf, (∀ b, y.R b → R' b) ∧ HRel { y with R := R', wr := wr' } w' (outsHeap mu (c.out x) ++ os) (fun g => g < k ∨ Names idr g) [] (fun _ => undef) ρf ∧
          SRep { y with R := R', wr := wr' } w' (outsHeap mu (c.out x) ++ os) (fun g => g < k ∨ Names idr g) ρf v u
theorem con_empty {P : Program} {f s : Nat} {c : PCon} {x : c.α} {ts : List (Option Nat)} (hms : c.ms = [.rd ts]) (henc : c.enc x = [.rd s []]) (hres : c.res x = .own s []) (hout : c.out x = []) (hsh : c.sh = false)
    (hcall : ∀ (args : Array Value) (w : World), (callFunc f args).run P w = .ok (.enter f args) w)
    (h : ∀ (a : Option Addr) (cap : Nat) (w : World), Calls P f #[.slice a 0 cap] w fun e w' => ∃ a', e = .returned (.slice a' 0 0) ∧ RowKit.Below w.heap.size w w') (hpt : c.ptr = false := by rfl) : ConAt P f c x := by
  unfold ConAt
  rw [hms, henc, hout]
  refine ⟨⟨trivial, trivial⟩, trivial, fun _ => trivial, trivial, ?_⟩
  intro y w args ρ hw0 hk hR hwr hG hsz H hs idr hidr K hK
  rw [hpt] at hK
  rw [hres] at hK
  refine ⟨.view idr [] 0 0, [(idr, .own s [])], hK, .view ⟨Nat.le_refl _, by omega⟩, fun g r hg => ?_, fun _ => trivial, trivial, .inl ⟨hcall _ _, ?_⟩⟩
  · by_cases e : g = idr
    · subst e
      rw [lookup_cons, if_pos rfl] at hg
      obtain rfl := Option.some.inj hg
      exact ⟨⟨Nat.le_refl _, by omega⟩, fun _ => trivial, trivial⟩
    · rw [lookup_cons, if_neg (Ne.symm e)] at hg; simp [lookup] at hg
  have s0 := (hs 0 ⟨none, .rd s []⟩ rfl).1 trivial
  have hargs : args = #[args.getD 0 undef] := by
    apply Array.ext
    · simpa using hsz
    · intro i h1 h2
      have : i = 0 := by simp at h2; omega
      subst this
      simp [h1]
  rw [hargs]
  generalize args.getD 0 undef = a0 at s0
  obtain ⟨a, cap, rfl⟩ : ∃ a cap, a0 = .slice a 0 cap := by
    cases s0 with
    | cell hr => cases hr with
      | rd u hcap hrow hc hr => exact ⟨_, _, rfl⟩
  refine (h a cap w).mono ?_
  rintro e w' ⟨a', rfl, hb⟩
  have hl : lookup ([] ++ [(idr, AV.own s [])]) idr = some (.own s []) := by rw [List.nil_append, lookup_cons, if_pos rfl]
  refine ⟨_, rfl, y.R, y.wr, fun _ => nowhere, fun _ h => h, ?_, .view0 (by rw [show outsHeap ([] : List Nat) ([] : List AV) = [] from rfl, hget_of hl]; rfl) (by simp)⟩
  exact {
    os := hb.os.trans H.os
    tape := hb.tape.trans H.tape
    output := hb.output.trans H.output
    size := Nat.le_trans H.size hb.size
    frame := fun b hb1 hm => (hb.block b (Nat.lt_of_lt_of_le hb1 H.size)).trans (H.frame b hb1 hm)
    root := fun g r hg => by
      by_cases e : g = idr
      · subst e
        rw [show outsHeap ([] : List Nat) ([] : List AV) = [] from rfl, hl] at hg
        obtain rfl := Option.some.inj hg
        exact ⟨_, _, .slice none 0 0, rfl, .own0⟩
      · rw [show outsHeap ([] : List Nat) ([] : List AV) = [] from rfl, List.nil_append, lookup_cons, if_neg (Ne.symm e)] at hg; simp [lookup] at hg
    loose := fun j c h => by simp at h
    live := fun k p q h => by simp [nowhere] at h
    nobase := rfl
    inj := fun k p k' p' b o o' h => by simp [nowhere] at h
    mine := fun k p b o h => by simp [nowhere] at h
    ids := fun g r hg => by
      by_cases e : g = idr
      · subst e; exact .inr ⟨Nat.le_refl _, by omega⟩
      · rw [show outsHeap ([] : List Nat) ([] : List AV) = [] from rfl, List.nil_append, lookup_cons, if_neg (Ne.symm e)] at hg; simp [lookup] at hg
    keeps := fun b c hbk => by
      obtain ⟨c', h1, h2⟩ := H.keeps b c hbk
      refine ⟨c', h1.congr (hb.block b ?_), h2⟩
      have h1' := h1
      obtain ⟨e, fz, h3, _⟩ := h1'
      exact (Array.getElem?_eq_some_iff.1 h3).1
    base := fun g r hg h => by
      by_cases e : g = idr
      · subst e
        have : g < y.k := hg
        omega
      · rw [show outsHeap ([] : List Nat) ([] : List AV) = [] from rfl, List.nil_append, lookup_cons, if_neg (Ne.symm e)] at h; simp [lookup] at h
    kn := fun g hg => .inl (by have hg2 : g < y.k := hg; omega)
    fixed := fun b hb1 => (hb.block b (H.rlt b hb1)).trans (H.fixed b hb1)
    rsub := H.rsub
    rlt := fun b hb1 => Nat.lt_of_lt_of_le (H.rlt b hb1) hb.size }
end Go.GH

set_option linter.unusedVariables false
set_option linter.unusedSimpArgs false
namespace Go.GH
open Go
theorem con_of_del {P : Program} {f s : Nat} {c : PCon} {t1 t2 t3 : List (Option Nat)} (rows rows' : c.α → List (List AV)) (i j : c.α → Int)
    (hms : c.ms = [.co t1, .rd t2, .rd t3]) (henc : ∀ x, c.enc x = [.own s (rows x), .int .i64 (i x), .int .i64 (j x)]) (hres : ∀ x, c.res x = .own s (rows' x)) (hout : ∀ x, c.out x = [])
    (hpl : ∀ x, plainRows s (rows x)) (hpl' : ∀ x, plainRows s (rows' x)) (hlen : ∀ x, c.pre x → (rows' x).length ≤ (rows x).length) (hne : ∀ x, c.pre x → rows x ≠ [])
    (hcall : ∀ (args : Array Value) (w : World), (callFunc f args).run P w = .ok (.enter f args) w)
    (h : ∀ x, c.pre x → ∀ (w : World) (b o cap : Nat), b < w.heap.size → (rows x).length ≤ cap →
      (∃ c e fz, w.heap[b]? = some (.cells c e fz) ∧ Free fz c.size ∧ ∀ i f d, cellAt (rows x) i f = some d → c[o + (i * s + f)]? = some (flatV d)) →
      Calls P f #[.slice (some ⟨b, o, none⟩) (rows x).length cap, .int .i64 (i x), .int .i64 (j x)] w fun e w' => e = .returned (.slice (some ⟨b, o, none⟩) (rows' x).length cap) ∧ RowPut w w' b o s (rows' x)) (hpt : c.ptr = false := by rfl) : ConOk P f c := by
  intro x hx
  refine ⟨?_, ?_, fun _ => ?_, ?_⟩
  · rw [henc]; exact ⟨noRdRows_free (plain_noRd (hpl x)), trivial, trivial, trivial⟩
  · rw [hout]; trivial
  · rw [hout]; trivial
  rw [hms, henc, hout]
  refine ⟨trivial, ?_⟩
  intro y w args ρ hw0 hk hR hwr hG hsz H hs idr hidr K hK
  rw [hpt] at hK
  rw [hres] at hK
  have hK : K (.view idr [] 0 (rows' x).length) [(idr, .own s (rows' x))] := hK
  have hk1 : y.k = 1 := hk
  have hsz : args.size = 3 := hsz
  have s0 := (hs 0 ⟨none, .view 0 [] 0 (rows x).length⟩ rfl).1 trivial
  have s1 := srep_int ((hs 1 ⟨none, .int .i64 (i x)⟩ rfl).1 trivial)
  have s2 := srep_int ((hs 2 ⟨none, .int .i64 (j x)⟩ rfl).1 trivial)
  have hargs : args = #[args.getD 0 undef, args.getD 1 undef, args.getD 2 undef] := by
    apply Array.ext
    · simpa using hsz
    · intro i h1 h2
      have : i = 0 ∨ i = 1 ∨ i = 2 := by simp at h2; omega
      rcases this with rfl | rfl | rfl <;> simp [h1]
  rw [hargs, s1, s2]
  generalize args.getD 0 undef = a0 at s0
  have hlook : lookup [((0 : Nat), AV.own s (rows x))] 0 = some (.own s (rows x)) := rfl
  have only : ∀ k p q, ρ k p = some q → k = some 0 ∧ p = [] := by
    intro k p q hq
    obtain ⟨s', xs', hg⟩ := H.live k p q hq
    cases k with
    | none =>
      cases p with
      | nil => rw [H.nobase] at hq; cases hq
      | cons a p => obtain ⟨i, f⟩ := a; cases i <;> cases f <;> simp [getAt, AV.get, cellAt] at hg
    | some g =>
      simp only [getAt, hget] at hg
      by_cases hg0 : g = 0
      · subst hg0
        refine ⟨rfl, ?_⟩
        cases p with
        | nil => rfl
        | cons a p =>
          obtain ⟨i, f⟩ := a
          rw [hlook] at hg
          simp only [get_cell] at hg
          cases hc : cellAt (rows x) i f with
          | none => simp [hc] at hg
          | some d =>
            have := plainRows_cell (hpl x) hc
            simp only [hc] at hg
            cases d <;> first | (cases p <;> simp [AV.get] at hg; done) | (cases this; done)
      · rw [lookup_cons, if_neg (Ne.symm hg0)] at hg
        simp [lookup] at hg
  obtain ⟨s', xs', v0, e0, hroot⟩ := H.root 0 _ hlook
  simp only [AV.own.injEq] at e0
  obtain ⟨rfl, rfl⟩ := e0
  have hne0 := hne x hx
  obtain ⟨cap, b, o, cc, rfl, hρ, hb, hroom, hcap⟩ : ∃ cap b o c, a0 = .slice (some ⟨b, o, none⟩) (rows x).length cap ∧ ρ (some 0) [] = some (b, o) ∧ Blk w b c ∧ o + cap * s ≤ c.size ∧ (rows x).length ≤ cap := by
    generalize hl0 : (rows x).length = ln at s0
    cases s0 with
    | cell hr => cases hr
    | gone hl _ => simp [lookup] at hl
    | view0 _ _ => exact absurd (List.eq_nil_of_length_eq_zero hl0) hne0
    | view hg hl hcap hρ hb hroom =>
      rw [hget_of hlook] at hg
      simp only [AV.get, Option.some.injEq, AV.own.injEq] at hg
      obtain ⟨rfl, rfl⟩ := hg
      exact ⟨_, _, _, _, by simp, hρ, hb, by simpa using hroom, hcap⟩
  have hroot2 : ∀ i f d, cellAt (rows x) i f = some d → cc[o + (i * s + f)]? = some (flatV d) := by
    generalize hrx : rows x = xs at hroot hne0 ⊢
    cases hroot with
    | own0 => exact absurd rfl hne0
    | own u hρ2 hcap2 hrow2 hb2 hroom2 hc2 hr2 =>
      rw [hρ] at hρ2
      simp only [Option.some.injEq, Prod.mk.injEq] at hρ2
      obtain ⟨rfl, rfl⟩ := hρ2
      obtain rfl := hb.uniq hb2
      intro i f d hd
      rw [hc2 i f d hd, rep_flat (hr2 i f d hd) (plainRows_cell (hrx ▸ hpl x) hd)]
  have hbl : b < w.heap.size := by
    obtain ⟨e, fz, h3, _⟩ := hb
    exact (Array.getElem?_eq_some_iff.1 h3).1
  have hlk : lookup ([(idr, AV.own s (rows' x))] : Heap) idr = some (.own s (rows' x)) := by rw [lookup_cons, if_pos rfl]
  have hlko : ∀ g r, lookup ([(idr, AV.own s (rows' x))] : Heap) g = some r → g = idr ∧ r = .own s (rows' x) := by
    intro g r hg
    by_cases e : idr = g
    · subst e; rw [hlk] at hg; exact ⟨rfl, (Option.some.inj hg).symm⟩
    · rw [lookup_cons, if_neg e] at hg; cases hg
  have hpn := plain_noRd (hpl' x)
  refine ⟨_, _, hK, .view ⟨Nat.le_refl _, by omega⟩, fun g r hg => ?_, fun _ => trivial, trivial, .inl ⟨hcall _ _, ?_⟩⟩
  · obtain ⟨rfl, rfl⟩ := hlko g r hg
    exact ⟨⟨Nat.le_refl _, by omega⟩, fun _ => hpn, noRdRows_free hpn⟩
  obtain ⟨e0, fz0, hb1, hb2⟩ := hb
  refine (h x hx w b o cap hbl hcap ⟨cc, e0, fz0, hb1, hb2, hroot2⟩).mono ?_
  rintro e w' ⟨rfl, hp⟩
  obtain ⟨c', hc1, hc2, hc3⟩ := hp.row cc e0 fz0 hb1
  have hblk' : Blk w' b c' := ⟨e0, fz0, hc1, by rw [hc2]; exact hb2⟩
  have hl' := hlen x hx
  have hrep : Rep y w' (ρ (some 0)) (.own s (rows' x)) (.slice (some ⟨b, o, none⟩) (rows' x).length cap) :=
    .own (fun i f => match cellAt (rows' x) i f with
      | some d => flatV d
      | none => undef) hρ (by omega) (fun r hr => (hpl' x r hr).1) hblk' (by rw [hc2]; exact hroom)
      (fun i f d hd => by rw [hc3 i f d hd]; simp [hd]) (fun i f d hd => by simp only [hd]; exact flat_rep (plainRows_cell (hpl' x) hd))
  let ρf : Option Nat → Place := fun k => match k with
    | none => nowhere
    | some g => if g = idr then ρ (some 0) else nowhere
  have hρf : ρf (some idr) = ρ (some 0) := by simp [ρf]
  have onlyf : ∀ k p q, ρf k p = some q → k = some idr ∧ p = [] ∧ ρ (some 0) [] = some q := by
    intro k p q hq
    cases k with
    | none => simp [ρf, nowhere] at hq
    | some g =>
      by_cases hg : g = idr
      · subst hg
        rw [hρf] at hq
        obtain ⟨_, rfl⟩ := only _ _ _ hq
        exact ⟨rfl, rfl, hq⟩
      · simp [ρf, hg, nowhere] at hq
  have hmine := H.mine _ _ _ _ hρ
  refine ⟨_, rfl, y.R, y.wr, ρf, fun _ hh => hh, ?_, ?_⟩
  · exact {
      os := hp.os.trans H.os
      tape := hp.tape.trans H.tape
      output := hp.output.trans H.output
      size := Nat.le_trans H.size hp.size
      frame := fun b2 hb2' hm => by
        rw [hp.other b2 (Nat.lt_of_lt_of_le hb2' H.size) fun e => ?_]
        · exact H.frame b2 hb2' hm
        · subst e
          have hb3 : b2 < y.w0.heap.size := hb2'
          rcases hmine.1.1 with h1 | h1
          · omega
          · exact hm h1
      root := fun g r hg => by
        rw [show outsHeap ([] : List Nat) ([] : List AV) = [] from rfl, List.nil_append] at hg
        obtain ⟨rfl, rfl⟩ := hlko g r hg
        exact ⟨_, _, _, rfl, by rw [hρf]; exact hrep⟩
      loose := fun j d hd => by simp at hd
      live := fun k p q hq => by
        obtain ⟨rfl, rfl, _⟩ := onlyf k p q hq
        exact ⟨s, rows' x, by rw [show outsHeap ([] : List Nat) ([] : List AV) = [] from rfl, List.nil_append, getAt_some, hget_of hlk]; rfl⟩
      nobase := rfl
      inj := fun k p k' p' b1 o1 o2 h1 h2 => by
        obtain ⟨rfl, rfl, _⟩ := onlyf _ _ _ h1
        obtain ⟨rfl, rfl, _⟩ := onlyf _ _ _ h2
        exact ⟨rfl, rfl⟩
      mine := fun k p b1 o1 hq => by
        obtain ⟨rfl, rfl, hq2⟩ := onlyf _ _ _ hq
        rw [hρ] at hq2
        simp only [Option.some.injEq, Prod.mk.injEq] at hq2
        obtain ⟨rfl, rfl⟩ := hq2
        exact ⟨hmine.1, c', hblk'⟩
      ids := fun g r hg => by
        rw [show outsHeap ([] : List Nat) ([] : List AV) = [] from rfl, List.nil_append] at hg
        obtain ⟨rfl, rfl⟩ := hlko g r hg
        exact .inr ⟨Nat.le_refl _, by omega⟩
      keeps := fun b1 c1 hb1' => by
        obtain ⟨c2, h1, h2⟩ := H.keeps b1 c1 hb1'
        by_cases hbb : b1 = b
        · subst hbb
          obtain rfl := h1.uniq ⟨e0, fz0, hb1, hb2⟩
          exact ⟨c', hblk', hc2.trans h2⟩
        · refine ⟨c2, h1.congr (hp.other b1 ?_ hbb), h2⟩
          obtain ⟨e, fz, h3, _⟩ := h1
          exact (Array.getElem?_eq_some_iff.1 h3).1
      base := fun g r hg hr => by
        rw [show outsHeap ([] : List Nat) ([] : List AV) = [] from rfl, List.nil_append] at hr
        obtain ⟨rfl, rfl⟩ := hlko g r hr
        have hg2 : g < y.k := hg
        omega
      kn := fun g hg => .inl (by have hg2 : g < y.k := hg; omega)
      fixed := fun b1 hb1' => (hp.other b1 (H.rlt b1 hb1') fun e => by subst e; exact hmine.1.2 hb1').trans (H.fixed b1 hb1')
      rsub := H.rsub
      rlt := fun b1 hb1' => Nat.lt_of_lt_of_le (H.rlt b1 hb1') hp.size }
  · have := SRep.view (x := { y with R := y.R, wr := y.wr }) (w := w') (h := [(idr, AV.own s (rows' x))]) (n := fun g => g < 1 ∨ Names idr g) (ρ := ρf) (g := idr) (p := []) (off := 0) (len := (rows' x).length) (s := s) (xs := rows' x) (cap := cap) (b := b) (o := o) (c := c') (by rw [hget_of hlk]; rfl) (by omega) (by omega) (by rw [hρf]; exact hρ) hblk' (by rw [hc2]; simpa using hroom)
    show SRep _ w' [(idr, AV.own s (rows' x))] _ ρf _ _
    simpa using this
end Go.GH

