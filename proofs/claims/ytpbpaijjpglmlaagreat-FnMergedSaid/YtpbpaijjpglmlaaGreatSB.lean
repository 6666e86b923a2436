import Derived.Test.YtpbpaijjpglmlaaGreatSA
import Derived.Test.YtpbpaijjpglmlaaGreatChecked
import Derived.Shelf.RegionOpenPlain
import Derived.WalkKit
import Derived.Deep.LoopGhost
import Derived.Lib.Walk
import Derived.Lib.SliceRun
import Derived.Sort.Grow
set_option linter.unusedVariables false
set_option linter.unusedSimpArgs false
set_option linter.unusedSimpArgs false
namespace Go.GH
open Go
structure Nd where
  kind : Int
  gen : Int
  time : Int
  size : Int
  blocks : List Int
def Nd.zero : Nd := ⟨0, 0, 0, 0, []⟩
structure Fs where
  nodes : List Nd
  data : List Str
def At (n : Nd) : List AV := [.int .i64 n.kind, .int .i64 n.gen, .int .i64 n.time, .int .i64 n.size, .rd 1 (n.blocks.map Ae)]
def Az (n : Nd) : List AV := [.int .i64 n.kind, .int .i64 n.gen, .int .i64 n.time, .int .i64 n.size, .own 1 (n.blocks.map Ae)]
theorem rdD (l : List Nd) : Cr (l.map At) = l.map At := Jb (fun n => by simp [At, Ht, AV.toRd, rdN]) l
theorem rdW (l : List Nd) : Cr (l.map Az) = l.map At := by
  induction l with
  | nil => rfl
  | cons n l ih => simp only [List.map_cons, Cr, ih]; simp [At, Az, Ht, AV.toRd, rdN]
def Ap (f : Fs) : List AV := [.rd 5 (f.nodes.map At), .rd 1 (f.data.map A6)]
def B1 (f : Fs) : List AV := [.own 5 (f.nodes.map Az), .own 1 (f.data.map A6)]
def smF (f : Fs) : Prop := f.nodes.length ≤ 65536 ∧ f.data.length ≤ 65536 ∧ (∀ n, n ∈ f.nodes → n.blocks.length ≤ 65536) ∧ ∀ s, s ∈ f.data → s.length ≤ 4194304
def G6 (s : Int) : Int := if s ≤ 0 then 0 else if s ≥ 80 then 5 else (s + 15).tdiv 16
theorem Rn (s : Int) : 0 ≤ G6 s ∧ G6 s ≤ 5 := by
  unfold G6
  split
  · omega
  · split
    · omega
    · rw [Int.tdiv_eq_ediv_of_nonneg (by omega)]; omega
def Wc (l : List Int) (i : Nat) : Bool := match l[i]? with
  | none => false
  | some b => inB b 0 35 && !(l.take i).contains b
def Ih (n : Nd) : Bool := if n.kind == 0 then n.gen == 0 && n.time == 0 && n.size == 0 && n.blocks.length == 0
  else inB n.kind 1 3 && inB n.gen 0 1000000 && inB n.time 0 100000 && inB n.size 0 80 && decide ((n.blocks.length : Int) = G6 n.size) && !(n.kind == 2 && (n.gen != 0 || n.time != 0)) && (List.range n.blocks.length).all (Wc n.blocks)
theorem Rd {n : Nd} (h : Ih n = true) : n.blocks.length ≤ 5 := by
  unfold Ih at h
  have := Rn n.size
  split at h
  · simp at h; rw [h.2]; simp
  · simp only [Bool.and_eq_true, decide_eq_true_eq] at h
    omega
theorem B3a {n : Nd} (h : Ih n = true) (hk : n.kind = 0) : n = Nd.zero := by
  obtain ⟨k, g, t, s, b⟩ := n
  simp only at hk
  subst hk
  simp [Ih] at h
  obtain ⟨⟨⟨h1, h2⟩, h3⟩, h4⟩ := h
  simp [Nd.zero, h1, h2, h3, h4]
def G0 (n : Nat) (o : List Int) (b : Int) : List Int := if inB b 0 (n - 1) then o.set b.toNat (o.getD b.toNat 0 + 1) else o.set n (o.getD n 0 + 1)
def Kq (l : List Nd) : List Int := l.flatMap Nd.blocks
def R5 (n : Nat) (l : List Int) : List Int := l.foldl (G0 n) (List.replicate (n + 1) 0)
def Mt (f : Fs) : List Int := R5 f.data.length (Kq f.nodes)
theorem Xf (n : Nat) (o : List Int) (b : Int) : (G0 n o b).length = o.length := by unfold G0; split <;> simp
theorem Vt (n : Nat) : ∀ (l : List Int) (o : List Int), (l.foldl (G0 n) o).length = o.length
  | [], o => rfl
  | b :: l, o => by rw [List.foldl_cons, Vt n l, Xf]
theorem Uw (n : Nat) (l : List Int) : (R5 n l).length = n + 1 := by rw [R5, Vt]; simp
theorem Uj (o : List Int) (i k : Nat) (v : Int) : (o.set i v).getD k 0 = if i = k ∧ k < o.length then v else o.getD k 0 := by
  simp only [List.getD_eq_getElem?_getD, List.getElem?_set]
  by_cases h : i = k
  · subst h
    by_cases h2 : i < o.length
    · simp [h2]
    · simp [h2]
  · simp [h]
theorem Zz {n : Nat} {o : List Int} {b : Int} {m : Int} (h : ∀ k, 0 ≤ o.getD k 0 ∧ o.getD k 0 ≤ m) (k : Nat) : 0 ≤ (G0 n o b).getD k 0 ∧ (G0 n o b).getD k 0 ≤ m + 1 ∧ o.getD k 0 ≤ (G0 n o b).getD k 0 := by
  unfold G0
  have h1 := h k
  have h2 := h b.toNat
  have h3 := h n
  split
  · rw [Uj]
    split
    · rename_i e
      obtain ⟨rfl, _⟩ := e
      omega
    · omega
  · rw [Uj]
    split
    · rename_i e
      obtain ⟨rfl, _⟩ := e
      omega
    · omega
theorem Rb {n : Nat} : ∀ {l : List Int} {o : List Int} {m : Int}, (∀ k, 0 ≤ o.getD k 0 ∧ o.getD k 0 ≤ m) → ∀ k, 0 ≤ (l.foldl (G0 n) o).getD k 0 ∧ (l.foldl (G0 n) o).getD k 0 ≤ m + l.length ∧ o.getD k 0 ≤ (l.foldl (G0 n) o).getD k 0
  | [], o, m, h, k => by have := h k; simp only [List.foldl_nil, List.length_nil]; omega
  | b :: l, o, m, h, k => by
    have h1 := fun k => Zz (n := n) (b := b) h k
    have h2 := Rb (n := n) (l := l) (m := m + 1) (fun k => ⟨(h1 k).1, (h1 k).2.1⟩) k
    have h3 := h1 k
    rw [List.foldl_cons, List.length_cons]
    omega
theorem Us (n k : Nat) : (List.replicate n (0 : Int)).getD k 0 = 0 := by
  rw [List.getD_eq_getElem?_getD, List.getElem?_replicate]
  split <;> rfl
theorem B4n (n : Nat) (l : List Int) (k : Nat) : 0 ≤ (R5 n l).getD k 0 ∧ (R5 n l).getD k 0 ≤ l.length := by
  have := Rb (n := n) (l := l) (o := List.replicate (n + 1) 0) (m := 0) (fun k => by rw [Us]; omega) k
  unfold R5
  omega
theorem B46 {n : Nat} : ∀ {l : List Int} {o : List Int}, o.length = n + 1 → (∀ k, 0 ≤ o.getD k 0) → (l.foldl (G0 n) o).getD n 0 ≤ o.getD n 0 → ∀ b, b ∈ l → 0 ≤ b ∧ b < n
  | [], o, _, _, _, b, hb => by cases hb
  | a :: l, o, hl, h0, h, b, hb => by
    have hM : ∃ m : Int, ∀ k, o.getD k 0 ≤ m := by
      clear h hl h0 hb
      induction o with
      | nil => exact ⟨0, fun k => by simp⟩
      | cons x o ih =>
        obtain ⟨m, hm⟩ := ih
        refine ⟨max x m, fun k => ?_⟩
        cases k with
        | zero => simp; omega
        | succ k => have := hm k; simp only [List.getD_cons_succ]; omega
    obtain ⟨m, hm⟩ := hM
    have s1 := fun k => Zz (n := n) (b := a) (m := m) (fun k => ⟨h0 k, hm k⟩) k
    have s2 := Rb (n := n) (l := l) (m := m + 1) (fun k => ⟨(s1 k).1, (s1 k).2.1⟩) n
    rw [List.foldl_cons] at h
    have s3 := s1 n
    have e : (G0 n o a).getD n 0 = o.getD n 0 := by omega
    have ha : 0 ≤ a ∧ a < n := by
      by_cases c : inB a 0 (n - 1) = true
      · simp [inB] at c; omega
      · exfalso
        unfold G0 at e
        rw [if_neg c, Uj, if_pos ⟨rfl, by omega⟩] at e
        omega
    rcases List.mem_cons.1 hb with rfl | hb
    · exact ha
    · exact B46 (o := G0 n o a) (by rw [Xf]; exact hl) (fun k => (s1 k).1) (by omega) b hb
def Yw (s : Int) (k : Nat) : Int := if 16 < s - (k : Int) * 16 then 16 else s - (k : Int) * 16
def W8 (f : Fs) (k : Nat) : Bool := match f.data[k]? with
  | none => false
  | some s => !(decide ((Mt f).getD k 0 > 1) || ((Mt f).getD k 0 == 0 && s != []) || decide ((s.length : Int) > 16))
def B25 (f : Fs) (n : Nd) (k : Nat) : Bool := match n.blocks[k]? with
  | none => false
  | some b => decide (((f.data.getD b.toNat []).length : Int) = Yw n.size k)
def A35 (f : Fs) (n : Nd) : Bool := (List.range n.blocks.length).all (B25 f n)
def Ei (f : Fs) : Bool := inB f.nodes.length 2 10 && inB f.data.length 1 36 && (f.nodes.headD .zero).kind == 2 && f.nodes.all Ih && !decide ((Mt f).getD f.data.length 0 > 0) && (List.range f.data.length).all (W8 f) && f.nodes.all (A35 f)
def inR (f : Fs) : Prop := ∀ n, n ∈ f.nodes → ∀ b, b ∈ n.blocks → 0 ≤ b ∧ b < f.data.length
theorem C0w {l : List Nd} {n : Nd} (h : n ∈ l) {b : Int} (hb : b ∈ n.blocks) : b ∈ Kq l := List.mem_flatMap.2 ⟨n, h, hb⟩
theorem B2p {f : Fs} (h : (Mt f).getD f.data.length 0 ≤ 0) : inR f := fun n hn b hb =>
  B46 (n := f.data.length) (l := Kq f.nodes) (o := List.replicate (f.data.length + 1) 0) (by simp) (fun k => by rw [Us]; omega) (by rw [Us]; exact h) b (C0w hn hb)
structure Pd (f : Fs) : Prop where
  nn : 2 ≤ f.nodes.length ∧ f.nodes.length ≤ 10
  nd : 1 ≤ f.data.length ∧ f.data.length ≤ 36
  top : (f.nodes.headD .zero).kind = 2
  all : ∀ n, n ∈ f.nodes → Ih n = true
  inr : inR f
  dat : ∀ s, s ∈ f.data → s.length ≤ 16
  sm : smF f
theorem X7 {f : Fs} (h : Ei f = true) : Pd f := by
  simp only [Ei, Bool.and_eq_true, List.all_eq_true, Bool.not_eq_true', decide_eq_false_iff_not] at h
  obtain ⟨⟨⟨⟨⟨⟨h1, h2⟩, h3⟩, h4⟩, h5⟩, h6⟩, h7⟩ := h
  simp [inB] at h1 h2
  have hd : ∀ s, s ∈ f.data → s.length ≤ 16 := by
    intro s hs
    obtain ⟨k, hk, e⟩ := List.getElem_of_mem hs
    have := h6 k (List.mem_range.2 hk)
    simp only [W8, List.getElem?_eq_getElem hk, e, Bool.not_eq_true', Bool.or_eq_false_iff, decide_eq_false_iff_not] at this
    omega
  exact ⟨by omega, by omega, by simpa using h3, h4, B2p (by omega), hd, by omega, by omega, fun n hn => by have := Rd (h4 n hn); omega, fun s hs => by have := hd s hs; omega⟩
def Il (f : Fs) (i : Nat) : Str := match f.nodes[i]? with
  | none => []
  | some n => n.blocks.flatMap fun b => f.data.getD b.toNat []
theorem Up {d : List Str} {m : Nat} (hd : ∀ s, s ∈ d → s.length ≤ m) : ∀ (l : List Int), (l.flatMap fun b => d.getD b.toNat []).length ≤ l.length * m
  | [] => by simp
  | b :: l => by
    have h1 := Up hd l
    have h2 : (d.getD b.toNat []).length ≤ m := by
      rw [List.getD_eq_getElem?_getD]
      cases h : d[b.toNat]? with
      | none => simp
      | some s => exact hd s (List.mem_of_getElem? h)
    rw [List.flatMap_cons, List.length_append, List.length_cons, Nat.add_mul]
    omega
theorem Nf {f : Fs} (h : Pd f) (i : Nat) : (Il f i).length ≤ 80 := by
  unfold Il
  cases hn : f.nodes[i]? with
  | none => simp
  | some n =>
    have h1 := Up h.dat n.blocks
    have h2 := Rd (h.all n (List.mem_of_getElem? hn))
    have h3 : n.blocks.length * 16 ≤ 5 * 16 := Nat.mul_le_mul_right _ h2
    show (n.blocks.flatMap _).length ≤ _
    omega
def Hr (f : Fs) (i : Nat) : Option (List En) := match f.nodes[i]? with
  | none => none
  | some n => if n.kind == 2 then Ra (Il f i) else none
def Ki (f : Fs) (i : Nat) : Int := (f.nodes.getD i .zero).kind
def P4 (s : List Int) (i : Nat) : List Int := s.set i (s.getD i 0 + 1)
def C23 (f : Fs) (i : Nat) (e : En) : Bool := decide (e.node ≥ f.nodes.length) || Ki f e.node.toNat == 0 || (e.name == hid && (i != 0 || Ki f e.node.toNat != 1))
def T2 (rec : Nat → List Int → List Int × Bool) (f : Fs) (i : Nat) : List En → List Int → List Int × Bool
  | [], o => (o, true)
  | e :: r, o => if C23 f i e then (o, false) else if (rec e.node.toNat o).2 then T2 rec f i r (rec e.node.toNat o).1 else (o, false)
def Gv (f : Fs) : Nat → Nat → List Int → List Int × Bool
  | 0, i, s => (P4 s i, false)
  | d + 1, i, s => if (P4 s i).getD i 0 > 1 then (P4 s i, false) else if Ki f i != 2 then (P4 s i, true) else match Hr f i with
    | none => (P4 s i, false)
    | some l => T2 (Gv f d) f i l (P4 s i)
def zrs (n : Nat) : List Int := List.replicate n 0
def Jh (f : Fs) : Bool := Ei f && (Gv f 5 0 (zrs f.nodes.length)).2 && (List.range f.nodes.length).all fun i => ((Gv f 5 0 (zrs f.nodes.length)).1.getD i 0 == 1) == (Ki f i != 0)
def W4 (f : Fs) (d i : Nat) : Prop := ∃ s, (Gv f d i s).2 = true
theorem A8s {rec : Nat → List Int → List Int × Bool} {f : Fs} {i : Nat} : ∀ {l : List En} {o : List Int}, (T2 rec f i l o).2 = true → ∀ e, e ∈ l → C23 f i e = false ∧ ∃ s, (rec e.node.toNat s).2 = true
  | [], o, h, e, he => by cases he
  | a :: l, o, h, e, he => by
    rw [T2] at h
    split at h
    · cases h
    · rename_i h1
      split at h
      · rename_i h2
        rcases List.mem_cons.1 he with rfl | he
        · exact ⟨by simpa using h1, _, h2⟩
        · exact A8s h e he
      · cases h
theorem Km {f : Fs} {d i : Nat} (h : W4 f d i) : d ≠ 0 ∧ ∀ l, Hr f i = some l → ∀ e, e ∈ l → e.node < f.nodes.length ∧ Ki f e.node.toNat ≠ 0 ∧ (e.name = hid → Ki f e.node.toNat = 1) ∧ W4 f (d - 1) e.node.toNat := by
  obtain ⟨s, h⟩ := h
  cases d with
  | zero => cases h
  | succ d =>
    refine ⟨by omega, fun l hl e he => ?_⟩
    rw [Gv] at h
    split at h
    · cases h
    split at h
    · rename_i h1
      have : Ki f i = 2 := by
        unfold Hr at hl
        split at hl
        · cases hl
        · rename_i n hn
          split at hl
          · rename_i hk
            rw [Ki, List.getD_eq_getElem?_getD, hn]
            simpa using hk
          · cases hl
      rw [this] at h1
      cases h1
    rw [hl] at h
    obtain ⟨h1, h2⟩ := A8s h e he
    simp only [C23, Bool.or_eq_false_iff, decide_eq_false_iff_not] at h1
    obtain ⟨⟨h3, h4⟩, h5⟩ := h1
    refine ⟨by omega, by simpa using h4, fun hn => ?_, h2⟩
    rw [hn] at h5
    simp at h5
    exact h5.2
theorem Pt {f : Fs} (h : Jh f = true) : Pd f ∧ Ei f = true ∧ W4 f 5 0 := by
  simp only [Jh, Bool.and_eq_true] at h
  exact ⟨X7 h.1.1, h.1.1, _, h.1.2⟩
theorem C0q {s : Str} {l : List En} (h : Ra s = some l) : Di l = true := by
  unfold Ra at h
  split at h
  · cases h
  · split at h
    · rename_i h2; simp only [Option.some.injEq] at h; subst h; exact h2
    · cases h
theorem Q4 {f : Fs} {i : Nat} {l : List En} (h : Hr f i = some l) : Di l = true := by
  unfold Hr at h
  split at h
  · cases h
  · split at h
    · exact C0q h
    · cases h
theorem Ig {l : List En} (h : Di l = true) {e : En} (he : e ∈ l) : W3 e.name = true ∧ 1 ≤ e.node ∧ e.node ≤ 9 := by
  simp only [Di, Bool.and_eq_true, List.all_eq_true] at h
  obtain ⟨k, hk, e1⟩ := List.getElem_of_mem he
  have := h.1 k (List.mem_range.2 hk)
  simp only [Zq, List.getElem?_eq_getElem hk, e1, Bool.and_eq_true, Bool.not_eq_true', B72, Bool.or_eq_false_iff, Bool.not_eq_false'] at this
  have h2 := this.1.1.2
  simp [inB] at h2
  exact ⟨this.1.1.1, h2⟩
theorem Oc {s : Str} (h : W3 s = true) : 1 ≤ s.length ∧ s.length ≤ 6 := by
  simp only [W3, Bool.or_eq_true] at h
  rcases h with h | h
  · have : s = hid := by simpa using h
    subst this; decide
  · simp only [Do, Bool.and_eq_true, inB, decide_eq_true_eq] at h
    omega
theorem A3n {n : Int} (h : inB n 0 2147483647 = true) : 1 ≤ (Lo n).length := by
  unfold Lo
  rw [if_pos h, leb]
  split <;> simp
theorem B5s {e : En} (h : W3 e.name = true) (h1 : 1 ≤ e.node) (h2 : e.node ≤ 9) : 3 ≤ (Ru e).length := by
  have a := Oc h
  have b := A3n (n := e.name.length) (by simp [inB]; omega)
  have c := A3n (n := e.node) (by simp [inB]; omega)
  simp only [Ru, Rs, List.length_append]
  omega
theorem Na {l : List En} (h : Di l = true) : l.length ≤ 26 := by
  have key : ∀ (l : List En), (∀ e, e ∈ l → 3 ≤ (Ru e).length) → 3 * l.length ≤ (Fr l).length := by
    intro l
    induction l with
    | nil => intro _; simp [Fr]
    | cons e l ih =>
      intro hm
      have h1 := hm e (by simp)
      have h2 := ih fun x hx => hm x (by simp [hx])
      simp only [Fr, List.flatMap_cons, List.length_append, List.length_cons] at *
      omega
  have h1 := key l fun e he => by
    obtain ⟨a, b, c⟩ := Ig h he
    exact B5s a b c
  simp only [Di, Bool.and_eq_true, decide_eq_true_eq] at h
  omega
def E1 (f : Fs) : Nat → List Str → Int
  | i, [] => i
  | i, s :: r => match Hr f i with
    | none => -1
    | some l => if Fj l s < 0 then -1 else E1 f (Fj l s).toNat r
theorem Pb {l : List En} {s : Str} : Fj l s = -1 ∨ ∃ e, e ∈ l ∧ e.name = s ∧ Fj l s = e.node := by
  unfold Fj
  split
  · exact .inl rfl
  · rename_i e he
    exact .inr ⟨e, List.mem_of_find?_eq_some he, by simpa using List.find?_some he, rfl⟩
theorem Tv {f : Fs} : ∀ {l : List Str} {d i : Nat}, W4 f d i → i < f.nodes.length → E1 f i l < 0 ∧ E1 f i l = -1 ∨ (0 ≤ E1 f i l ∧ E1 f i l < f.nodes.length ∧ ∃ d', W4 f d' (E1 f i l).toNat)
  | [], d, i, h, hi => by
    right
    rw [E1]
    exact ⟨by omega, by omega, d, by simpa using h⟩
  | s :: r, d, i, h, hi => by
    rw [E1]
    split
    · left; omega
    · rename_i l hl
      split
      · left; omega
      · rename_i hd
        rcases Pb (l := l) (s := s) with e | ⟨e, he, _, e1⟩
        · rw [e] at hd; omega
        · obtain ⟨q1, _, _, q2⟩ := (Km h).2 l hl e he
          have q3 := (Ig (Q4 hl) he).2
          rw [e1]
          exact Tv q2 (by omega)
def K0 (rec : Nat → List Str → Tr → Tr) (f : Fs) (ns : List Str) (t : Tr) (e : En) : Tr := if e.name == hid then t
  else if Ki f e.node.toNat == 2 then rec e.node.toNat (ns ++ [e.name]) (Id t ⟨E8 (ns ++ [e.name]), 2, [], 0⟩)
  else Id t ⟨E8 (ns ++ [e.name]), Ki f e.node.toNat, Il f e.node.toNat, (f.nodes.getD e.node.toNat .zero).time⟩
def Hg (f : Fs) : Nat → Nat → List Str → Tr → Tr
  | 0, i, ns, t => t
  | d + 1, i, ns, t => ((Hr f i).getD []).foldl (K0 (Hg f d) f ns) t
def Gp (f : Fs) : Tr := if Jh f then Hg f 5 0 [] [] else []
theorem B3s {n : Nd} (h : Ih n = true) : 0 ≤ n.size ∧ n.size ≤ 80 := by
  unfold Ih at h
  split at h
  · simp at h; rw [h.1.2]; decide
  · simp only [Bool.and_eq_true, inB, decide_eq_true_eq] at h
    omega
theorem Uy {α : Type} {l : List α} {p : α → Bool} {a : α} (h : a ∈ l) (e : p a = false) : l.all p = false := by
  rw [List.all_eq_false]
  exact ⟨a, h, by rw [e]; decide⟩
def Xh (n d : Int) : Fs := if inB n 2 10 && inB d 1 36 then ⟨⟨2, 0, 0, 0, []⟩ :: List.replicate (n.toNat - 1) Nd.zero, List.replicate d.toNat []⟩ else ⟨[], []⟩
def isN (f : Fs) (i : Int) : Bool := Ei f && inB i 0 ((f.nodes.length : Int) - 1) && (f.nodes.getD i.toNat .zero).kind != 0
end Go.GH


set_option linter.unusedVariables false
set_option linter.unusedSimpArgs false
namespace Go.GH
open Go Go.Proofs
noncomputable def Ek : Bi := con [mC] true Int (fun n => [.int .i64 n]) (fun _ => True) (fun n => .int .i64 (G6 n))
noncomputable def Yt : Env := ⟨A4 Ba, A4 [], [0, 2, 4, 6]⟩
set_option maxRecDepth 100000 in
set_option maxHeartbeats 4000000 in
theorem Zc : Bb Yt (Ax Tryz.f194) Tryz.f194.results.toList Ek := by
  intro (n : Int) _
  refine ⟨trivial, ?_⟩
  (conv => whnf); refine ⟨fun h1 => ?_, fun h1 => ?_⟩
  · have h1 : n ≤ 0 := by simpa using h1
    skip
    exact ⟨trivial, Nr (by rw [G6, if_pos h1])⟩
  have h1 : ¬ n ≤ 0 := by simpa using h1
  skip
  (conv => whnf); refine ⟨fun h2 => ?_, fun h2 => ?_⟩
  · have h2 : n ≥ 80 := by simpa using h2
    skip
    exact ⟨trivial, Nr (by rw [G6, if_neg h1, if_pos h2])⟩
  have h2 : ¬ n ≥ 80 := by simpa using h2
  have h3 := Int.tdiv_eq_ediv_of_nonneg (a := n + 15) (b := 16) (by omega)
  repeat ((conv => whnf); first | refine ⟨_, w64 (bb), ?_⟩ | refine ⟨bb, ?_⟩)
  refine ⟨(n + 15).tdiv 16, by
    show IntKind.i64.wrap ((n + 16 - 1).tdiv 16) = _
    rw [show n + 16 - 1 = n + 15 by omega, h3]
    exact w64 (by omega), ?_⟩
  skip
  exact ⟨trivial, Nr (by rw [G6, if_neg h1, if_neg h2])⟩
theorem Q1 : Av Tryz.prog 194 Ek := Ao (Ca _ _) FOk.nil mixed Tryz.func194 rfl Tryz.call194 (by decide) (by kernel_rfl) Zc (by intro _ (y : Int) _; exact ⟨by simp [Ek, con, A9, A8, AV.noRd, A7, Ab, A5, A6, Ae, Ag, Ai], by simp [Ek, con, A9, A8, AV.noRd, A7, Ab, A5, A6, Ae, Ag, Ai]⟩) (by intro (y : Int) _; first | (simp [Ek, con, A9, A8, Ad, AV.free, A2, A3, A1, A6, Ae, Ag, Ai]; done) | (obtain ⟨_, _⟩ := y; simp [Ek, con, A9, A8, Ad, AV.free, A2, A3, A1, A6, Ae, Ag, Ai]; done) | (obtain ⟨_, _, _⟩ := y; simp [Ek, con, A9, A8, Ad, AV.free, A2, A3, A1, A6, Ae, Ag, Ai]; done))
noncomputable def Fu : Bi := con [mC] false Str A6 (fun s => s.length ≤ 8388608) (fun s => .own 1 ((Rs s).map Ag))
noncomputable def A2h : Env := ⟨A4 Ba, A4 [(208, Ey)], [0, 2]⟩
set_option maxRecDepth 100000 in
set_option maxHeartbeats 4000000 in
theorem A2f : Bb A2h (Ax Tryz.f207) Tryz.f207.results.toList Fu := by
  intro (s : Str) hs
  have hs : s.length ≤ 8388608 := hs
  refine ⟨trivial, ?_⟩
  have hp := P2 s.length
  skip
  refine ⟨(s.length : Int), rfl, fun _ => trivial, ?_⟩
  repeat ((conv => whnf); first | refine ⟨bb, ?_⟩ | refine ⟨B5e (fun a => by simp [Ag, Ai, Ae, A6, AV.isOwn]), ?_⟩)
  rw [show Fu.res s = .own 1 ((Lo s.length ++ s).map Ag) from rfl]
  refine ⟨trivial, rfl, ?_⟩
  show List.take _ (List.drop 0 (_ ++ List.take s.length (List.drop 0 (s.map Ag)))) = _
  first | rfl | exact trivial | (simp [tkM, Ag, Ae, Ai, A6, List.take_of_length_le]; done) | (simp [tkM, List.take_of_length_le]; omega)
theorem A0k : Av Tryz.prog 207 Fu := Ao (Ca _ _) (FOk.cons U3 FOk.nil) mixed Tryz.func207 rfl Tryz.call207 (by decide) (by kernel_rfl) A2f (by intro _ (y : Str) _; exact ⟨by simp [Fu, con, A9, A8, AV.noRd, A7, Ab, A5, A6, Ae, Ag, Ai], by simp [Fu, con, A9, A8, AV.noRd, A7, Ab, A5, A6, Ae, Ag, Ai]⟩) (by intro (y : Str) _; first | (simp [Fu, con, A9, A8, Ad, AV.free, A2, A3, A1, A6, Ae, Ag, Ai]; done) | (obtain ⟨_, _⟩ := y; simp [Fu, con, A9, A8, Ad, AV.free, A2, A3, A1, A6, Ae, Ag, Ai]; done) | (obtain ⟨_, _, _⟩ := y; simp [Fu, con, A9, A8, Ad, AV.free, A2, A3, A1, A6, Ae, Ag, Ai]; done))
noncomputable def Fl : Bi := con [mS 1, mC] false (Str × Int) (fun ⟨b, a⟩ => [.rd 1 (b.map Ag), .int .i64 a]) (fun x => x.1.length ≤ 1099511627776) (fun ⟨b, a⟩ => .tup [.str ((I0 b a).getD ([], 0)).1, .int .i64 (((I0 b a).getD ([], 0)).2 : Nat), .bool (I0 b a).isSome])
noncomputable def A3x : Env := ⟨A4 Ba, A4 [(203, Fb)], [0, 1, 4, 5, 6, 7, 8, 9, 26]⟩
set_option maxRecDepth 100000 in
set_option maxHeartbeats 4000000 in
theorem A2b : Bb A3x (Ax Tryz.f202) Tryz.f202.results.toList Fl := by
  rintro ⟨b, a⟩ hb
  have hb : b.length ≤ 1099511627776 := hb
  refine ⟨trivial, ?_⟩
  have fin : ∀ {o : Option (Str × Nat)}, o = I0 b a → Fl.res (b, a) = .tup [.str (o.getD ([], 0)).1, .int .i64 ((o.getD ([], 0)).2 : Nat), .bool o.isSome] := fun h => by rw [h]; rfl
  skip
  refine ⟨(b, a), by (repeat' (first | refine Bu ?_ ?_ | refine Bz ?_ | refine Bq ?_ | refine Bx ?_ | exact rfl)) <;> simp [rdI, rdO, rdE, rdB, rdN, rdS, rdD, rdW, tkM], fun _ => by show b.length ≤ _; omega, ?_⟩
  have hle : ((Ep b a).getD (0, 0)).1 ≤ 2147483647 ∧ ((Ep b a).getD (0, 0)).2 ≤ b.length := by
    cases hg : Ep b a with
    | none => simp
    | some r => have := V9 (n := r.1) (x := r.2) hg; show r.1 ≤ _ ∧ r.2 ≤ _; omega
  repeat ((conv => whnf); first | refine ⟨fun h => h, ?_⟩ | refine ⟨_, w64 (bb), ?_⟩)
  (conv => whnf); refine ⟨fun h1 => ?_, fun h1 => ?_⟩
  · have hI : none = I0 b a := by
      have h1 : (!(Ep b a).isSome || decide ((((Ep b a).getD (0, 0)).1 : Int) > (((b.map Ag).length : Nat) : Int) - (((Ep b a).getD (0, 0)).2 : Nat))) = true := h1
      rw [List.length_map] at h1
      rw [I0]
      revert h1 hle
      cases Ep b a with
      | none => intros; rfl
      | some r =>
        obtain ⟨n, x⟩ := r
        intro hle h1
        have : n > b.length - x := by simp at h1 hle; omega
        simp [this]
    skip
    rw [fin hI]
    exact ⟨trivial, rfl, rfl, rfl, trivial⟩
  · obtain ⟨n, x, hg, hn⟩ : ∃ n x, Ep b a = some (n, x) ∧ ¬ n > b.length - x := by
      have h1 : (!(Ep b a).isSome || decide ((((Ep b a).getD (0, 0)).1 : Int) > (((b.map Ag).length : Nat) : Int) - (((Ep b a).getD (0, 0)).2 : Nat))) = false := h1
      rw [List.length_map] at h1
      revert h1 hle
      cases Ep b a with
      | none => intro _ h; cases h
      | some r =>
        obtain ⟨n, x⟩ := r
        intro hle h1
        exact ⟨n, x, rfl, by simp at h1 hle; omega⟩
    have hI : some ((b.drop x).take n, x + n) = I0 b a := by rw [I0, hg]; simp [hn]
    have e1 : ((Ep b a).getD (0, 0)).1 = n := by rw [hg]; rfl
    have e2 : ((Ep b a).getD (0, 0)).2 = x := by rw [hg]; rfl
    have hg2 := V9 hg
    repeat ((conv => whnf); first | refine ⟨_, w64 (bb), ?_⟩ | refine ⟨fun _ => ⟨bb, bb, bb⟩, ?_⟩)
    refine ⟨(b.drop x).take n, by
      show List.take _ _ = ((b.drop x).take n).map Ag
      rw [e1, e2, show ((x : Int) + (n : Int)).toNat - (x : Int).toNat = n by omega, show (x : Int).toNat = x by omega, List.map_take, List.map_drop], ?_⟩
    repeat ((conv => whnf); refine ⟨_, w64 (bb), ?_⟩)
    rw [fin hI]
    refine ⟨trivial, rfl, Nr ?_, rfl, trivial⟩
    show ((((Ep b a).getD (0, 0)).2 : Nat) : Int) + ((((Ep b a).getD (0, 0)).1 : Nat) : Int) = ((x + n : Nat) : Int)
    rw [e1, e2]; omega
theorem A1g : Av Tryz.prog 202 Fl := Ao (Ca _ _) (FOk.cons Ue FOk.nil) mixed Tryz.func202 rfl Tryz.call202 (by decide) (by kernel_rfl) A2b (by intro _ (y : (Str × Int)) _; exact ⟨by simp [Fl, con, A9, A8, AV.noRd, A7, Ab, A5, A6, Ae, Ag, Ai], by simp [Fl, con, A9, A8, AV.noRd, A7, Ab, A5, A6, Ae, Ag, Ai]⟩) (by intro (y : (Str × Int)) _; first | (simp [Fl, con, A9, A8, Ad, AV.free, A2, A3, A1, A6, Ae, Ag, Ai]; done) | (obtain ⟨_, _⟩ := y; simp [Fl, con, A9, A8, Ad, AV.free, A2, A3, A1, A6, Ae, Ag, Ai]; done) | (obtain ⟨_, _, _⟩ := y; simp [Fl, con, A9, A8, Ad, AV.free, A2, A3, A1, A6, Ae, Ag, Ai]; done))
noncomputable def Hn : Bi := con [mC] true Str A6 (fun s => s.length ≤ 4611686018427387904) (fun s => .bool (W3 s))
noncomputable def A7q : Env := ⟨A4 Ba, A4 [(118, Gg)], [0, 2]⟩
set_option maxRecDepth 100000 in
set_option maxHeartbeats 4000000 in
theorem A6b : Bb A7q (Ax Tryz.f211) Tryz.f211.results.toList Hn := by
  intro (s : Str) hs
  refine ⟨trivial, ?_⟩
  repeat ((conv => whnf); refine ⟨fun h => h, ?_⟩)
  refine ⟨s, rfl, fun _ => hs, ?_⟩
  repeat ((conv => whnf); refine ⟨fun h => h, ?_⟩)
  exact ⟨trivial, rfl⟩
theorem A2c : Av Tryz.prog 211 Hn := Ao (Ca _ _) (FOk.cons Tl FOk.nil) mixed Tryz.func211 rfl Tryz.call211 (by decide) (by kernel_rfl) A6b (by intro _ (y : Str) _; exact ⟨by simp [Hn, con, A9, A8, AV.noRd, A7, Ab, A5, A6, Ae, Ag, Ai], by simp [Hn, con, A9, A8, AV.noRd, A7, Ab, A5, A6, Ae, Ag, Ai]⟩) (by intro (y : Str) _; first | (simp [Hn, con, A9, A8, Ad, AV.free, A2, A3, A1, A6, Ae, Ag, Ai]; done) | (obtain ⟨_, _⟩ := y; simp [Hn, con, A9, A8, Ad, AV.free, A2, A3, A1, A6, Ae, Ag, Ai]; done) | (obtain ⟨_, _, _⟩ := y; simp [Hn, con, A9, A8, Ad, AV.free, A2, A3, A1, A6, Ae, Ag, Ai]; done))
noncomputable def Fq : Bi := con [mS 2, mC] true (List En × Str) (fun ⟨l, s⟩ => [.rd 2 (l.map Ai), .str s]) (fun x => x.1.length ≤ 1099511627776) (fun ⟨l, s⟩ => .int .i64 (Fj l s))
noncomputable def A29 : Env := ⟨A4 Ba, A4 [], [0, 1, 4, 5, 9, 18]⟩
set_option maxRecDepth 100000 in
set_option maxHeartbeats 4000000 in
theorem A4m : Bb A29 (Ax Tryz.f188) Tryz.f188.results.toList Fq := by
  rintro ⟨l, s⟩ hl
  have hl : l.length ≤ 1099511627776 := hl
  refine ⟨trivial, ?_⟩
  skip
  refine B0 (fun i : Nat => ⟨[(0, ⟨none, .rd 2 (l.map Ai)⟩), (1, ⟨none, .str s⟩), (5, ⟨none, .int .i64 i⟩)], [], 0⟩) (fun i => i ≤ l.length ∧ ((l.take i).find? fun e => e.name == s) = none) (fun i => l.length - i) 0 ?_ ⟨by omega, rfl⟩ ?_
  · (refine ⟨?_, ?_, rfl⟩ <;> repeat' (first | exact rfl | exact trivial | refine ⟨?_, ?_⟩ | fail) <;> (conv => whnf))
  rintro i ⟨hi, hc⟩
  (conv => whnf); refine ⟨fun h1 => ?_, fun h1 => ?_⟩
  · have h1 : i < l.length := by simpa using h1
    obtain ⟨b, hb⟩ := B8 h1
    have hs : l = l.take i ++ b :: l.drop (i + 1) := by
      have := List.take_append_drop i l
      rw [List.drop_eq_getElem_cons h1] at this
      rw [List.getElem?_eq_getElem h1] at hb
      rw [← Option.some.inj hb]; exact this.symm
    repeat ((conv => whnf); refine ⟨Ai b, fun _ => ⟨by omega, Am hb⟩, ?_⟩)
    (conv => whnf); refine ⟨fun h2 => ?_, fun h2 => ?_⟩
    · have h2 : (b.name == s) = true := h2
      repeat ((conv => whnf); refine ⟨Ai b, fun _ => ⟨by omega, Am hb⟩, ?_⟩)
      refine ⟨trivial, Nr ?_⟩
      show b.node = Fj l s
      have : l.find? (fun e => e.name == s) = some b := by rw [hs, List.find?_append, hc, List.find?_cons, h2]; rfl
      rw [Fj, this]
    · have h2 : (b.name == s) = false := h2
      repeat ((conv => whnf); refine ⟨_, w64 (bb), ?_⟩)
      refine C2 (i + 1) ?_ ⟨h1, ?_⟩ (by first | omega | (simp; done) | (simp; omega))
      · (refine ⟨?_, ?_, rfl⟩ <;> repeat' (first | exact rfl | exact trivial | refine ⟨?_, ?_⟩ | fail) <;> (conv => whnf))
      · rw [Bs hb, List.find?_append, hc, List.find?_cons, h2]; rfl
  · have h1 : i = l.length := by have : ¬ (i < l.length) := by simpa using h1
                                 omega
    subst h1
    rw [List.take_length] at hc
    skip
    exact ⟨trivial, Nr (by rw [Fj, hc])⟩
theorem Sk : Av Tryz.prog 188 Fq := Ao (Ca _ _) FOk.nil mixed Tryz.func188 rfl Tryz.call188 (by decide) (by kernel_rfl) A4m (by intro _ (y : (List En × Str)) _; exact ⟨by simp [Fq, con, A9, A8, AV.noRd, A7, Ab, A5, A6, Ae, Ag, Ai], by simp [Fq, con, A9, A8, AV.noRd, A7, Ab, A5, A6, Ae, Ag, Ai]⟩) (by intro (y : (List En × Str)) _; first | (simp [Fq, con, A9, A8, Ad, AV.free, A2, A3, A1, A6, Ae, Ag, Ai]; done) | (obtain ⟨_, _⟩ := y; simp [Fq, con, A9, A8, Ad, AV.free, A2, A3, A1, A6, Ae, Ag, Ai]; done) | (obtain ⟨_, _, _⟩ := y; simp [Fq, con, A9, A8, Ad, AV.free, A2, A3, A1, A6, Ae, Ag, Ai]; done))
noncomputable def Gj : Bi := con [mS 2] false (List En) (fun l => [.rd 2 (l.map Ai)]) (fun l => l.length ≤ 1099511627) (fun l => .own 2 (l.map Ai))
noncomputable def A71 : Env := ⟨A4 Ba, A4 [], [0, 2]⟩
set_option maxRecDepth 100000 in
set_option maxHeartbeats 4000000 in
theorem A62 : Bb A71 (Ax Tryz.f206) Tryz.f206.results.toList Gj := by
  intro (l : List En) hl
  have hl : l.length ≤ 1099511627 := hl
  refine ⟨trivial, ?_⟩
  repeat ((conv => whnf); refine ⟨bb, ?_⟩)
  refine ⟨trivial, rfl, ?_⟩
  simp
theorem Ts : Av Tryz.prog 206 Gj := Ao (Ca _ _) FOk.nil mixed Tryz.func206 rfl Tryz.call206 (by decide) (by kernel_rfl) A62 (by intro _ (y : (List En)) _; exact ⟨by simp [Gj, con, A9, A8, AV.noRd, A7, Ab, A5, A6, Ae, Ag, Ai], by simp [Gj, con, A9, A8, AV.noRd, A7, Ab, A5, A6, Ae, Ag, Ai]⟩) (by intro (y : (List En)) _; first | (simp [Gj, con, A9, A8, Ad, AV.free, A2, A3, A1, A6, Ae, Ag, Ai]; done) | (obtain ⟨_, _⟩ := y; simp [Gj, con, A9, A8, Ad, AV.free, A2, A3, A1, A6, Ae, Ag, Ai]; done) | (obtain ⟨_, _, _⟩ := y; simp [Gj, con, A9, A8, Ad, AV.free, A2, A3, A1, A6, Ae, Ag, Ai]; done))
noncomputable def Eu : Bi := con [mS 2] true (List En) (fun l => [.rd 2 (l.map Ai)]) (fun l => l.length ≤ 1099511627 ∧ szE l ≤ 4398046511104 ∧ ∀ e, e ∈ l → e.name.length ≤ 8388608) (fun l => .str (Fr l))
noncomputable def A4n : Env := ⟨A4 Ba, A4 [(207, Fu), (208, Ey)], [0, 2, 3, 4, 9]⟩
set_option maxRecDepth 100000 in
set_option maxHeartbeats 4000000 in
theorem A43 : Bb A4n (Ax Tryz.f193) Tryz.f193.results.toList Eu := by
  intro (l : List En) hl
  obtain ⟨hl, hz, hs⟩ : l.length ≤ 1099511627 ∧ szE l ≤ 4398046511104 ∧ ∀ e, e ∈ l → e.name.length ≤ 8388608 := hl
  refine ⟨trivial, ?_⟩
  skip
  refine B0 (fun i : Nat => ⟨[(0, ⟨none, .rd 2 (l.map Ai)⟩), (3, ⟨none, .view 0 [] 0 (Fr (l.take i)).length⟩), (4, ⟨none, .int .i64 i⟩)], [(0, .own 1 ((Fr (l.take i)).map Ag))], 1⟩) (fun i => i ≤ l.length) (fun i => l.length - i) 0 ?_ (Nat.zero_le _) ?_
  · (refine ⟨?_, ?_, rfl⟩ <;> repeat' (first | exact rfl | exact trivial | refine ⟨?_, ?_⟩ | fail) <;> (conv => whnf))
  intro i hi
  have hi : i ≤ l.length := hi
  have hlen : (Fr (l.take i)).length ≤ szE l := by
    have h1 := Pq (l.take i)
    have h2 := Xx (l.take i) (l.drop i)
    rw [List.take_append_drop] at h2
    omega
  (conv => whnf); refine ⟨fun h1 => ?_, fun h1 => ?_⟩
  · have h1 : i < l.length := by simpa using h1
    obtain ⟨b, hb⟩ := B8 h1
    have hbs := hs b (List.mem_of_getElem? hb)
    have hp := P2 b.name.length
    have hp2 := P2 b.node
    have hpt : (Rs b.name).length ≤ b.name.length + 6 := by simp [Rs]; omega
    repeat ((conv => whnf); refine ⟨Ai b, fun _ => ⟨by omega, Am hb⟩, ?_⟩)
    refine ⟨b.name, rfl, fun _ => hbs, ?_⟩
    repeat ((conv => whnf); first | refine ⟨bb, ?_⟩ | refine ⟨Ai b, fun _ => ⟨by omega, Am hb⟩, ?_⟩ | refine ⟨B5e (fun a => by simp [Ag, Ai, Ae, A6, AV.isOwn]), ?_⟩)
    refine ⟨b.node, rfl, fun _ => trivial, ?_⟩
    repeat ((conv => whnf); first | refine ⟨_, w64 (bb), ?_⟩ | refine ⟨bb, ?_⟩ | refine ⟨B5e (fun a => by simp [Ag, Ai, Ae, A6, AV.isOwn]), ?_⟩)
    refine C2 (i + 1) ?_ h1 (by first | omega | (simp; done) | (simp; omega))
    rw [Bs hb, show Fr (l.take i ++ [b]) = Fr (l.take i) ++ (Rs b.name ++ Lo b.node) by simp [Fr, Ru]]
    (refine ⟨?_, ?_, rfl⟩ <;> repeat' (first | exact rfl | exact trivial | refine ⟨?_, ?_⟩ | fail) <;> (conv => whnf))
    all_goals first | rfl | exact trivial | (simp [tkM, Ag, Ae, Ai, A6, List.take_of_length_le]; done) | (simp [tkM, List.take_of_length_le]; omega)
  · have h1 : i = l.length := by have : ¬ (i < l.length) := by simpa using h1
                                 omega
    subst h1
    rw [List.take_length]
    skip
    refine ⟨Fr l, by show List.take _ _ = (Fr l).map Ag; first | rfl | exact trivial | (simp [tkM, Ag, Ae, Ai, A6, List.take_of_length_le]; done) | (simp [tkM, List.take_of_length_le]; omega), ?_⟩
    skip
    exact ⟨trivial, rfl⟩
theorem Nn : Av Tryz.prog 193 Eu := Ao (Ca _ _) (FOk.cons A0k (FOk.cons U3 FOk.nil)) mixed Tryz.func193 rfl Tryz.call193 (by decide) (by kernel_rfl) A43 (by intro _ (y : (List En)) _; exact ⟨by simp [Eu, con, A9, A8, AV.noRd, A7, Ab, A5, A6, Ae, Ag, Ai], by simp [Eu, con, A9, A8, AV.noRd, A7, Ab, A5, A6, Ae, Ag, Ai]⟩) (by intro (y : (List En)) _; first | (simp [Eu, con, A9, A8, Ad, AV.free, A2, A3, A1, A6, Ae, Ag, Ai]; done) | (obtain ⟨_, _⟩ := y; simp [Eu, con, A9, A8, Ad, AV.free, A2, A3, A1, A6, Ae, Ag, Ai]; done) | (obtain ⟨_, _, _⟩ := y; simp [Eu, con, A9, A8, Ad, AV.free, A2, A3, A1, A6, Ae, Ag, Ai]; done))
end Go.GH


set_option linter.unusedVariables false
set_option linter.unusedSimpArgs false
namespace Go.GH
open Go Go.Proofs
noncomputable def El : Bi := con [mS 2] true (List En) (fun l => [.rd 2 (l.map Ai)]) (fun l => l.length ≤ 1099511627 ∧ szE l ≤ 4398046511104 ∧ ∀ e, e ∈ l → e.name.length ≤ 8388608) (fun l => .bool (Di l))
noncomputable def Ym : Env := ⟨A4 Ba, A4 [(76, Ch), (193, Eu), (211, Hn)], [0, 2, 3, 4, 8, 44, 47, 60]⟩
set_option maxRecDepth 100000 in
set_option maxHeartbeats 4000000 in
theorem Yi : Bb Ym (Ax Tryz.f204) Tryz.f204.results.toList El := by
  intro (l : List En) hl
  obtain ⟨hl, hz, hs⟩ : l.length ≤ 1099511627 ∧ szE l ≤ 4398046511104 ∧ ∀ e, e ∈ l → e.name.length ≤ 8388608 := hl
  refine ⟨trivial, ?_⟩
  have hbad : ∀ {i : Nat}, i < l.length → Zq l i = false → Di l = false := by
    intro i h e
    rw [Di, Bool.and_eq_false_iff]
    left
    rw [List.all_eq_false]
    exact ⟨i, List.mem_range.2 h, by rw [e]; decide⟩
  skip
  refine B0 (fun i : Nat => ⟨[(0, ⟨none, .rd 2 (l.map Ai)⟩), (3, ⟨none, .int .i64 i⟩)], [], 0⟩) (fun i => i ≤ l.length ∧ ∀ j, j < i → Zq l j = true) (fun i => l.length - i) 0 ?_ ⟨Nat.zero_le _, fun j hj => absurd hj (Nat.not_lt_zero _)⟩ ?_
  · (refine ⟨?_, ?_, rfl⟩ <;> repeat' (first | exact rfl | exact trivial | refine ⟨?_, ?_⟩ | fail) <;> (conv => whnf))
  rintro i ⟨hi, hI⟩
  (conv => whnf); refine ⟨fun h1 => ?_, fun h1 => ?_⟩
  · have h1 : i < l.length := by simpa using h1
    obtain ⟨b, hb⟩ := B8 h1
    have hbs := hs b (List.mem_of_getElem? hb)
    repeat ((conv => whnf); refine ⟨Ai b, fun _ => ⟨by omega, Am hb⟩, ?_⟩)
    refine ⟨b.name, rfl, fun _ => by show b.name.length ≤ _; omega, ?_⟩
    generalize hpv : l.getD (i - 1) b = pv
    have hprev : 0 < i → l[i - 1]? = some pv := fun h => by
      rw [← hpv, List.getD_eq_getElem?_getD, List.getElem?_eq_getElem (by omega)]; rfl
    have hix : ∀ {A : Bool}, Cw (some (A && decide ((i : Int) > 0))) → (0 : Int) ≤ (i : Int) - 1 ∧ (l.map Ai)[((i : Int) - 1).toNat]? = some (Ai pv) := by
      intro A h
      have hi0 : 0 < i := by simp [Cw] at h; omega
      exact ⟨by omega, by rw [show ((i : Int) - 1).toNat = i - 1 by omega]; exact Am (hprev hi0)⟩
    repeat ((conv => whnf); first | refine ⟨fun h => h, ?_⟩ | refine ⟨(by kernel_rfl : Bw _ _ = true), ?_⟩ | refine ⟨_, w64 (bb), ?_⟩ | refine ⟨Ai b, fun _ => ⟨by omega, Am hb⟩, ?_⟩ | refine ⟨Ai pv, fun h => hix h, ?_⟩ | refine ⟨(_, _, _), rfl, fun _ => trivial, ?_⟩)
    (conv => whnf); refine ⟨fun h3 => ?_, fun h3 => ?_⟩
    · have h3 : B72 i b pv = true := h3
      skip
      exact ⟨trivial, eqB (hbad h1 (by rw [Zq, hb]; simp only [hpv, h3]; rfl)).symm⟩
    have h3 : B72 i b pv = false := h3
    skip
    refine B0 (fun k : Nat => ⟨[(0, ⟨none, .rd 2 (l.map Ai)⟩), (3, ⟨none, .int .i64 i⟩), (4, ⟨none, .int .i64 k⟩)], [], 0⟩) (fun k => k ≤ i ∧ ((l.take k).any fun x => x.node == b.node) = false) (fun k => i - k) 0 ?_ ⟨Nat.zero_le _, rfl⟩ ?_
    · (refine ⟨?_, ?_, rfl⟩ <;> repeat' (first | exact rfl | exact trivial | refine ⟨?_, ?_⟩ | fail) <;> (conv => whnf))
    rintro k ⟨hk, hK⟩
    (conv => whnf); refine ⟨fun h4 => ?_, fun h4 => ?_⟩
    · have h4 : k < i := by have h4 : decide ((k : Int) < i) = true := h4
                            simp at h4; omega
      obtain ⟨y, hy⟩ := B8 (l := l) (i := k) (by omega)
      repeat ((conv => whnf); first | refine ⟨(by kernel_rfl : Bw _ _ = true), ?_⟩ | refine ⟨Ai y, fun _ => ⟨by omega, Am hy⟩, ?_⟩ | refine ⟨Ai b, fun _ => ⟨by omega, Am hb⟩, ?_⟩)
      (conv => whnf); refine ⟨fun h5 => ?_, fun h5 => ?_⟩
      · have h5 : (y.node == b.node) = true := h5
        skip
        refine ⟨trivial, eqB (hbad h1 ?_).symm⟩
        rw [Zq, hb]
        have : ((l.take i).any fun x => x.node == b.node) = true := List.any_eq_true.2 ⟨y, by
          rw [List.mem_iff_getElem?]
          exact ⟨k, by rw [List.getElem?_take, if_pos h4]; exact hy⟩, h5⟩
        simp only [this]; simp
      · have h5 : (y.node == b.node) = false := h5
        repeat ((conv => whnf); refine ⟨_, w64 (bb), ?_⟩)
        refine C2 (k + 1) ?_ ⟨h4, ?_⟩ (by first | omega | (simp; done) | (simp; omega))
        · (refine ⟨?_, ?_, rfl⟩ <;> repeat' (first | exact rfl | exact trivial | refine ⟨?_, ?_⟩ | fail) <;> (conv => whnf))
        · rw [Bs hy, List.any_append, hK, List.any_cons, h5]; rfl
    · have h4 : k = i := by have h4 : decide ((k : Int) < i) = false := h4
                            simp at h4; omega
      subst h4
      repeat ((conv => whnf); refine ⟨_, w64 (bb), ?_⟩)
      refine C2 (k + 1) ?_ ⟨h1, fun j hj => ?_⟩ (by first | omega | (simp; done) | (simp; omega))
      · (refine ⟨?_, ?_, rfl⟩ <;> repeat' (first | exact rfl | exact trivial | refine ⟨?_, ?_⟩ | fail) <;> (conv => whnf))
      · rcases Nat.lt_or_ge j k with h | h
        · exact hI j h
        · rw [show j = k by omega, Zq, hb]; simp only [hpv, h3, hK]; rfl
  · have h1 : i = l.length := by have : ¬ (i < l.length) := by simpa using h1
                                 omega
    subst h1
    skip
    refine ⟨l, rfl, fun _ => ⟨hl, hz, hs⟩, ?_⟩
    skip
    refine ⟨trivial, eqB ?_⟩
    have : (List.range l.length).all (Zq l) = true := List.all_eq_true.2 fun j hj => hI j (List.mem_range.1 hj)
    rw [Di, this, Bool.true_and, Bool.eq_iff_iff]
    simp
    omega
theorem Pr : Av Tryz.prog 204 El := Ao (Ca _ _) (FOk.cons Db (FOk.cons Nn (FOk.cons A2c FOk.nil))) mixed Tryz.func204 rfl Tryz.call204 (by decide) (by kernel_rfl) Yi (by intro _ (y : (List En)) _; exact ⟨by simp [El, con, A9, A8, AV.noRd, A7, Ab, A5, A6, Ae, Ag, Ai], by simp [El, con, A9, A8, AV.noRd, A7, Ab, A5, A6, Ae, Ag, Ai]⟩) (by intro (y : (List En)) _; first | (simp [El, con, A9, A8, Ad, AV.free, A2, A3, A1, A6, Ae, Ag, Ai]; done) | (obtain ⟨_, _⟩ := y; simp [El, con, A9, A8, Ad, AV.free, A2, A3, A1, A6, Ae, Ag, Ai]; done) | (obtain ⟨_, _, _⟩ := y; simp [El, con, A9, A8, Ad, AV.free, A2, A3, A1, A6, Ae, Ag, Ai]; done))
noncomputable def He : Bi := con [mC] false Str A6 (fun s => s.length ≤ 1048576) (fun s => .tup [.own 2 (((Ra s).getD []).map Ai), .bool (Ra s).isSome])
noncomputable def B22 : Env := ⟨A4 Ba, A4 [(202, Fl), (203, Fb), (204, El)], [0, 2, 3, 4, 5, 6, 7, 8, 9, 10, 11, 12, 19, 28, 38, 49]⟩
set_option maxRecDepth 100000 in
set_option maxHeartbeats 4000000 in
theorem B0v : Bb B22 (Ax Tryz.f187) Tryz.f187.results.toList He := by
  intro (s : Str) hs
  have hs : s.length ≤ 1048576 := hs
  refine ⟨trivial, ?_⟩
  have fin : ∀ {o : Option (List En)}, o = Ra s → He.res s = .tup [.own 2 ((o.getD []).map Ai), .bool o.isSome] := fun h => by rw [h]; rfl
  skip
  refine B0 (fun ((a, o, f) : Nat × List En × Nat) => ⟨[(4, ⟨none, .view 0 [] 0 o.length⟩), (5, ⟨none, .view 1 [] 0 s.length⟩), (6, ⟨none, .int .i64 a⟩)], [(0, .own 2 (o.map Ai)), (1, .own 1 (s.map Ag))], 2⟩)
    (fun (a, o, f) => a ≤ s.length ∧ s.length ≤ a + f ∧ szE o ≤ 12 * a ∧ (∀ e, e ∈ o → e.name.length ≤ 1048576) ∧ A06 s f a o = A06 s s.length 0 []) (fun x => x.2.2) (0, [], s.length) ?_ ⟨Nat.zero_le _, by omega, Nat.le_refl _, fun e he => absurd he (by simp), rfl⟩ ?_
  · (refine ⟨?_, ?_, rfl⟩ <;> repeat' (first | exact rfl | exact trivial | refine ⟨?_, ?_⟩ | fail) <;> (conv => whnf))
  rintro ⟨a, o, f⟩ ⟨ha, hf, hz, hnm, hI⟩
  have hol := B79 o
  (conv => whnf); refine ⟨fun h1 => ?_, fun h1 => ?_⟩
  · have h1 : a < s.length := by have h1 : decide ((a : Int) < (s.length : Nat)) = true := h1
                                 simp at h1; omega
    obtain ⟨f, rfl⟩ : ∃ g, f = g + 1 := ⟨f - 1, by omega⟩
    rw [A06, if_pos h1] at hI
    skip
    refine ⟨(s, (a : Int)), by (repeat' (first | refine Bu ?_ ?_ | refine Bz ?_ | refine Bq ?_ | refine Bx ?_ | exact rfl)) <;> simp [rdI, rdO, rdE, rdB, rdN, rdS, rdD, rdW, tkM], fun _ => by show s.length ≤ _; omega, ?_⟩
    have no : A06 s s.length 0 [] = none → none = Ra s := fun h => by rw [Ra, h]
    skip
    (conv => whnf); refine ⟨fun h2 => ?_, fun h2 => ?_⟩
    · have h2 : I0 s a = none := by
        have h2 : (!(I0 s a).isSome) = true := h2
        simpa using h2
      rw [h2] at hI
      skip
      rw [fin (no hI.symm)]
      exact ⟨trivial, ⟨rfl, rfl⟩, rfl, trivial⟩
    obtain ⟨nm, x, hg⟩ : ∃ nm x, I0 s a = some (nm, x) := by
      have h2 : (!(I0 s a).isSome) = false := h2
      cases h : I0 s a with
      | none => rw [h] at h2; cases h2
      | some r => exact ⟨r.1, r.2, rfl⟩
    have e1 : ((I0 s a).getD ([], 0)).1 = nm := by rw [hg]; rfl
    have e2 : ((I0 s a).getD ([], 0)).2 = x := by rw [hg]; rfl
    have hx := B5f hg
    rw [hg] at hI
    simp only at hI
    skip
    refine ⟨(s, (x : Int)), by rw [← e2]; exact by (repeat' (first | refine Bu ?_ ?_ | refine Bz ?_ | refine Bq ?_ | refine Bx ?_ | exact rfl)) <;> simp [rdI, rdO, rdE, rdB, rdN, rdS, rdD, rdW, tkM], fun _ => by show s.length ≤ _; omega, ?_⟩
    skip
    (conv => whnf); refine ⟨fun h3 => ?_, fun h3 => ?_⟩
    · have h3 : Ep s x = none := by
        have h3 : (!(Ep s x).isSome) = true := h3
        simpa using h3
      rw [h3] at hI
      skip
      rw [fin (no hI.symm)]
      exact ⟨trivial, ⟨rfl, rfl⟩, rfl, trivial⟩
    obtain ⟨n, y, hg2⟩ : ∃ n y, Ep s x = some (n, y) := by
      have h3 : (!(Ep s x).isSome) = false := h3
      cases h : Ep s x with
      | none => rw [h] at h3; cases h3
      | some r => exact ⟨r.1, r.2, rfl⟩
    have e3 : ((Ep s x).getD (0, 0)).1 = n := by rw [hg2]; rfl
    have e4 : ((Ep s x).getD (0, 0)).2 = y := by rw [hg2]; rfl
    have hy := V9 hg2
    rw [hg2] at hI
    simp only at hI
    repeat ((conv => whnf); first | refine ⟨bb, ?_⟩ | refine ⟨Vl (by rfl), ?_⟩)
    refine C2 (y, o ++ [⟨nm, n⟩], f) ?_ ⟨by omega, by omega, by rw [Xx]; simp [szE] at hz ⊢; omega, fun e he => by
      rcases List.mem_append.1 he with he | he
      · exact hnm e he
      · rw [List.mem_singleton] at he; subst he; show nm.length ≤ _; omega, hI⟩ (by first | omega | (simp; done) | (simp; omega))
    (refine ⟨?_, ?_, rfl⟩ <;> repeat' (first | exact rfl | exact trivial | refine ⟨?_, ?_⟩ | fail) <;> (conv => whnf))
    all_goals first | (rw [e4]; done) | (show ((((Ep s x).getD (0, 0)).2 : Nat) : Int) = _; rw [e4]; done) | (simp [tkM, Ai, e1, e3, List.take_of_length_le]; done)
  · have h1 : ¬ a < s.length := by have h1 : decide ((a : Int) < (s.length : Nat)) = false := h1
                                   simp at h1; omega
    have hI2 : A06 s s.length 0 [] = some o := by
      rw [← hI]
      cases f <;> rw [A06, if_neg h1]
    skip
    have hn : ∀ e, e ∈ o → e.name.length ≤ 8388608 := fun e he => Nat.le_trans (hnm e he) (by omega)
    refine ⟨o, by (repeat' (first | refine Bu ?_ ?_ | refine Bz ?_ | refine Bq ?_ | refine Bx ?_ | exact rfl)) <;> simp [rdI, rdO, rdE, rdB, rdN, rdS, rdD, rdW, tkM], fun _ => ⟨by omega, by omega, hn⟩, ?_⟩
    (conv => whnf); refine ⟨fun h2 => ?_, fun h2 => ?_⟩
    · have h2 : (!Di o) = true := h2
      have hd : none = Ra s := by rw [Ra, hI2]; simp at h2; simp [h2]
      skip
      rw [fin hd]
      exact ⟨trivial, ⟨rfl, rfl⟩, rfl, trivial⟩
    · have h2 : (!Di o) = false := h2
      have hd : some o = Ra s := by rw [Ra, hI2]; simp at h2; simp [h2]
      skip
      rw [fin hd]
      refine ⟨trivial, ⟨rfl, ?_⟩, rfl, trivial⟩
      first | rfl | exact trivial | (simp [tkM, Ag, Ae, Ai, A6, List.take_of_length_le]; done) | (simp [tkM, List.take_of_length_le]; omega)
theorem A68 : Av Tryz.prog 187 He := Ao (Ca _ _) (FOk.cons A1g (FOk.cons Ue (FOk.cons Pr FOk.nil))) mixed Tryz.func187 rfl Tryz.call187 (by decide) (by kernel_rfl) B0v (by intro _ (y : Str) _; exact ⟨by simp [He, con, A9, A8, AV.noRd, A7, Ab, A5, A6, Ae, Ag, Ai], by simp [He, con, A9, A8, AV.noRd, A7, Ab, A5, A6, Ae, Ag, Ai]⟩) (by intro (y : Str) _; first | (simp [He, con, A9, A8, Ad, AV.free, A2, A3, A1, A6, Ae, Ag, Ai]; done) | (obtain ⟨_, _⟩ := y; simp [He, con, A9, A8, Ad, AV.free, A2, A3, A1, A6, Ae, Ag, Ai]; done) | (obtain ⟨_, _, _⟩ := y; simp [He, con, A9, A8, Ad, AV.free, A2, A3, A1, A6, Ae, Ag, Ai]; done))
noncomputable def Fc : Bi := con [mS 2, mC, mC] false (List En × En) (fun ⟨l, e⟩ => [.rd 2 (l.map Ai), .str e.name, .int .i64 e.node]) (fun x => smE x.1 ∧ x.2.name.length ≤ 1048576) (fun ⟨l, e⟩ => .tup [.own 2 ((Ha l e).1.map Ai), .bool (Ha l e).2])
noncomputable def A5m : Env := ⟨A4 Ba, A4 [(204, El), (206, Gj)], [0, 1, 2, 6, 7, 8, 9, 10, 17, 26, 49]⟩
set_option maxRecDepth 100000 in
set_option maxHeartbeats 4000000 in
theorem A7c : Bb A5m (Ax Tryz.f205) Tryz.f205.results.toList Fc := by
  rintro ⟨l, e⟩ hl
  obtain ⟨⟨hl, hz, hs⟩, he⟩ : smE l ∧ e.name.length ≤ 1048576 := hl
  refine ⟨trivial, ?_⟩
  repeat ((conv => whnf); refine ⟨_, w64 (bb), ?_⟩)
  refine B0 (fun ((j, a) : Nat × Nat) => ⟨[(0, ⟨none, .rd 2 (l.map Ai)⟩), (1, ⟨none, .str e.name⟩), (2, ⟨none, .int .i64 e.node⟩), (8, ⟨none, .int .i64 a⟩), (9, ⟨none, .int .i64 ((j : Int) - 1)⟩)], [], 0⟩) (fun (j, a) => j ≤ l.length ∧ a = j + ((l.drop j).findIdx fun x => Co e.name x.name)) (fun x => x.1) (l.length, l.length) ?_ ⟨Nat.le_refl _, by simp⟩ ?_
  · (refine ⟨?_, ?_, rfl⟩ <;> repeat' (first | exact rfl | exact trivial | refine ⟨?_, ?_⟩ | fail) <;> (conv => whnf))
    all_goals first | (show ((l.map Ai).length : Int) = _; simp; done) | (show ((l.map Ai).length : Int) - 1 = (l.length : Int) - 1; simp; done)
  rintro ⟨j, a⟩ ⟨hj, ha⟩
  have hj : j ≤ l.length := hj
  (conv => whnf); refine ⟨fun h1 => ?_, fun h1 => ?_⟩
  · have h1 : 1 ≤ j := by have h1 : decide ((j : Int) - 1 ≥ 0) = true := h1
                          simp at h1; omega
    obtain ⟨k, rfl⟩ : ∃ k, j = k + 1 := ⟨j - 1, by omega⟩
    obtain ⟨b, hb⟩ := B8 (l := l) (i := k) (by omega)
    have hst := B8y (s := e.name) hb
    repeat ((conv => whnf); refine ⟨Ai b, fun _ => ⟨by omega, by rw [show (((k + 1 : Nat) : Int) - 1).toNat = k by omega]; exact Am hb⟩, ?_⟩)
    (conv => whnf); refine ⟨fun h2 => ?_, fun h2 => ?_⟩
    · have h2 : Co e.name b.name = true := h2
      rw [if_pos h2] at hst
      repeat ((conv => whnf); refine ⟨_, w64 (bb), ?_⟩)
      refine C2 (k, k) ?_ ⟨by omega, by omega⟩ (by first | omega | (simp; done) | (simp; omega))
      (refine ⟨?_, ?_, rfl⟩ <;> repeat' (first | exact rfl | exact trivial | refine ⟨?_, ?_⟩ | fail) <;> (conv => whnf))
      all_goals first | (show (((k + 1 : Nat) : Int) - 1) = _; omega) | (show (((k + 1 : Nat) : Int) - 1) - 1 = (k : Int) - 1; omega)
    · have h2 : Co e.name b.name = false := h2
      rw [if_neg (by rw [h2]; decide)] at hst
      repeat ((conv => whnf); refine ⟨_, w64 (bb), ?_⟩)
      refine C2 (k, a) ?_ ⟨by omega, by omega⟩ (by first | omega | (simp; done) | (simp; omega))
      (refine ⟨?_, ?_, rfl⟩ <;> repeat' (first | exact rfl | exact trivial | refine ⟨?_, ?_⟩ | fail) <;> (conv => whnf))
      all_goals first | (show (((k + 1 : Nat) : Int) - 1) - 1 = (k : Int) - 1; omega)
  · have h1 : j = 0 := by have h1 : decide ((j : Int) - 1 ≥ 0) = false := h1
                          simp at h1; omega
    subst h1
    have hal := A2x l e.name
    have ha : a = Ry l e.name := by rw [ha]; simp [Ry]
    rw [← ha] at hal
    have hpl := A2y l e
    have hps := A96 l e
    have hpm := fun x (h : x ∈ Lm l e) => A2d h
    have hpe : Lm l e = l.take a ++ [e] ++ l.drop a := by rw [ha]; rfl
    have sm2 : (Lm l e).length ≤ 1099511627 ∧ szE (Lm l e) ≤ 4398046511104 ∧ ∀ x, x ∈ Lm l e → x.name.length ≤ 8388608 := ⟨by omega, by omega, fun x hx => by
      rcases hpm x hx with rfl | h
      · omega
      · have := hs x h; omega⟩
    have sm1 : l.length ≤ 1099511627 ∧ szE l ≤ 4398046511104 ∧ ∀ x, x ∈ l → x.name.length ≤ 8388608 := ⟨by omega, by omega, fun x hx => by have := hs x hx; omega⟩
    clear hpl hps hpm
    generalize hout : Lm l e = out at hpe sm2
    repeat ((conv => whnf); refine ⟨fun _ => ⟨bb, bb, bb⟩, ?_⟩)
    refine ⟨l.take a, by refine Bu (Bq ?_) rfl; show ((l.map Ai).drop 0).take _ = _; simp [List.map_take], fun _ => by show (l.take a).length ≤ _; rw [List.length_take]; omega, ?_⟩
    repeat ((conv => whnf); first | refine ⟨fun _ => ⟨bb, bb, bb⟩, ?_⟩ | refine ⟨bb, ?_⟩ | refine ⟨Vl (by rfl), ?_⟩)
    refine ⟨l, rfl, fun _ => sm1, ?_⟩
    repeat ((conv => whnf); refine ⟨fun h => h, ?_⟩)
    refine ⟨out, by
      refine Bu (Bq ?_) rfl
      rw [hpe]
      refine (congrArg Cr ?_).trans (rdE _)
      simp [List.take_of_length_le, Ai]
      exact List.take_of_length_le (by simp; omega), fun _ => sm2, ?_⟩
    repeat ((conv => whnf); refine ⟨fun h => h, ?_⟩)
    (conv => whnf); refine ⟨fun h2 => ?_, fun h2 => ?_⟩
    · have h2 : (!Di l || !Di out) = true := h2
      have hd : Ha l e = (l, false) := by
        rw [Ha, hout, if_neg]
        revert h2; cases Di l <;> cases Di out <;> simp
      skip
      refine ⟨l, rfl, fun _ => by show l.length ≤ _; omega, ?_⟩
      skip
      rw [show Fc.res (l, e) = .tup [.own 2 (l.map Ai), .bool false] by show AV.tup [.own 2 ((Ha l e).1.map Ai), .bool (Ha l e).2] = _; rw [hd]]
      exact ⟨trivial, ⟨rfl, by simp⟩, rfl, trivial⟩
    · have h2 : (!Di l || !Di out) = false := h2
      have hd : Ha l e = (l.take a ++ [e] ++ l.drop a, true) := by
        rw [Ha, hout, if_pos, hpe]
        revert h2; cases Di l <;> cases Di out <;> simp
      skip
      rw [show Fc.res (l, e) = .tup [.own 2 ((l.take a ++ [e] ++ l.drop a).map Ai), .bool true] by show AV.tup [.own 2 ((Ha l e).1.map Ai), .bool (Ha l e).2] = _; rw [hd]]
      refine ⟨trivial, ⟨rfl, ?_⟩, rfl, trivial⟩
      simp [List.take_of_length_le, Ai]
      exact List.take_of_length_le (by simp; omega)
theorem A41 : Av Tryz.prog 205 Fc := Ao (Ca _ _) (FOk.cons Pr (FOk.cons Ts FOk.nil)) mixed Tryz.func205 rfl Tryz.call205 (by decide) (by kernel_rfl) A7c (by intro _ (y : (List En × En)) _; exact ⟨by simp [Fc, con, A9, A8, AV.noRd, A7, Ab, A5, A6, Ae, Ag, Ai], by simp [Fc, con, A9, A8, AV.noRd, A7, Ab, A5, A6, Ae, Ag, Ai]⟩) (by intro (y : (List En × En)) _; first | (simp [Fc, con, A9, A8, Ad, AV.free, A2, A3, A1, A6, Ae, Ag, Ai]; done) | (obtain ⟨_, _⟩ := y; simp [Fc, con, A9, A8, Ad, AV.free, A2, A3, A1, A6, Ae, Ag, Ai]; done) | (obtain ⟨_, _, _⟩ := y; simp [Fc, con, A9, A8, Ad, AV.free, A2, A3, A1, A6, Ae, Ag, Ai]; done))
noncomputable def Er : Bi := con [mS 2, mC] false (List En × Str) (fun ⟨l, s⟩ => [.rd 2 (l.map Ai), .str s]) (fun x => x.1.length ≤ 1048576) (fun ⟨l, s⟩ => .tup [.own 2 ((Hb l s).map Ai), .bool (l.any fun e => e.name == s)])
noncomputable def A2m : Env := ⟨A4 Ba, A4 [(206, Gj)], [0, 1, 4, 5, 6, 10, 19]⟩
set_option maxRecDepth 100000 in
set_option maxHeartbeats 4000000 in
theorem A3r : Bb A2m (Ax Tryz.f192) Tryz.f192.results.toList Er := by
  rintro ⟨l, s⟩ hl
  have hl : l.length ≤ 1048576 := hl
  refine ⟨trivial, ?_⟩
  skip
  refine B0 (fun i : Nat => ⟨[(0, ⟨none, .rd 2 (l.map Ai)⟩), (1, ⟨none, .str s⟩), (6, ⟨none, .int .i64 i⟩)], [], 0⟩) (fun i => i ≤ l.length ∧ ((l.take i).any fun e => e.name == s) = false) (fun i => l.length - i) 0 ?_ ⟨Nat.zero_le _, rfl⟩ ?_
  · (refine ⟨?_, ?_, rfl⟩ <;> repeat' (first | exact rfl | exact trivial | refine ⟨?_, ?_⟩ | fail) <;> (conv => whnf))
  rintro i ⟨hi, hc⟩
  (conv => whnf); refine ⟨fun h1 => ?_, fun h1 => ?_⟩
  · have h1 : i < l.length := by simpa using h1
    obtain ⟨b, hb⟩ := B8 h1
    repeat ((conv => whnf); refine ⟨Ai b, fun _ => ⟨by omega, Am hb⟩, ?_⟩)
    (conv => whnf); refine ⟨fun h2 => ?_, fun h2 => ?_⟩
    · have h2 : (b.name == s) = true := h2
      have he := C1i hb hc h2
      have ht : (l.any fun e => e.name == s) = true := List.any_eq_true.2 ⟨b, List.mem_of_getElem? hb, h2⟩
      repeat ((conv => whnf); refine ⟨fun _ => ⟨bb, bb, bb⟩, ?_⟩)
      refine ⟨l.take i, by refine Bu (Bq ?_) rfl; show ((l.map Ai).drop 0).take _ = _; simp [List.map_take], fun _ => by show (l.take i).length ≤ _; rw [List.length_take]; omega, ?_⟩
      repeat ((conv => whnf); first | refine ⟨(by kernel_rfl : Bw _ _ = true), ?_⟩ | refine ⟨_, w64 (bb), ?_⟩ | refine ⟨fun _ => ⟨bb, bb, bb⟩, ?_⟩ | refine ⟨bb, ?_⟩)
      rw [show Er.res (l, s) = .tup [.own 2 ((l.take i ++ l.drop (i + 1)).map Ai), .bool true] by show AV.tup [.own 2 ((Hb l s).map Ai), .bool (l.any fun e => e.name == s)] = _; rw [he, ht]]
      refine ⟨trivial, ⟨rfl, ?_⟩, rfl, trivial⟩
      rw [show ((i : Int) + 1).toNat = i + 1 by omega]
      simp [List.take_of_length_le]
    · have h2 : (b.name == s) = false := h2
      repeat ((conv => whnf); refine ⟨_, w64 (bb), ?_⟩)
      refine C2 (i + 1) ?_ ⟨h1, by rw [Bs hb, List.any_append, hc, List.any_cons, h2]; rfl⟩ (by first | omega | (simp; done) | (simp; omega))
      (refine ⟨?_, ?_, rfl⟩ <;> repeat' (first | exact rfl | exact trivial | refine ⟨?_, ?_⟩ | fail) <;> (conv => whnf))
  · have h1 : i = l.length := by have : ¬ (i < l.length) := by simpa using h1
                                 omega
    subst h1
    rw [List.take_length] at hc
    have he := B9v hc
    skip
    refine ⟨l, rfl, fun _ => by show l.length ≤ _; omega, ?_⟩
    skip
    rw [show Er.res (l, s) = .tup [.own 2 (l.map Ai), .bool false] by show AV.tup [.own 2 ((Hb l s).map Ai), .bool (l.any fun e => e.name == s)] = _; rw [he, hc]]
    exact ⟨trivial, ⟨rfl, by simp⟩, rfl, trivial⟩
theorem A0u : Av Tryz.prog 192 Er := Ao (Ca _ _) (FOk.cons Ts FOk.nil) mixed Tryz.func192 rfl Tryz.call192 (by decide) (by kernel_rfl) A3r (by intro _ (y : (List En × Str)) _; exact ⟨by simp [Er, con, A9, A8, AV.noRd, A7, Ab, A5, A6, Ae, Ag, Ai], by simp [Er, con, A9, A8, AV.noRd, A7, Ab, A5, A6, Ae, Ag, Ai]⟩) (by intro (y : (List En × Str)) _; first | (simp [Er, con, A9, A8, Ad, AV.free, A2, A3, A1, A6, Ae, Ag, Ai]; done) | (obtain ⟨_, _⟩ := y; simp [Er, con, A9, A8, Ad, AV.free, A2, A3, A1, A6, Ae, Ag, Ai]; done) | (obtain ⟨_, _, _⟩ := y; simp [Er, con, A9, A8, Ad, AV.free, A2, A3, A1, A6, Ae, Ag, Ai]; done))
end Go.GH


set_option linter.unusedVariables false
set_option linter.unusedSimpArgs false
namespace Go.GH
open Go Go.Proofs
noncomputable def Ho : Bi := con [.rd [none, none, none, none, some 1]] true Nd (fun n => [.agg (At n)]) (fun n => n.blocks.length ≤ 65536) (fun n => .bool (Ih n))
noncomputable def A7l : Env := ⟨A4 Ba, A4 [(76, Ch), (194, Ek), (200, I7)], [0, 1, 2, 3, 6, 56, 69, 74, 95]⟩
set_option maxRecDepth 100000 in
set_option maxHeartbeats 4000000 in
theorem A8h : Bb A7l (Ax Tryz.f184) Tryz.f184.results.toList Ho := by
  intro (n : Nd) hn
  have hn : n.blocks.length ≤ 65536 := hn
  refine ⟨trivial, ?_⟩
  (conv => whnf); refine ⟨fun h1 => ?_, fun h1 => ?_⟩
  · have h1 : (n.kind == 0) = true := h1
    repeat ((conv => whnf); refine ⟨fun h => h, ?_⟩)
    refine ⟨trivial, eqB ?_⟩
    show _ = Ih n
    rw [Ih, if_pos h1]
    have e : ((((n.blocks.map Ae).length : Nat) : Int) == 0) = (n.blocks.length == 0) := by rw [List.length_map, Bool.eq_iff_iff]; simp
    show (n.gen == 0 && n.time == 0 && n.size == 0 && ((((n.blocks.map Ae).length : Nat) : Int) == 0)) = _
    rw [e]
  have h1 : (n.kind == 0) = false := h1
  have hno : Ih n = (inB n.kind 1 3 && inB n.gen 0 1000000 && inB n.time 0 100000 && inB n.size 0 80 && decide ((n.blocks.length : Int) = G6 n.size) && !(n.kind == 2 && (n.gen != 0 || n.time != 0)) && (List.range n.blocks.length).all (Wc n.blocks)) := by
    rw [Ih, if_neg (by rw [h1]; decide)]
  repeat ((conv => whnf); first | refine ⟨fun h => h, ?_⟩ | refine ⟨(by kernel_rfl : Bw _ _ = true), ?_⟩ | refine ⟨(_, _, _), rfl, fun _ => trivial, ?_⟩ | refine ⟨n.size, rfl, fun _ => trivial, ?_⟩)
  (conv => whnf); refine ⟨fun h2 => ?_, fun h2 => ?_⟩
  · have h2 : (!inB n.kind 1 3 || !inB n.gen 0 1000000 || !inB n.time 0 100000 || !inB n.size 0 80 || (((n.blocks.map Ae).length : Nat) : Int) != G6 n.size) = true := h2
    skip
    refine ⟨trivial, eqB ?_⟩
    show false = Ih n
    rw [List.length_map] at h2
    rw [hno]
    clear hno
    by_cases hb : (n.blocks.length : Int) = G6 n.size
    · simp [hb] at h2 ⊢; intros; simp_all
    · simp [hb]
  have h2 : (!inB n.kind 1 3 || !inB n.gen 0 1000000 || !inB n.time 0 100000 || !inB n.size 0 80 || (((n.blocks.map Ae).length : Nat) : Int) != G6 n.size) = false := h2
  rw [List.length_map] at h2
  simp only [Bool.or_eq_false_iff, Bool.not_eq_false', bne_eq_false_iff_eq] at h2
  obtain ⟨⟨⟨⟨p1, p2⟩, p3⟩, p4⟩, p5⟩ := h2
  rw [p1, p2, p3, p4, p5] at hno
  repeat ((conv => whnf); refine ⟨fun h => h, ?_⟩)
  (conv => whnf); refine ⟨fun h3 => ?_, fun h3 => ?_⟩
  · have h3 : ((n.kind == 2) && (n.gen != 0 || n.time != 0)) = true := h3
    skip
    refine ⟨trivial, eqB ?_⟩
    show false = Ih n
    rw [hno, h3]; simp
  have h3 : ((n.kind == 2) && (n.gen != 0 || n.time != 0)) = false := h3
  rw [h3] at hno
  have hno : Ih n = (List.range n.blocks.length).all (Wc n.blocks) := by rw [hno]; simp
  have hbad : ∀ {i : Nat}, i < n.blocks.length → Wc n.blocks i = false → false = Ih n := by
    intro i h e
    rw [hno]
    symm
    rw [List.all_eq_false]
    exact ⟨i, List.mem_range.2 h, by rw [e]; decide⟩
  skip
  refine B0 (fun i : Nat => ⟨[(1, ⟨none, .bx 0 0⟩), (3, ⟨none, .int .i64 i⟩)], [(0, .own 5 [At n])], 1⟩) (fun i => i ≤ n.blocks.length ∧ ∀ j, j < i → Wc n.blocks j = true) (fun i => n.blocks.length - i) 0 ?_ ⟨Nat.zero_le _, fun j hj => absurd hj (Nat.not_lt_zero _)⟩ ?_
  · (refine ⟨?_, ?_, rfl⟩ <;> repeat' (first | exact rfl | exact trivial | refine ⟨?_, ?_⟩ | fail) <;> (conv => whnf))
  rintro i ⟨hi, hI⟩
  (conv => whnf); refine ⟨fun h4 => ?_, fun h4 => ?_⟩
  · have h4 : i < n.blocks.length := by simpa using h4
    obtain ⟨b, hb⟩ := B8 h4
    repeat ((conv => whnf); first | refine ⟨fun h => h, ?_⟩ | refine ⟨fun _ => ⟨bb, bb, bb⟩, ?_⟩ | refine ⟨Ae b, fun _ => ⟨by omega, Am hb⟩, ?_⟩ | refine ⟨(_, _, _), rfl, fun _ => trivial, ?_⟩)
    refine ⟨(n.blocks.take i, b), by refine Bu (Bq ?_) rfl; simp [List.map_take], fun _ => by show (n.blocks.take i).length ≤ _; rw [List.length_take]; omega, ?_⟩
    repeat ((conv => whnf); first | refine ⟨fun h => h, ?_⟩ | refine ⟨(by kernel_rfl : Bw _ _ = true), ?_⟩)
    (conv => whnf); refine ⟨fun h5 => ?_, fun h5 => ?_⟩
    · have h5 : (!inB b 0 35 || (n.blocks.take i).contains b) = true := h5
      skip
      refine ⟨trivial, eqB (hbad h4 ?_)⟩
      rw [Wc, hb]
      show (inB b 0 35 && !(n.blocks.take i).contains b) = false
      revert h5
      cases inB b 0 35 <;> cases (n.blocks.take i).contains b <;> simp
    · have h5 : (!inB b 0 35 || (n.blocks.take i).contains b) = false := h5
      repeat ((conv => whnf); refine ⟨_, w64 (bb), ?_⟩)
      refine C2 (i + 1) ?_ ⟨h4, fun j hj => ?_⟩ (by first | omega | (simp; done) | (simp; omega))
      · (refine ⟨?_, ?_, rfl⟩ <;> repeat' (first | exact rfl | exact trivial | refine ⟨?_, ?_⟩ | fail) <;> (conv => whnf))
      · rcases Nat.lt_or_ge j i with h | h
        · exact hI j h
        · rw [show j = i by omega, Wc, hb]
          show (inB b 0 35 && !(n.blocks.take i).contains b) = true
          revert h5
          cases inB b 0 35 <;> cases (n.blocks.take i).contains b <;> simp
  · have h4 : i = n.blocks.length := by have : ¬ (i < n.blocks.length) := by simpa using h4
                                        omega
    subst h4
    skip
    exact ⟨trivial, eqB (hno.trans (List.all_eq_true.2 fun j hj => hI j (List.mem_range.1 hj))).symm⟩
theorem A57 : Av Tryz.prog 184 Ho := Ao (Ca _ _) (FOk.cons Db (FOk.cons Q1 (FOk.cons A8d FOk.nil))) mixed Tryz.func184 rfl Tryz.call184 (by decide) (by kernel_rfl) A8h (by intro _ (y : Nd) _; exact ⟨by simp [Ho, con, A9, A8, AV.noRd, A7, Ab, A5, A6, Ae, Ag, Ai, At, Ap], by simp [Ho, con, A9, A8, AV.noRd, A7, Ab, A5, A6, Ae, Ag, Ai, At, Ap]⟩) (by intro (y : Nd) _; first | (simp [Ho, con, A9, A8, Ad, AV.free, A2, A3, A1, A6, Ae, Ag, Ai, At, Ap]; done) | (obtain ⟨_, _⟩ := y; simp [Ho, con, A9, A8, Ad, AV.free, A2, A3, A1, A6, Ae, Ag, Ai, At, Ap]; done) | (obtain ⟨_, _, _⟩ := y; simp [Ho, con, A9, A8, Ad, AV.free, A2, A3, A1, A6, Ae, Ag, Ai, At, Ap]; done))
noncomputable def F8 : Bi := con [.rd [some 5, some 1]] false Fs (fun f => [.agg (Ap f)]) smF (fun f => .own 1 ((Mt f).map Ae))
noncomputable def A6c : Env := ⟨A4 Ba, A4 [(76, Ch)], [0, 1, 2, 3, 4, 5, 6, 16, 27, 44]⟩
set_option maxRecDepth 100000 in
set_option maxHeartbeats 4000000 in
theorem A5c : Bb A6c (Ax Tryz.f185) Tryz.f185.results.toList F8 := by
  intro (f : Fs) hf
  obtain ⟨hn, hd, hbl, hs⟩ : smF f := hf
  refine ⟨trivial, ?_⟩
  repeat ((conv => whnf); first | refine ⟨_, w64 (bb), ?_⟩ | refine ⟨bb, ?_⟩)
  refine B0 (fun i : Nat => ⟨[(1, ⟨none, .bx 0 0⟩), (3, ⟨none, .view 1 [] 0 (f.data.length + 1)⟩), (4, ⟨none, .int .i64 i⟩)], [(0, .own 2 [Ap f]), (1, .own 1 ((R5 f.data.length (Kq (f.nodes.take i))).map Ae))], 2⟩) (fun i => i ≤ f.nodes.length) (fun i => f.nodes.length - i) 0 ?_ (Nat.zero_le _) ?_
  · (refine ⟨?_, ?_, rfl⟩ <;> repeat' (first | exact rfl | exact trivial | refine ⟨?_, ?_⟩ | fail) <;> (conv => whnf))
    all_goals first | (show ((f.data.map A6).length + 1) = _; simp; done) | (show List.replicate ((f.data.map A6).length + 1) (Ae 0) = List.map Ae (List.replicate (f.data.length + 1) 0); simp; done)
  intro i hi
  have hi : i ≤ f.nodes.length := hi
  (conv => whnf); refine ⟨fun h1 => ?_, fun h1 => ?_⟩
  · have h1 : i < f.nodes.length := by simpa using h1
    obtain ⟨n, hn⟩ := B8 h1
    have hbn := hbl n (List.mem_of_getElem? hn)
    skip
    refine B0 (fun k : Nat => ⟨[(1, ⟨none, .bx 0 0⟩), (3, ⟨none, .view 1 [] 0 (f.data.length + 1)⟩), (4, ⟨none, .int .i64 i⟩), (5, ⟨none, .int .i64 k⟩)], [(0, .own 2 [Ap f]), (1, .own 1 ((R5 f.data.length (Kq (f.nodes.take i) ++ n.blocks.take k)).map Ae))], 2⟩) (fun k => k ≤ n.blocks.length) (fun k => n.blocks.length - k) 0 ?_ (Nat.zero_le _) ?_
    · (refine ⟨?_, ?_, rfl⟩ <;> repeat' (first | exact rfl | exact trivial | refine ⟨?_, ?_⟩ | fail) <;> (conv => whnf))
      all_goals simp
    intro k hk
    have hk : k ≤ n.blocks.length := hk
    repeat ((conv => whnf); refine ⟨At n, fun _ => ⟨by omega, Am hn⟩, ?_⟩)
    (conv => whnf); refine ⟨fun h2 => ?_, fun h2 => ?_⟩
    · have h2 : k < n.blocks.length := by simpa using h2
      obtain ⟨b, hb⟩ := B8 h2
      repeat ((conv => whnf); first | refine ⟨_, w64 (bb), ?_⟩ | refine ⟨At n, fun _ => ⟨by omega, Am hn⟩, ?_⟩ | refine ⟨Ae b, fun _ => ⟨by omega, Am hb⟩, ?_⟩)
      refine ⟨(b, 0, _), rfl, fun _ => trivial, ?_⟩
      have hbd := fun k' => B4n f.data.length (Kq (f.nodes.take i) ++ n.blocks.take k) k'
      have hst : R5 f.data.length (Kq (f.nodes.take i) ++ n.blocks.take (k + 1)) = G0 f.data.length (R5 f.data.length (Kq (f.nodes.take i) ++ n.blocks.take k)) b := by
        rw [Bs hb, ← List.append_assoc]; simp [R5]
      have hul := Uw f.data.length (Kq (f.nodes.take i) ++ n.blocks.take k)
      have htl : (Kq (f.nodes.take i) ++ n.blocks.take k).length ≤ 4611686018427387904 := by
        have h1 : (Kq (f.nodes.take i)).length ≤ (f.nodes.take i).length * 65536 := by
          have : ∀ (l : List Nd), (∀ n, n ∈ l → n.blocks.length ≤ 65536) → (Kq l).length ≤ l.length * 65536 := by
            intro l
            induction l with
            | nil => intro _; simp [Kq]
            | cons a l ih =>
              intro h
              have h1 := ih fun n hn => h n (by simp [hn])
              have h2 := h a (by simp)
              simp only [Kq, List.flatMap_cons, List.length_append, List.length_cons] at *
              omega
          exact this _ fun n hn => hbl n (List.mem_of_mem_take hn)
        rw [List.length_append, List.length_take]
        rw [List.length_take] at h1
        have : min i f.nodes.length * 65536 ≤ 65536 * 65536 := Nat.mul_le_mul_right _ (by omega)
        omega
      generalize R5 f.data.length (Kq (f.nodes.take i) ++ n.blocks.take k) = U at hbd hst hul ⊢
      (conv => whnf); refine ⟨fun h3 => ?_, fun h3 => ?_⟩
      · have h3 : inB b 0 ((f.data.length : Int) - 1) = true := by
          have h3 : inB b 0 (((f.data.map A6).length : Nat) - 1 : Int) = true := h3
          rw [List.length_map] at h3; exact h3
        have h3' : 0 ≤ b ∧ b ≤ (f.data.length : Int) - 1 := by simpa [inB] using h3
        have hgb := hbd b.toNat
        rw [G0, if_pos h3] at hst
        obtain ⟨v, hv⟩ := B8 (l := U) (i := b.toNat) (by omega)
        have hv1 : U.getD b.toNat 0 = v := by rw [List.getD_eq_getElem?_getD, hv]; rfl
        rw [hv1] at hst hgb
        repeat ((conv => whnf); first | refine ⟨_, w64 (bb), ?_⟩ | refine ⟨bb, ?_⟩ | refine ⟨Ae v, fun _ => by rw [Nat.zero_add]; exact Am hv, ?_⟩ | refine ⟨Ae v, by rw [Nat.zero_add]; exact Am hv, ?_⟩)
        refine C2 (k + 1) ?_ h2 (by first | omega | (simp; done) | (simp; omega))
        rw [hst]
        (refine ⟨?_, ?_, rfl⟩ <;> repeat' (first | exact rfl | exact trivial | refine ⟨?_, ?_⟩ | fail) <;> (conv => whnf))
        all_goals (rw [List.map_set]; simp [Ae])
      · have h3 : ¬ inB b 0 ((f.data.length : Int) - 1) = true := by
          have h3 : inB b 0 (((f.data.map A6).length : Nat) - 1 : Int) = false := h3
          rw [List.length_map] at h3; rw [h3]; decide
        rw [G0, if_neg h3] at hst
        have hgb := hbd f.data.length
        obtain ⟨v, hv⟩ := B8 (l := U) (i := f.data.length) (by omega)
        have hv1 : U.getD f.data.length 0 = v := by rw [List.getD_eq_getElem?_getD, hv]; rfl
        rw [hv1] at hst hgb
        repeat ((conv => whnf); first | refine ⟨(by kernel_rfl : Bw _ _ = true), ?_⟩ | refine ⟨_, w64 (bb), ?_⟩ | refine ⟨bb, ?_⟩ | refine ⟨Ae v, fun _ => by rw [Nat.zero_add, show ((((f.data.map A6).length : Nat) : Int)).toNat = f.data.length by simp]; exact Am hv, ?_⟩ | refine ⟨Ae v, by rw [Nat.zero_add, show ((((f.data.map A6).length : Nat) : Int)).toNat = f.data.length by simp]; exact Am hv, ?_⟩)
        refine C2 (k + 1) ?_ h2 (by first | omega | (simp; done) | (simp; omega))
        rw [hst]
        (refine ⟨?_, ?_, rfl⟩ <;> repeat' (first | exact rfl | exact trivial | refine ⟨?_, ?_⟩ | fail) <;> (conv => whnf))
        all_goals (rw [List.map_set]; simp [Ae])
    · have h2 : k = n.blocks.length := by have : ¬ (k < n.blocks.length) := by simpa using h2
                                          omega
      subst h2
      rw [List.take_length]
      repeat ((conv => whnf); refine ⟨_, w64 (bb), ?_⟩)
      refine C2 (i + 1) ?_ h1 (by first | omega | (simp; done) | (simp; omega))
      rw [Bs hn, show Kq (f.nodes.take i ++ [n]) = Kq (f.nodes.take i) ++ n.blocks by simp [Kq]]
      (refine ⟨?_, ?_, rfl⟩ <;> repeat' (first | exact rfl | exact trivial | refine ⟨?_, ?_⟩ | fail) <;> (conv => whnf))
  · have h1 : i = f.nodes.length := by have : ¬ (i < f.nodes.length) := by simpa using h1
                                       omega
    subst h1
    rw [List.take_length]
    have hul := Uw f.data.length (Kq f.nodes)
    skip
    rw [show F8.res f = .own 1 ((R5 f.data.length (Kq f.nodes)).map Ae) from rfl]
    exact ⟨trivial, rfl, by simp only [List.drop_zero]; exact List.take_of_length_le (by simp [hul])⟩
theorem Ti : Av Tryz.prog 185 F8 := Ao (Ca _ _) (FOk.cons Db FOk.nil) mixed Tryz.func185 rfl Tryz.call185 (by decide) (by kernel_rfl) A5c (by intro _ (y : Fs) _; exact ⟨by simp [F8, con, A9, A8, AV.noRd, A7, Ab, A5, A6, Ae, Ag, Ai, At, Ap], by simp [F8, con, A9, A8, AV.noRd, A7, Ab, A5, A6, Ae, Ag, Ai, At, Ap]⟩) (by intro (y : Fs) _; first | (simp [F8, con, A9, A8, Ad, AV.free, A2, A3, A1, A6, Ae, Ag, Ai, At, Ap]; done) | (obtain ⟨_, _⟩ := y; simp [F8, con, A9, A8, Ad, AV.free, A2, A3, A1, A6, Ae, Ag, Ai, At, Ap]; done) | (obtain ⟨_, _, _⟩ := y; simp [F8, con, A9, A8, Ad, AV.free, A2, A3, A1, A6, Ae, Ag, Ai, At, Ap]; done))
end Go.GH


set_option linter.unusedVariables false
set_option linter.unusedSimpArgs false
namespace Go.GH
open Go Go.Proofs
noncomputable def Gk : Bi := con [mC, mC] true (Int × Nat) (fun ⟨s, k⟩ => [.int .i64 s, .int .i64 k]) (fun x => 0 ≤ x.1 ∧ x.1 ≤ 80 ∧ x.2 ≤ 1000000) (fun ⟨s, k⟩ => .int .i64 (Yw s k))
noncomputable def A5a : Env := ⟨A4 Ba, A4 [(201, I8)], [0, 1, 4]⟩
set_option maxRecDepth 100000 in
set_option maxHeartbeats 4000000 in
theorem A5f : Bb A5a (Ax Tryz.f186) Tryz.f186.results.toList Gk := by
  rintro ⟨s, k⟩ hs
  obtain ⟨h1, h2, h3⟩ : 0 ≤ s ∧ s ≤ 80 ∧ k ≤ 1000000 := hs
  refine ⟨trivial, ?_⟩
  repeat ((conv => whnf); refine ⟨_, w64 (bb), ?_⟩)
  refine ⟨(16, s - (k : Int) * 16), rfl, fun _ => trivial, ?_⟩
  skip
  exact ⟨trivial, rfl⟩
theorem Ta : Av Tryz.prog 186 Gk := Ao (Ca _ _) (FOk.cons A7j FOk.nil) mixed Tryz.func186 rfl Tryz.call186 (by decide) (by kernel_rfl) A5f (by intro _ (y : (Int × Nat)) _; exact ⟨by simp [Gk, con, A9, A8, AV.noRd, A7, Ab, A5, A6, Ae, Ag, Ai, At, Ap, Az, B1], by simp [Gk, con, A9, A8, AV.noRd, A7, Ab, A5, A6, Ae, Ag, Ai, At, Ap, Az, B1]⟩) (by intro (y : (Int × Nat)) _; first | (simp [Gk, con, A9, A8, Ad, AV.free, A2, A3, A1, A6, Ae, Ag, Ai, At, Ap, Az, B1]; done) | (obtain ⟨_, _⟩ := y; simp [Gk, con, A9, A8, Ad, AV.free, A2, A3, A1, A6, Ae, Ag, Ai, At, Ap, Az, B1]; done) | (obtain ⟨_, _, _⟩ := y; simp [Gk, con, A9, A8, Ad, AV.free, A2, A3, A1, A6, Ae, Ag, Ai, At, Ap, Az, B1]; done))
noncomputable def Gf : Bi := con [.rd [some 5, some 1], mC] true (Fs × Nat) (fun ⟨f, i⟩ => [.agg (Ap f), .int .i64 i]) (fun x => smF x.1 ∧ inR x.1 ∧ x.2 < x.1.nodes.length) (fun ⟨f, i⟩ => .str (Il f i))
noncomputable def A82 : Env := ⟨A4 Ba, A4 [], [0, 1, 2, 4, 5, 6, 15]⟩
set_option maxRecDepth 100000 in
set_option maxHeartbeats 4000000 in
theorem A5x : Bb A82 (Ax Tryz.f161) Tryz.f161.results.toList Gf := by
  rintro ⟨f, i⟩ hf
  obtain ⟨⟨hn, hd, hbl, hs⟩, hr, hi⟩ : smF f ∧ inR f ∧ i < f.nodes.length := hf
  refine ⟨trivial, ?_⟩
  obtain ⟨n, hn⟩ := B8 hi
  have hbn := hbl n (List.mem_of_getElem? hn)
  have hrn := hr n (List.mem_of_getElem? hn)
  have hres : Il f i = n.blocks.flatMap fun b => f.data.getD b.toNat [] := by rw [Il, hn]
  skip
  refine B0 (fun k : Nat => ⟨[(1, ⟨none, .int .i64 i⟩), (2, ⟨none, .bx 0 0⟩), (5, ⟨none, .str ((n.blocks.take k).flatMap fun b => f.data.getD b.toNat [])⟩), (6, ⟨none, .int .i64 k⟩)], [(0, .own 2 [Ap f])], 1⟩) (fun k => k ≤ n.blocks.length) (fun k => n.blocks.length - k) 0 ?_ (Nat.zero_le _) ?_
  · (refine ⟨?_, ?_, rfl⟩ <;> repeat' (first | exact rfl | exact trivial | refine ⟨?_, ?_⟩ | fail) <;> (conv => whnf))
  intro k hk
  have hk : k ≤ n.blocks.length := hk
  repeat ((conv => whnf); refine ⟨At n, fun _ => ⟨by omega, Am hn⟩, ?_⟩)
  (conv => whnf); refine ⟨fun h2 => ?_, fun h2 => ?_⟩
  · have h2 : k < n.blocks.length := by simpa using h2
    obtain ⟨b, hb⟩ := B8 h2
    have hb2 := hrn b (List.mem_of_getElem? hb)
    obtain ⟨s, hs2⟩ := B8 (l := f.data) (i := b.toNat) (by omega)
    have hl1 := Up hs (n.blocks.take k)
    have hl2 := hs s (List.mem_of_getElem? hs2)
    have hl3 : (n.blocks.take k).length * 4194304 ≤ 65536 * 4194304 := Nat.mul_le_mul_right _ (by rw [List.length_take]; omega)
    repeat ((conv => whnf); first | refine ⟨(by kernel_rfl : Bw _ _ = true), ?_⟩ | refine ⟨_, w64 (bb), ?_⟩ | refine ⟨bb, ?_⟩ | refine ⟨At n, fun _ => ⟨by omega, Am hn⟩, ?_⟩ | refine ⟨Ae b, fun _ => ⟨by omega, Am hb⟩, ?_⟩ | refine ⟨A6 s, fun _ => ⟨by omega, Am hs2⟩, ?_⟩)
    refine C2 (k + 1) ?_ h2 (by first | omega | (simp; done) | (simp; omega))
    rw [Bs hb, List.flatMap_append, show [b].flatMap (fun b => f.data.getD b.toNat []) = s by simp [List.getD_eq_getElem?_getD, hs2]]
    (refine ⟨?_, ?_, rfl⟩ <;> repeat' (first | exact rfl | exact trivial | refine ⟨?_, ?_⟩ | fail) <;> (conv => whnf))
  · have h2 : k = n.blocks.length := by have : ¬ (k < n.blocks.length) := by simpa using h2
                                        omega
    subst h2
    rw [List.take_length]
    skip
    exact ⟨trivial, eqS hres.symm⟩
theorem Um : Av Tryz.prog 161 Gf := Ao (Ca _ _) FOk.nil mixed Tryz.func161 rfl Tryz.call161 (by decide) (by kernel_rfl) A5x (by intro _ (y : (Fs × Nat)) _; exact ⟨by simp [Gf, con, A9, A8, AV.noRd, A7, Ab, A5, A6, Ae, Ag, Ai, At, Ap, Az, B1], by simp [Gf, con, A9, A8, AV.noRd, A7, Ab, A5, A6, Ae, Ag, Ai, At, Ap, Az, B1]⟩) (by intro (y : (Fs × Nat)) _; first | (simp [Gf, con, A9, A8, Ad, AV.free, A2, A3, A1, A6, Ae, Ag, Ai, At, Ap, Az, B1]; done) | (obtain ⟨_, _⟩ := y; simp [Gf, con, A9, A8, Ad, AV.free, A2, A3, A1, A6, Ae, Ag, Ai, At, Ap, Az, B1]; done) | (obtain ⟨_, _, _⟩ := y; simp [Gf, con, A9, A8, Ad, AV.free, A2, A3, A1, A6, Ae, Ag, Ai, At, Ap, Az, B1]; done))
noncomputable def E5 : Bi := con [.rd [some 5, some 1], mC] false (Fs × Nat) (fun ⟨f, i⟩ => [.agg (Ap f), .int .i64 i]) (fun x => smF x.1 ∧ inR x.1 ∧ x.2 < x.1.nodes.length ∧ (Il x.1 x.2).length ≤ 1048576) (fun ⟨f, i⟩ => .tup [.own 2 (((Hr f i).getD []).map Ai), .bool (Hr f i).isSome])
noncomputable def B1o : Env := ⟨A4 Ba, A4 [(161, Gf), (187, He)], [0, 1, 2, 4, 5, 12]⟩
set_option maxRecDepth 100000 in
set_option maxHeartbeats 4000000 in
theorem B1l : Bb B1o (Ax Tryz.f160) Tryz.f160.results.toList E5 := by
  rintro ⟨f, i⟩ hf
  obtain ⟨hsm, hr, hi, hl⟩ : smF f ∧ inR f ∧ i < f.nodes.length ∧ (Il f i).length ≤ 1048576 := hf
  refine ⟨trivial, ?_⟩
  obtain ⟨n, hn⟩ := B8 hi
  have fin : ∀ {o : Option (List En)}, o = Hr f i → E5.res (f, i) = .tup [.own 2 ((o.getD []).map Ai), .bool o.isSome] := fun h => by rw [h]; rfl
  repeat ((conv => whnf); refine ⟨At n, fun _ => ⟨by omega, Am hn⟩, ?_⟩)
  (conv => whnf); refine ⟨fun h1 => ?_, fun h1 => ?_⟩
  · have h1 : (n.kind != 2) = true := h1
    have hd : none = Hr f i := by rw [Hr, hn]; simp only; rw [if_neg (by simpa using h1)]
    skip
    rw [fin hd]
    exact ⟨trivial, ⟨rfl, rfl⟩, rfl, trivial⟩
  · have h1 : (n.kind != 2) = false := h1
    have hd : Hr f i = Ra (Il f i) := by rw [Hr, hn]; simp only; rw [if_pos (by simpa using h1)]
    skip
    refine ⟨(f, i), by (repeat' (first | refine Bu ?_ ?_ | refine Bz ?_ | refine Bq ?_ | refine Bx ?_ | exact rfl)) <;> simp [rdI, rdO, rdE, rdB, rdN, rdS, rdD, rdW, tkM], fun _ => ⟨hsm, hr, hi⟩, ?_⟩
    skip
    refine ⟨Il f i, rfl, fun _ => hl, ?_⟩
    skip
    rw [fin hd.symm]
    exact ⟨trivial, ⟨rfl, by simp⟩, rfl, trivial⟩
theorem Jp : Av Tryz.prog 160 E5 := Ao (Ca _ _) (FOk.cons Um (FOk.cons A68 FOk.nil)) mixed Tryz.func160 rfl Tryz.call160 (by decide) (by kernel_rfl) B1l (by intro _ (y : (Fs × Nat)) _; exact ⟨by simp [E5, con, A9, A8, AV.noRd, A7, Ab, A5, A6, Ae, Ag, Ai, At, Ap, Az, B1], by simp [E5, con, A9, A8, AV.noRd, A7, Ab, A5, A6, Ae, Ag, Ai, At, Ap, Az, B1]⟩) (by intro (y : (Fs × Nat)) _; first | (simp [E5, con, A9, A8, Ad, AV.free, A2, A3, A1, A6, Ae, Ag, Ai, At, Ap, Az, B1]; done) | (obtain ⟨_, _⟩ := y; simp [E5, con, A9, A8, Ad, AV.free, A2, A3, A1, A6, Ae, Ag, Ai, At, Ap, Az, B1]; done) | (obtain ⟨_, _, _⟩ := y; simp [E5, con, A9, A8, Ad, AV.free, A2, A3, A1, A6, Ae, Ag, Ai, At, Ap, Az, B1]; done))
end Go.GH


set_option linter.unusedVariables false
set_option linter.unusedSimpArgs false
namespace Go.GH
open Go Go.Proofs
noncomputable def Ex : Bi := con [.rd [some 5, some 1]] true Fs (fun f => [.agg (Ap f)]) smF (fun f => .bool (Ei f))
noncomputable def A49 : Env := ⟨A4 Ba, A4 [(76, Ch), (184, Ho), (185, F8), (186, Gk)], [0, 1, 2, 3, 4, 5, 6, 7, 8, 28, 33, 42, 51, 56, 87, 92, 104, 121]⟩
set_option maxRecDepth 100000 in
set_option maxHeartbeats 4000000 in
theorem A2v : Bb A49 (Ax Tryz.f158) Tryz.f158.results.toList Ex := by
  intro (f : Fs) hf
  have hsm : smF f := hf
  obtain ⟨hnl, hdl, hbl, hs⟩ := hsm
  refine ⟨trivial, ?_⟩
  generalize hhd : f.nodes.headD .zero = n0
  have hn0 : 0 < f.nodes.length → f.nodes[0]? = some n0 := fun h => by
    rw [← hhd]
    cases hq : f.nodes with
    | nil => rw [hq] at h; cases h
    | cons a l => rfl
  have hg0 : ∀ {B : Bool}, Cw (some (!(!inB (((f.nodes.map At).length : Nat) : Int) 2 10 || B))) → (0 : Int) ≤ 0 ∧ (f.nodes.map At)[(0 : Int).toNat]? = some (At n0) := by
    intro B h
    have h : (!(!inB (((f.nodes.map At).length : Nat) : Int) 2 10 || B)) = true := h
    rw [List.length_map] at h
    simp [inB] at h
    exact ⟨by omega, Am (hn0 (by omega))⟩
  repeat ((conv => whnf); first | refine ⟨fun h => h, ?_⟩ | refine ⟨(_, _, _), rfl, fun _ => trivial, ?_⟩ | refine ⟨At n0, fun h => hg0 h, ?_⟩)
  (conv => whnf); refine ⟨fun h1 => ?_, fun h1 => ?_⟩
  · have h1 : (!inB (((f.nodes.map At).length : Nat) : Int) 2 10 || !inB (((f.data.map A6).length : Nat) : Int) 1 36 || n0.kind != 2) = true := h1
    skip
    refine ⟨trivial, eqB ?_⟩
    show false = Ei f
    rw [List.length_map, List.length_map] at h1
    rw [Ei, hhd]
    revert h1
    cases inB f.nodes.length 2 10 <;> cases inB f.data.length 1 36 <;> cases hk : (n0.kind == 2) <;> simp [bne, hk]
  have h1 : (!inB (((f.nodes.map At).length : Nat) : Int) 2 10 || !inB (((f.data.map A6).length : Nat) : Int) 1 36 || n0.kind != 2) = false := h1
  rw [List.length_map, List.length_map] at h1
  have hsh : Ei f = (f.nodes.all Ih && !decide ((Mt f).getD f.data.length 0 > 0) && (List.range f.data.length).all (W8 f) && f.nodes.all (A35 f)) := by
    rw [Ei, hhd]
    revert h1
    cases inB f.nodes.length 2 10 <;> cases inB f.data.length 1 36 <;> cases hk : (n0.kind == 2) <;> simp [bne, hk]
  have hnn : 2 ≤ f.nodes.length ∧ f.nodes.length ≤ 10 ∧ 1 ≤ f.data.length ∧ f.data.length ≤ 36 := by
    simp only [Bool.or_eq_false_iff, Bool.not_eq_false'] at h1
    simp [inB] at h1
    omega
  skip
  refine B0 (fun i : Nat => ⟨[(1, ⟨none, .bx 0 0⟩), (3, ⟨none, .int .i64 i⟩)], [(0, .own 2 [Ap f])], 1⟩) (fun i => i ≤ f.nodes.length ∧ ∀ n, n ∈ f.nodes.take i → Ih n = true) (fun i => f.nodes.length - i) 0 ?_ ⟨Nat.zero_le _, fun n hn => absurd hn (by simp)⟩ ?_
  · (refine ⟨?_, ?_, rfl⟩ <;> repeat' (first | exact rfl | exact trivial | refine ⟨?_, ?_⟩ | fail) <;> (conv => whnf))
  rintro i ⟨hi, hI⟩
  (conv => whnf); refine ⟨fun h2 => ?_, fun h2 => ?_⟩
  · have h2 : i < f.nodes.length := by simpa using h2
    obtain ⟨n, hn⟩ := B8 h2
    repeat ((conv => whnf); refine ⟨At n, fun _ => ⟨by omega, Am hn⟩, ?_⟩)
    refine ⟨n, by (repeat' (first | refine Bu ?_ ?_ | refine Bz ?_ | refine Bq ?_ | refine Bx ?_ | exact rfl)) <;> simp [rdI, rdO, rdE, rdB, rdN, rdS, rdD, rdW, tkM], fun _ => hbl n (List.mem_of_getElem? hn), ?_⟩
    skip
    (conv => whnf); refine ⟨fun h3 => ?_, fun h3 => ?_⟩
    · have h3 : (!Ih n) = true := h3
      skip
      refine ⟨trivial, eqB ?_⟩
      show false = Ei f
      rw [hsh, Uy (List.mem_of_getElem? hn) (by simpa using h3)]; rfl
    · have h3 : (!Ih n) = false := h3
      repeat ((conv => whnf); refine ⟨_, w64 (bb), ?_⟩)
      refine C2 (i + 1) ?_ ⟨h2, fun m hm => ?_⟩ (by first | omega | (simp; done) | (simp; omega))
      · (refine ⟨?_, ?_, rfl⟩ <;> repeat' (first | exact rfl | exact trivial | refine ⟨?_, ?_⟩ | fail) <;> (conv => whnf))
      · rw [Bs hn, List.mem_append] at hm
        rcases hm with hm | hm
        · exact hI m hm
        · rw [List.mem_singleton] at hm; subst hm; simpa using h3
  have h2 : i = f.nodes.length := by have : ¬ (i < f.nodes.length) := by simpa using h2
                                     omega
  subst h2
  rw [List.take_length] at hI
  have hsh : Ei f = (!decide ((Mt f).getD f.data.length 0 > 0) && (List.range f.data.length).all (W8 f) && f.nodes.all (A35 f)) := by
    rw [hsh, List.all_eq_true.2 hI, Bool.true_and]
  skip
  refine ⟨f, by (repeat' (first | refine Bu ?_ ?_ | refine Bz ?_ | refine Bq ?_ | refine Bx ?_ | exact rfl)) <;> simp [rdI, rdO, rdE, rdB, rdN, rdS, rdD, rdW, tkM], fun _ => ⟨hnl, hdl, hbl, hs⟩, ?_⟩
  have hul : (Mt f).length = f.data.length + 1 := Uw _ _
  have hub := fun k => B4n f.data.length (Kq f.nodes) k
  obtain ⟨u0, hu0⟩ := B8 (l := Mt f) (i := f.data.length) (by omega)
  have hu1 : (Mt f).getD f.data.length 0 = u0 := by rw [List.getD_eq_getElem?_getD, hu0]; rfl
  repeat ((conv => whnf); first | refine ⟨bb, ?_⟩ | refine ⟨Ae u0, fun _ => by rw [Nat.zero_add, show ((((f.data.map A6).length : Nat) : Int)).toNat = f.data.length by simp]; exact Am hu0, ?_⟩)
  (conv => whnf); refine ⟨fun h4 => ?_, fun h4 => ?_⟩
  · have h4 : decide (u0 > 0) = true := h4
    skip
    refine ⟨trivial, eqB ?_⟩
    show false = Ei f
    rw [hsh, hu1, h4]; rfl
  have h4 : decide (u0 > 0) = false := h4
  rw [hu1, h4] at hsh
  have hr : inR f := B2p (by rw [hu1]; simpa using h4)
  skip
  refine B0 (fun k : Nat => ⟨[(1, ⟨none, .bx 0 0⟩), (4, ⟨none, .view 1 [] 0 (Mt f).length⟩), (5, ⟨none, .int .i64 k⟩)], [(0, .own 2 [Ap f]), (1, .own 1 ((Mt f).map Ae))], 2⟩) (fun k => k ≤ f.data.length ∧ ∀ j, j < k → W8 f j = true) (fun k => f.data.length - k) 0 ?_ ⟨Nat.zero_le _, fun j hj => absurd hj (Nat.not_lt_zero _)⟩ ?_
  · (refine ⟨?_, ?_, rfl⟩ <;> repeat' (first | exact rfl | exact trivial | refine ⟨?_, ?_⟩ | fail) <;> (conv => whnf))
    all_goals simp
  rintro k ⟨hk, hK⟩
  (conv => whnf); refine ⟨fun h5 => ?_, fun h5 => ?_⟩
  · have h5 : k < f.data.length := by simpa using h5
    obtain ⟨s, hs1⟩ := B8 h5
    obtain ⟨u, hu⟩ := B8 (l := Mt f) (i := k) (by omega)
    have hu2 : (Mt f).getD k 0 = u := by rw [List.getD_eq_getElem?_getD, hu]; rfl
    have hsl := hs s (List.mem_of_getElem? hs1)
    repeat ((conv => whnf); first | refine ⟨fun h => h, ?_⟩ | refine ⟨bb, ?_⟩ | refine ⟨Ae u, fun _ => by rw [Nat.zero_add]; exact Am hu, ?_⟩ | refine ⟨A6 s, fun _ => ⟨by omega, Am hs1⟩, ?_⟩)
    have hdc : W8 f k = !(decide (u > 1) || (u == 0 && s != []) || decide ((s.length : Int) > 16)) := by rw [W8, hs1]; simp only [hu2]
    (conv => whnf); refine ⟨fun h6 => ?_, fun h6 => ?_⟩
    · have h6 : (decide (u > 1) || (u == 0 && s != []) || decide ((s.length : Int) > 16)) = true := h6
      skip
      refine ⟨trivial, eqB ?_⟩
      show false = Ei f
      rw [hsh, Uy (List.mem_range.2 h5) (by rw [hdc, h6]; rfl)]; rfl
    · have h6 : (decide (u > 1) || (u == 0 && s != []) || decide ((s.length : Int) > 16)) = false := h6
      repeat ((conv => whnf); refine ⟨_, w64 (bb), ?_⟩)
      refine C2 (k + 1) ?_ ⟨h5, fun j hj => ?_⟩ (by first | omega | (simp; done) | (simp; omega))
      · (refine ⟨?_, ?_, rfl⟩ <;> repeat' (first | exact rfl | exact trivial | refine ⟨?_, ?_⟩ | fail) <;> (conv => whnf))
      · rcases Nat.lt_or_ge j k with h | h
        · exact hK j h
        · rw [show j = k by omega, hdc, h6]; rfl
  have h5 : k = f.data.length := by have : ¬ (k < f.data.length) := by simpa using h5
                                    omega
  subst h5
  have hsh : Ei f = f.nodes.all (A35 f) := by
    rw [hsh, List.all_eq_true.2 fun j hj => hK j (List.mem_range.1 hj)]; simp
  skip
  refine B0 (fun i : Nat => ⟨[(1, ⟨none, .bx 0 0⟩), (6, ⟨none, .int .i64 i⟩)], [(0, .own 2 [Ap f])], 1⟩) (fun i => i ≤ f.nodes.length ∧ ∀ n, n ∈ f.nodes.take i → A35 f n = true) (fun i => f.nodes.length - i) 0 ?_ ⟨Nat.zero_le _, fun n hn => absurd hn (by simp)⟩ ?_
  · (refine ⟨?_, ?_, rfl⟩ <;> repeat' (first | exact rfl | exact trivial | refine ⟨?_, ?_⟩ | fail) <;> (conv => whnf))
  rintro i ⟨hi, hJ⟩
  (conv => whnf); refine ⟨fun h6 => ?_, fun h6 => ?_⟩
  · have h6 : i < f.nodes.length := by simpa using h6
    obtain ⟨n, hn⟩ := B8 h6
    have hnm := List.mem_of_getElem? hn
    have hbn := hbl n hnm
    have hsz := B3s (hI n hnm)
    repeat ((conv => whnf); refine ⟨At n, fun _ => ⟨by omega, Am hn⟩, ?_⟩)
    refine B0 (fun k : Nat => ⟨[(1, ⟨none, .bx 0 0⟩), (6, ⟨none, .int .i64 i⟩), (7, ⟨none, .bx 1 0⟩), (8, ⟨none, .int .i64 k⟩)], [(0, .own 2 [Ap f]), (1, .own 5 [At n])], 2⟩) (fun k => k ≤ n.blocks.length ∧ ∀ j, j < k → B25 f n j = true) (fun k => n.blocks.length - k) 0 ?_ ⟨Nat.zero_le _, fun j hj => absurd hj (Nat.not_lt_zero _)⟩ ?_
    · (refine ⟨?_, ?_, rfl⟩ <;> repeat' (first | exact rfl | exact trivial | refine ⟨?_, ?_⟩ | fail) <;> (conv => whnf))
    rintro k ⟨hk, hL⟩
    (conv => whnf); refine ⟨fun h7 => ?_, fun h7 => ?_⟩
    · have h7 : k < n.blocks.length := by simpa using h7
      obtain ⟨b, hb⟩ := B8 h7
      have hb2 := hr n hnm b (List.mem_of_getElem? hb)
      obtain ⟨s, hs1⟩ := B8 (l := f.data) (i := b.toNat) (by omega)
      have hs2 : f.data.getD b.toNat [] = s := by rw [List.getD_eq_getElem?_getD, hs1]; rfl
      have hlc : B25 f n k = decide ((s.length : Int) = Yw n.size k) := by rw [B25, hb]; simp only [hs2]
      repeat ((conv => whnf); first | refine ⟨Ae b, fun _ => ⟨by omega, Am hb⟩, ?_⟩ | refine ⟨A6 s, fun _ => ⟨by omega, Am hs1⟩, ?_⟩)
      refine ⟨(n.size, k), rfl, fun _ => ⟨hsz.1, hsz.2, by show k ≤ 1000000; omega⟩, ?_⟩
      repeat ((conv => whnf); refine ⟨(by kernel_rfl : Bw _ _ = true), ?_⟩)
      (conv => whnf); refine ⟨fun h8 => ?_, fun h8 => ?_⟩
      · have h8 : ((s.length : Int) != Yw n.size k) = true := h8
        skip
        refine ⟨trivial, eqB ?_⟩
        show false = Ei f
        rw [hsh, Uy hnm (Uy (List.mem_range.2 h7) (by rw [hlc]; simpa using h8))]
      · have h8 : ((s.length : Int) != Yw n.size k) = false := h8
        repeat ((conv => whnf); refine ⟨_, w64 (bb), ?_⟩)
        refine C2 (k + 1) ?_ ⟨h7, fun j hj => ?_⟩ (by first | omega | (simp; done) | (simp; omega))
        · (refine ⟨?_, ?_, rfl⟩ <;> repeat' (first | exact rfl | exact trivial | refine ⟨?_, ?_⟩ | fail) <;> (conv => whnf))
        · rcases Nat.lt_or_ge j k with h | h
          · exact hL j h
          · rw [show j = k by omega, hlc]; simpa using h8
    have h7 : k = n.blocks.length := by have : ¬ (k < n.blocks.length) := by simpa using h7
                                        omega
    subst h7
    repeat ((conv => whnf); refine ⟨_, w64 (bb), ?_⟩)
    refine C2 (i + 1) ?_ ⟨h6, fun m hm => ?_⟩ (by first | omega | (simp; done) | (simp; omega))
    · (refine ⟨?_, ?_, rfl⟩ <;> repeat' (first | exact rfl | exact trivial | refine ⟨?_, ?_⟩ | fail) <;> (conv => whnf))
    · rw [Bs hn, List.mem_append] at hm
      rcases hm with hm | hm
      · exact hJ m hm
      · rw [List.mem_singleton] at hm; subst hm; exact List.all_eq_true.2 fun j hj => hL j (List.mem_range.1 hj)
  have h6 : i = f.nodes.length := by have : ¬ (i < f.nodes.length) := by simpa using h6
                                     omega
  subst h6
  rw [List.take_length] at hJ
  skip
  exact ⟨trivial, eqB (by show true = Ei f; rw [hsh, List.all_eq_true.2 hJ])⟩
theorem Ns : Av Tryz.prog 158 Ex := Ao (Ca _ _) (FOk.cons Db (FOk.cons A57 (FOk.cons Ti (FOk.cons Ta FOk.nil)))) mixed Tryz.func158 rfl Tryz.call158 (by decide) (by kernel_rfl) A2v (by intro _ (y : Fs) _; exact ⟨by simp [Ex, con, A9, A8, AV.noRd, A7, Ab, A5, A6, Ae, Ag, Ai, At, Ap, Az, B1], by simp [Ex, con, A9, A8, AV.noRd, A7, Ab, A5, A6, Ae, Ag, Ai, At, Ap, Az, B1]⟩) (by intro (y : Fs) _; first | (simp [Ex, con, A9, A8, Ad, AV.free, A2, A3, A1, A6, Ae, Ag, Ai, At, Ap, Az, B1]; done) | (obtain ⟨_, _⟩ := y; simp [Ex, con, A9, A8, Ad, AV.free, A2, A3, A1, A6, Ae, Ag, Ai, At, Ap, Az, B1]; done) | (obtain ⟨_, _, _⟩ := y; simp [Ex, con, A9, A8, Ad, AV.free, A2, A3, A1, A6, Ae, Ag, Ai, At, Ap, Az, B1]; done))
end Go.GH


set_option linter.unusedVariables false
set_option linter.unusedSimpArgs false
namespace Go.GH
open Go Go.Proofs
noncomputable def Ie : Bi := con [.rd [some 5, some 1], mC] true (Fs × Int) (fun ⟨f, i⟩ => [.agg (Ap f), .int .i64 i]) (fun x => smF x.1) (fun ⟨f, i⟩ => .bool (isN f i))
noncomputable def B4k : Env := ⟨A4 Ba, A4 [(76, Ch), (158, Ex)], [0, 1, 2, 4]⟩
set_option maxRecDepth 100000 in
set_option maxHeartbeats 4000000 in
theorem B3b : Bb B4k (Ax Tryz.f191) Tryz.f191.results.toList Ie := by
  rintro ⟨f, i⟩ hsm
  have hsm : smF f := hsm
  have hnl := hsm.1
  refine ⟨trivial, ?_⟩
  have hg : ∀ {A : Bool}, Cw (some (A && inB i 0 ((((f.nodes.map At).length : Nat) : Int) - 1))) → (0 : Int) ≤ i ∧ (f.nodes.map At)[i.toNat]? = some (At (f.nodes.getD i.toNat .zero)) := by
    intro A h
    have h : (A && inB i 0 ((((f.nodes.map At).length : Nat) : Int) - 1)) = true := h
    rw [List.length_map] at h
    simp [inB] at h
    refine ⟨by omega, Am ?_⟩
    rw [List.getD_eq_getElem?_getD, List.getElem?_eq_getElem (by omega)]; rfl
  skip
  refine ⟨f, by (repeat' (first | refine Bu ?_ ?_ | refine Bz ?_ | refine Bq ?_ | refine Bx ?_ | exact rfl)) <;> simp [rdI, rdO, rdE, rdB, rdN, rdS, rdD, rdW, tkM], fun _ => hsm, ?_⟩
  repeat ((conv => whnf); first | refine ⟨fun h => h, ?_⟩ | refine ⟨_, w64 (bb), ?_⟩ | refine ⟨(_, _, _), rfl, fun _ => trivial, ?_⟩ | refine ⟨At (f.nodes.getD i.toNat .zero), fun h => hg h, ?_⟩)
  refine ⟨trivial, eqB ?_⟩
  show (Ei f && inB i 0 ((((f.nodes.map At).length : Nat) : Int) - 1) && (f.nodes.getD i.toNat .zero).kind != 0) = _
  rw [List.length_map]; rfl
theorem Xp : Av Tryz.prog 191 Ie := Ao (Ca _ _) (FOk.cons Db (FOk.cons Ns FOk.nil)) mixed Tryz.func191 rfl Tryz.call191 (by decide) (by kernel_rfl) B3b (by intro _ (y : (Fs × Int)) _; exact ⟨by simp [Ie, con, A9, A8, AV.noRd, A7, Ab, A5, A6, Ae, Ag, Ai, At, Ap, Az, B1], by simp [Ie, con, A9, A8, AV.noRd, A7, Ab, A5, A6, Ae, Ag, Ai, At, Ap, Az, B1]⟩) (by intro (y : (Fs × Int)) _; first | (simp [Ie, con, A9, A8, Ad, AV.free, A2, A3, A1, A6, Ae, Ag, Ai, At, Ap, Az, B1]; done) | (obtain ⟨_, _⟩ := y; simp [Ie, con, A9, A8, Ad, AV.free, A2, A3, A1, A6, Ae, Ag, Ai, At, Ap, Az, B1]; done) | (obtain ⟨_, _, _⟩ := y; simp [Ie, con, A9, A8, Ad, AV.free, A2, A3, A1, A6, Ae, Ag, Ai, At, Ap, Az, B1]; done))
noncomputable def Fv : Bi := con [mC, mC] true (Int × Int) (fun ⟨t, g⟩ => [.int .i64 t, .int .i64 g]) (fun _ => True) (fun ⟨t, g⟩ => .bool (inB t 0 100000 && inB g 0 1000000))
noncomputable def A2s : Env := ⟨A4 Ba, A4 [(76, Ch)], [0, 1, 4]⟩
set_option maxRecDepth 100000 in
set_option maxHeartbeats 4000000 in
theorem A26 : Bb A2s (Ax Tryz.f163) Tryz.f163.results.toList Fv := by
  rintro ⟨t, g⟩ _
  refine ⟨trivial, ?_⟩
  repeat ((conv => whnf); first | refine ⟨fun h => h, ?_⟩ | refine ⟨(_, _, _), rfl, fun _ => trivial, ?_⟩)
  exact ⟨trivial, rfl⟩
theorem Si : Av Tryz.prog 163 Fv := Ao (Ca _ _) (FOk.cons Db FOk.nil) mixed Tryz.func163 rfl Tryz.call163 (by decide) (by kernel_rfl) A26 (by intro _ (y : (Int × Int)) _; exact ⟨by simp [Fv, con, A9, A8, AV.noRd, A7, Ab, A5, A6, Ae, Ag, Ai, At, Ap, Az, B1], by simp [Fv, con, A9, A8, AV.noRd, A7, Ab, A5, A6, Ae, Ag, Ai, At, Ap, Az, B1]⟩) (by intro (y : (Int × Int)) _; first | (simp [Fv, con, A9, A8, Ad, AV.free, A2, A3, A1, A6, Ae, Ag, Ai, At, Ap, Az, B1]; done) | (obtain ⟨_, _⟩ := y; simp [Fv, con, A9, A8, Ad, AV.free, A2, A3, A1, A6, Ae, Ag, Ai, At, Ap, Az, B1]; done) | (obtain ⟨_, _, _⟩ := y; simp [Fv, con, A9, A8, Ad, AV.free, A2, A3, A1, A6, Ae, Ag, Ai, At, Ap, Az, B1]; done))
noncomputable def Ea : Bi := con [.rd [some 5, some 1]] false Fs (fun f => [.agg (Ap f)]) smF (fun f => .agg (B1 f))
noncomputable def A7u : Env := ⟨A4 Ba, A4 [(130, F9)], [0, 1, 2, 3, 4, 5, 14]⟩
set_option maxRecDepth 100000 in
set_option maxHeartbeats 4000000 in
theorem A76 : Bb A7u (Ax Tryz.f162) Tryz.f162.results.toList Ea := by
  intro (f : Fs) hf
  obtain ⟨hnl, hdl, hbl, hs⟩ : smF f := hf
  refine ⟨trivial, ?_⟩
  skip
  refine ⟨f.data, by (repeat' (first | refine Bu ?_ ?_ | refine Bz ?_ | refine Bq ?_ | refine Bx ?_ | exact rfl)) <;> simp [rdI, rdO, rdE, rdB, rdN, rdS, rdD, rdW, tkM], fun _ => by show f.data.length ≤ _; omega, ?_⟩
  skip
  refine B0 (fun i : Nat => ⟨[(1, ⟨none, .bx 0 0⟩), (2, ⟨none, .bx 2 0⟩), (3, ⟨none, .bx 1 0⟩), (4, ⟨none, .int .i64 i⟩)], [(0, .own 2 [Ap f]), (1, .own 2 [[.own 5 ((f.nodes.take i).map Az), .own 1 (f.data.map A6)]]), (2, .own 2 [[.own 5 [], .own 1 []]])], 3⟩) (fun i => i ≤ f.nodes.length) (fun i => f.nodes.length - i) 0 ?_ (Nat.zero_le _) ?_
  · (refine ⟨?_, ?_, rfl⟩ <;> repeat' (first | exact rfl | exact trivial | refine ⟨?_, ?_⟩ | fail) <;> (conv => whnf))
    all_goals simp [tkM, Bc]
  intro i hi
  have hi : i ≤ f.nodes.length := hi
  (conv => whnf); refine ⟨fun h1 => ?_, fun h1 => ?_⟩
  · have h1 : i < f.nodes.length := by simpa using h1
    obtain ⟨n, hn⟩ := B8 h1
    have hbn := hbl n (List.mem_of_getElem? hn)
    repeat ((conv => whnf); first | refine ⟨_, w64 (bb), ?_⟩ | refine ⟨bb, ?_⟩ | refine ⟨At n, fun _ => ⟨by omega, Am hn⟩, ?_⟩)
    refine C2 (i + 1) ?_ h1 (by first | omega | (simp; done) | (simp; omega))
    rw [Bs hn]
    (refine ⟨?_, ?_, rfl⟩ <;> repeat' (first | exact rfl | exact trivial | refine ⟨?_, ?_⟩ | fail) <;> (conv => whnf))
    all_goals (simp [Az, List.take_of_length_le]; rfl)
  · have h1 : i = f.nodes.length := by have : ¬ (i < f.nodes.length) := by simpa using h1
                                       omega
    subst h1
    rw [List.take_length]
    skip
    exact ⟨trivial, ⟨rfl, by simp [tkM]⟩, ⟨rfl, by simp [tkM]⟩, trivial⟩
theorem Mc : Av Tryz.prog 162 Ea := Ao (Ca _ _) (FOk.cons Of FOk.nil) mixed Tryz.func162 rfl Tryz.call162 (by decide) (by kernel_rfl) A76 (by intro _ (y : Fs) _; exact ⟨by simp [Ea, con, A9, A8, AV.noRd, A7, Ab, A5, A6, Ae, Ag, Ai, At, Ap, Az, B1], by simp [Ea, con, A9, A8, AV.noRd, A7, Ab, A5, A6, Ae, Ag, Ai, At, Ap, Az, B1]⟩) (by intro (y : Fs) _; first | (simp [Ea, con, A9, A8, Ad, AV.free, A2, A3, A1, A6, Ae, Ag, Ai, At, Ap, Az, B1]; done) | (obtain ⟨_, _⟩ := y; simp [Ea, con, A9, A8, Ad, AV.free, A2, A3, A1, A6, Ae, Ag, Ai, At, Ap, Az, B1]; done) | (obtain ⟨_, _, _⟩ := y; simp [Ea, con, A9, A8, Ad, AV.free, A2, A3, A1, A6, Ae, Ag, Ai, At, Ap, Az, B1]; done))
noncomputable def K8 : Bi := { Ea with sh := true, res := fun (f : Fs) => .agg (Ap f) }
theorem Ku : Av Tryz.prog 162 K8 := J6 _ Mc (fun _ => rfl) rfl (fun f _ => ⟨rfl, by show 2 ≤ 16; omega, by simp only [Ea, con, frz, M6, B1, Ap, List.map_cons, List.map_nil, Mj, rdW, rdS]⟩)
noncomputable def Fh : Bi := con [mC, mC] false (Int × Int) (fun ⟨n, d⟩ => [.int .i64 n, .int .i64 d]) (fun _ => True) (fun ⟨n, d⟩ => .tup [.agg (B1 (Xh n d)), .bool (inB n 2 10 && inB d 1 36)])
noncomputable def B2e : Env := ⟨A4 Ba, A4 [(76, Ch)], [0, 1, 4, 5, 6, 14]⟩
set_option maxRecDepth 100000 in
set_option maxHeartbeats 4000000 in
theorem B0u : Bb B2e (Ax Tryz.f122) Tryz.f122.results.toList Fh := by
  rintro ⟨n, d⟩ _
  refine ⟨trivial, ?_⟩
  repeat ((conv => whnf); first | refine ⟨fun h => h, ?_⟩ | refine ⟨(_, _, _), rfl, fun _ => trivial, ?_⟩)
  (conv => whnf); refine ⟨fun h1 => ?_, fun h1 => ?_⟩
  · have h1 : (!inB n 2 10 || !inB d 1 36) = true := h1
    have h2 : (inB n 2 10 && inB d 1 36) = false := by revert h1; cases inB n 2 10 <;> cases inB d 1 36 <;> simp
    skip
    rw [show Fh.res (n, d) = .tup [.agg [.own 5 [], .own 1 []], .bool false] by show AV.tup [.agg (B1 (Xh n d)), .bool (inB n 2 10 && inB d 1 36)] = _; rw [Xh, h2]; rfl]
    exact ⟨trivial, ⟨⟨rfl, rfl⟩, ⟨rfl, rfl⟩, trivial⟩, rfl, trivial⟩
  · have h1 : (!inB n 2 10 || !inB d 1 36) = false := h1
    have h2 : (inB n 2 10 && inB d 1 36) = true := by revert h1; cases inB n 2 10 <;> cases inB d 1 36 <;> simp
    obtain ⟨p, rfl⟩ : ∃ p : Nat, n = ((p + 2 : Nat) : Int) := ⟨(n - 2).toNat, by simp [inB] at h2; omega⟩
    obtain ⟨q, rfl⟩ : ∃ q : Nat, d = (q : Int) := ⟨d.toNat, by simp [inB] at h2; omega⟩
    have h3 : p ≤ 8 ∧ q ≤ 36 := by simp [inB] at h2; omega
    repeat ((conv => whnf); first | refine ⟨(by kernel_rfl : Bw _ _ = true), ?_⟩ | refine ⟨bb, ?_⟩)
    refine ⟨Az Nd.zero, rfl, ?_⟩
    skip
    rw [show Fh.res (((p + 2 : Nat) : Int), (q : Int)) = .tup [.agg [.own 5 (Az ⟨2, 0, 0, 0, []⟩ :: List.replicate (p + 1) (Az Nd.zero)), .own 1 (List.replicate q (A6 []))], .bool true] by
      show AV.tup [.agg (B1 (Xh ((p + 2 : Nat) : Int) (q : Int))), .bool (inB ((p + 2 : Nat) : Int) 2 10 && inB (q : Int) 1 36)] = _
      rw [Xh, h2]
      simp [B1]
      omega]
    refine ⟨trivial, ⟨⟨rfl, ?_⟩, ⟨rfl, ?_⟩, trivial⟩, rfl, trivial⟩
    · refine congrArg (fun r => Az ⟨2, 0, 0, 0, []⟩ :: Az Nd.zero :: r) (?_ : _ = List.replicate p (Az Nd.zero))
      simp [Az, Nd.zero]
    · simp [A6]
theorem A59 : Av Tryz.prog 122 Fh := Ao (Ca _ _) (FOk.cons Db FOk.nil) mixed Tryz.func122 rfl Tryz.call122 (by decide) (by kernel_rfl) B0u (by intro _ (y : (Int × Int)) _; exact ⟨by simp [Fh, con, A9, A8, AV.noRd, A7, Ab, A5, A6, Ae, Ag, Ai, At, Ap, Az, B1], by simp [Fh, con, A9, A8, AV.noRd, A7, Ab, A5, A6, Ae, Ag, Ai, At, Ap, Az, B1]⟩) (by intro (y : (Int × Int)) _; first | (simp [Fh, con, A9, A8, Ad, AV.free, A2, A3, A1, A6, Ae, Ag, Ai, At, Ap, Az, B1]; done) | (obtain ⟨_, _⟩ := y; simp [Fh, con, A9, A8, Ad, AV.free, A2, A3, A1, A6, Ae, Ag, Ai, At, Ap, Az, B1]; done) | (obtain ⟨_, _, _⟩ := y; simp [Fh, con, A9, A8, Ad, AV.free, A2, A3, A1, A6, Ae, Ag, Ai, At, Ap, Az, B1]; done))
noncomputable def Vr : Bi := { Fh with sh := true, res := fun ((n, d) : Int × Int) => .tup [.agg (Ap (Xh n d)), .bool (inB n 2 10 && inB d 1 36)] }
theorem A3g : Av Tryz.prog 122 Vr := J6 _ A59 (fun _ => rfl) rfl (fun (n, d) _ => ⟨rfl, by show 2 ≤ 16; omega, by simp only [Fh, con, frz, M6, B1, Ap, List.map_cons, List.map_nil, Mj, rdW, rdS]⟩)
end Go.GH


set_option linter.unusedVariables false
set_option linter.unusedSimpArgs false
namespace Go.GH
open Go
def Uz (n : Nd) (k : Int) : Nd := ⟨k, n.gen, n.time, n.size, n.blocks⟩
def Y4 (f : Fs) : Option Nat := f.nodes.findIdx? fun n => n.kind == 0
def C5 (f : Fs) (k : Int) : Fs × Int × Bool := if Ei f && inB k 1 3 then match Y4 f with
    | some i => (⟨f.nodes.set i (Uz (f.nodes.getD i .zero) k), f.data⟩, i, true)
    | none => (f, -1, false)
  else (f, -1, false)
def clr (d : List Str) (b : Int) : List Str := d.set b.toNat []
def Mh (d : List Str) (l : List Int) : List Str := l.foldl clr d
def Hd (f : Fs) (i : Int) : Nd := f.nodes.getD i.toNat .zero
def H7 (f : Fs) (i : Int) : Fs × Bool := if isN f i && i != 0 then (⟨f.nodes.set i.toNat .zero, Mh f.data (Hd f i).blocks⟩, true) else (f, false)
def Nv (u : List Int) (n : Nat) : List Int := ((List.range n).filter fun b => u.getD b 0 == 0).map fun b => ((b : Nat) : Int)
def Zn (s : Str) (bs : List Int) (d : List Str) (k : Nat) : List Str := d.set (bs.getD k 0).toNat ((s.drop (k * 16)).take (Yw s.length k).toNat)
def Q8 (s : Str) (bs : List Int) (k : Nat) (d : List Str) : List Str := (List.range k).foldl (Zn s bs) d
def need (s : Str) : Nat := (G6 s.length).toNat
def B3y (f : Fs) (i : Int) (s : Str) : List Int := (Hd f i).blocks.take (need s)
def I2 (f : Fs) (i : Int) (s : Str) : List Int := B3y f i s ++ (Nv (Mt f) f.data.length).take (need s - (B3y f i s).length)
def N7 (f : Fs) (i : Int) (s : Str) : Bool := isN f i && decide (s.length ≤ 80) && !decide ((I2 f i s).length < need s)
def Ur (f : Fs) (i : Int) (s : Str) : List Str := Q8 s (I2 f i s) (need s) (Mh f.data ((Hd f i).blocks.drop (need s)))
def A1n (n : Nd) (s : Str) (l : List Int) : Nd := ⟨n.kind, n.gen, n.time, s.length, l⟩
def Bd (f : Fs) (i : Int) (s : Str) : Fs × Bool := if N7 f i s then (⟨f.nodes.set i.toNat (A1n (Hd f i) s (I2 f i s)), Ur f i s⟩, true) else (f, false)
theorem Ms : ∀ (l : List Int) (d : List Str), (Mh d l).length = d.length
  | [], d => rfl
  | b :: l, d => by
    show (Mh (clr d b) l).length = _
    rw [Ms l]; simp [clr]
theorem W0 (s : Str) (bs : List Int) (d : List Str) : ∀ (k : Nat), (Q8 s bs k d).length = d.length
  | 0 => rfl
  | k + 1 => by rw [Q8, List.range_succ, List.foldl_append]; show (Zn s bs (Q8 s bs k d) k).length = _; rw [Zn, List.length_set, W0 s bs d k]
theorem A05 (s : Str) (bs : List Int) (d : List Str) (k : Nat) : Q8 s bs (k + 1) d = Zn s bs (Q8 s bs k d) k := by
  rw [Q8, List.range_succ, List.foldl_append]; rfl
theorem A39 (u : List Int) (b : Nat) : Nv u (b + 1) = Nv u b ++ if u.getD b 0 == 0 then [((b : Nat) : Int)] else [] := by
  rw [Nv, List.range_succ, List.filter_append, List.map_append]
  show Nv u b ++ _ = _
  cases h : (u.getD b 0 == 0) <;> simp [h] <;> simp_all
theorem B99 (u : List Int) : ∀ {b n : Nat}, b ≤ n → ∃ r, Nv u n = Nv u b ++ r
  | b, n, h => by
    induction n with
    | zero => exact ⟨[], by simp [show b = 0 by omega]⟩
    | succ n ih =>
      rcases Nat.lt_or_ge b (n + 1) with h2 | h2
      · obtain ⟨r, hr⟩ := ih (by omega)
        rw [A39, hr, List.append_assoc]
        exact ⟨_, rfl⟩
      · exact ⟨[], by rw [show b = n + 1 by omega]; simp⟩
theorem B95 {u : List Int} {n : Nat} {b : Int} (h : b ∈ Nv u n) : 0 ≤ b ∧ b < n := by
  simp only [Nv, List.mem_map, List.mem_filter, List.mem_range] at h
  obtain ⟨k, ⟨h1, _⟩, rfl⟩ := h
  omega
theorem B2d {f : Fs} {i : Int} (h : isN f i = true) : Pd f ∧ 0 ≤ i ∧ i.toNat < f.nodes.length ∧ f.nodes[i.toNat]? = some (Hd f i) ∧ (Hd f i).kind ≠ 0 := by
  simp only [isN, Bool.and_eq_true] at h
  obtain ⟨⟨h1, h2⟩, h3⟩ := h
  simp [inB] at h2
  refine ⟨X7 h1, by omega, by omega, ?_, by simpa [Hd] using h3⟩
  rw [Hd, List.getD_eq_getElem?_getD, List.getElem?_eq_getElem (by omega)]; rfl
theorem Vh {f : Fs} {i : Int} {s : Str} (h : isN f i = true) : ∀ b, b ∈ I2 f i s → 0 ≤ b ∧ b < f.data.length := by
  obtain ⟨hs, _, _, hn, _⟩ := B2d h
  intro b hb
  rcases List.mem_append.1 hb with hb | hb
  · exact hs.inr _ (List.mem_of_getElem? hn) b (List.mem_of_mem_take hb)
  · exact B95 (List.mem_of_mem_take hb)
theorem C3l {l : List Int} {k nd : Nat} {b : Int} (h : l[k]? = some b) (hk : k < nd) : (l.take (k + 1)).take nd = (l.take k).take nd ++ [b] ∧ (l.take (k + 1)).drop nd = (l.take k).drop nd := by
  have hl := (List.getElem?_eq_some_iff.1 h).1
  rw [Bs h]
  constructor
  · have a1 : (l.take k ++ [b]).take nd = l.take k ++ [b] := List.take_of_length_le (by simp; omega)
    have a2 : (l.take k).take nd = l.take k := List.take_of_length_le (by simp; omega)
    rw [a1, a2]
  · have a1 : (l.take k ++ [b]).drop nd = [] := List.drop_of_length_le (by simp; omega)
    have a2 : (l.take k).drop nd = [] := List.drop_of_length_le (by simp; omega)
    rw [a1, a2]
theorem C3u {l : List Int} {k nd : Nat} {b : Int} (h : l[k]? = some b) (hk : nd ≤ k) : (l.take (k + 1)).take nd = (l.take k).take nd ∧ (l.take (k + 1)).drop nd = (l.take k).drop nd ++ [b] := by
  have hl := (List.getElem?_eq_some_iff.1 h).1
  rw [Bs h]
  have h1 : (l.take k).length = k := by rw [List.length_take]; omega
  constructor
  · rw [List.take_append_of_le_length (by omega)]
  · rw [List.drop_append_of_le_length (by omega)]
theorem B8j (d : List Str) (l : List Int) (b : Int) : Mh d (l ++ [b]) = (Mh d l).set b.toNat [] := by rw [Mh, List.foldl_append]; rfl
theorem B9e {u : List Int} {n b m : Nat} (h : b ≤ n) (hm : (Nv u b).length ≤ m) (hx : (Nv u b).length = m ∨ b = n) : Nv u b = (Nv u n).take m := by
  rcases hx with hx | rfl
  · obtain ⟨r, hr⟩ := B99 u h
    rw [hr, List.take_append_of_le_length (by omega), List.take_of_length_le (by omega)]
  · rw [List.take_of_length_le hm]
theorem B7d {s : Str} {k : Nat} (hs : s.length ≤ 80) (hk : k < need s) : 0 ≤ Yw s.length k ∧ k * 16 + (Yw s.length k).toNat ≤ s.length ∧ (Yw s.length k).toNat ≤ 16 := by
  have h1 : 16 * k < s.length := by
    unfold need at hk
    unfold G6 at hk
    split at hk
    · omega
    · split at hk
      · omega
      · rw [Int.tdiv_eq_ediv_of_nonneg (by omega)] at hk; omega
  unfold Yw
  split <;> omega
theorem C40 {l : List Int} {k : Nat} (h : k < l.length) : l[k]? = some (l.getD k 0) := by
  rw [List.getD_eq_getElem?_getD, List.getElem?_eq_getElem h]; rfl
def Nk (f : Fs) (s : List Int) : Prop := s.length = f.nodes.length ∧ ∀ k, 0 ≤ s.getD k 0 ∧ s.getD k 0 ≤ 1
theorem B73 {f : Fs} {s : List Int} {i : Nat} (h : Nk f s) (h1 : ¬ (P4 s i).getD i 0 > 1) : Nk f (P4 s i) := by
  refine ⟨by rw [P4, List.length_set]; exact h.1, fun k => ?_⟩
  have hk := h.2 k
  have hi := h.2 i
  unfold P4 at h1 ⊢
  rw [Uj] at h1 ⊢
  by_cases e : i = k ∧ k < s.length
  · obtain ⟨rfl, e⟩ := e
    rw [if_pos ⟨rfl, e⟩] at h1 ⊢
    omega
  · rw [if_neg e]; exact hk
theorem B50 {rec : Nat → List Int → List Int × Bool} {f : Fs} {i : Nat} (hr : ∀ i s, Nk f s → (rec i s).2 = true → Nk f (rec i s).1) : ∀ {l : List En} {o : List Int}, Nk f o → (T2 rec f i l o).2 = true → Nk f (T2 rec f i l o).1
  | [], o, ho, h => ho
  | e :: l, o, ho, h => by
    rw [T2] at h ⊢
    split
    · exact ho
    · rename_i h1
      rw [if_neg h1] at h
      split
      · rename_i h2
        rw [if_pos h2] at h
        exact B50 hr (hr _ _ ho h2) h
      · exact ho
theorem A2z {f : Fs} : ∀ {d i : Nat} {s : List Int}, Nk f s → (Gv f d i s).2 = true → Nk f (Gv f d i s).1
  | 0, i, s, hs, h => by cases h
  | d + 1, i, s, hs, h => by
    rw [Gv] at h ⊢
    split
    · rename_i h1; rw [if_pos h1] at h; cases h
    · rename_i h1
      rw [if_neg h1] at h
      have hb := B73 hs h1
      split
      · exact hb
      · rename_i h2
        rw [if_neg h2] at h
        split
        · exact hb
        · rename_i l hl
          rw [hl] at h
          exact B50 (fun i s hs h => A2z hs h) hb h
theorem N6 {f : Fs} {i : Nat} {n : Nd} (h : f.nodes[i]? = some n) : Ki f i = n.kind := by
  rw [Ki, List.getD_eq_getElem?_getD, h]; rfl
theorem B3v (f : Fs) : Nk f (zrs f.nodes.length) := ⟨by simp [zrs], fun k => by rw [zrs, Us]; omega⟩
theorem Uu {f : Fs} {i : Nat} (h : (Hr f i).isSome = true) : Hr f i = some ((Hr f i).getD []) := by
  cases hd : Hr f i with
  | none => rw [hd] at h; cases h
  | some l => rfl
end Go.GH


set_option linter.unusedVariables false
set_option linter.unusedSimpArgs false
namespace Go.GH
open Go Go.Proofs
noncomputable def Ee : Bi := con [.rd [some 5, some 1], mC] false (Fs × Int) (fun ⟨f, k⟩ => [.agg (Ap f), .int .i64 k]) (fun x => smF x.1) (fun ⟨f, k⟩ => .tup [.agg (B1 (C5 f k).1), .int .i64 (C5 f k).2.1, .bool (C5 f k).2.2])
noncomputable def A18 : Env := ⟨A4 Ba, A4 [(76, Ch), (158, Ex), (162, Ea)], [0, 1, 2, 4, 5, 6, 7, 8, 18, 24, 33]⟩
set_option maxRecDepth 100000 in
set_option maxHeartbeats 4000000 in
theorem A0y : Bb A18 (Ax Tryz.f189) Tryz.f189.results.toList Ee := by
  rintro ⟨f, kd⟩ hsm
  have hsm : smF f := hsm
  have hnl := hsm.1
  refine ⟨trivial, ?_⟩
  have fin : ∀ {r : Fs × Int × Bool}, r = C5 f kd → Ee.res (f, kd) = .tup [.agg (B1 r.1), .int .i64 r.2.1, .bool r.2.2] := fun h => by rw [h]; rfl
  skip
  refine ⟨f, by (repeat' (first | refine Bu ?_ ?_ | refine Bz ?_ | refine Bq ?_ | refine Bx ?_ | exact rfl)) <;> simp [rdI, rdO, rdE, rdB, rdN, rdS, rdD, rdW, tkM], fun _ => hsm, ?_⟩
  skip
  refine ⟨f, by (repeat' (first | refine Bu ?_ ?_ | refine Bz ?_ | refine Bq ?_ | refine Bx ?_ | exact rfl)) <;> simp [rdI, rdO, rdE, rdB, rdN, rdS, rdD, rdW, tkM], fun _ => hsm, ?_⟩
  repeat ((conv => whnf); first | refine ⟨fun h => h, ?_⟩ | refine ⟨(_, _, _), rfl, fun _ => trivial, ?_⟩)
  (conv => whnf); refine ⟨fun h1 => ?_, fun h1 => ?_⟩
  · have h1 : (!Ei f || !inB kd 1 3) = true := h1
    have hd : (f, -1, false) = C5 f kd := by rw [C5, if_neg]; revert h1; cases Ei f <;> cases inB kd 1 3 <;> simp
    skip
    rw [fin hd]
    exact ⟨trivial, ⟨⟨rfl, by simp [tkM]⟩, ⟨rfl, by simp [tkM]⟩, trivial⟩, rfl, rfl, trivial⟩
  have h1 : (!Ei f || !inB kd 1 3) = false := h1
  have h1' : (Ei f && inB kd 1 3) = true := by revert h1; cases Ei f <;> cases inB kd 1 3 <;> simp
  have hnm : C5 f kd = match Y4 f with
    | some i => (⟨f.nodes.set i (Uz (f.nodes.getD i .zero) kd), f.data⟩, i, true)
    | none => (f, -1, false) := by rw [C5, if_pos h1'] <;> (cases Y4 f <;> rfl)
  skip
  refine B0 (fun i : Nat => ⟨[(1, ⟨none, .int .i64 kd⟩), (2, ⟨none, .bx 0 0⟩), (4, ⟨none, .bx 1 0⟩), (7, ⟨none, .bx 2 0⟩), (8, ⟨none, .int .i64 i⟩)], [(0, .own 2 [Ap f]), (1, .own 2 [[.own 5 [], .own 1 []]]), (2, .own 2 [B1 f])], 3⟩) (fun i => i ≤ f.nodes.length ∧ ∀ n, n ∈ f.nodes.take i → (n.kind == 0) = false) (fun i => f.nodes.length - i) 0 ?_ ⟨Nat.zero_le _, fun n hn => absurd hn (by simp)⟩ ?_
  · (refine ⟨?_, ?_, rfl⟩ <;> repeat' (first | exact rfl | exact trivial | refine ⟨?_, ?_⟩ | fail) <;> (conv => whnf))
    all_goals simp [tkM, Bc, B1]
  rintro i ⟨hi, hI⟩
  (conv => whnf); refine ⟨fun h2 => ?_, fun h2 => ?_⟩
  · have h2 : i < f.nodes.length := by simpa using h2
    obtain ⟨n, hn⟩ := B8 h2
    repeat ((conv => whnf); refine ⟨At n, fun _ => ⟨by omega, Am hn⟩, ?_⟩)
    (conv => whnf); refine ⟨fun h3 => ?_, fun h3 => ?_⟩
    · have h3 : (n.kind == 0) = true := h3
      have hfr : Y4 f = some i := by
        rw [Y4, List.findIdx?_eq_some_iff_getElem]
        refine ⟨h2, ?_, fun j hj => ?_⟩
        · rw [List.getElem?_eq_getElem h2] at hn
          rw [Option.some.inj hn]; exact h3
        · have := hI f.nodes[j] (by rw [List.mem_iff_getElem?]; exact ⟨j, by rw [List.getElem?_take, if_pos hj, List.getElem?_eq_getElem]⟩)
          rw [this]; decide
      have hd : (⟨f.nodes.set i (Uz n kd), f.data⟩, (i : Int), true) = C5 f kd := by
        rw [hnm, hfr]
        simp only [List.getD_eq_getElem?_getD, hn]; rfl
      repeat ((conv => whnf); first | refine ⟨bb, ?_⟩ | refine ⟨Az n, by rw [Nat.zero_add]; exact Am hn, ?_⟩)
      rw [fin hd]
      refine ⟨trivial, ⟨⟨rfl, ?_⟩, ⟨rfl, ?_⟩, trivial⟩, rfl, rfl, trivial⟩
      all_goals simp [tkM, List.map_set, Az, Uz, List.take_of_length_le]
    · have h3 : (n.kind == 0) = false := h3
      repeat ((conv => whnf); refine ⟨_, w64 (bb), ?_⟩)
      refine C2 (i + 1) ?_ ⟨h2, fun m hm => ?_⟩ (by first | omega | (simp; done) | (simp; omega))
      · (refine ⟨?_, ?_, rfl⟩ <;> repeat' (first | exact rfl | exact trivial | refine ⟨?_, ?_⟩ | fail) <;> (conv => whnf))
      · rw [Bs hn, List.mem_append] at hm
        rcases hm with hm | hm
        · exact hI m hm
        · rw [List.mem_singleton] at hm; subst hm; exact h3
  have h2 : i = f.nodes.length := by have : ¬ (i < f.nodes.length) := by simpa using h2
                                     omega
  subst h2
  rw [List.take_length] at hI
  have hfr : Y4 f = none := by rw [Y4, List.findIdx?_eq_none_iff]; exact hI
  have hd : (f, -1, false) = C5 f kd := by rw [hnm, hfr]
  skip
  rw [fin hd]
  exact ⟨trivial, ⟨⟨rfl, by simp [tkM]⟩, ⟨rfl, by simp [tkM]⟩, trivial⟩, rfl, rfl, trivial⟩
theorem Zg : Av Tryz.prog 189 Ee := Ao (Ca _ _) (FOk.cons Db (FOk.cons Ns (FOk.cons Mc FOk.nil))) mixed Tryz.func189 rfl Tryz.call189 (by decide) (by kernel_rfl) A0y (by intro _ (y : (Fs × Int)) _; exact ⟨by simp [Ee, con, A9, A8, AV.noRd, A7, Ab, A5, A6, Ae, Ag, Ai, At, Ap, Az, B1], by simp [Ee, con, A9, A8, AV.noRd, A7, Ab, A5, A6, Ae, Ag, Ai, At, Ap, Az, B1]⟩) (by intro (y : (Fs × Int)) _; first | (simp [Ee, con, A9, A8, Ad, AV.free, A2, A3, A1, A6, Ae, Ag, Ai, At, Ap, Az, B1]; done) | (obtain ⟨_, _⟩ := y; simp [Ee, con, A9, A8, Ad, AV.free, A2, A3, A1, A6, Ae, Ag, Ai, At, Ap, Az, B1]; done) | (obtain ⟨_, _, _⟩ := y; simp [Ee, con, A9, A8, Ad, AV.free, A2, A3, A1, A6, Ae, Ag, Ai, At, Ap, Az, B1]; done))
noncomputable def Qp : Bi := { Ee with sh := true, res := fun ((f, k) : Fs × Int) => .tup [.agg (Ap (C5 f k).1), .int .i64 (C5 f k).2.1, .bool (C5 f k).2.2] }
theorem Wo : Av Tryz.prog 189 Qp := J6 _ Zg (fun _ => rfl) rfl (fun (f, k) _ => ⟨rfl, by show 2 ≤ 16; omega, by simp only [Ee, con, frz, M6, B1, Ap, List.map_cons, List.map_nil, Mj, rdW, rdS]⟩)
noncomputable def Ec : Bi := con [.rd [some 5, some 1], mC] false (Fs × Int) (fun ⟨f, k⟩ => [.agg (Ap f), .int .i64 k]) (fun x => smF x.1) (fun ⟨f, k⟩ => .tup [.agg (B1 (H7 f k).1), .bool (H7 f k).2])
noncomputable def A16 : Env := ⟨A4 Ba, A4 [(162, Ea), (191, Ie)], [0, 1, 2, 4, 5, 6, 7, 17, 27]⟩
set_option maxRecDepth 100000 in
set_option maxHeartbeats 4000000 in
theorem A0z : Bb A16 (Ax Tryz.f169) Tryz.f169.results.toList Ec := by
  rintro ⟨f, i⟩ hsm
  have hsm : smF f := hsm
  have hnl := hsm.1
  refine ⟨trivial, ?_⟩
  have fin : ∀ {r : Fs × Bool}, r = H7 f i → Ec.res (f, i) = .tup [.agg (B1 r.1), .bool r.2] := fun h => by rw [h]; rfl
  skip
  refine ⟨f, by (repeat' (first | refine Bu ?_ ?_ | refine Bz ?_ | refine Bq ?_ | refine Bx ?_ | exact rfl)) <;> simp [rdI, rdO, rdE, rdB, rdN, rdS, rdD, rdW, tkM], fun _ => hsm, ?_⟩
  skip
  refine ⟨(f, i), by (repeat' (first | refine Bu ?_ ?_ | refine Bz ?_ | refine Bq ?_ | refine Bx ?_ | exact rfl)) <;> simp [rdI, rdO, rdE, rdB, rdN, rdS, rdD, rdW, tkM], fun _ => hsm, ?_⟩
  repeat ((conv => whnf); refine ⟨fun h => h, ?_⟩)
  (conv => whnf); refine ⟨fun h1 => ?_, fun h1 => ?_⟩
  · have h1 : (!isN f i || i == 0) = true := h1
    have hd : (f, false) = H7 f i := by rw [H7, if_neg]; revert h1; cases isN f i <;> cases hi : (i == 0) <;> simp [bne, hi]
    skip
    rw [fin hd]
    exact ⟨trivial, ⟨⟨rfl, by simp [tkM]⟩, ⟨rfl, by simp [tkM]⟩, trivial⟩, rfl, trivial⟩
  have h1 : (!isN f i || i == 0) = false := h1
  have h1' : (isN f i && i != 0) = true := by revert h1; cases isN f i <;> cases hi : (i == 0) <;> simp [bne, hi]
  have hin : isN f i = true := by revert h1'; cases isN f i <;> simp
  have hd : (⟨f.nodes.set i.toNat .zero, Mh f.data (Hd f i).blocks⟩, true) = H7 f i := by rw [H7, if_pos h1']
  obtain ⟨hsh, hi0, hil, hn, hk⟩ := B2d hin
  generalize Hd f i = n at hn hk hd
  obtain ⟨j, rfl⟩ : ∃ j : Nat, i = j := ⟨i.toNat, by omega⟩
  rw [Int.toNat_natCast] at hil hn hd
  have hbn := hsm.2.2.1 n (List.mem_of_getElem? hn)
  have hrn := hsh.inr n (List.mem_of_getElem? hn)
  skip
  refine B0 (fun k : Nat => ⟨[(1, ⟨none, .int .i64 j⟩), (2, ⟨none, .bx 0 0⟩), (4, ⟨none, .bx 1 0⟩), (6, ⟨none, .bx 2 0⟩), (7, ⟨none, .int .i64 k⟩)], [(0, .own 2 [Ap f]), (1, .own 2 [[.own 5 [], .own 1 []]]), (2, .own 2 [[.own 5 (f.nodes.map Az), .own 1 ((Mh f.data (n.blocks.take k)).map A6)]])], 3⟩) (fun k => k ≤ n.blocks.length) (fun k => n.blocks.length - k) 0 ?_ (Nat.zero_le _) ?_
  · (refine ⟨?_, ?_, rfl⟩ <;> repeat' (first | exact rfl | exact trivial | refine ⟨?_, ?_⟩ | fail) <;> (conv => whnf))
    all_goals simp [tkM, Mh, Bc]
  intro k hk
  have hk : k ≤ n.blocks.length := hk
  have hdl := Ms (n.blocks.take k) f.data
  repeat ((conv => whnf); refine ⟨At n, fun _ => ⟨by omega, Am hn⟩, ?_⟩)
  (conv => whnf); refine ⟨fun h2 => ?_, fun h2 => ?_⟩
  · have h2 : k < n.blocks.length := by simpa using h2
    obtain ⟨b, hb⟩ := B8 h2
    have hb2 := hrn b (List.mem_of_getElem? hb)
    obtain ⟨s, hs1⟩ := B8 (l := Mh f.data (n.blocks.take k)) (i := b.toNat) (by omega)
    have hst : Mh f.data (n.blocks.take (k + 1)) = (Mh f.data (n.blocks.take k)).set b.toNat [] := by rw [Bs hb, Mh, List.foldl_append]; rfl
    repeat ((conv => whnf); first | refine ⟨(by kernel_rfl : Bw _ _ = true), ?_⟩ | refine ⟨_, w64 (bb), ?_⟩ | refine ⟨bb, ?_⟩ | refine ⟨At n, fun _ => ⟨by omega, Am hn⟩, ?_⟩ | refine ⟨Ae b, fun _ => ⟨by omega, Am hb⟩, ?_⟩ | refine ⟨A6 s, by rw [Nat.zero_add]; exact Am hs1, ?_⟩)
    refine C2 (k + 1) ?_ h2 (by first | omega | (simp; done) | (simp; omega))
    rw [hst]
    (refine ⟨?_, ?_, rfl⟩ <;> repeat' (first | exact rfl | exact trivial | refine ⟨?_, ?_⟩ | fail) <;> (conv => whnf))
    all_goals (rw [List.map_set, show 0 + b.toNat = b.toNat from Nat.zero_add _]; rfl)
  have h2 : k = n.blocks.length := by have : ¬ (k < n.blocks.length) := by simpa using h2
                                      omega
  subst h2
  rw [List.take_length]
  repeat ((conv => whnf); first | refine ⟨bb, ?_⟩ | refine ⟨Az n, by rw [Nat.zero_add]; exact Am hn, ?_⟩)
  rw [fin hd]
  refine ⟨trivial, ⟨⟨rfl, ?_⟩, ⟨rfl, ?_⟩, trivial⟩, rfl, trivial⟩ <;> simp [tkM, List.map_set, Az, Nd.zero, List.take_of_length_le, Bc]
theorem Ya : Av Tryz.prog 169 Ec := Ao (Ca _ _) (FOk.cons Mc (FOk.cons Xp FOk.nil)) mixed Tryz.func169 rfl Tryz.call169 (by decide) (by kernel_rfl) A0z (by intro _ (y : (Fs × Int)) _; exact ⟨by simp [Ec, con, A9, A8, AV.noRd, A7, Ab, A5, A6, Ae, Ag, Ai, At, Ap, Az, B1], by simp [Ec, con, A9, A8, AV.noRd, A7, Ab, A5, A6, Ae, Ag, Ai, At, Ap, Az, B1]⟩) (by intro (y : (Fs × Int)) _; first | (simp [Ec, con, A9, A8, Ad, AV.free, A2, A3, A1, A6, Ae, Ag, Ai, At, Ap, Az, B1]; done) | (obtain ⟨_, _⟩ := y; simp [Ec, con, A9, A8, Ad, AV.free, A2, A3, A1, A6, Ae, Ag, Ai, At, Ap, Az, B1]; done) | (obtain ⟨_, _, _⟩ := y; simp [Ec, con, A9, A8, Ad, AV.free, A2, A3, A1, A6, Ae, Ag, Ai, At, Ap, Az, B1]; done))
noncomputable def Qn : Bi := { Ec with sh := true, res := fun ((f, k) : Fs × Int) => .tup [.agg (Ap (H7 f k).1), .bool (H7 f k).2] }
theorem Wu : Av Tryz.prog 169 Qn := J6 _ Ya (fun _ => rfl) rfl (fun (f, k) _ => ⟨rfl, by show 2 ≤ 16; omega, by simp only [Ec, con, frz, M6, B1, Ap, List.map_cons, List.map_nil, Mj, rdW, rdS]⟩)
end Go.GH


set_option linter.unusedVariables false
set_option linter.unusedSimpArgs false
namespace Go.GH
open Go Go.Proofs
noncomputable def Df : Bi := con [.rd [some 5, some 1], mC, mC] false (Fs × Int × Str) (fun ⟨f, i, s⟩ => [.agg (Ap f), .int .i64 i, .str s]) (fun x => smF x.1 ∧ x.2.2.length ≤ 4611686018427387904) (fun ⟨f, i, s⟩ => .tup [.agg (B1 (Bd f i s).1), .bool (Bd f i s).2])
noncomputable def Yh : Env := ⟨A4 Ba, A4 [(162, Ea), (185, F8), (186, Gk), (191, Ie), (194, Ek)], [0, 1, 2, 3, 6, 7, 8, 9, 10, 11, 12, 13, 14, 15, 26, 42, 47, 82, 89, 97, 102]⟩
set_option maxRecDepth 100000 in
set_option maxHeartbeats 4000000 in
theorem Z9 : Bb Yh (Ax Tryz.f171) Tryz.f171.results.toList Df := by
  rintro ⟨f, i, s⟩ hx
  obtain ⟨hsm, hsl⟩ : smF f ∧ s.length ≤ 4611686018427387904 := hx
  have hnl := hsm.1
  have hdl0 := hsm.2.1
  refine ⟨trivial, ?_⟩
  have fin : ∀ {r : Fs × Bool}, r = Bd f i s → Df.res (f, i, s) = .tup [.agg (B1 r.1), .bool r.2] := fun h => by rw [h]; rfl
  skip
  refine ⟨f, by (repeat' (first | refine Bu ?_ ?_ | refine Bz ?_ | refine Bq ?_ | refine Bx ?_ | exact rfl)) <;> simp [rdI, rdO, rdE, rdB, rdN, rdS, rdD, rdW, tkM], fun _ => hsm, ?_⟩
  skip
  refine ⟨(f, i), by (repeat' (first | refine Bu ?_ ?_ | refine Bz ?_ | refine Bq ?_ | refine Bx ?_ | exact rfl)) <;> simp [rdI, rdO, rdE, rdB, rdN, rdS, rdD, rdW, tkM], fun _ => hsm, ?_⟩
  repeat ((conv => whnf); refine ⟨fun h => h, ?_⟩)
  (conv => whnf); refine ⟨fun h1 => ?_, fun h1 => ?_⟩
  · have h1 : (!isN f i || decide ((s.length : Int) > 80)) = true := h1
    have hd : (f, false) = Bd f i s := by
      rw [Bd, if_neg]
      rw [N7]
      by_cases h2 : s.length ≤ 80
      · have : isN f i = false := by
          rw [Bool.or_eq_true] at h1
          rcases h1 with h1 | h1
          · simpa using h1
          · simp at h1; omega
        rw [this]; simp
      · simp [h2]
    skip
    rw [fin hd]
    exact ⟨trivial, ⟨⟨rfl, by simp [tkM]⟩, ⟨rfl, by simp [tkM]⟩, trivial⟩, rfl, trivial⟩
  have h1 : (!isN f i || decide ((s.length : Int) > 80)) = false := h1
  rw [Bool.or_eq_false_iff] at h1
  obtain ⟨h1, h2⟩ := h1
  have hin : isN f i = true := by simpa using h1
  have hs80 : s.length ≤ 80 := by simp at h2; omega
  have hcw : N7 f i s = !decide ((I2 f i s).length < need s) := by rw [N7, hin]; simp [hs80]
  have hnb := fun b hb => Vh (s := s) hin b hb
  have hbf := Rn (s.length : Int)
  have hneed : (need s : Int) = G6 (s.length : Int) := by rw [need]; omega
  obtain ⟨hsh, hi0, hil, hn, hk⟩ := B2d hin
  have hkp : B3y f i s = (Hd f i).blocks.take (need s) := rfl
  have hnbd : I2 f i s = B3y f i s ++ (Nv (Mt f) f.data.length).take (need s - (B3y f i s).length) := rfl
  have hndd : Ur f i s = Q8 s (I2 f i s) (need s) (Mh f.data ((Hd f i).blocks.drop (need s))) := rfl
  have hnn : Bd f i s = if N7 f i s then (⟨f.nodes.set i.toNat (A1n (Hd f i) s (I2 f i s)), Ur f i s⟩, true) else (f, false) := rfl
  generalize Ur f i s = ND at hndd hnn
  generalize I2 f i s = NB at hnb hnbd hndd hnn hcw
  generalize B3y f i s = KP at hkp hnbd
  generalize Hd f i = n at hn hk hkp hndd hnn
  obtain ⟨j, rfl⟩ : ∃ j : Nat, i = j := ⟨i.toNat, by omega⟩
  rw [Int.toNat_natCast] at hil hn hnn
  have hbn := Rd (hsh.all n (List.mem_of_getElem? hn))
  have hrn := hsh.inr n (List.mem_of_getElem? hn)
  skip
  refine ⟨f, by (repeat' (first | refine Bu ?_ ?_ | refine Bz ?_ | refine Bq ?_ | refine Bx ?_ | exact rfl)) <;> simp [rdI, rdO, rdE, rdB, rdN, rdS, rdD, rdW, tkM], fun _ => hsm, ?_⟩
  skip
  refine ⟨(s.length : Int), rfl, fun _ => trivial, ?_⟩
  skip
  refine B0
    (fun ((k, bl, dt) : Nat × List Int × List Str) => ⟨[(1, ⟨none, .int .i64 j⟩), (2, ⟨none, .str s⟩), (3, ⟨none, .bx 0 0⟩), (6, ⟨none, .bx 1 0⟩), (8, ⟨none, .bx 2 0⟩), (9, ⟨none, .view 3 [] 0 (Mt f).length⟩), (10, ⟨none, .int .i64 (need s)⟩), (11, ⟨none, .view 4 [] 0 bl.length⟩), (12, ⟨none, .int .i64 k⟩)], [(0, .own 2 [Ap f]), (1, .own 2 [[.own 5 [], .own 1 []]]), (2, .own 2 [[.own 5 (f.nodes.map Az), .own 1 (dt.map A6)]]), (3, .own 1 ((Mt f).map Ae)), (4, .own 1 (bl.map Ae))], 5⟩)
    (fun (k, bl, dt) => k ≤ n.blocks.length ∧ bl = (n.blocks.take k).take (need s) ∧ dt = Mh f.data ((n.blocks.take k).drop (need s))) (fun x => n.blocks.length - x.1) (0, [], f.data) ?_ ⟨Nat.zero_le _, by simp, by simp [Mh]⟩ ?_
  · (refine ⟨?_, ?_, rfl⟩ <;> repeat' (first | exact rfl | exact trivial | refine ⟨?_, ?_⟩ | fail) <;> (conv => whnf))
    all_goals first | exact hneed.symm | simp [tkM, Bc]
  rintro ⟨k, bl, dt⟩ ⟨hk, hbl, hdt⟩
  have hbl5 : bl.length ≤ 5 := by rw [hbl]; simp; omega
  repeat ((conv => whnf); refine ⟨At n, fun _ => ⟨by omega, Am hn⟩, ?_⟩)
  (conv => whnf); refine ⟨fun h3 => ?_, fun h3 => ?_⟩
  · have h3 : k < n.blocks.length := by simpa using h3
    obtain ⟨b, hb⟩ := B8 h3
    have hb2 := hrn b (List.mem_of_getElem? hb)
    skip
    (conv => whnf); refine ⟨fun h4 => ?_, fun h4 => ?_⟩
    · have h4 : k < need s := by have h4 : decide ((k : Int) < (need s : Nat)) = true := h4
                                 simp at h4; omega
      obtain ⟨e1, e2⟩ := C3l hb h4
      repeat ((conv => whnf); first | refine ⟨_, w64 (bb), ?_⟩ | refine ⟨bb, ?_⟩ | refine ⟨fun (r : List AV) hr c hc => by simp [A6] at hr; (try subst hr); simp at hc; (try subst hc); rfl, ?_⟩ | refine ⟨At n, fun _ => ⟨by omega, Am hn⟩, ?_⟩ | refine ⟨Ae b, fun _ => ⟨by omega, Am hb⟩, ?_⟩)
      refine C2 (k + 1, bl ++ [b], dt) ?_ ⟨h3, by rw [e1, hbl], by rw [e2, hdt]⟩ (by first | omega | (simp; done) | (simp; omega))
      (refine ⟨?_, ?_, rfl⟩ <;> repeat' (first | exact rfl | exact trivial | refine ⟨?_, ?_⟩ | fail) <;> (conv => whnf))
      all_goals simp [tkM, Ae]
    · have h4 : need s ≤ k := by have h4 : decide ((k : Int) < (need s : Nat)) = false := h4
                                 simp at h4; omega
      obtain ⟨e1, e2⟩ := C3u hb h4
      have hdl := Ms ((n.blocks.take k).drop (need s)) f.data
      rw [← hdt] at hdl
      obtain ⟨x, hx⟩ := B8 (l := dt) (i := b.toNat) (by omega)
      repeat ((conv => whnf); first | refine ⟨(by kernel_rfl : Bw _ _ = true), ?_⟩ | refine ⟨_, w64 (bb), ?_⟩ | refine ⟨bb, ?_⟩ | refine ⟨At n, fun _ => ⟨by omega, Am hn⟩, ?_⟩ | refine ⟨Ae b, fun _ => ⟨by omega, Am hb⟩, ?_⟩ | refine ⟨A6 x, by rw [Nat.zero_add]; exact Am hx, ?_⟩)
      refine C2 (k + 1, bl, dt.set b.toNat []) ?_ ⟨h3, by rw [e1, hbl], by rw [e2, B8j, hdt]⟩ (by first | omega | (simp; done) | (simp; omega))
      (refine ⟨?_, ?_, rfl⟩ <;> repeat' (first | exact rfl | exact trivial | refine ⟨?_, ?_⟩ | fail) <;> (conv => whnf))
      all_goals (rw [List.map_set, show 0 + b.toNat = b.toNat from Nat.zero_add _]; rfl)
  have h3 : k = n.blocks.length := by have : ¬ (k < n.blocks.length) := by simpa using h3
                                      omega
  subst h3
  rw [List.take_length] at hbl hdt
  rw [← hdt] at hndd
  rw [← hkp] at hbl
  subst hbl
  have hdl := Ms (n.blocks.drop (need s)) f.data
  rw [← hdt] at hdl
  have hul : (Mt f).length = f.data.length + 1 := Uw _ _
  have hkl : bl.length ≤ need s := by rw [hkp, List.length_take]; omega
  have hn5 : need s ≤ 5 := by omega
  skip
  refine B0
    (fun ((k, bl, dt) : Nat × List Int × List Str) => ⟨[(1, ⟨none, .int .i64 j⟩), (2, ⟨none, .str s⟩), (3, ⟨none, .bx 0 0⟩), (6, ⟨none, .bx 1 0⟩), (8, ⟨none, .bx 2 0⟩), (9, ⟨none, .view 3 [] 0 (Mt f).length⟩), (10, ⟨none, .int .i64 (need s)⟩), (11, ⟨none, .view 4 [] 0 bl.length⟩), (13, ⟨none, .int .i64 k⟩)], [(0, .own 2 [Ap f]), (1, .own 2 [[.own 5 [], .own 1 []]]), (2, .own 2 [[.own 5 (f.nodes.map Az), .own 1 (dt.map A6)]]), (3, .own 1 ((Mt f).map Ae)), (4, .own 1 (bl.map Ae))], 5⟩)
    (fun (b, l, d) => b ≤ f.data.length ∧ l = bl ++ Nv (Mt f) b ∧ l.length ≤ need s ∧ d = dt) (fun x => f.data.length - x.1) (0, bl, dt) ?_ ⟨Nat.zero_le _, by simp [Nv], hkl, rfl⟩ ?_
  · (refine ⟨?_, ?_, rfl⟩ <;> repeat' (first | exact rfl | exact trivial | refine ⟨?_, ?_⟩ | fail) <;> (conv => whnf))
  rintro ⟨b, l, d⟩ ⟨hb, hl, hll, rfl⟩
  repeat ((conv => whnf); refine ⟨fun h => h, ?_⟩)
  (conv => whnf); refine ⟨fun h4 => ?_, fun h4 => ?_⟩
  · have h4 : b < f.data.length ∧ l.length < need s := by
      have h4 : (decide ((b : Int) < ((f.data.map A6).length : Nat)) && decide ((l.length : Int) < (need s : Nat))) = true := h4
      simp at h4; omega
    obtain ⟨u, hu⟩ := B8 (l := Mt f) (i := b) (by omega)
    have hu2 : (Mt f).getD b 0 = u := by rw [List.getD_eq_getElem?_getD, hu]; rfl
    have hfs := A39 (Mt f) b
    rw [hu2] at hfs
    repeat ((conv => whnf); first | refine ⟨bb, ?_⟩ | refine ⟨Ae u, fun _ => by rw [Nat.zero_add]; exact Am hu, ?_⟩)
    (conv => whnf); refine ⟨fun h5 => ?_, fun h5 => ?_⟩
    · have h5 : (u == 0) = true := h5
      rw [h5, if_pos rfl] at hfs
      repeat ((conv => whnf); first | refine ⟨_, w64 (bb), ?_⟩ | refine ⟨bb, ?_⟩ | refine ⟨fun (r : List AV) hr c hc => by simp [A6] at hr; (try subst hr); simp at hc; (try subst hc); rfl, ?_⟩)
      refine C2 (b + 1, l ++ [(b : Int)], d) ?_ ⟨h4.1, by rw [hfs, hl, List.append_assoc], by simp; omega, rfl⟩ (by first | omega | (simp; done) | (simp; omega))
      (refine ⟨?_, ?_, rfl⟩ <;> repeat' (first | exact rfl | exact trivial | refine ⟨?_, ?_⟩ | fail) <;> (conv => whnf))
      all_goals simp [tkM, Ae]
    · have h5 : (u == 0) = false := h5
      rw [h5] at hfs
      repeat ((conv => whnf); refine ⟨_, w64 (bb), ?_⟩)
      refine C2 (b + 1, l, d) ?_ ⟨h4.1, by rw [hfs, hl]; simp, hll, rfl⟩ (by first | omega | (simp; done) | (simp; omega))
      (refine ⟨?_, ?_, rfl⟩ <;> repeat' (first | exact rfl | exact trivial | refine ⟨?_, ?_⟩ | fail) <;> (conv => whnf))
  have h4 : b = f.data.length ∨ l.length = need s := by
    have h4 : (decide ((b : Int) < ((f.data.map A6).length : Nat)) && decide ((l.length : Int) < (need s : Nat))) = false := h4
    simp at h4; omega
  have hNB : NB = l := by
    rw [hnbd, hl]
    congr 1
    rw [hl] at hll h4
    rw [List.length_append] at hll h4
    exact (B9e hb (by omega) (by omega)).symm
  subst hNB
  skip
  (conv => whnf); refine ⟨fun h5 => ?_, fun h5 => ?_⟩
  · have h5 : NB.length < need s := by have h5 : decide ((NB.length : Int) < (need s : Nat)) = true := h5
                                       simp at h5; omega
    have hd : (f, false) = Bd f j s := by rw [hnn, hcw]; simp [h5]
    skip
    refine ⟨f, by (repeat' (first | refine Bu ?_ ?_ | refine Bz ?_ | refine Bq ?_ | refine Bx ?_ | exact rfl)) <;> simp [rdI, rdO, rdE, rdB, rdN, rdS, rdD, rdW, tkM], fun _ => hsm, ?_⟩
    skip
    rw [fin hd]
    exact ⟨trivial, ⟨⟨rfl, by simp [tkM]⟩, ⟨rfl, by simp [tkM]⟩, trivial⟩, rfl, trivial⟩
  have h5 : ¬ NB.length < need s := by have h5 : decide ((NB.length : Int) < (need s : Nat)) = false := h5
                                       simp at h5; omega
  have hd : (⟨f.nodes.set j (A1n n s NB), ND⟩, true) = Bd f j s := by rw [hnn, hcw]; simp [h5]
  skip
  refine B0
    (fun ((k, bl, dt) : Nat × List Int × List Str) => ⟨[(1, ⟨none, .int .i64 j⟩), (2, ⟨none, .str s⟩), (3, ⟨none, .bx 0 0⟩), (6, ⟨none, .bx 1 0⟩), (8, ⟨none, .bx 2 0⟩), (9, ⟨none, .view 3 [] 0 (Mt f).length⟩), (10, ⟨none, .int .i64 (need s)⟩), (11, ⟨none, .view 4 [] 0 bl.length⟩), (14, ⟨none, .int .i64 k⟩)], [(0, .own 2 [Ap f]), (1, .own 2 [[.own 5 [], .own 1 []]]), (2, .own 2 [[.own 5 (f.nodes.map Az), .own 1 (dt.map A6)]]), (3, .own 1 ((Mt f).map Ae)), (4, .own 1 (bl.map Ae))], 5⟩)
    (fun (k, l, d') => k ≤ need s ∧ l = NB ∧ d' = Q8 s NB k d) (fun x => need s - x.1) (0, NB, d) ?_ ⟨Nat.zero_le _, rfl, rfl⟩ ?_
  · (refine ⟨?_, ?_, rfl⟩ <;> repeat' (first | exact rfl | exact trivial | refine ⟨?_, ?_⟩ | fail) <;> (conv => whnf))
  rintro ⟨k, l, d'⟩ ⟨hk, rfl, hd'⟩
  (conv => whnf); refine ⟨fun h6 => ?_, fun h6 => ?_⟩
  · have h6 : k < need s := by have h6 : decide ((k : Int) < (need s : Nat)) = true := h6
                               simp at h6; omega
    obtain ⟨p1, p2, p3⟩ := B7d hs80 h6
    have hb := C40 (l := l) (k := k) (by omega)
    have hps := A05 s l d k
    rw [← hd', Zn] at hps
    generalize l.getD k 0 = b at hb hps
    have hb2 := hnb b (List.mem_of_getElem? hb)
    have hdl2 := W0 s l d k
    rw [← hd'] at hdl2
    obtain ⟨x, hx⟩ := B8 (l := d') (i := b.toNat) (by omega)
    repeat ((conv => whnf); first | refine ⟨_, w64 (bb), ?_⟩ | refine ⟨bb, ?_⟩ | refine ⟨Ae b, fun _ => by rw [Nat.zero_add]; exact Am hb, ?_⟩)
    refine ⟨((s.length : Int), k), rfl, fun _ => ⟨by show (0 : Int) ≤ (s.length : Int); omega, by show (s.length : Int) ≤ 80; omega, by show k ≤ 1000000; omega⟩, ?_⟩
    repeat ((conv => whnf); first | refine ⟨(by kernel_rfl : Bw _ _ = true), ?_⟩ | refine ⟨_, w64 (bb), ?_⟩ | refine ⟨fun _ => ⟨bb, bb, bb⟩, ?_⟩ | refine ⟨bb, ?_⟩ | refine ⟨A6 x, by rw [Nat.zero_add]; exact Am hx, ?_⟩)
    refine C2 (k + 1, l, d'.set b.toNat ((s.drop (k * 16)).take (Yw s.length k).toNat)) ?_ ⟨h6, rfl, hps.symm⟩ (by first | omega | (simp; done) | (simp; omega))
    (refine ⟨?_, ?_, rfl⟩ <;> repeat' (first | exact rfl | exact trivial | refine ⟨?_, ?_⟩ | fail) <;> (conv => whnf))
    all_goals (rw [List.map_set, show 0 + b.toNat = b.toNat from Nat.zero_add _, show ((k : Int) * 16 + Yw (s.length : Int) k).toNat - ((k : Int) * 16).toNat = (Yw (s.length : Int) k).toNat by omega, show ((k : Int) * 16).toNat = k * 16 by omega]; rfl)
  have h6 : k = need s := by have h6 : decide ((k : Int) < (need s : Nat)) = false := h6
                             simp at h6; omega
  subst h6
  repeat ((conv => whnf); first | refine ⟨bb, ?_⟩ | refine ⟨Az n, by rw [Nat.zero_add]; exact Am hn, ?_⟩ | refine ⟨fun _ => ⟨by omega, by rw [List.length_set, List.length_map]; omega⟩, ?_⟩ | refine ⟨(Az n).set (0 + 3) (AV.int IntKind.i64 (s.length : Int)), by simp [hil], ?_⟩)
  rw [fin hd]
  refine ⟨trivial, ⟨⟨rfl, ?_⟩, ⟨rfl, ?_⟩, trivial⟩, rfl, trivial⟩
  · simp [List.map_set, Az, A1n, Bc, List.take_of_length_le, tkM]
  · show _ = ND.map A6
    rw [hndd, ← hd']
    simp [tkM]
theorem Ph : Av Tryz.prog 171 Df := Ao (Ca _ _) (FOk.cons Mc (FOk.cons Ti (FOk.cons Ta (FOk.cons Xp (FOk.cons Q1 FOk.nil))))) mixed Tryz.func171 rfl Tryz.call171 (by decide) (by kernel_rfl) Z9 (by intro _ (y : (Fs × Int × Str)) _; exact ⟨by simp [Df, con, A9, A8, AV.noRd, A7, Ab, A5, A6, Ae, Ag, Ai, At, Ap, Az, B1], by simp [Df, con, A9, A8, AV.noRd, A7, Ab, A5, A6, Ae, Ag, Ai, At, Ap, Az, B1]⟩) (by intro (y : (Fs × Int × Str)) _; first | (simp [Df, con, A9, A8, Ad, AV.free, A2, A3, A1, A6, Ae, Ag, Ai, At, Ap, Az, B1]; done) | (obtain ⟨_, _⟩ := y; simp [Df, con, A9, A8, Ad, AV.free, A2, A3, A1, A6, Ae, Ag, Ai, At, Ap, Az, B1]; done) | (obtain ⟨_, _, _⟩ := y; simp [Df, con, A9, A8, Ad, AV.free, A2, A3, A1, A6, Ae, Ag, Ai, At, Ap, Az, B1]; done))
noncomputable def Jv : Bi := { Df with sh := true, res := fun ((f, i, s) : Fs × Int × Str) => .tup [.agg (Ap (Bd f i s).1), .bool (Bd f i s).2] }
theorem L6 : Av Tryz.prog 171 Jv := J6 _ Ph (fun _ => rfl) rfl (fun (f, i, s) _ => ⟨rfl, by show 2 ≤ 16; omega, by simp only [Df, con, frz, M6, B1, Ap, List.map_cons, List.map_nil, Mj, rdW, rdS]⟩)
end Go.GH


set_option linter.unusedVariables false
set_option linter.unusedSimpArgs false
namespace Go.GH
open Go Go.Proofs
noncomputable def Fd (d : Nat) : Bi := con [.rd [some 5, some 1], mC, mC, mS 1] false (Fs × Nat × List Int) (fun ⟨f, i, s⟩ => [.agg (Ap f), .int .i64 i, .int .i64 (6 - (d : Int)), .rd 1 (s.map Ae)]) (fun x => d ≠ 0 ∧ d ≤ 6 ∧ Pd x.1 ∧ x.2.1 < x.1.nodes.length ∧ Nk x.1 x.2.2) (fun ⟨f, i, s⟩ => .tup [.own 1 ((Gv f (d - 1) i s).1.map Ae), .bool (Gv f (d - 1) i s).2])
noncomputable def A5w (d : Nat) : Env := ⟨A4 Ba, A4 [(159, Fd d), (160, E5)], [0, 1, 2, 3, 4, 8, 9, 10, 11, 12, 13, 14, 15, 16, 36, 44, 53, 58, 79, 99, 111]⟩
set_option maxRecDepth 100000 in
set_option maxHeartbeats 4000000 in
theorem A7k (d : Nat) : Bb (A5w d) (Ax Tryz.f159) Tryz.f159.results.toList (Fd (d + 1)) := by
  rintro ⟨f, i, s⟩ hx
  obtain ⟨_, hd6, hsh, hi, hs⟩ : d + 1 ≠ 0 ∧ d + 1 ≤ 6 ∧ Pd f ∧ i < f.nodes.length ∧ Nk f s := hx
  have hsm := hsh.sm
  have hnl := hsm.1
  have hnn := hsh.nn
  obtain ⟨hs1, hs2⟩ := hs
  refine ⟨trivial, ?_⟩
  have fin : ∀ {r : List Int × Bool}, r = Gv f d i s → (Fd (d + 1)).res (f, i, s) = .tup [.own 1 (r.1.map Ae), .bool r.2] := fun h => by rw [h]; rfl
  obtain ⟨v, hv⟩ := B8 (l := s) (i := i) (by omega)
  have hv1 : s.getD i 0 = v := by rw [List.getD_eq_getElem?_getD, hv]; rfl
  have hvb := hs2 i
  rw [hv1] at hvb
  have hbp : P4 s i = s.set i (v + 1) := by rw [P4, hv1]
  have hbl : (P4 s i).length = s.length := by rw [P4, List.length_set]
  have hbi : (P4 s i).getD i 0 = v + 1 := by rw [hbp, Uj, if_pos ⟨rfl, by omega⟩]
  have hbi2 : (P4 s i)[i]? = some (v + 1) := by rw [hbp]; exact List.getElem?_set_self (by omega)
  obtain ⟨n, hn⟩ := B8 hi
  have hkn := N6 hn
  have q1 : (List.take 0 (List.drop 0 ([] : List (List AV))) ++ s.map Ae)[0 + ((i : Int)).toNat]? = some (Ae v) := by simp [hv]
  have q2 : ((List.take 0 (List.drop 0 ([] : List (List AV))) ++ s.map Ae).set (0 + ((i : Int)).toNat) ((Ae v).set 0 (.int .i64 (v + 1))))[0 + ((i : Int)).toNat]? = some (Ae (v + 1)) := by
    simp only [List.take_zero, List.nil_append, Nat.zero_add, Int.toNat_natCast]
    rw [List.getElem?_set_self (by rw [List.length_map]; omega)]; rfl
  have hend : List.take ((List.take 0 (List.drop 0 ([] : List (List AV)))).length + (s.map Ae).length) (List.drop 0 ((List.take 0 (List.drop 0 ([] : List (List AV))) ++ s.map Ae).set (0 + ((i : Int)).toNat) ((Ae v).set 0 (.int .i64 (v + 1))))) = (s.set i (v + 1)).map Ae := by simp [List.map_set, Ae, List.take_of_length_le]
  repeat ((conv => whnf); first | refine ⟨fun h => h, ?_⟩ | refine ⟨_, w64 (bb), ?_⟩ | refine ⟨bb, ?_⟩ | refine ⟨Ae v, fun _ => q1, ?_⟩ | refine ⟨Ae v, q1, ?_⟩ | refine ⟨Ae (v + 1), fun _ => q2, ?_⟩)
  (conv => whnf); refine ⟨fun h1 => ?_, fun h1 => ?_⟩
  · have h1 : (decide (v + 1 > 1) || decide (6 - ((d + 1 : Nat) : Int) > 4)) = true := h1
    have hd : (P4 s i, false) = Gv f d i s := by
      cases d with
      | zero => rfl
      | succ d =>
        have : v + 1 > 1 := by simp at h1; omega
        rw [Gv, hbi, if_pos this]
    skip
    rw [fin hd]
    refine ⟨trivial, ⟨rfl, ?_⟩, rfl, trivial⟩
    rw [hbp]
    exact hend
  have h1 : (decide (v + 1 > 1) || decide (6 - ((d + 1 : Nat) : Int) > 4)) = false := h1
  obtain ⟨e, rfl⟩ : ∃ e, d = e + 1 := ⟨d - 1, by simp at h1; omega⟩
  have hv1' : ¬ v + 1 > 1 := by simp at h1; omega
  have hsg : Gv f (e + 1) i s = if Ki f i != 2 then (P4 s i, true) else match Hr f i with
    | none => (P4 s i, false)
    | some l => T2 (Gv f e) f i l (P4 s i) := by rw [Gv, hbi, if_neg hv1'] <;> (cases Hr f i <;> rfl)
  rw [hkn] at hsg
  repeat ((conv => whnf); refine ⟨At n, fun _ => ⟨by omega, Am hn⟩, ?_⟩)
  (conv => whnf); refine ⟨fun h2 => ?_, fun h2 => ?_⟩
  · have h2 : (n.kind != 2) = true := h2
    have hd : (P4 s i, true) = Gv f (e + 1) i s := by rw [hsg, if_pos h2]
    skip
    rw [fin hd]
    refine ⟨trivial, ⟨rfl, ?_⟩, rfl, trivial⟩
    rw [hbp]
    exact hend
  have h2 : (n.kind != 2) = false := h2
  rw [if_neg (by rw [h2]; decide)] at hsg
  have hrl := Nf hsh i
  skip
  refine ⟨(f, i), by (repeat' (first | refine Bu ?_ ?_ | refine Bz ?_ | refine Bq ?_ | refine Bx ?_ | exact rfl)) <;> simp [rdI, rdO, rdE, rdB, rdN, rdS, rdD, rdW, tkM], fun _ => ⟨hsm, hsh.inr, hi, by show (Il f i).length ≤ _; omega⟩, ?_⟩
  skip
  (conv => whnf); refine ⟨fun h3 => ?_, fun h3 => ?_⟩
  · have h3 : (!(Hr f i).isSome) = true := h3
    have hd : (P4 s i, false) = Gv f (e + 1) i s := by rw [hsg]; simp at h3; rw [h3]
    skip
    rw [fin hd]
    refine ⟨trivial, ⟨rfl, ?_⟩, rfl, trivial⟩
    rw [hbp]
    exact hend
  have h3 : (!(Hr f i).isSome) = false := h3
  have hdn := Uu (f := f) (i := i) (by simpa using h3)
  have hlo := Q4 hdn
  have hll := Na hlo
  rw [hdn] at hsg
  generalize hl : (Hr f i).getD [] = l at hsg hdn hlo hll
  have hem := fun x (hx : x ∈ l) => (Ig hlo hx).2
  have hb0 := B73 ⟨hs1, hs2⟩ (by rw [hbi]; exact hv1')
  skip
  refine B0 (fun ((k, o) : Nat × List Int) => ⟨[(1, ⟨none, .int .i64 i⟩), (2, ⟨none, .int .i64 (6 - ((e + 1 + 1 : Nat) : Int))⟩), (4, ⟨none, .bx 0 0⟩), (10, ⟨none, .view 1 [] 0 o.length⟩), (11, ⟨none, .view 2 [] 0 l.length⟩), (13, ⟨none, .int .i64 k⟩)], [(0, .own 2 [Ap f]), (1, .own 1 (o.map Ae)), (2, .own 2 (l.map Ai))], 3⟩)
    (fun (k, o) => k ≤ l.length ∧ Nk f o ∧ T2 (Gv f e) f i (l.drop k) o = Gv f (e + 1) i s) (fun x => l.length - x.1) (0, P4 s i) ?_ ⟨Nat.zero_le _, hb0, by rw [List.drop_zero, hsg]⟩ ?_
  · (refine ⟨?_, ?_, rfl⟩ <;> repeat' (first | exact rfl | exact trivial | refine ⟨?_, ?_⟩ | fail) <;> (conv => whnf))
    all_goals first | (rw [hbl]; simp; done) | (simp; done) | (rw [hbp]; simp [List.map_set, Ae])
  rintro ⟨k, o⟩ ⟨hk, ho, hI⟩
  have hol := ho.1
  (conv => whnf); refine ⟨fun h4 => ?_, fun h4 => ?_⟩
  · have h4 : k < l.length := by have h4 : decide ((k : Int) < ((l.length : Nat) : Int)) = true := h4
                                 simp at h4; omega
    obtain ⟨b, hb⟩ := B8 h4
    obtain ⟨hb1, hb9⟩ := hem b (List.mem_of_getElem? hb)
    have hdr : l.drop k = b :: l.drop (k + 1) := by
      rw [List.drop_eq_getElem_cons h4]
      rw [List.getElem?_eq_getElem h4] at hb
      rw [Option.some.inj hb]
    rw [hdr, T2] at hI
    have hg : ∀ {A : Bool}, Cw (some (!(decide (b.node ≥ (((f.nodes.map At).length : Nat) : Int))))) → (0 : Int) ≤ b.node ∧ (f.nodes.map At)[b.node.toNat]? = some (At (f.nodes.getD b.node.toNat .zero)) := by
      intro A h
      have h : (!(decide (b.node ≥ (((f.nodes.map At).length : Nat) : Int)))) = true := h
      rw [List.length_map] at h
      simp at h
      refine ⟨by omega, Am ?_⟩
      rw [List.getD_eq_getElem?_getD, List.getElem?_eq_getElem (by omega)]; rfl
    repeat ((conv => whnf); first | refine ⟨fun h => h, ?_⟩ | refine ⟨bb, ?_⟩ | refine ⟨Ai b, fun _ => by rw [Nat.zero_add]; exact Am hb, ?_⟩ | refine ⟨At (f.nodes.getD b.node.toNat .zero), fun h => hg (A := true) h, ?_⟩)
    have hbE : C23 f i b = (decide (b.node ≥ (f.nodes.length : Int)) || (f.nodes.getD b.node.toNat .zero).kind == 0 || (b.name == hid && (i != 0 || (f.nodes.getD b.node.toNat .zero).kind != 1))) := rfl
    (conv => whnf); refine ⟨fun h5 => ?_, fun h5 => ?_⟩
    · have h5 : (decide (b.node ≥ (((f.nodes.map At).length : Nat) : Int)) || (f.nodes.getD b.node.toNat .zero).kind == 0) = true := h5
      rw [List.length_map] at h5
      rw [h5, Bool.true_or] at hbE
      rw [hbE, if_pos rfl] at hI
      skip
      rw [fin hI]
      refine ⟨trivial, ⟨rfl, ?_⟩, rfl, trivial⟩
      simp [tkM]
    have h5 : (decide (b.node ≥ (((f.nodes.map At).length : Nat) : Int)) || (f.nodes.getD b.node.toNat .zero).kind == 0) = false := h5
    rw [List.length_map] at h5
    rw [h5, Bool.false_or] at hbE
    have hbl2 : b.node < f.nodes.length := by
      rw [Bool.or_eq_false_iff] at h5
      simpa using h5.1
    obtain ⟨y, hy⟩ := B8 (l := f.nodes) (i := b.node.toNat) (by omega)
    have hy2 : f.nodes.getD b.node.toNat .zero = y := by rw [List.getD_eq_getElem?_getD, hy]; rfl
    rw [hy2] at hbE
    repeat ((conv => whnf); first | refine ⟨fun h => h, ?_⟩ | refine ⟨bb, ?_⟩ | refine ⟨Ai b, fun _ => by rw [Nat.zero_add]; exact Am hb, ?_⟩ | refine ⟨At y, fun _ => ⟨by omega, Am hy⟩, ?_⟩)
    (conv => whnf); refine ⟨fun h6 => ?_, fun h6 => ?_⟩
    · have h6 : (b.name == hid && (i != 0 || y.kind != 1)) = true := by
        have h6 : (b.name == hid && ((((i : Int)) != 0) || y.kind != 1)) = true := h6
        rw [show (((i : Int)) != 0) = (i != 0) by rw [Bool.eq_iff_iff]; simp] at h6
        exact h6
      rw [h6] at hbE
      rw [hbE, if_pos rfl] at hI
      skip
      rw [fin hI]
      refine ⟨trivial, ⟨rfl, ?_⟩, rfl, trivial⟩
      simp [tkM]
    have h6 : (b.name == hid && (i != 0 || y.kind != 1)) = false := by
      have h6 : (b.name == hid && ((((i : Int)) != 0) || y.kind != 1)) = false := h6
      rw [show (((i : Int)) != 0) = (i != 0) by rw [Bool.eq_iff_iff]; simp] at h6
      exact h6
    rw [h6] at hbE
    rw [hbE, if_neg (by decide)] at hI
    repeat ((conv => whnf); refine ⟨_, w64 (bb), ?_⟩)
    refine ⟨(f, b.node.toNat, o), by
      refine Bu ?_ (Bu ?_ (Bu ?_ (Bu ?_ rfl)))
      · exact by (repeat' (first | refine Bu ?_ ?_ | refine Bz ?_ | refine Bq ?_ | refine Bx ?_ | exact rfl)) <;> simp [rdI, rdO, rdE, rdB, rdN, rdS, rdD, rdW, tkM]
      · show AV.int .i64 b.node = .int .i64 ((b.node.toNat : Nat) : Int); rw [Int.toNat_of_nonneg (by omega)]
      · show AV.int .i64 (6 - ((e + 1 + 1 : Nat) : Int) + 1) = .int .i64 (6 - ((e + 1 : Nat) : Int)); congr 1; omega
      · exact by (repeat' (first | refine Bu ?_ ?_ | refine Bz ?_ | refine Bq ?_ | refine Bx ?_ | exact rfl)) <;> simp [rdI, rdO, rdE, rdB, rdN, rdS, rdD, rdW, tkM], fun _ => ⟨by omega, by show e + 1 ≤ 6; omega, hsh, by show b.node.toNat < f.nodes.length; omega, ho⟩, ?_⟩
    have hso := A2z (d := e) (i := b.node.toNat) ho
    skip
    (conv => whnf); refine ⟨fun h7 => ?_, fun h7 => ?_⟩
    · have h7 : (!(Gv f e b.node.toNat o).2) = true := h7
      rw [if_neg (by simpa using h7)] at hI
      skip
      rw [fin hI]
      refine ⟨trivial, ⟨rfl, ?_⟩, rfl, trivial⟩
      simp [tkM]
    have h7 : (Gv f e b.node.toNat o).2 = true := by
      have h7 : (!(Gv f e b.node.toNat o).2) = false := h7
      simpa using h7
    rw [if_pos h7] at hI
    repeat ((conv => whnf); refine ⟨_, w64 (bb), ?_⟩)
    refine C2 (k + 1, (Gv f e b.node.toNat o).1) ?_ ⟨h4, hso h7, hI⟩ (by first | omega | (simp; done) | (simp; omega))
    (refine ⟨?_, ?_, rfl⟩ <;> repeat' (first | exact rfl | exact trivial | refine ⟨?_, ?_⟩ | fail) <;> (conv => whnf))
    all_goals simp
  have h4 : k = l.length := by have h4 : decide ((k : Int) < ((l.length : Nat) : Int)) = false := h4
                               simp at h4; omega
  subst h4
  rw [List.drop_length, T2] at hI
  skip
  rw [fin hI]
  refine ⟨trivial, ⟨rfl, ?_⟩, rfl, trivial⟩
  simp
theorem Ub : ∀ d : Nat, Av Tryz.prog 159 (Fd d)
  | 0 => fun x hx => absurd rfl hx.1
  | d + 1 => Ao (Ca _ _) (FOk.cons (Ub d) (FOk.cons Jp FOk.nil)) mixed Tryz.func159 rfl Tryz.call159 (Nat.le_of_ble_eq_true rfl) (by kernel_rfl) (A7k d) (by intro _ (y : (Fs × Nat × List Int)) _; exact ⟨by simp [Fd, con, A9, A8, AV.noRd, A7, Ab, A5, A6, Ae, Ag, Ai, At, Ap, Az, B1], by simp [Fd, con, A9, A8, AV.noRd, A7, Ab, A5, A6, Ae, Ag, Ai, At, Ap, Az, B1]⟩) (by intro (y : (Fs × Nat × List Int)) _; first | (simp [Fd, con, A9, A8, Ad, AV.free, A2, A3, A1, A6, Ae, Ag, Ai, At, Ap, Az, B1]; done) | (obtain ⟨_, _⟩ := y; simp [Fd, con, A9, A8, Ad, AV.free, A2, A3, A1, A6, Ae, Ag, Ai, At, Ap, Az, B1]; done) | (obtain ⟨_, _, _⟩ := y; simp [Fd, con, A9, A8, Ad, AV.free, A2, A3, A1, A6, Ae, Ag, Ai, At, Ap, Az, B1]; done))
noncomputable def Fy : Bi := con [.rd [some 5, some 1]] true Fs (fun f => [.agg (Ap f)]) smF (fun f => .bool (Jh f))
noncomputable def B4z : Env := ⟨A4 Ba, A4 [(158, Ex), (159, Fd 6)], [0, 1, 2, 3, 4, 5, 8, 19, 24, 39]⟩
set_option maxRecDepth 100000 in
set_option maxHeartbeats 4000000 in
theorem B33 : Bb B4z (Ax Tryz.f120) Tryz.f120.results.toList Fy := by
  intro (f : Fs) hsm
  have hsm : smF f := hsm
  have hnl := hsm.1
  refine ⟨trivial, ?_⟩
  skip
  refine ⟨f, by (repeat' (first | refine Bu ?_ ?_ | refine Bz ?_ | refine Bq ?_ | refine Bx ?_ | exact rfl)) <;> simp [rdI, rdO, rdE, rdB, rdN, rdS, rdD, rdW, tkM], fun _ => hsm, ?_⟩
  skip
  (conv => whnf); refine ⟨fun h1 => ?_, fun h1 => ?_⟩
  · have h1 : (!Ei f) = true := h1
    skip
    exact ⟨trivial, eqB (by show false = Jh f; rw [Jh]; simp at h1; rw [h1]; rfl)⟩
  have h1 : Ei f = true := by have h1 : (!Ei f) = false := h1
                              simpa using h1
  have hsh := X7 h1
  have hnn := hsh.nn
  have hfo : Jh f = ((Gv f 5 0 (zrs f.nodes.length)).2 && (List.range f.nodes.length).all fun i => ((Gv f 5 0 (zrs f.nodes.length)).1.getD i 0 == 1) == (Ki f i != 0)) := by rw [Jh, h1, Bool.true_and]
  repeat ((conv => whnf); refine ⟨bb, ?_⟩)
  refine ⟨(f, 0, zrs f.nodes.length), by
    refine Bu ?_ (Bu rfl (Bu rfl (Bu (Bq ?_) rfl)))
    · exact by (repeat' (first | refine Bu ?_ ?_ | refine Bz ?_ | refine Bq ?_ | refine Bx ?_ | exact rfl)) <;> simp [rdI, rdO, rdE, rdB, rdN, rdS, rdD, rdW, tkM]
    · refine (congrArg Cr (?_ : _ = (zrs f.nodes.length).map Ae)).trans (rdN _)
      simp [zrs, Ae], fun _ => ⟨by omega, by omega, hsh, by show 0 < f.nodes.length; omega, B3v f⟩, ?_⟩
  have hso := A2z (d := 5) (i := 0) (B3v f)
  repeat ((conv => whnf); refine ⟨(by kernel_rfl : Bw _ _ = true), ?_⟩)
  (conv => whnf); refine ⟨fun h2 => ?_, fun h2 => ?_⟩
  · have h2 : (!(Gv f 5 0 (zrs f.nodes.length)).2) = true := h2
    skip
    exact ⟨trivial, eqB (by show false = Jh f; rw [hfo]; simp at h2; rw [h2]; rfl)⟩
  have h2 : (Gv f 5 0 (zrs f.nodes.length)).2 = true := by
    have h2 : (!(Gv f 5 0 (zrs f.nodes.length)).2) = false := h2
    simpa using h2
  rw [h2, Bool.true_and] at hfo
  have hso := (hso h2).1
  skip
  refine B0 (fun i : Nat => ⟨[(1, ⟨none, .bx 0 0⟩), (3, ⟨none, .view 1 [] 0 (Gv f 5 0 (zrs f.nodes.length)).1.length⟩), (5, ⟨none, .int .i64 i⟩)], [(0, .own 2 [Ap f]), (1, .own 1 ((Gv f 5 0 (zrs f.nodes.length)).1.map Ae))], 2⟩) (fun i => i ≤ f.nodes.length ∧ ∀ j, j < i → (((Gv f 5 0 (zrs f.nodes.length)).1.getD j 0 == 1) == (Ki f j != 0)) = true) (fun i => f.nodes.length - i) 0 ?_ ⟨Nat.zero_le _, fun j hj => absurd hj (Nat.not_lt_zero _)⟩ ?_
  · (refine ⟨?_, ?_, rfl⟩ <;> repeat' (first | exact rfl | exact trivial | refine ⟨?_, ?_⟩ | fail) <;> (conv => whnf))
    all_goals simp
  rintro i ⟨hi, hI⟩
  (conv => whnf); refine ⟨fun h3 => ?_, fun h3 => ?_⟩
  · have h3 : i < f.nodes.length := by simpa using h3
    obtain ⟨n, hn⟩ := B8 h3
    obtain ⟨v, hv⟩ := B8 (l := (Gv f 5 0 (zrs f.nodes.length)).1) (i := i) (by omega)
    have hv1 : (Gv f 5 0 (zrs f.nodes.length)).1.getD i 0 = v := by rw [List.getD_eq_getElem?_getD, hv]; rfl
    have hkn := N6 hn
    repeat ((conv => whnf); first | refine ⟨(by kernel_rfl : Bw _ _ = true), ?_⟩ | refine ⟨bb, ?_⟩ | refine ⟨At n, fun _ => ⟨by omega, Am hn⟩, ?_⟩ | refine ⟨Ae v, fun _ => by rw [Nat.zero_add]; exact Am hv, ?_⟩)
    (conv => whnf); refine ⟨fun h4 => ?_, fun h4 => ?_⟩
    · have h4 : (!((v == 1) == (n.kind != 0))) = true := h4
      skip
      refine ⟨trivial, eqB ?_⟩
      show false = Jh f
      rw [hfo, Uy (List.mem_range.2 h3) (by rw [hv1, hkn]; simpa using h4)]
    have h4 : ((v == 1) == (n.kind != 0)) = true := by
      have h4 : (!((v == 1) == (n.kind != 0))) = false := h4
      simpa using h4
    repeat ((conv => whnf); refine ⟨_, w64 (bb), ?_⟩)
    refine C2 (i + 1) ?_ ⟨h3, fun j hj => ?_⟩ (by first | omega | (simp; done) | (simp; omega))
    · (refine ⟨?_, ?_, rfl⟩ <;> repeat' (first | exact rfl | exact trivial | refine ⟨?_, ?_⟩ | fail) <;> (conv => whnf))
    · rcases Nat.lt_or_ge j i with h | h
      · exact hI j h
      · rw [show j = i by omega, hv1, hkn]; exact h4
  have h3 : i = f.nodes.length := by have : ¬ (i < f.nodes.length) := by simpa using h3
                                     omega
  subst h3
  skip
  exact ⟨trivial, eqB (by show true = Jh f; rw [hfo, List.all_eq_true.2 fun j hj => hI j (List.mem_range.1 hj)])⟩
theorem Lv : Av Tryz.prog 120 Fy := Ao (Ca _ _) (FOk.cons Ns (FOk.cons (Ub 6) FOk.nil)) mixed Tryz.func120 rfl Tryz.call120 (by decide) (by kernel_rfl) B33 (by intro _ (y : Fs) _; exact ⟨by simp [Fy, con, A9, A8, AV.noRd, A7, Ab, A5, A6, Ae, Ag, Ai, At, Ap, Az, B1], by simp [Fy, con, A9, A8, AV.noRd, A7, Ab, A5, A6, Ae, Ag, Ai, At, Ap, Az, B1]⟩) (by intro (y : Fs) _; first | (simp [Fy, con, A9, A8, Ad, AV.free, A2, A3, A1, A6, Ae, Ag, Ai, At, Ap, Az, B1]; done) | (obtain ⟨_, _⟩ := y; simp [Fy, con, A9, A8, Ad, AV.free, A2, A3, A1, A6, Ae, Ag, Ai, At, Ap, Az, B1]; done) | (obtain ⟨_, _, _⟩ := y; simp [Fy, con, A9, A8, Ad, AV.free, A2, A3, A1, A6, Ae, Ag, Ai, At, Ap, Az, B1]; done))
end Go.GH


set_option linter.unusedVariables false
set_option linter.unusedSimpArgs false
namespace Go.GH
open Go
def P7 : Nat → Nat
  | 0 => 0
  | 1 => 0
  | d + 2 => 26 * (1 + P7 (d + 1))
def smI (t : Tr) : Prop := ∀ x, x ∈ t → x.path.length ≤ 4194304 ∧ x.data.length ≤ 4194304
def B32 (l : List Str) : Prop := l.length ≤ 20 ∧ ∀ s, s ∈ l → s.length ≤ 6
theorem C3h {l : List Str} {m : Nat} (h : ∀ s, s ∈ l → s.length ≤ m) : (l.map List.length).sum ≤ l.length * m := by
  induction l with
  | nil => simp
  | cons a l ih =>
    have h1 := ih fun s hs => h s (by simp [hs])
    have h2 := h a (by simp)
    simp only [List.map_cons, List.sum_cons, List.length_cons, Nat.add_mul]
    omega
theorem B3c {l : List Str} (h : B32 l) : l.length + (l.map List.length).sum ≤ 140 := by
  have h1 := C3h h.2
  have h2 : l.length * 6 ≤ 20 * 6 := Nat.mul_le_mul_right _ h.1
  have := h.1
  omega
theorem Xq {l : List Str} {s : Str} (h : B32 l) (hl : l.length ≤ 19) (hs : s.length ≤ 6) : B32 (l ++ [s]) := ⟨by simp; omega, fun a ha => by
  rcases List.mem_append.1 ha with ha | ha
  · exact h.2 a ha
  · rw [List.mem_singleton] at ha; subst ha; exact hs⟩
theorem C3f {t : Tr} {x : It} (h : smI t) (hx : x.path.length ≤ 4194304 ∧ x.data.length ≤ 4194304) : smI (Id t x) := fun y hy => by
  rcases A23 hy with rfl | h2
  · exact hx
  · exact h y h2
theorem A9r {rec : Nat → List Str → Tr → Tr} {f : Fs} {ns : List Str} {t : Tr} {e : En} {c : Nat} (hsh : Pd f) (hn : B32 ns) (hnl : ns.length ≤ 19) (he : e.name.length ≤ 6)
    (hr : ∀ t, smI t → (rec e.node.toNat (ns ++ [e.name]) t).length ≤ t.length + c ∧ smI (rec e.node.toNat (ns ++ [e.name]) t)) (ht : smI t) :
    (K0 rec f ns t e).length ≤ t.length + (1 + c) ∧ smI (K0 rec f ns t e) := by
  have hp : (E8 (ns ++ [e.name])).length ≤ 4194304 := by
    have h1 := W5 (ns ++ [e.name])
    have h2 := B3c (Xq hn hnl he)
    omega
  unfold K0
  split
  · exact ⟨by omega, ht⟩
  split
  · have hq := C3f (x := ⟨E8 (ns ++ [e.name]), 2, [], 0⟩) ht ⟨hp, by simp⟩
    have hl := Qw (x := ⟨E8 (ns ++ [e.name]), 2, [], 0⟩) (l := t)
    obtain ⟨h1, h2⟩ := hr _ hq
    exact ⟨by omega, h2⟩
  · have hq := C3f (x := ⟨E8 (ns ++ [e.name]), Ki f e.node.toNat, Il f e.node.toNat, (f.nodes.getD e.node.toNat .zero).time⟩) ht ⟨hp, by have := Nf hsh e.node.toNat; show (Il f e.node.toNat).length ≤ _; omega⟩
    have hl := Qw (x := ⟨E8 (ns ++ [e.name]), Ki f e.node.toNat, Il f e.node.toNat, (f.nodes.getD e.node.toNat .zero).time⟩) (l := t)
    exact ⟨by omega, hq⟩
theorem Y9 {f : Fs} (hsh : Pd f) : ∀ {d i : Nat} {ns : List Str} {t : Tr}, W4 f d i → B32 ns → ns.length + d ≤ 20 → smI t → (Hg f d i ns t).length ≤ t.length + P7 d ∧ smI (Hg f d i ns t)
  | 0, i, ns, t, h, hn, hd, ht => absurd rfl (Km h).1
  | d + 1, i, ns, t, h, hn, hd, ht => by
    rw [Hg]
    cases hl : Hr f i with
    | none => simp only [Option.getD_none, List.foldl_nil]; exact ⟨by omega, ht⟩
    | some l =>
      have hm := (Km h).2 l hl
      have hlo := Q4 hl
      have hll := Na hlo
      simp only [Option.getD_some]
      have key : ∀ (m : List En) (t : Tr), (∀ e, e ∈ m → e ∈ l) → smI t → (m.foldl (K0 (Hg f d) f ns) t).length ≤ t.length + m.length * (1 + P7 d) ∧ smI (m.foldl (K0 (Hg f d) f ns) t) := by
        intro m
        induction m with
        | nil => intro t _ ht; exact ⟨by simp, ht⟩
        | cons e m ih =>
          intro t hmem ht
          have he := hmem e (by simp)
          have hen := Oc (Ig hlo he).1
          have hok := (hm e he).2.2.2
          rw [Nat.add_sub_cancel] at hok
          have hns := Xq hn (by omega) hen.2
          obtain ⟨h1, h2⟩ := A9r (rec := Hg f d) (c := P7 d) hsh hn (by omega) hen.2 (fun t ht => Y9 hsh hok hns (by simp; omega) ht) ht
          obtain ⟨h3, h4⟩ := ih _ (fun x hx => hmem x (by simp [hx])) h2
          refine ⟨?_, h4⟩
          rw [List.foldl_cons, List.length_cons, Nat.add_mul]
          omega
      obtain ⟨h1, h2⟩ := key l t (fun e he => he) ht
      refine ⟨?_, h2⟩
      cases d with
      | zero =>
        have : l = [] := by
          cases l with
          | nil => rfl
          | cons e l => exact absurd rfl (Km (hm e (by simp)).2.2.2).1
        subst this
        exact Nat.le_refl _
      | succ d =>
        have : l.length * (1 + P7 (d + 1)) ≤ 26 * (1 + P7 (d + 1)) := Nat.mul_le_mul_right _ hll
        show _ ≤ t.length + 26 * (1 + P7 (d + 1))
        omega
theorem B94 : ∀ {d : Nat}, d ≤ 5 → P7 d ≤ 475254
  | 0, _ | 1, _ | 2, _ | 3, _ | 4, _ | 5, _ => by decide
theorem Zm (f : Fs) : smT (Gp f) ∧ (Gp f).length ≤ 475254 := by
  unfold Gp
  split
  · rename_i h
    obtain ⟨hsh, _, hok⟩ := Pt h
    obtain ⟨h1, h2⟩ := Y9 (ns := []) (t := []) hsh hok ⟨by simp, by simp⟩ (by simp) (fun x hx => by cases hx)
    have := B94 (d := 5) (by omega)
    simp only [List.length_nil] at h1
    exact ⟨⟨by omega, h2⟩, by omega⟩
  · exact ⟨⟨by simp, by simp⟩, by simp⟩
theorem Zw {f : Fs} {d : Nat} {ns : List Str} {l : List En} {k : Nat} {e : En} {t : Tr} (h : l[k]? = some e) : (l.take (k + 1)).foldl (K0 (Hg f d) f ns) t = K0 (Hg f d) f ns ((l.take k).foldl (K0 (Hg f d) f ns) t) e := Wd h
theorem B6u {f : Fs} {e : Nat} {ns : List Str} {l : List En} {t0 : Tr} (hsh : Pd f) (hn : B32 ns) (hnl : ns.length + (e + 2) ≤ 20) (hll : l.length ≤ 26) (hlm : ∀ x, x ∈ l → x.name.length ≤ 6 ∧ 1 ≤ x.node ∧ x.node < f.nodes.length ∧ W4 f e x.node.toNat) (ht : smI t0) (htl : t0.length + P7 (e + 1) ≤ 4194304) (k : Nat) (hk : k ≤ l.length) :
    ((l.take k).foldl (K0 (Hg f e) f ns) t0).length ≤ 4194304 ∧ (k < l.length → ((l.take k).foldl (K0 (Hg f e) f ns) t0).length + (1 + P7 e) ≤ 4194304) ∧ smI ((l.take k).foldl (K0 (Hg f e) f ns) t0) := by
  have hc : l.length * (1 + P7 e) ≤ P7 (e + 1) := by
    cases e with
    | zero =>
      have : l = [] := by
        cases l with
        | nil => rfl
        | cons x l => exact absurd rfl (Km (hlm x (by simp)).2.2.2).1
      subst this
      exact Nat.zero_le _
    | succ d => exact Nat.mul_le_mul_right _ hll
  have key : ∀ k, k ≤ l.length → ((l.take k).foldl (K0 (Hg f e) f ns) t0).length ≤ t0.length + k * (1 + P7 e) ∧ smI ((l.take k).foldl (K0 (Hg f e) f ns) t0) := by
    intro k
    induction k with
    | zero => intro _; exact ⟨by simp, ht⟩
    | succ k ih =>
      intro hk
      obtain ⟨h1, h2⟩ := ih (by omega)
      obtain ⟨b, hb⟩ := B8 (l := l) (i := k) (by omega)
      obtain ⟨q1, _, _, q4⟩ := hlm b (List.mem_of_getElem? hb)
      rw [Zw hb]
      obtain ⟨h3, h4⟩ := A9r (rec := Hg f e) (c := P7 e) hsh hn (by omega) q1 (fun t ht => Y9 hsh q4 (Xq hn (by omega) q1) (by simp; omega) ht) h2
      refine ⟨?_, h4⟩
      rw [Nat.add_mul]
      omega
  obtain ⟨h1, h2⟩ := key k hk
  have h3 : k * (1 + P7 e) ≤ l.length * (1 + P7 e) := Nat.mul_le_mul_right _ hk
  refine ⟨by omega, fun hkl => ?_, h2⟩
  have h4 : (k + 1) * (1 + P7 e) ≤ l.length * (1 + P7 e) := Nat.mul_le_mul_right _ hkl
  rw [Nat.add_mul] at h4
  omega
end Go.GH


set_option linter.unusedVariables false
set_option linter.unusedSimpArgs false
namespace Go.Proofs
open Go.Shelf Go.RowKit Go.Lib Go.Sort
set_option maxHeartbeats 2000000 in
set_option maxRecDepth 100000 in
theorem Tryz.clone_none (a : Option Addr) (c : Nat) (w : World) : Calls Tryz.prog 104 #[.slice a 0 c] w fun e w' => (∃ a', e = .returned (.slice a' 0 0)) ∧ Below w.heap.size w w' := by
  have q22 : ∀ (w : World) (a : Option Addr) (n c n' c' : Nat), (binOp .eql 24 (.slice a n c) (.slice none n' c')).run Tryz.prog w = .ok (.bool a.isNone) w := fun w a n c n' c' => Lib.run_eql_slice_nil w _ _ a n c n' c' Tryz.underlying24
  cases a with
  | none =>
    go_enter Tryz.func104, Tryz.ntmps104
    go_wp2
    go_ret
    exact ⟨⟨none, rfl⟩, Below.refl _ _⟩
  | some q =>
    go_enter Tryz.func104, Tryz.ntmps104
    go_wp2
    go_ret
    exact ⟨⟨_, rfl⟩, (Below.refl _ w).alloc (Nat.le_refl _) _⟩
set_option maxHeartbeats 2000000 in
set_option maxRecDepth 100000 in
theorem Tryz.byPath_calls (p d : ByteArray) (k t : Int) (p' d' : ByteArray) (k' t' : Int) (W : World) : Calls Tryz.prog 67 #[.agg #[.string p, .int .i64 k, .string d, .int .i64 t], .agg #[.string p', .int .i64 k', .string d', .int .i64 t']] W fun e w' => e = .returned (.int .i64 (Lib.compareBytes p.data.toList p'.data.toList)) ∧ ∃ q os', w' = grow (W.drewN q) os' := by
  have hcon := fun W' => Tryz.strings_Compare p p' W'
  generalize Lib.compareBytes p.data.toList p'.data.toList = r at hcon ⊢
  go_enter Tryz.func67, Tryz.ntmps67
  go_wp2_with (go_at_call 115; refine (hcon _).mono ?_; rintro e w' ⟨rfl, rfl⟩)
  go_ret
  exact ⟨rfl, 0, _, by rw [alloc_eq_grow, alloc_eq_grow, grow_grow]; rfl⟩
end Go.Proofs


set_option linter.unusedVariables false
set_option linter.unusedSimpArgs false
namespace Go.GH
open Go Go.Proofs
noncomputable def Ef : Bi := con [mS 4, .rd [none, none, none, none]] false (Tr × It) (fun ⟨l, x⟩ => [.rd 4 (l.map Ac), .agg (Ac x)]) (fun x => smT x.1) (fun x => .own 4 ((Id x.1 x.2).map Ac))
noncomputable def A5j : Env := ⟨A4 Ba, A4 [], [0, 1, 3, 4, 5, 6, 7, 12, 26, 38, 47]⟩
set_option maxRecDepth 100000 in
set_option maxHeartbeats 4000000 in
theorem A5g : Bb A5j (Ax Tryz.f68) Tryz.f68.results.toList Ef := by
  rintro ⟨l, x⟩ hs
  obtain ⟨hs1, hs2⟩ : smT l := hs
  refine ⟨trivial, ?_⟩
  skip
  refine B0 (fun i : Nat => ⟨[(0, ⟨none, .rd 4 (l.map Ac)⟩), (3, ⟨none, .bx 0 0⟩), (5, ⟨none, .view 1 [] 0 ((Nx (l.take i) x).1.map Ac).length⟩), (6, ⟨none, .bool (Nx (l.take i) x).2⟩), (7, ⟨none, .int .i64 i⟩)], [(1, .own 4 ((Nx (l.take i) x).1.map Ac)), (0, .own 4 [Ac x])], 2⟩)
    (fun i => i ≤ l.length) (fun i => l.length - i) 0 ?_ (by omega) ?_
  · (refine ⟨?_, ?_, rfl⟩ <;> repeat' (first | exact rfl | exact trivial | refine ⟨?_, ?_⟩ | fail) <;> (conv => whnf))
    all_goals simp [Nx]
  intro i hi
  have hi : i ≤ l.length := hi
  have hlen := A92 (x := x) (l := l.take i) (out := []) (d := false)
  have hlen : (Nx (l.take i) x).1.length ≤ 8388608 := by
    have h3 : (l.take i).length ≤ l.length := by simp; omega
    simp only [List.length_nil] at hlen
    show (List.foldl (D9 x) ([], false) (l.take i)).1.length ≤ _
    omega
  (conv => whnf); refine ⟨fun h2 => ?_, fun h2 => ?_⟩
  · have h2 : i < l.length := by simpa using h2
    obtain ⟨y, hy⟩ := B8 h2
    have hnx := B5u (x := x) hy
    generalize hst : Nx (l.take i) x = st at hlen hnx ⊢
    obtain ⟨out, d⟩ := st
    have hlen : out.length ≤ 8388608 := hlen
    repeat ((conv => whnf); first | refine ⟨fun h => h, ?_⟩ | refine ⟨(by kernel_rfl : Bw _ _ = true), ?_⟩ | refine ⟨Ac y, fun _ => ⟨by omega, Am hy⟩, ?_⟩)
    (conv => whnf); refine ⟨fun h3 => ?_, fun h3 => ?_⟩
    · have h3 : (!d && Co x.path y.path) = true := h3
      repeat ((conv => whnf); first | refine ⟨(by kernel_rfl : Bw _ _ = true), ?_⟩ | refine ⟨bb, ?_⟩ | refine ⟨Vl (by rfl), ?_⟩ | refine ⟨Ac y, fun _ => ⟨by omega, Am hy⟩, ?_⟩)
      (conv => whnf); refine ⟨fun h4 => ?_, fun h4 => ?_⟩
      · have h4 : (!(y.path == x.path)) = true := h4
        have hn : D9 x (out, d) y = (out ++ [x] ++ [y], true) := by simp only [D9, h3, h4, if_true, Bool.true_or]
        repeat ((conv => whnf); first | refine ⟨_, w64 (bb), ?_⟩ | refine ⟨bb, ?_⟩ | refine ⟨Vl (by rfl), ?_⟩ | refine ⟨Ac y, fun _ => ⟨by omega, Am hy⟩, ?_⟩)
        refine C2 (i + 1) ?_ h2 (by first | omega | (simp; done) | (simp; omega))
        rw [hnx, hn]
        (refine ⟨?_, ?_, rfl⟩ <;> repeat' (first | exact rfl | exact trivial | refine ⟨?_, ?_⟩ | fail) <;> (conv => whnf))
        all_goals first | (simp [Ac]; done) | (simp [Ac]; rw [List.take_of_length_le (by simp)]; simp)
      · have h4 : (!(y.path == x.path)) = false := h4
        have hn : D9 x (out, d) y = (out ++ [x], true) := by simp [D9, h3, h4]
        repeat ((conv => whnf); refine ⟨_, w64 (bb), ?_⟩)
        refine C2 (i + 1) ?_ h2 (by first | omega | (simp; done) | (simp; omega))
        rw [hnx, hn]
        (refine ⟨?_, ?_, rfl⟩ <;> repeat' (first | exact rfl | exact trivial | refine ⟨?_, ?_⟩ | fail) <;> (conv => whnf))
        all_goals simp [Ac]
    have h3 : (!d && Co x.path y.path) = false := h3
    repeat ((conv => whnf); first | refine ⟨(by kernel_rfl : Bw _ _ = true), ?_⟩ | refine ⟨Ac y, fun _ => ⟨by omega, Am hy⟩, ?_⟩)
    (conv => whnf); refine ⟨fun h4 => ?_, fun h4 => ?_⟩
    · have h4 : (!(y.path == x.path)) = true := h4
      have hn : D9 x (out, d) y = (out ++ [y], d) := by simp only [D9, h3, h4]; simp
      repeat ((conv => whnf); first | refine ⟨_, w64 (bb), ?_⟩ | refine ⟨bb, ?_⟩ | refine ⟨Vl (by rfl), ?_⟩ | refine ⟨Ac y, fun _ => ⟨by omega, Am hy⟩, ?_⟩)
      refine C2 (i + 1) ?_ h2 (by first | omega | (simp; done) | (simp; omega))
      rw [hnx, hn]
      (refine ⟨?_, ?_, rfl⟩ <;> repeat' (first | exact rfl | exact trivial | refine ⟨?_, ?_⟩ | fail) <;> (conv => whnf))
      all_goals simp [Ac]
    · have h4 : (!(y.path == x.path)) = false := h4
      have hn : D9 x (out, d) y = (out, d) := by simp [D9, h3, h4]
      repeat ((conv => whnf); refine ⟨_, w64 (bb), ?_⟩)
      refine C2 (i + 1) ?_ h2 (by first | omega | (simp; done) | (simp; omega))
      rw [hnx, hn]
      (refine ⟨?_, ?_, rfl⟩ <;> repeat' (first | exact rfl | exact trivial | refine ⟨?_, ?_⟩ | fail) <;> (conv => whnf))
      all_goals simp [Ac]
  · have h2 : i = l.length := by
      have : ¬ i < l.length := by simpa using h2
      omega
    subst h2
    rw [List.take_length] at hlen ⊢
    have hp : Id l x = if (Nx l x).2 then (Nx l x).1 else (Nx l x).1 ++ [x] := rfl
    generalize hst : Nx l x = st at hlen hp ⊢
    obtain ⟨out, d⟩ := st
    have hlen : out.length ≤ 8388608 := hlen
    skip
    (conv => whnf); refine ⟨fun h5 => ?_, fun h5 => ?_⟩
    · have h5 : d = false := by simpa using h5
      repeat ((conv => whnf); first | refine ⟨bb, ?_⟩ | refine ⟨Vl (by rfl), ?_⟩)
      exact ⟨trivial, Qm (by show _ = (Id l x).map Ac; rw [hp, h5]; simp [Ac]; rw [List.take_of_length_le (by simp)])⟩
    · have h5 : d = true := by simpa using h5
      skip
      exact ⟨trivial, Qm (by show _ = (Id l x).map Ac; rw [hp, h5]; simp)⟩
theorem K4 : Av Tryz.prog 68 Ef := Ao (Ca _ _) FOk.nil mixed Tryz.func68 rfl Tryz.call68 (by decide) (by kernel_rfl) A5g (by intro _ (y : (Tr × It)) _; exact ⟨by simp [Ef, con, A9, A8, AV.noRd, A7, Ab, A5, A6, Ac], by simp [Ef, con, A9, A8, AV.noRd, A7, Ab, A5, A6, Ac]⟩) (by intro (y : (Tr × It)) _; first | (simp [Ef, con, A9, A8, Ad, AV.free, A2, A3, A1, A6, Ac]; done) | (obtain ⟨_, _⟩ := y; simp [Ef, con, A9, A8, Ad, AV.free, A2, A3, A1, A6, Ac]; done) | (obtain ⟨_, _, _⟩ := y; simp [Ef, con, A9, A8, Ad, AV.free, A2, A3, A1, A6, Ac]; done))
noncomputable def D3 : Bi := con [mS 4] false Tr (fun t => [rdT t]) smT (fun t => .agg [.own 4 (t.map Ac)])
noncomputable def A4c : Env := ⟨A4 Ba, A4 [], [0, 1, 2]⟩
set_option maxRecDepth 100000 in
set_option maxHeartbeats 4000000 in
theorem A50 : Bb A4c (Ax Tryz.f54) Tryz.f54.results.toList D3 := by
  intro (t : Tr) hs
  obtain ⟨hs1, hs2⟩ : smT t := hs
  refine ⟨trivial, ?_⟩
  repeat ((conv => whnf); refine ⟨bb, ?_⟩)
  refine ⟨trivial, ⟨rfl, ?_⟩, trivial⟩
  simp
theorem H4 : Av Tryz.prog 54 D3 := Ao (Ca _ _) FOk.nil mixed Tryz.func54 rfl Tryz.call54 (by decide) (by kernel_rfl) A50 (by intro _ (y : Tr) _; exact ⟨by simp [D3, con, A9, A8, AV.noRd, A7, Ab, A5, A6, Ac], by simp [D3, con, A9, A8, AV.noRd, A7, Ab, A5, A6, Ac]⟩) (by intro (y : Tr) _; first | (simp [D3, con, A9, A8, Ad, AV.free, A2, A3, A1, A6, rdT, Ac]; done) | (obtain ⟨_, _⟩ := y; simp [D3, con, A9, A8, Ad, AV.free, A2, A3, A1, A6, rdT, Ac]; done) | (obtain ⟨_, _, _⟩ := y; simp [D3, con, A9, A8, Ad, AV.free, A2, A3, A1, A6, rdT, Ac]; done))
noncomputable def P0 : Bi := con [mS 4] false Tr (fun t => [.rd 4 (t.map Ac)]) (fun t => smT t ∧ t ≠ []) (fun t => .own 4 (t.map Ac))
noncomputable def C00 : Env := ⟨A4 Ba, A4 [], [0, 2, 4]⟩
set_option maxRecDepth 100000 in
set_option maxHeartbeats 4000000 in
theorem C0t : Bb C00 (Ax Tryz.f104) Tryz.f104.results.toList P0 := by
  intro (t : Tr) hs
  obtain ⟨⟨hs1, hs2⟩, hne⟩ : smT t ∧ t ≠ [] := hs
  refine ⟨trivial, ?_⟩
  skip
  conv => whnf
  obtain ⟨x, r, rfl⟩ : ∃ x r, t = x :: r := by cases t with | nil => exact absurd rfl hne | cons x r => exact ⟨x, r, rfl⟩
  refine ⟨⟨_, _, rfl⟩, ?_⟩
  skip
  conv => whnf
  refine ⟨fun h => absurd h (by decide), fun _ => ?_⟩
  repeat ((conv => whnf); refine ⟨bb, ?_⟩)
  exact ⟨trivial, Qm (by simp)⟩
theorem B7w : Av Tryz.prog 104 P0 := Ao (Ca _ _) FOk.nil mixed Tryz.func104 rfl Tryz.call104 (by decide) (by kernel_rfl) C0t (by intro _ (y : Tr) _; exact ⟨by simp [P0, con, A9, A8, AV.noRd, A7, Ab, A5, A6, Ac], by simp [P0, con, A9, A8, AV.noRd, A7, Ab, A5, A6, Ac]⟩) (by intro (y : Tr) _; first | (simp [P0, con, A9, A8, Ad, AV.free, A2, A3, A1, A6, Ac]; done) | (obtain ⟨_, _⟩ := y; simp [P0, con, A9, A8, Ad, AV.free, A2, A3, A1, A6, Ac]; done) | (obtain ⟨_, _, _⟩ := y; simp [P0, con, A9, A8, Ad, AV.free, A2, A3, A1, A6, Ac]; done))
def Kj : Bi := con [mS 4] false Tr (fun t => [.rd 4 (t.map Ac)]) smT (fun t => .own 4 (t.map Ac))
theorem Tf : Av Tryz.prog 104 Kj := by
  intro t ht
  cases t with
  | nil =>
    refine B8q (s := 4) (c := Kj) (x := []) rfl rfl rfl rfl rfl Tryz.call104 ?_
    intro a cap w
    refine (Tryz.clone_none a cap w).mono ?_
    rintro e w' ⟨⟨a', rfl⟩, hb⟩
    exact ⟨a', rfl, hb⟩
  | cons x r => exact B7w (x :: r) ⟨ht, by simp⟩
noncomputable def F6 : Bi := con [mS 4] false Tr (fun t => [rdT t]) smT (fun t => .agg [.own 4 (t.map Ac)])
noncomputable def Yz : Env := ⟨A4 Ba, A4 [(104, Kj)], [0, 1, 2]⟩
set_option maxRecDepth 100000 in
set_option maxHeartbeats 4000000 in
theorem Z6 : Bb Yz (Ax Tryz.f58) Tryz.f58.results.toList F6 := by
  intro (t : Tr) hs
  refine ⟨trivial, ?_⟩
  skip
  refine ⟨t, by refine C3o ?_; simp [rdI], fun _ => hs, ?_⟩
  skip
  refine ⟨trivial, ⟨rfl, ?_⟩, trivial⟩
  simp
theorem Xl : Av Tryz.prog 58 F6 := Ao (Ca _ _) (FOk.cons Tf FOk.nil) mixed Tryz.func58 rfl Tryz.call58 (by decide) (by kernel_rfl) Z6 (by intro _ (y : Tr) _; exact ⟨by simp [F6, con, A9, A8, AV.noRd, A7, Ab, A5, A6, Ac], by simp [F6, con, A9, A8, AV.noRd, A7, Ab, A5, A6, Ac]⟩) (by intro (y : Tr) _; first | (simp [F6, con, A9, A8, Ad, AV.free, A2, A3, A1, A6, rdT, Ac]; done) | (obtain ⟨_, _⟩ := y; simp [F6, con, A9, A8, Ad, AV.free, A2, A3, A1, A6, rdT, Ac]; done) | (obtain ⟨_, _, _⟩ := y; simp [F6, con, A9, A8, Ad, AV.free, A2, A3, A1, A6, rdT, Ac]; done))
end Go.GH


set_option linter.unusedVariables false
set_option linter.unusedSimpArgs false
namespace Go.GH
open Go Go.Proofs
noncomputable def Ed : Bi := con [.rd [some 5, some 1], mS 1] true (Fs × List Str) (fun ⟨f, l⟩ => [.agg (Ap f), .rd 1 (l.map A6)]) (fun x => Jh x.1 = true ∧ x.2.length ≤ 1048576) (fun ⟨f, l⟩ => .int .i64 (E1 f 0 l))
noncomputable def A6g : Env := ⟨A4 Ba, A4 [(160, E5), (188, Fq)], [0, 1, 2, 4, 5, 6, 7, 8, 12, 22, 30]⟩
set_option maxRecDepth 100000 in
set_option maxHeartbeats 4000000 in
theorem A89 : Bb A6g (Ax Tryz.f164) Tryz.f164.results.toList Ed := by
  rintro ⟨f, l⟩ hx
  obtain ⟨hok, hl⟩ : Jh f = true ∧ l.length ≤ 1048576 := hx
  obtain ⟨hsh, _, hat⟩ := Pt hok
  have hsm := hsh.sm
  have hnn := hsh.nn
  refine ⟨trivial, ?_⟩
  have fin : ∀ {r : Int}, r = E1 f 0 l → Ed.res (f, l) = .int .i64 r := fun h => by rw [h]; rfl
  skip
  refine B0 (fun ((k, i) : Nat × Nat) => ⟨[(1, ⟨none, .rd 1 (l.map A6)⟩), (2, ⟨none, .bx 0 0⟩), (5, ⟨none, .int .i64 i⟩), (6, ⟨none, .int .i64 k⟩)], [(0, .own 2 [Ap f])], 1⟩)
    (fun (k, i) => k ≤ l.length ∧ i < f.nodes.length ∧ (∃ d, W4 f d i) ∧ E1 f i (l.drop k) = E1 f 0 l) (fun x => l.length - x.1) (0, 0) ?_ ⟨Nat.zero_le _, by show 0 < f.nodes.length; omega, ⟨5, hat⟩, by rw [List.drop_zero]⟩ ?_
  · (refine ⟨?_, ?_, rfl⟩ <;> repeat' (first | exact rfl | exact trivial | refine ⟨?_, ?_⟩ | fail) <;> (conv => whnf))
  rintro ⟨k, i⟩ ⟨hk, hi, ⟨d, hd⟩, hI⟩
  (conv => whnf); refine ⟨fun h1 => ?_, fun h1 => ?_⟩
  · have h1 : k < l.length := by simpa using h1
    obtain ⟨s, hs⟩ := B8 h1
    have hdr : l.drop k = s :: l.drop (k + 1) := by
      rw [List.drop_eq_getElem_cons h1]
      rw [List.getElem?_eq_getElem h1] at hs
      rw [Option.some.inj hs]
    rw [hdr, E1] at hI
    have hrl := Nf hsh i
    skip
    refine ⟨(f, i), by (repeat' (first | refine Bu ?_ ?_ | refine Bz ?_ | refine Bq ?_ | refine Bx ?_ | exact rfl)) <;> simp [rdI, rdO, rdE, rdB, rdN, rdS, rdD, rdW, tkM], fun _ => ⟨hsm, hsh.inr, hi, by show (Il f i).length ≤ _; omega⟩, ?_⟩
    skip
    (conv => whnf); refine ⟨fun h3 => ?_, fun h3 => ?_⟩
    · have h3 : (!(Hr f i).isSome) = true := h3
      have h3 : Hr f i = none := by simpa using h3
      rw [h3] at hI
      skip
      rw [fin hI]
      exact ⟨trivial, rfl⟩
    have h3 : (!(Hr f i).isSome) = false := h3
    have hdn := Uu (f := f) (i := i) (by simpa using h3)
    have hlo := Q4 hdn
    have hll := Na hlo
    rw [hdn] at hI
    generalize (Hr f i).getD [] = m at hI hdn hlo hll
    simp only at hI
    repeat ((conv => whnf); refine ⟨A6 s, fun _ => ⟨by omega, Am hs⟩, ?_⟩)
    refine ⟨(m, s), by (repeat' (first | refine Bu ?_ ?_ | refine Bz ?_ | refine Bq ?_ | refine Bx ?_ | exact rfl)) <;> simp [rdI, rdO, rdE, rdB, rdN, rdS, rdD, rdW, tkM], fun _ => by show m.length ≤ _; omega, ?_⟩
    have hdm := Pb (l := m) (s := s)
    generalize hq : Fj m s = q at hI hdm
    skip
    (conv => whnf); refine ⟨fun h4 => ?_, fun h4 => ?_⟩
    · have h4 : decide (Fj m s < 0) = true := h4
      rw [hq] at h4
      rw [if_pos (by simpa using h4)] at hI
      skip
      rw [fin hI]
      exact ⟨trivial, rfl⟩
    have h4 : decide (Fj m s < 0) = false := h4
    rw [hq] at h4
    have h4 : ¬ q < 0 := by simpa using h4
    rw [if_neg h4] at hI
    obtain ⟨hqn, hqd⟩ : q.toNat < f.nodes.length ∧ W4 f (d - 1) q.toNat := by
      rcases hdm with e | ⟨e, he, _, e1⟩
      · omega
      · have := (Km hd).2 m hdn e he
        rw [e1]
        have h9 := (Ig hlo he).2
        exact ⟨by omega, this.2.2.2⟩
    repeat ((conv => whnf); refine ⟨_, w64 (bb), ?_⟩)
    refine C2 (k + 1, q.toNat) ?_ ⟨h1, hqn, ⟨_, hqd⟩, hI⟩ (by first | omega | (simp; done) | (simp; omega))
    (refine ⟨?_, ?_, rfl⟩ <;> repeat' (first | exact rfl | exact trivial | refine ⟨?_, ?_⟩ | fail) <;> (conv => whnf))
    all_goals (show Fj m s = ((q.toNat : Nat) : Int); rw [hq]; omega)
  have h1 : k = l.length := by have : ¬ (k < l.length) := by simpa using h1
                               omega
  subst h1
  rw [List.drop_length, E1] at hI
  skip
  rw [fin hI]
  exact ⟨trivial, rfl⟩
theorem Lt : Av Tryz.prog 164 Ed := Ao (Ca _ _) (FOk.cons Jp (FOk.cons Sk FOk.nil)) mixed Tryz.func164 rfl Tryz.call164 (by decide) (by kernel_rfl) A89 (by intro _ (y : (Fs × List Str)) _; exact ⟨by simp [Ed, con, A9, A8, AV.noRd, A7, Ab, A5, A6, Ae, Ag, Ai, At, Ap, Az, B1, Ac], by simp [Ed, con, A9, A8, AV.noRd, A7, Ab, A5, A6, Ae, Ag, Ai, At, Ap, Az, B1, Ac]⟩) (by intro (y : (Fs × List Str)) _; first | (simp [Ed, con, A9, A8, Ad, AV.free, A2, A3, A1, A6, Ac, Ae, Ag, Ai, At, Ap, Az, B1]; done) | (obtain ⟨_, _⟩ := y; simp [Ed, con, A9, A8, Ad, AV.free, A2, A3, A1, A6, Ac, Ae, Ag, Ai, At, Ap, Az, B1]; done) | (obtain ⟨_, _, _⟩ := y; simp [Ed, con, A9, A8, Ad, AV.free, A2, A3, A1, A6, Ac, Ae, Ag, Ai, At, Ap, Az, B1]; done))
noncomputable def E9 (d : Nat) : Bi := con [.rd [some 5, some 1], mC, mS 1, .co [some 4]] false (Fs × Nat × List Str × Tr) (fun ⟨f, i, ns, t⟩ => [.agg (Ap f), .int .i64 i, .rd 1 (ns.map A6), .own 4 (t.map Ac)]) (fun x => d ≠ 0 ∧ d ≤ 6 ∧ Pd x.1 ∧ W4 x.1 (d - 1) x.2.1 ∧ x.2.1 < x.1.nodes.length ∧ B32 x.2.2.1 ∧ x.2.2.1.length + d ≤ 20 ∧ smI x.2.2.2 ∧ x.2.2.2.length + P7 (d - 1) ≤ 4194304) (fun ⟨f, i, ns, t⟩ => .own 4 ((Hg f (d - 1) i ns t).map Ac))
noncomputable def A0t (d : Nat) : Env := ⟨A4 Ba, A4 [(121, E9 d), (68, Ef), (119, Ff), (130, F9), (160, E5), (161, Gf)], [0, 1, 2, 3, 4, 8, 9, 11, 12, 13, 14, 24, 32, 58]⟩
set_option maxRecDepth 100000 in
set_option maxHeartbeats 4000000 in
theorem A0j (d : Nat) : Bb (A0t d) (Ax Tryz.f121) Tryz.f121.results.toList (E9 (d + 1)) := by
  rintro ⟨f, i, ns, t0⟩ hx
  obtain ⟨_, hd6, hsh, hat, hi, hns, hnd, hti, htl⟩ : d + 1 ≠ 0 ∧ d + 1 ≤ 6 ∧ Pd f ∧ W4 f d i ∧ i < f.nodes.length ∧ B32 ns ∧ ns.length + (d + 1) ≤ 20 ∧ smI t0 ∧ t0.length + P7 d ≤ 4194304 := hx
  obtain ⟨e, rfl⟩ : ∃ e, d = e + 1 := ⟨d - 1, by have := (Km hat).1; omega⟩
  have hsm := hsh.sm
  have hnn := hsh.nn
  have hmm := (Km hat).2
  rw [Nat.add_sub_cancel] at hmm
  have hnsl := hns.1
  refine ⟨trivial, ?_⟩
  have fin : ∀ {r : Tr}, r = Hg f (e + 1) i ns t0 → (E9 (e + 1 + 1)).res (f, i, ns, t0) = .own 4 (r.map Ac) := fun h => by rw [h]; rfl
  have hrl := Nf hsh i
  skip
  refine ⟨(f, i), by (repeat' (first | refine Bu ?_ ?_ | refine Bz ?_ | refine Bq ?_ | refine Bx ?_ | exact rfl)) <;> simp [rdI, rdO, rdE, rdB, rdN, rdS, rdD, rdW, tkM], fun _ => ⟨hsm, hsh.inr, hi, by show (Il f i).length ≤ _; omega⟩, ?_⟩
  have hbn : Hg f (e + 1) i ns t0 = ((Hr f i).getD []).foldl (K0 (Hg f e) f ns) t0 := rfl
  obtain ⟨hll, hlm⟩ : ((Hr f i).getD []).length ≤ 26 ∧ ∀ x, x ∈ (Hr f i).getD [] → x.name.length ≤ 6 ∧ 1 ≤ x.node ∧ x.node < f.nodes.length ∧ W4 f e x.node.toNat := by
    cases hdn : Hr f i with
    | none => exact ⟨by simp, fun x hx => by cases hx⟩
    | some l =>
      have hlo := Q4 hdn
      refine ⟨Na hlo, fun x hx => ?_⟩
      have h1 := hmm l hdn x hx
      have h2 := Ig hlo hx
      exact ⟨(Oc h2.1).2, h2.2.1, h1.1, h1.2.2.2⟩
  generalize hl : (Hr f i).getD [] = l at hbn hll hlm
  have hsz := B6u hsh hns (by omega) hll hlm hti htl
  have htk := fun {k : Nat} {x : En} (h : l[k]? = some x) => Zw (f := f) (d := e) (ns := ns) (t := t0) h
  skip
  refine B0 (fun ((k, t) : Nat × Tr) => ⟨[(1, ⟨none, .int .i64 i⟩), (2, ⟨none, .rd 1 (ns.map A6)⟩), (3, ⟨none, .view 1 [] 0 t.length⟩), (4, ⟨none, .bx 2 0⟩), (9, ⟨none, .view 3 [] 0 l.length⟩), (11, ⟨none, .int .i64 k⟩)], [(1, .own 4 (t.map Ac)), (2, .own 2 [Ap f]), (3, .own 2 (l.map Ai))], 4⟩)
    (fun (k, t) => k ≤ l.length ∧ t = (l.take k).foldl (K0 (Hg f e) f ns) t0) (fun x => l.length - x.1) (0, t0) ?_ ⟨Nat.zero_le _, by simp⟩ ?_
  · (refine ⟨?_, ?_, rfl⟩ <;> repeat' (first | exact rfl | exact trivial | refine ⟨?_, ?_⟩ | fail) <;> (conv => whnf))
    all_goals simp [hl]
  rintro ⟨k, t⟩ ⟨hk, ht⟩
  (conv => whnf); refine ⟨fun h1 => ?_, fun h1 => ?_⟩
  · have h1 : k < l.length := by have h1 : decide ((k : Int) < ((l.length : Nat) : Int)) = true := h1
                                 simp at h1; omega
    obtain ⟨b, hb⟩ := B8 h1
    obtain ⟨hb6, hb1, hbl, hbk⟩ := hlm b (List.mem_of_getElem? hb)
    obtain ⟨_, hs2, hs3⟩ := hsz k hk
    have hs2 := hs2 h1
    have hnx := htk hb
    rw [← ht] at hs2 hs3 hnx
    have hsmt : smT t := ⟨by omega, hs3⟩
    obtain ⟨y, hy⟩ := B8 (l := f.nodes) (i := b.node.toNat) (by omega)
    have hy2 : f.nodes.getD b.node.toNat .zero = y := by rw [List.getD_eq_getElem?_getD, hy]; rfl
    have hky : Ki f b.node.toNat = y.kind := N6 hy
    unfold K0 at hnx
    rw [hky, hy2] at hnx
    have hnn2 := Xq hns (by omega) hb6
    have hpl := B3c hnn2
    repeat ((conv => whnf); first | refine ⟨bb, ?_⟩ | refine ⟨Ai b, fun _ => by rw [Nat.zero_add]; exact Am hb, ?_⟩)
    (conv => whnf); refine ⟨fun h2 => ?_, fun h2 => ?_⟩
    · have h2 : (b.name == hid) = true := h2
      rw [if_pos h2] at hnx
      repeat ((conv => whnf); refine ⟨_, w64 (bb), ?_⟩)
      refine C2 (k + 1, t) ?_ ⟨h1, hnx.symm⟩ (by first | omega | (simp; done) | (simp; omega))
      (refine ⟨?_, ?_, rfl⟩ <;> repeat' (first | exact rfl | exact trivial | refine ⟨?_, ?_⟩ | fail) <;> (conv => whnf))
    have h2 : (b.name == hid) = false := h2
    rw [if_neg (by rw [h2]; decide)] at hnx
    repeat ((conv => whnf); first | refine ⟨(by kernel_rfl : Bw _ _ = true), ?_⟩ | refine ⟨bb, ?_⟩ | refine ⟨Ai b, fun _ => by rw [Nat.zero_add]; exact Am hb, ?_⟩ | refine ⟨At y, fun _ => ⟨by omega, Am hy⟩, ?_⟩)
    refine ⟨ns, by (repeat' (first | refine Bu ?_ ?_ | refine Bz ?_ | refine Bq ?_ | refine Bx ?_ | exact rfl)) <;> simp [rdI, rdO, rdE, rdB, rdN, rdS, rdD, rdW, tkM], fun _ => by show ns.length ≤ _; omega, ?_⟩
    repeat ((conv => whnf); first | refine ⟨(by kernel_rfl : Bw _ _ = true), ?_⟩ | refine ⟨bb, ?_⟩ | refine ⟨fun (r : List AV) hr c hc => by simp [A6] at hr; (try subst hr); simp at hc; (try subst hc); rfl, ?_⟩ | refine ⟨Ai b, fun _ => by rw [Nat.zero_add]; exact Am hb, ?_⟩)
    refine ⟨ns ++ [b.name], by
      refine Bu (Bq ?_) rfl
      refine (congrArg Cr (?_ : _ = (ns ++ [b.name]).map A6)).trans (rdS _)
      simp [tkM, A6, List.take_of_length_le], fun _ => by show (ns ++ [b.name]).length + ((ns ++ [b.name]).map List.length).sum < 4194304; omega, ?_⟩
    repeat ((conv => whnf); refine ⟨(by kernel_rfl : Bw _ _ = true), ?_⟩)
    have hnode : AV.int .i64 b.node = .int .i64 ((b.node.toNat : Nat) : Int) := by rw [Int.toNat_of_nonneg (by omega)]
    have hpo : (E8 (ns ++ [b.name])).length ≤ 4194304 := by
      have := W5 (ns ++ [b.name])
      omega
    (conv => whnf); refine ⟨fun h3 => ?_, fun h3 => ?_⟩
    · have h3 : (y.kind == 2) = true := h3
      have hk2 : y.kind = 2 := by simpa using h3
      rw [if_pos h3] at hnx
      have hpl1 := Qw (x := ⟨E8 (ns ++ [b.name]), 2, [], 0⟩) (l := t)
      have hpi := C3f (x := ⟨E8 (ns ++ [b.name]), 2, [], 0⟩) hs3 ⟨hpo, by simp⟩
      repeat ((conv => whnf); first | refine ⟨bb, ?_⟩ | refine ⟨Ai b, fun _ => by rw [Nat.zero_add]; exact Am hb, ?_⟩)
      refine ⟨(t, ⟨E8 (ns ++ [b.name]), 2, [], 0⟩), by
        refine Bu (Bq ?_) (Bu ?_ rfl)
        · refine (congrArg Cr (?_ : _ = t.map Ac)).trans (rdI _)
          simp [tkM]
        · show AV.agg [.str (E8 (ns ++ [b.name])), .int .i64 y.kind, .str [], .int .i64 0] = _
          rw [hk2]; rfl, fun _ => hsmt, ?_⟩
      skip
      refine ⟨(f, b.node.toNat, ns ++ [b.name], Id t ⟨E8 (ns ++ [b.name]), 2, [], 0⟩), by
        refine Bu ?_ (Bu hnode (Bu (Bq ?_) (Bu (Bx ?_) rfl)))
        · exact by (repeat' (first | refine Bu ?_ ?_ | refine Bz ?_ | refine Bq ?_ | refine Bx ?_ | exact rfl)) <;> simp [rdI, rdO, rdE, rdB, rdN, rdS, rdD, rdW, tkM]
        · refine (congrArg Cr (?_ : _ = (ns ++ [b.name]).map A6)).trans (rdS _)
          simp [tkM, A6, List.take_of_length_le]
        · simp [tkM], fun _ => ⟨by omega, by show e + 1 ≤ 6; omega, hsh, hbk, by show b.node.toNat < f.nodes.length; omega, hnn2, by show (ns ++ [b.name]).length + (e + 1) ≤ 20; simp; omega, hpi, by show (Id t _).length + P7 e ≤ 4194304; omega⟩, ?_⟩
      repeat ((conv => whnf); first | refine ⟨(by kernel_rfl : Bw _ _ = true), ?_⟩ | refine ⟨_, w64 (bb), ?_⟩)
      refine C2 (k + 1, Hg f e b.node.toNat (ns ++ [b.name]) (Id t ⟨E8 (ns ++ [b.name]), 2, [], 0⟩)) ?_ ⟨h1, hnx.symm⟩ (by first | omega | (simp; done) | (simp; omega))
      (refine ⟨?_, ?_, rfl⟩ <;> repeat' (first | exact rfl | exact trivial | refine ⟨?_, ?_⟩ | fail) <;> (conv => whnf))
      all_goals simp
    have h3 : (y.kind == 2) = false := h3
    rw [if_neg (by rw [h3]; decide)] at hnx
    have hrl := Nf hsh b.node.toNat
    repeat ((conv => whnf); first | refine ⟨bb, ?_⟩ | refine ⟨Ai b, fun _ => by rw [Nat.zero_add]; exact Am hb, ?_⟩)
    refine ⟨(f, b.node.toNat), Bu (by (repeat' (first | refine Bu ?_ ?_ | refine Bz ?_ | refine Bq ?_ | refine Bx ?_ | exact rfl)) <;> simp [rdI, rdO, rdE, rdB, rdN, rdS, rdD, rdW, tkM]) (Bu hnode rfl), fun _ => ⟨hsm, hsh.inr, by show b.node.toNat < f.nodes.length; omega⟩, ?_⟩
    repeat ((conv => whnf); refine ⟨(by kernel_rfl : Bw _ _ = true), ?_⟩)
    refine ⟨(t, ⟨E8 (ns ++ [b.name]), y.kind, Il f b.node.toNat, y.time⟩), by
      refine Bu (Bq ?_) (Bu ?_ rfl)
      · refine (congrArg Cr (?_ : _ = t.map Ac)).trans (rdI _)
        simp [tkM]
      · rfl, fun _ => hsmt, ?_⟩
    repeat ((conv => whnf); refine ⟨_, w64 (bb), ?_⟩)
    refine C2 (k + 1, Id t ⟨E8 (ns ++ [b.name]), y.kind, Il f b.node.toNat, y.time⟩) ?_ ⟨h1, hnx.symm⟩ (by first | omega | (simp; done) | (simp; omega))
    (refine ⟨?_, ?_, rfl⟩ <;> repeat' (first | exact rfl | exact trivial | refine ⟨?_, ?_⟩ | fail) <;> (conv => whnf))
    all_goals simp
  have h1 : k = l.length := by have h1 : decide ((k : Int) < ((l.length : Nat) : Int)) = false := h1
                               simp at h1; omega
  subst h1
  rw [List.take_length] at ht
  skip
  rw [fin (ht.trans hbn.symm)]
  exact ⟨trivial, rfl, by simp⟩
theorem R6 : ∀ d : Nat, Av Tryz.prog 121 (E9 d)
  | 0 => fun x hx => absurd rfl hx.1
  | d + 1 => Ao (Ca _ _) (FOk.cons (R6 d) (FOk.cons K4 (FOk.cons Od (FOk.cons Of (FOk.cons Jp (FOk.cons Um FOk.nil)))))) mixed Tryz.func121 rfl Tryz.call121 (Nat.le_of_ble_eq_true rfl) (by kernel_rfl) (A0j d) (by intro _ (y : (Fs × Nat × List Str × Tr)) _; exact ⟨by simp [E9, con, A9, A8, AV.noRd, A7, Ab, A5, A6, Ae, Ag, Ai, At, Ap, Az, B1, Ac], by simp [E9, con, A9, A8, AV.noRd, A7, Ab, A5, A6, Ae, Ag, Ai, At, Ap, Az, B1, Ac]⟩) (by intro (y : (Fs × Nat × List Str × Tr)) _; first | (simp [E9, con, A9, A8, Ad, AV.free, A2, A3, A1, A6, Ac, Ae, Ag, Ai, At, Ap, Az, B1]; done) | (obtain ⟨_, _⟩ := y; simp [E9, con, A9, A8, Ad, AV.free, A2, A3, A1, A6, Ac, Ae, Ag, Ai, At, Ap, Az, B1]; done) | (obtain ⟨_, _, _⟩ := y; simp [E9, con, A9, A8, Ad, AV.free, A2, A3, A1, A6, Ac, Ae, Ag, Ai, At, Ap, Az, B1]; done))
noncomputable def Ga : Bi := con [.rd [some 5, some 1]] false Fs (fun f => [.agg (Ap f)]) smF (fun f => .agg [.own 4 ((Gp f).map Ac)])
noncomputable def A6n : Env := ⟨A4 Ba, A4 [(120, Fy), (121, E9 6)], [0, 1, 2, 5]⟩
set_option maxRecDepth 100000 in
set_option maxHeartbeats 4000000 in
theorem A6m : Bb A6n (Ax Tryz.f78) Tryz.f78.results.toList Ga := by
  intro (f : Fs) hsm
  have hsm : smF f := hsm
  refine ⟨trivial, ?_⟩
  have fin : ∀ {r : Tr}, r = Gp f → Ga.res f = .agg [.own 4 (r.map Ac)] := fun h => by rw [h]; rfl
  skip
  refine ⟨f, by (repeat' (first | refine Bu ?_ ?_ | refine Bz ?_ | refine Bq ?_ | refine Bx ?_ | exact rfl)) <;> simp [rdI, rdO, rdE, rdB, rdN, rdS, rdD, rdW, tkM], fun _ => hsm, ?_⟩
  skip
  (conv => whnf); refine ⟨fun h1 => ?_, fun h1 => ?_⟩
  · have h1 : (!Jh f) = true := h1
    skip
    rw [fin (r := []) (by rw [Gp]; simp at h1; rw [h1]; rfl)]
    exact ⟨trivial, ⟨rfl, rfl⟩, trivial⟩
  have h1 : Jh f = true := by have h1 : (!Jh f) = false := h1
                              simpa using h1
  obtain ⟨hsh, _, hok⟩ := Pt h1
  have hnn := hsh.nn
  skip
  refine ⟨(f, 0, [], []), by
    refine Bu ?_ (Bu rfl (Bu rfl (Bu rfl rfl)))
    exact by (repeat' (first | refine Bu ?_ ?_ | refine Bz ?_ | refine Bq ?_ | refine Bx ?_ | exact rfl)) <;> simp [rdI, rdO, rdE, rdB, rdN, rdS, rdD, rdW, tkM], fun _ => ⟨by omega, by omega, hsh, hok, by show 0 < f.nodes.length; omega, ⟨by simp, by simp⟩, by simp, (fun x hx => absurd hx (by simp)), by show 0 + P7 5 ≤ 4194304; decide⟩, ?_⟩
  skip
  rw [fin (r := Hg f 5 0 [] []) (by rw [Gp, if_pos h1])]
  refine ⟨trivial, ⟨rfl, ?_⟩, trivial⟩
  simp
theorem A2r : Av Tryz.prog 78 Ga := Ao (Ca _ _) (FOk.cons Lv (FOk.cons (R6 6) FOk.nil)) mixed Tryz.func78 rfl Tryz.call78 (by decide) (by kernel_rfl) A6m (by intro _ (y : Fs) _; exact ⟨by simp [Ga, con, A9, A8, AV.noRd, A7, Ab, A5, A6, Ae, Ag, Ai, At, Ap, Az, B1, Ac], by simp [Ga, con, A9, A8, AV.noRd, A7, Ab, A5, A6, Ae, Ag, Ai, At, Ap, Az, B1, Ac]⟩) (by intro (y : Fs) _; first | (simp [Ga, con, A9, A8, Ad, AV.free, A2, A3, A1, A6, Ac, Ae, Ag, Ai, At, Ap, Az, B1]; done) | (obtain ⟨_, _⟩ := y; simp [Ga, con, A9, A8, Ad, AV.free, A2, A3, A1, A6, Ac, Ae, Ag, Ai, At, Ap, Az, B1]; done) | (obtain ⟨_, _, _⟩ := y; simp [Ga, con, A9, A8, Ad, AV.free, A2, A3, A1, A6, Ac, Ae, Ag, Ai, At, Ap, Az, B1]; done))
end Go.GH


set_option linter.unusedVariables false
set_option linter.unusedSimpArgs false
namespace Go.GH
open Go
structure Wk (f : Fs) : Prop where
  nn : f.nodes.length ≤ 10
  nd : f.data.length ≤ 36
  inr : inR f
  bl : ∀ n, n ∈ f.nodes → n.blocks.length ≤ 5
  dat : ∀ s, s ∈ f.data → s.length ≤ 16
theorem Wk.sm {f : Fs} (h : Wk f) : smF f := ⟨by have := h.nn; omega, by have := h.nd; omega, fun n hn => by have := h.bl n hn; omega, fun s hs => by have := h.dat s hs; omega⟩
theorem Pd.wk {f : Fs} (h : Pd f) : Wk f := ⟨h.nn.2, h.nd.2, h.inr, fun n hn => Rd (h.all n hn), h.dat⟩
theorem Wk.read {f : Fs} (h : Wk f) (i : Nat) : (Il f i).length ≤ 80 := by
  unfold Il
  cases hn : f.nodes[i]? with
  | none => simp
  | some n =>
    have h1 := Up h.dat n.blocks
    have h2 := h.bl n (List.mem_of_getElem? hn)
    have h3 : n.blocks.length * 16 ≤ 5 * 16 := Nat.mul_le_mul_right _ h2
    show (n.blocks.flatMap _).length ≤ _
    omega
theorem Lq {α : Type} {l : List α} {i : Nat} {a x : α} (h : x ∈ l.set i a) : x = a ∨ x ∈ l := by
  rcases List.mem_or_eq_of_mem_set h with h | h
  · exact .inr h
  · exact .inl h
theorem A8u {d : List Str} : ∀ {l : List Int} {s : Str}, s ∈ Mh d l → s = [] ∨ s ∈ d := by
  intro l
  induction l generalizing d with
  | nil => intro s h; exact .inr h
  | cons b l ih =>
    intro s h
    rcases ih (d := clr d b) h with h | h
    · exact .inl h
    · exact Lq h
theorem A24 {s : Str} {bs : List Int} {d : List Str} (hs : s.length ≤ 80) : ∀ {k : Nat}, k ≤ need s → ∀ x, x ∈ Q8 s bs k d → x.length ≤ 16 ∨ x ∈ d
  | 0, _, x, h => .inr h
  | k + 1, hk, x, h => by
    rw [A05, Zn] at h
    rcases Lq h with rfl | h
    · left
      have := (B7d hs (k := k) (by omega)).2.2
      rw [List.length_take]; omega
    · exact A24 hs (by omega) x h
theorem B7f {f : Fs} {k : Int} (h : Wk f) : Wk (C5 f k).1 := by
  unfold C5
  split
  · split
    · rename_i i hi
      refine ⟨by simp; exact h.nn, h.nd, fun n hn b hb => ?_, fun n hn => ?_, h.dat⟩
      · rcases Lq hn with rfl | hn
        · simp only [Uz] at hb
          rw [List.getD_eq_getElem?_getD] at hb
          cases hq : f.nodes[i]? with
          | none => rw [hq] at hb; cases hb
          | some m => rw [hq] at hb; exact h.inr m (List.mem_of_getElem? hq) b hb
        · exact h.inr n hn b hb
      · rcases Lq hn with rfl | hn
        · simp only [Uz]
          rw [List.getD_eq_getElem?_getD]
          cases hq : f.nodes[i]? with
          | none => decide
          | some m => exact h.bl m (List.mem_of_getElem? hq)
        · exact h.bl n hn
    · exact h
  · exact h
theorem B7e {f : Fs} {i : Int} (h : Wk f) : Wk (H7 f i).1 := by
  unfold H7
  split
  · refine ⟨by simp; exact h.nn, by rw [Ms]; exact h.nd, fun n hn b hb => ?_, fun n hn => ?_, fun s hs => ?_⟩
    · rcases Lq hn with rfl | hn
      · cases hb
      · rw [Ms]; exact h.inr n hn b hb
    · rcases Lq hn with rfl | hn
      · decide
      · exact h.bl n hn
    · rcases A8u hs with rfl | hs
      · simp
      · exact h.dat s hs
  · exact h
theorem A6f (f : Fs) (i : Int) (s : Str) : (I2 f i s).length ≤ need s := by
  have h1 : (B3y f i s).length ≤ need s := by rw [B3y, List.length_take]; omega
  rw [I2, List.length_append, List.length_take]
  omega
theorem C27 (s : Str) : need s ≤ 5 := by have := Rn (s.length : Int); rw [need]; omega
theorem A02 (f : Fs) (i : Int) (s : Str) : (Ur f i s).length = f.data.length := by rw [Ur, W0, Ms]
theorem Uk {f : Fs} {i : Int} {s : Str} (h : Wk f) : Wk (Bd f i s).1 := by
  unfold Bd
  split
  · rename_i hc
    simp only [N7, Bool.and_eq_true, decide_eq_true_eq] at hc
    obtain ⟨⟨hc1, hc2⟩, _⟩ := hc
    refine ⟨by simp; exact h.nn, by rw [A02]; exact h.nd, fun n hn b hb => ?_, fun n hn => ?_, fun x hx => ?_⟩
    · rw [A02]
      rcases Lq hn with rfl | hn
      · exact Vh hc1 b hb
      · exact h.inr n hn b hb
    · rcases Lq hn with rfl | hn
      · have := A6f f i s; have := C27 s; show (I2 f i s).length ≤ 5; omega
      · exact h.bl n hn
    · rcases A24 hc2 (Nat.le_refl _) x hx with h1 | h1
      · exact h1
      · rcases A8u h1 with rfl | h1
        · simp
        · exact h.dat x h1
  · exact h
theorem A9l (f : Fs) (i : Int) (s : Str) : (Bd f i s).1.nodes.length = f.nodes.length := by unfold Bd; split <;> simp
theorem B45 (f : Fs) (k : Int) : (C5 f k).1.nodes.length = f.nodes.length := by
  unfold C5
  split
  · split <;> simp
  · rfl
theorem C1k (f : Fs) (i : Int) : (H7 f i).1.nodes.length = f.nodes.length := by unfold H7; split <;> simp
def G4 (f : Fs) (i : Nat) : List En := (Hr f i).getD []
theorem B20 (f : Fs) (i : Nat) : (G4 f i).length ≤ 26 ∧ (∀ e, e ∈ G4 f i → e.name.length ≤ 6) ∧ szE (G4 f i) ≤ 468 := by
  unfold G4
  cases hd : Hr f i with
  | none => exact ⟨by simp, fun e he => absurd he (by simp), by simp [szE]⟩
  | some l =>
    have hlo := Q4 hd
    have h1 := Na hlo
    have h2 : ∀ e, e ∈ l → e.name.length ≤ 6 := fun e he => (Oc (Ig hlo he).1).2
    refine ⟨h1, h2, ?_⟩
    show szE l ≤ 468
    have key : ∀ (l : List En), (∀ e, e ∈ l → e.name.length ≤ 6) → szE l ≤ l.length * 18 := by
      intro l
      induction l with
      | nil => intro _; simp [szE]
      | cons a l ih =>
        intro h
        have h1 := ih fun e he => h e (by simp [he])
        have h2 := h a (by simp)
        rw [U5, List.length_cons, Nat.add_mul]
        omega
    have h3 := key l h2
    have h4 : l.length * 18 ≤ 26 * 18 := Nat.mul_le_mul_right _ h1
    omega
def enter (f : Fs) (i : Nat) (e : En) : Fs × Bool := if (Ha (G4 f i) e).2 then Bd f i (Fr (Ha (G4 f i) e).1) else (f, false)
def C2w (f : Fs) (i : Nat) (s : Str) : Fs := (Bd f i (Fr (Hb (G4 f i) s))).1
def Jf (f : Fs) (i : Nat) (s : Str) (k : Int) : Fs × Int × Bool := if (C5 f k).2.2 then ((enter (C5 f k).1 i ⟨s, (C5 f k).2.1⟩).1, (C5 f k).2.1, (enter (C5 f k).1 i ⟨s, (C5 f k).2.1⟩).2) else (f, -1, false)
def down : Fs → Nat → List Str → Fs × Int × Int
  | f, i, [] => if Ki f i != 2 then (f, -1, 4) else (f, i, 0)
  | f, i, s :: r => if !(Hr f i).isSome then (f, -1, 4) else if Fj (G4 f i) s < 0 then (if (Jf f i s 2).2.2 then down (Jf f i s 2).1 (Jf f i s 2).2.1.toNat r else (f, -1, 5)) else down f (Fj (G4 f i) s).toNat r
def A9j (n : Nd) (t g : Int) : Nd := ⟨n.kind, g, t, n.size, n.blocks⟩
def Ij (f : Fs) (i : Int) (s : Str) (t g : Int) : Fs × Bool := if (Bd f i s).2 then (⟨(Bd f i s).1.nodes.set i.toNat (A9j (Hd (Bd f i s).1 i) t g), (Bd f i s).1.data⟩, true) else (f, false)
def A8x (t g : Int) : Bool := inB t 0 100000 && inB g 0 1000000
def wr2 (f : Fs) (w : Fs × Bool) : Fs × Int := if !w.2 then (f, 5) else (w.1, 0)
def mk3 (f : Fs) (n : Fs × Int × Bool) (s : Str) (t g : Int) : Fs × Int := if !n.2.2 then (f, 5) else wr2 f (Ij n.1 n.2.1 s t g)
def mk2 (f : Fs) (d : Fs × Int × Int) (p : Str) (k : Int) (s : Str) (t g : Int) : Fs × Int := if d.2.2 != 0 then (f, d.2.2) else mk3 f (Jf d.1 d.2.1.toNat (O3 p) k) s t g
def up (p : Str) : List Str := (names p).take ((names p).length - 1)
def Nm (f : Fs) (p : Str) (k : Int) (s : Str) (t g : Int) : Fs × Int :=
  if !Jh f || !inB k 1 3 || !A8x t g || (k == 2 && (!(s == []) || t != 0 || g != 0)) then (f, 10)
  else if !Bh p || p == sl then (f, 1)
  else if decide ((s.length : Int) > 80) then (f, 9)
  else if decide (E1 f 0 (names p) ≥ 0) then (f, 3)
  else mk2 f (down f 0 (up p)) p k s t g
def Zu (f : Fs) (p : Str) (s : Str) (t g : Int) : Fs × Int :=
  if !Jh f || !A8x t g then (f, 10)
  else if !Bh p then (f, 1)
  else if decide (E1 f 0 (names p) < 0) then (f, 2)
  else if Ki f (E1 f 0 (names p)).toNat == 2 then (f, 4)
  else if decide ((s.length : Int) > 80) then (f, 9)
  else wr2 f (Ij f (E1 f 0 (names p)) s t g)
def Tw (f : Fs) (p : Str) : Fs × Int :=
  if !Jh f then (f, 10)
  else if !Bh p || p == sl then (f, 1)
  else if decide (E1 f 0 (names p) < 0) then (f, 2)
  else if (Hd f (E1 f 0 (names p))).kind == 2 && decide ((Hd f (E1 f 0 (names p))).size > 0) then (f, 8)
  else (C2w (H7 f (E1 f 0 (names p))).1 (E1 f 0 (up p)).toNat (O3 p), 0)
def hd3 (f : Fs) (n : Fs × Int × Bool) (s : Str) : Fs × Int := if !n.2.2 then (f, 5) else wr2 f (Bd n.1 n.2.1 s)
def Qb (f : Fs) (s : Str) : Fs × Int :=
  if !Jh f then (f, 10)
  else if decide ((s.length : Int) > 80) then (f, 9)
  else if decide (E1 f 0 [hid] < 0) then hd3 f (Jf f 0 hid 1) s
  else wr2 f (Bd f (E1 f 0 [hid]) s)
theorem C0h {f : Fs} {i : Nat} {e : En} (h : Wk f) : Wk (enter f i e).1 := by
  unfold enter
  split
  · exact Uk h
  · exact h
theorem B8z (f : Fs) (i : Nat) (e : En) : (enter f i e).1.nodes.length = f.nodes.length := by
  unfold enter
  split
  · exact A9l _ _ _
  · rfl
theorem Rk {f : Fs} {i : Nat} {s : Str} {k : Int} (h : Wk f) : Wk (Jf f i s k).1 := by
  unfold Jf
  split
  · exact C0h (B7f h)
  · exact h
theorem B41 (f : Fs) (i : Nat) (s : Str) (k : Int) : (Jf f i s k).1.nodes.length = f.nodes.length := by
  unfold Jf
  split
  · rw [B8z, B45]
  · rfl
theorem B9c {f : Fs} {k : Int} (h : (C5 f k).2.2 = true) : ∃ j : Nat, Pd f ∧ j < f.nodes.length ∧ f.nodes[j]? = some Nd.zero ∧ C5 f k = (⟨f.nodes.set j ⟨k, 0, 0, 0, []⟩, f.data⟩, (j : Int), true) := by
  unfold C5 at h ⊢
  split at h
  · rename_i hc
    rw [if_pos hc]
    simp only [Bool.and_eq_true] at hc
    have hsh := X7 hc.1
    cases hf : Y4 f with
    | none => rw [hf] at h; cases h
    | some j =>
      simp only
      rw [Y4, List.findIdx?_eq_some_iff_getElem] at hf
      obtain ⟨hj, h2, _⟩ := hf
      have hz : f.nodes[j] = Nd.zero := B3a (hsh.all _ (List.getElem_mem hj)) (by simpa using h2)
      refine ⟨j, hsh, hj, by rw [List.getElem?_eq_getElem hj, hz], ?_⟩
      rw [List.getD_eq_getElem?_getD, List.getElem?_eq_getElem hj, Option.getD_some, hz]
      rfl
  · cases h
theorem C1l {f : Fs} {i : Nat} {l : List En} (h : Hr f i = some l) : Ki f i = 2 := by
  unfold Hr at h
  split at h
  · cases h
  · rename_i n hn
    split at h
    · rename_i hk; rw [N6 hn]; simpa using hk
    · cases h
theorem B7s {f : Fs} {i : Nat} {s : Str} {k : Int} {l : List En} (h : (Jf f i s k).2.2 = true) (hd : Hr f i = some l) :
    ∃ j : Nat, (Jf f i s k).2.1 = (j : Int) ∧ j < f.nodes.length ∧ Il (Jf f i s k).1 j = [] ∧ Ki (Jf f i s k).1 j = k := by
  unfold Jf at h ⊢
  split at h
  · rename_i hm
    rw [if_pos hm]
    obtain ⟨j, hsh, hj, hz, e⟩ := B9c hm
    rw [e] at h ⊢
    simp only at h ⊢
    refine ⟨j, rfl, hj, ?_⟩
    have hij : i ≠ j := by
      intro e2
      subst e2
      have := C1l hd
      rw [N6 hz] at this
      cases this
    have key : (enter ⟨f.nodes.set j ⟨k, 0, 0, 0, []⟩, f.data⟩ i ⟨s, (j : Int)⟩).1.nodes[j]? = some ⟨k, 0, 0, 0, []⟩ := by
      unfold enter
      split
      · unfold Bd
        split
        · simp only [Int.toNat_natCast]
          rw [List.getElem?_set_ne hij, List.getElem?_set_self hj]
        · exact List.getElem?_set_self hj
      · exact List.getElem?_set_self hj
    exact ⟨by rw [Il, key]; rfl, N6 key⟩
  · cases h
def Sd (f : Fs) (i : Int) (s : Str) (t g : Int) : List AV := if (Ij f i s t g).2 then B1 (Ij f i s t g).1 else Ap f
theorem B8i (n : Nd) : A2 (Az n) := by simp [A1, Az, A2, AV.free, Ae]
theorem B8a (n : Nd) : A2 (At n) := by simp [A1, At, A2, AV.free, Ae]
theorem B5 (f : Fs) (i : Int) (s : Str) (t g : Int) : A2 (Sd f i s t g) := by
  unfold Sd
  split <;> simp [B1, Ap, A2, AV.free, B8i, B8a, A1, A6]
theorem C03 {f : Fs} {i : Int} {s : Str} {t g : Int} (h : (Ij f i s t g).2 = false) : (Ij f i s t g).1 = f := by
  unfold Ij at h ⊢
  split
  · rename_i h1; rw [if_pos h1] at h; cases h
  · rfl
theorem B8m (f : Fs) (i : Int) (s : Str) (t g : Int) : (AV.tup [.agg (Sd f i s t g), .bool (Ij f i s t g).2]).okT = true ∧ A9b (AV.tup [.agg (Sd f i s t g), .bool (Ij f i s t g).2]) ≤ 16 ∧ frz (AV.tup [.agg (Sd f i s t g), .bool (Ij f i s t g).2]) = .tup [.agg (Ap (Ij f i s t g).1), .bool (Ij f i s t g).2] := by
  cases h : (Ij f i s t g).2 with
  | true =>
    rw [Sd, h, if_pos rfl]
    exact ⟨rfl, by show 2 ≤ 16; omega, by simp only [frz, M6, B1, Ap, List.map_cons, List.map_nil, Mj, rdW, rdS]⟩
  | false =>
    rw [Sd, h, if_neg (by decide), C03 h]
    exact ⟨rfl, by show 0 ≤ 16; omega, rfl⟩
theorem B1r : ∀ {l : List Str} {f : Fs} {i : Nat}, Wk f → i < f.nodes.length → ((∃ d, W4 f d i) ∨ Il f i = []) → (down f i l).2.2 = 0 → Wk (down f i l).1 ∧ 0 ≤ (down f i l).2.1 ∧ (down f i l).2.1.toNat < (down f i l).1.nodes.length
  | [], f, i, hw, hi, hph, h => by
    rw [down] at h ⊢
    split
    · rename_i h1; rw [if_pos h1] at h; cases h
    · exact ⟨hw, by simp, by simpa using hi⟩
  | s :: r, f, i, hw, hi, hph, h => by
    rw [down] at h ⊢
    split
    · rename_i h1; rw [if_pos h1] at h; cases h
    rename_i h1
    rw [if_neg h1] at h
    have hdn := Uu (f := f) (i := i) (by cases hq : (Hr f i).isSome <;> simp_all)
    split
    · rename_i h2
      rw [if_pos h2] at h
      split
      · rename_i h3
        rw [if_pos h3] at h
        obtain ⟨j, hj1, hj2, hj3, _⟩ := B7s h3 hdn
        have hnl := B41 f i s 2
        rw [hj1, Int.toNat_natCast] at h ⊢
        exact B1r (Rk hw) (by omega) (.inr hj3) h
      · rename_i h3; rw [if_neg h3] at h; cases h
    · rename_i h2
      rw [if_neg h2] at h
      rcases Pb (l := G4 f i) (s := s) with e | ⟨e, he, _, e1⟩
      · omega
      · rcases hph with ⟨d, hd⟩ | hr
        · have h8 := (Km hd).2 _ hdn e he
          have h9 := (Ig (Q4 hdn) he).2
          rw [e1] at h ⊢
          exact B1r hw (by omega) (.inl ⟨_, h8.2.2.2⟩) h
        · exfalso
          have : G4 f i = [] := by
            unfold G4 Hr
            cases hq : f.nodes[i]? with
            | none => rfl
            | some n =>
              simp only [hr]
              split <;> rfl
          rw [this] at he
          cases he
theorem B4t {f : Fs} : ∀ {l r : List Str} {i : Nat}, E1 f i l < 0 → E1 f i (l ++ r) < 0
  | [], r, i, h => by rw [E1] at h; omega
  | s :: l, r, i, h => by
    rw [E1] at h
    rw [List.cons_append, E1]
    split
    · omega
    · rename_i m hm
      rw [hm] at h
      simp only at h
      split
      · omega
      · rename_i h2
        rw [if_neg h2] at h
        exact B4t h
theorem C2o {f : Fs} {p : Str} (h : ¬ E1 f 0 (names p) < 0) : ¬ E1 f 0 (up p) < 0 := fun hu => h (by
  have := B4t (f := f) (l := up p) (r := (names p).drop ((names p).length - 1)) (i := 0) hu
  rwa [up, List.take_append_drop] at this)
theorem B40 {p : Str} (h1 : Bh p = true) (h2 : (p == sl) = false) : 1 ≤ (names p).length := by
  have := (Zj h1 h2).2
  exact List.length_pos_iff.2 this
theorem Z4 {p : Str} : (∀ s, s ∈ names p → s.length ≤ 6) := fun s hs => by
  have := List.all_eq_true.1 (R8 (p := p)) s hs
  exact (Oc (by simp [W3, this])).2
theorem B9z (p : Str) : (O3 p).length ≤ 6 := by
  unfold O3
  rw [List.getLastD_eq_getLast?]
  cases h : (names p).getLast? with
  | none => simp
  | some s => exact Z4 s (List.mem_of_getLast? h)
end Go.GH


