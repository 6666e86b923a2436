import Derived.Test.YtpbpaijjpglmlaaGreatGE
import Derived.Shelf.Strings.OnBuilder
import Derived.Test.YtpbpaijjpglmlaaGreatChecked
import Derived.Shelf.Strings.Builder1
import Derived.Shelf.Strings.Builder2
import Derived.Shelf.Small.Bits
import Derived.Shelf.Small.Strs
import Derived.Shelf.Strings.BuilderF
import Derived.Shelf.Strings.BuilderK
import Derived.Shelf.Strings.Builder2Cap
import Derived.Shelf.Strconv.Itoa0
import Derived.Shelf.Strings.Prefix
import Derived.Shelf.Bits.Mul64
import Derived.Shelf.Strings.Repeat
import Derived.Lib.ItoaNum
import Derived.Lib.Repeat
import Derived.Lib.AtoiAll
import Derived.Lib.Bytealg
import Derived.Test.YtpbpaijjpglmlaaGreatRows
import Derived.WalkKit
import Derived.ProofKit
import Derived.OpenShut
import Derived.ChangeOld
import Derived.Below
import Derived.SizedLaws
set_option linter.unusedVariables false
set_option linter.unusedSimpArgs false
namespace Go.GH
open Go
abbrev Str := List UInt8
def mC : L6 := .rd [none]
def mS (k : Nat) : L6 := .rd [some k]
def con (ms : List L6) (sc : Bool) (α : Type) (enc : α → List AV) (pre : α → Prop) (res : α → AV) : Bp := ⟨ms, sc, false, α, enc, pre, res, fun _ => [], fun _ => True, false⟩
def Aa (gw : World → Prop) (ms : List L6) (sc : Bool) (α : Type) (enc : α → List AV) (pre : α → Prop) (res : α → AV) : Bp := ⟨ms, sc, false, α, enc, pre, res, fun _ => [], gw, false⟩
def A8 (sh : Bool) (ms : List L6) (α : Type) (enc : α → List AV) (pre : α → Prop) (res : α → AV) (out : α → List AV) : Bp := ⟨ms, false, sh, α, enc, pre, res, out, fun _ => True, false⟩
def Ag (ms : List L6) (α : Type) (enc : α → List AV) (pre : α → Prop) (res : α → AV) : Bp := ⟨ms, false, true, α, enc, pre, res, fun _ => [], fun _ => True, true⟩
def A6 (s : Str) : List AV := [.str s]
def inB (x lo hi : Int) : Bool := decide (x ≥ lo) && decide (x ≤ hi)
def Aj (c : UInt8) : Str → List Str
  | [] => [[]]
  | x :: r => if x = c then [] :: Aj c r else match Aj c r with
    | h :: t => (x :: h) :: t
    | [] => [[x]]
theorem J8 (c : UInt8) : ∀ s, Aj c s ≠ []
  | [] => by simp [Aj]
  | x :: r => by
    unfold Aj
    split
    · simp
    · split <;> simp
theorem Q7 {c : UInt8} : ∀ {a : Str}, (∀ x, x ∈ a → x ≠ c) → Aj c a = [a]
  | [], _ => rfl
  | x :: r, h => by
    rw [Aj, if_neg (h x (by simp)), Q7 (a := r) fun y hy => h y (by simp [hy])]
theorem Q0 {c : UInt8} {b : Str} : ∀ {a : Str}, (∀ x, x ∈ a → x ≠ c) → Aj c (a ++ c :: b) = a :: Aj c b
  | [], _ => by simp [Aj]
  | x :: r, h => by
    rw [List.cons_append, Aj, if_neg (h x (by simp)), Q0 (a := r) fun y hy => h y (by simp [hy])]
theorem P2 {c : UInt8} : ∀ (s : Str), (Aj c s).length ≤ s.length + 1
  | [] => by simp [Aj]
  | x :: r => by
    have := P2 (c := c) r
    unfold Aj
    split
    · simp; omega
    · split
      · rename_i h t heq; rw [heq] at this; simp at this ⊢; omega
      · simp
theorem Mi {c : UInt8} : ∀ (s : Str) (p : Str), p ∈ Aj c s → p.length ≤ s.length
  | [], p, h => by simp [Aj] at h; subst h; simp
  | x :: r, p, h => by
    unfold Aj at h
    split at h
    · rcases List.mem_cons.1 h with rfl | h
      · simp
      · have := Mi r p h; simp; omega
    · split at h
      · rename_i h' t heq
        rcases List.mem_cons.1 h with rfl | h
        · have := Mi (c := c) r h' (by rw [heq]; simp)
          simp; omega
        · have := Mi (c := c) r p (by rw [heq]; simp [h])
          simp; omega
      · simp at h; subst h; simp
def A2o (b : UInt8) : Bool := (decide ((b.toNat : Int) ≥ 97) && decide ((b.toNat : Int) ≤ 122)) || (decide ((b.toNat : Int) ≥ 48) && decide ((b.toNat : Int) ≤ 57))
theorem B8w (b : UInt8) : ((decide ((b.toNat : Int) < 97) || decide ((b.toNat : Int) > 122)) && (decide ((b.toNat : Int) < 48) || decide ((b.toNat : Int) > 57))) = !A2o b := by
  unfold A2o
  by_cases h1 : (b.toNat : Int) < 97 <;> by_cases h2 : (b.toNat : Int) > 122 <;> by_cases h3 : (b.toNat : Int) < 48 <;> by_cases h4 : (b.toNat : Int) > 57 <;> simp [h1, h2, h3, h4, Int.not_le.2, Int.not_lt.1] <;> omega
def Cx (s : Str) : Bool := inB s.length 1 6 && s.all A2o
theorem Bm {α : Type} {l : List α} {i : Nat} {x : α} (h : l[i]? = some x) : l.take (i + 1) = l.take i ++ [x] := by
  rw [List.take_add_one, h]; rfl
@[simp] theorem take_map_len {α β : Type} (f : α → β) (l : List α) : (l.map f).take l.length = l.map f := by
  rw [List.take_of_length_le (by simp)]
theorem A2s {α : Type} {a b : List α} : (a ++ b).take (a.length + b.length) = a ++ b := by
  rw [List.take_of_length_le (by simp)]
@[simp] theorem take_rest {α : Type} {l : List α} {k : Nat} : (l.drop k).take (l.length - k) = l.drop k := by
  rw [List.take_of_length_le (by simp)]
theorem B7 {α : Type} {l : List α} {i : Nat} (h : i < l.length) : ∃ x, l[i]? = some x := ⟨l[i], List.getElem?_eq_getElem h⟩
theorem H5 {α : Type} {l : List α} {i : Nat} {x : α} (h : l[i]? = some x) : i < l.length := by
  rcases Nat.lt_or_ge i l.length with hl | hl
  · exact hl
  · rw [List.getElem?_eq_none hl] at h; cases h
theorem Am {α β : Type} {l : List α} {f : α → β} {i : Nat} {x : α} (h : l[i]? = some x) : (l.map f)[i]? = some (f x) := by simp [h]
theorem A5 {α : Type} {f : α → List AV} {l : List α} : Ab (l.map f) ↔ ∀ a, a ∈ l → A7 (f a) := by
  induction l with
  | nil => simp [Ab]
  | cons a l ih => simp [Ab, ih]
theorem Im {α : Type} {f : α → List AV} (h : ∀ a, H0 (f a) = f a) (l : List α) : Cl (l.map f) = l.map f := by
  induction l with
  | nil => rfl
  | cons a l ih => simp [Cl, ih, h]
theorem rdS (l : List Str) : Cl (l.map A6) = l.map A6 := Im (fun _ => rfl) l
theorem B6j (l : List Str) (a b : Nat) : Cl (((l.map A6).drop a).take b) = ((l.drop a).take b).map A6 := by
  rw [← List.map_drop, ← List.map_take, rdS]
theorem eqB {a b : Bool} (h : a = b) : V3 (.bool a) (.bool b) := by subst h; rfl
theorem Ob {k : IntKind} {a b : Int} (h : a = b) : V3 (.int k a) (.int k b) := by subst h; rfl
theorem eqS {a b : Str} (h : a = b) : V3 (.str a) (.str b) := by subst h; rfl
theorem A2y {rows : List (List AV)} (h : (rows.all fun r => r.all fun c => !c.isOwn) = true) : ∀ (r : List AV), r ∈ rows → ∀ c, c ∈ r → c.isOwn = false := by
  intro r hr c hc
  have := List.all_eq_true.1 (List.all_eq_true.1 h r hr) c hc
  simpa using this
theorem lns : (∀ {α : Type} (n : Nat) (l : List α), (l.take n).length = min n l.length) ∧ (∀ {α : Type} (n : Nat) (l : List α), (l.drop n).length = l.length - n) ∧ (∀ {α β : Type} (f : α → β) (l : List α), (l.map f).length = l.length) ∧ (∀ {α : Type} (a b : List α), (a ++ b).length = a.length + b.length) ∧
    (∀ {α : Type} (a : α) (l : List α), (a :: l).length = l.length + 1) ∧ (∀ {α : Type}, ([] : List α).length = 0) ∧ (∀ {α : Type} (n : Nat) (a : α), (List.replicate n a).length = n) :=
  ⟨fun _ _ => List.length_take, fun _ _ => List.length_drop, fun _ _ => List.length_map _, fun _ _ => List.length_append, fun _ _ => List.length_cons, List.length_nil, fun _ _ => List.length_replicate⟩
theorem bb {p : Prop} (h : p := by (show (_ : Prop)); first | omega | ((try dsimp only at *); (try simp only [lns] at *); omega)) : p := h
theorem B71 {s : Nat} {b : List (List AV)} (h : b = []) : V3 .nils (.own s b) := by subst h; rfl
theorem Y2 {s : Nat} {a b : List (List AV)} (h : a = b) : V3 (.own s a) (.own s b) := by subst h; exact ⟨rfl, rfl⟩
end Go.GH


set_option linter.unusedVariables false
namespace Go.GH
open Go
structure Fe (c : UInt8) (s : Str) (i fr : Nat) (out : List Str) : Prop where
  le : fr ≤ i
  il : i ≤ s.length
  no : ∀ x, x ∈ (s.drop fr).take (i - fr) → x ≠ c
  eq : Aj c s = out ++ Aj c (s.drop fr)
  len : out.length ≤ fr
theorem A1f {α : Type} {s : List α} {fr i : Nat} {b : α} (h : fr ≤ i) (hb : s[i]? = some b) : s.drop fr = (s.drop fr).take (i - fr) ++ b :: s.drop (i + 1) := by
  have hi := H5 hb
  rw [← List.take_append_drop (i - fr) (s.drop fr)]
  congr 1
  · rw [List.take_append_drop]
  · rw [List.drop_drop, show fr + (i - fr) = i by omega, ← List.getElem_cons_drop hi]
    congr 1
    rw [List.getElem?_eq_getElem hi] at hb
    exact Option.some.inj hb
theorem Fe.zero (c : UInt8) (s : Str) : Fe c s 0 0 [] := ⟨by omega, by omega, by simp, rfl, by simp⟩
theorem Fe.pass {c : UInt8} {s : Str} {i fr : Nat} {out : List Str} (h : Fe c s i fr out) {b : UInt8} (hb : s[i]? = some b) (hc : b ≠ c) : Fe c s (i + 1) fr out := by
  have hi := H5 hb
  have hle := h.le
  refine ⟨by omega, by omega, fun x hx => ?_, h.eq, h.len⟩
  rw [show i + 1 - fr = (i - fr) + 1 by omega, List.take_add_one, List.mem_append] at hx
  rcases hx with hx | hx
  · exact h.no x hx
  · rw [List.getElem?_drop, show fr + (i - fr) = i by omega, hb] at hx
    simp at hx
    exact hx ▸ hc
theorem Fe.hit {c : UInt8} {s : Str} {i fr : Nat} {out : List Str} (h : Fe c s i fr out) {b : UInt8} (hb : s[i]? = some b) (hc : b = c) : Fe c s (i + 1) (i + 1) (out ++ [(s.drop fr).take (i - fr)]) := by
  have hi := H5 hb
  have hle := h.le
  have hlen := h.len
  subst hc
  refine ⟨by omega, by omega, by simp, ?_, by simp; omega⟩
  rw [h.eq, A1f hle hb, Q0 h.no]
  have e : ((s.drop fr).take (i - fr) ++ b :: s.drop (i + 1)).take (i - fr) = (s.drop fr).take (i - fr) := by
    rw [← A1f hle hb]
  simp [e]
theorem Fe.fin {c : UInt8} {s : Str} {fr : Nat} {out : List Str} (h : Fe c s s.length fr out) : Aj c s = out ++ [(s.drop fr).take (s.length - fr)] := by
  have e : (s.drop fr).take (s.length - fr) = s.drop fr := by rw [List.take_of_length_le (by simp)]
  have hn := h.no
  rw [e] at hn
  rw [h.eq, e, Q7 hn]
theorem Fe.fin' {c : UInt8} {s : Str} {fr : Nat} {out : List Str} (h : Fe c s s.length fr out) : Aj c s = out ++ [s.drop fr] := by
  rw [h.fin, List.take_of_length_le (by simp)]
theorem B2w {a b : UInt8} : (((a.toNat : Int) == (b.toNat : Int)) = true) ↔ a = b := by
  rw [beq_iff_eq]
  constructor
  · intro h
    have h : a.toNat = b.toNat := by omega
    exact UInt8.toNat_inj.1 h
  · rintro rfl; rfl
def sml (n : Nat) : Prop := n ≤ 4194304
end Go.GH


set_option linter.unusedVariables false
set_option linter.unusedSimpArgs false
namespace Go.GH
open Go
def sl : Str := [47]
def Aw (p : Str) : Bool := (p == sl) || (inB (Aj 47 p).length 2 5 && ((Aj 47 p).headD [] == []) && ((Aj 47 p).drop 1).all Cx)
def names (p : Str) : List Str := if Aw p && !(p == sl) then (Aj 47 p).drop 1 else []
def cat : List Str → Str
  | [] => []
  | a :: r => 47 :: (a ++ cat r)
def J5 (l : List Str) : Str := match l with
  | [] => sl
  | l => cat l
def Dl (l : List Str) : Str := if decide (l.length ≤ 4) && l.all Cx then J5 l else []
def El (p : Str) : Str := if Aw p then Dl ((names p).take ((names p).length - 1)) else []
theorem Ud : ∀ (a b : List Str), cat (a ++ b) = cat a ++ cat b
  | [], b => rfl
  | x :: a, b => by simp [cat, Ud a b]
theorem Xm {s : Str} (h : Cx s = true) : ∀ x, x ∈ s → x ≠ 47 := by
  simp only [Cx, Bool.and_eq_true, List.all_eq_true] at h
  rintro x hx rfl
  have := h.2 _ hx
  revert this; decide
theorem Y7 {c : UInt8} : ∀ (a b : Str), ∃ x, Aj c (a ++ c :: b) = Aj c a ++ x :: ((Aj c b).drop 1) ∧ x = (Aj c b).headD []
  | [], b => by
    have := J8 c b
    cases h : Aj c b with
    | nil => exact absurd h this
    | cons y r => exact ⟨y, by simp [Aj, h], rfl⟩
  | y :: a, b => by
    obtain ⟨x, h1, h2⟩ := Y7 (c := c) a b
    refine ⟨x, ?_, h2⟩
    simp only [List.cons_append, Aj]
    split
    · rw [h1]; rfl
    · rw [h1]
      have := J8 c a
      cases h : Aj c a with
      | nil => exact absurd h this
      | cons z r => rfl
theorem A0y {c : UInt8} (a b : Str) : Aj c (a ++ c :: b) = Aj c a ++ Aj c b := by
  obtain ⟨x, h1, h2⟩ := Y7 (c := c) a b
  rw [h1, h2]
  have := J8 c b
  cases h : Aj c b with
  | nil => exact absurd h this
  | cons y r => rfl
theorem A5x : ∀ (l : List Str), (Aj 47 (cat l)).length = 1 + (l.map fun a => (Aj 47 a).length).sum ∨ l = [] := by
  intro l
  induction l with
  | nil => exact .inr rfl
  | cons a r ih =>
    left
    simp only [cat, Aj, if_pos, List.length_cons, List.map_cons, List.sum_cons]
    rcases ih with ih | rfl
    · cases r with
      | nil => simp [cat]; omega
      | cons b r =>
        simp only [cat] at ih ⊢
        rw [A0y, List.length_append]
        simp only [Aj, if_pos, List.length_cons] at ih
        simp only [List.map_cons, List.sum_cons] at ih ⊢
        omega
    · simp [cat]; omega
theorem Pj {l : List Str} (h : ∀ a, a ∈ l → ∀ x, x ∈ a → x ≠ 47) (hl : l ≠ []) : Aj 47 (cat l) = [] :: l := by
  induction l with
  | nil => exact absurd rfl hl
  | cons a r ih =>
    simp only [cat, Aj, if_pos]
    congr 1
    cases r with
    | nil => simp only [cat, List.append_nil]; exact Q7 (h a (by simp))
    | cons b r =>
      have := ih (fun x hx => h x (by simp [hx])) (by simp)
      simp only [cat] at this ⊢
      rw [Q0 (h a (by simp))]
      simp only [Aj, if_pos, List.cons.injEq, true_and] at this
      rw [this]
theorem Pm (c : UInt8) (s : Str) : 1 ≤ (Aj c s).length := by
  have := J8 c s
  cases h : Aj c s with
  | nil => exact absurd h this
  | cons => simp
theorem A6t {c : UInt8} : ∀ {s : Str}, (Aj c s).length = 1 → ∀ x, x ∈ s → x ≠ c
  | [], _, x, hx => by cases hx
  | y :: r, h, x, hx => by
    unfold Aj at h
    split at h
    · have := Pm c r; simp only [List.length_cons] at h; omega
    · rename_i hy
      have hr : (Aj c r).length = 1 := by
        split at h
        · rename_i heq; rw [heq]; simpa using h
        · rename_i heq; exact absurd heq (J8 c r)
      rcases List.mem_cons.1 hx with rfl | hx
      · exact hy
      · exact A6t hr x hx
theorem B25 : ∀ {l : List Str} {f : Str → Nat}, (∀ a, 1 ≤ f a) → (l.map f).sum = l.length → ∀ a, a ∈ l → f a = 1
  | [], _, _, _, a, ha => by cases ha
  | b :: r, f, hf, h, a, ha => by
    have hge : ∀ (r : List Str), r.length ≤ (r.map f).sum := by
      intro r
      induction r with
      | nil => simp
      | cons x r ih => have := hf x; simp; omega
    have h1 := hge r
    have h2 := hf b
    simp only [List.map_cons, List.sum_cons, List.length_cons] at h
    rcases List.mem_cons.1 ha with rfl | ha
    · omega
    · exact B25 hf (by omega) a ha
theorem B1c (l : List Str) : Dl l = if Aw (J5 l) && decide ((names (J5 l)).length = l.length) then J5 l else [] := by
  cases l with
  | nil => rfl
  | cons a r =>
    show Dl (a :: r) = if Aw (cat (a :: r)) && decide ((names (cat (a :: r))).length = (a :: r).length) then cat (a :: r) else []
    have hlen := A5x (a :: r)
    generalize hl : a :: r = l at *
    have hne : l ≠ [] := by rw [← hl]; simp
    have hlen : (Aj 47 (cat l)).length = 1 + (l.map fun a => (Aj 47 a).length).sum := hlen.resolve_right hne
    have hc : J5 l = cat l := by subst hl; rfl
    by_cases hg : (decide (l.length ≤ 4) && l.all Cx) = true
    · rw [Dl, if_pos hg, hc]
      simp only [Bool.and_eq_true, decide_eq_true_eq, List.all_eq_true] at hg
      have hs := Pj (fun a ha => Xm (hg.2 a ha)) hne
      have hne' : (cat l == sl) = false := by
        subst hl
        rw [beq_eq_false_iff_ne]
        intro e
        have ha := hg.2 a (by simp)
        have : 1 ≤ a.length := by
          simp only [Cx, inB, Bool.and_eq_true, decide_eq_true_eq] at ha
          omega
        have e2 := congrArg List.length e
        simp only [cat, sl, List.length_cons, List.length_append, List.length_nil] at e2
        omega
      have hl1 : 1 ≤ l.length := by subst hl; simp
      have hp : Aw (cat l) = true := by
        simp only [Aw, hne', hs, Bool.false_or, Bool.and_eq_true, inB, decide_eq_true_eq]
        refine ⟨⟨⟨by simp; omega, by simp; omega⟩, rfl⟩, by simpa using hg.2⟩
      rw [if_pos]
      simp [hp, names, hne', hs]
    · rw [Dl, if_neg hg, if_neg]
      intro h
      apply hg
      simp only [Bool.and_eq_true, decide_eq_true_eq] at h
      obtain ⟨h1, h2⟩ := h
      simp only [names, h1, Bool.true_and] at h2
      have hl1 : 1 ≤ l.length := by subst hl; simp
      by_cases he : (cat l == sl) = true
      · simp [he] at h2; omega
      · have he : (cat l == sl) = false := by simpa using he
        rw [he] at h2
        simp only [Bool.not_false, if_true, List.length_drop] at h2
        have hsum : (l.map fun a => (Aj 47 a).length).sum = l.length := by omega
        have hno : ∀ a, a ∈ l → ∀ x, x ∈ a → x ≠ 47 := fun a ha => A6t (B25 (fun a => Pm 47 a) hsum a ha)
        have hs := Pj hno hne
        simp only [Aw, he, hs, Bool.false_or, Bool.and_eq_true, inB, decide_eq_true_eq] at h1
        simp only [Bool.and_eq_true, decide_eq_true_eq]
        refine ⟨?_, by simpa using h1.2⟩
        have := h1.1.1.2
        simp at this
        omega
theorem Zh : ∀ (l : List Str), (cat l).length = l.length + (l.map List.length).sum
  | [] => rfl
  | a :: r => by simp [cat, Zh r]; omega
theorem A1x (l : List Str) : (J5 l).length ≤ l.length + (l.map List.length).sum + 1 := by
  cases l with
  | nil => simp [J5, sl]
  | cons a r => simp only [J5]; rw [Zh]; omega
theorem A0v (l : List Str) : (Dl l).length ≤ l.length + (l.map List.length).sum + 1 := by
  unfold Dl
  split
  · exact A1x l
  · simp
theorem N7 {p : Str} : (names p).all Cx = true := by
  unfold names
  split
  · rename_i h
    simp only [Bool.and_eq_true, Aw, Bool.or_eq_true, Bool.not_eq_true'] at h
    rcases h.1 with h1 | h1
    · rw [h.2] at h1; cases h1
    · exact h1.2
  · rfl
theorem Hf {p : Str} : (names p).length ≤ 4 := by
  unfold names
  split
  · rename_i h
    simp only [Bool.and_eq_true, Aw, Bool.or_eq_true, Bool.not_eq_true', inB, decide_eq_true_eq] at h
    rcases h.1 with h1 | h1
    · rw [h.2] at h1; cases h1
    · have := h1.1.1.2
      simp; omega
  · simp
theorem A0d {s : Str} (h : Cx s = true) : s.length ≤ 6 := by
  simp only [Cx, inB, Bool.and_eq_true, decide_eq_true_eq] at h
  omega
theorem B7y {l : List Str} {k : Nat} (h : ∀ a, a ∈ l → a.length ≤ k) : (l.map List.length).sum ≤ l.length * k := by
  induction l with
  | nil => simp
  | cons a r ih =>
    have := ih fun x hx => h x (by simp [hx])
    have := h a (by simp)
    simp only [List.map_cons, List.sum_cons, List.length_cons, Nat.add_mul]
    omega
theorem A6q {p : Str} : ((names p).map List.length).sum ≤ 24 := by
  have h := B7y (l := names p) (k := 6) fun a ha => A0d (List.all_eq_true.1 N7 a ha)
  have := Hf (p := p)
  omega
theorem A25 (l : List Str) (k : Nat) : ((l.take k).map List.length).sum ≤ (l.map List.length).sum := by
  induction l generalizing k with
  | nil => simp
  | cons a r ih =>
    cases k with
    | zero => simp
    | succ k => have := ih k; simp only [List.take_succ_cons, List.map_cons, List.sum_cons]; omega
theorem B37 {α : Type} {l : List α} {i : Nat} {x : α} (h1 : 1 ≤ i) (h : l[i]? = some x) : (l.take (i + 1)).drop 1 = (l.take i).drop 1 ++ [x] := by
  rw [Bm h, List.drop_append_of_le_length]
  have := H5 h
  simp; omega
end Go.GH


set_option linter.unusedVariables false
set_option linter.unusedSimpArgs false
namespace Go.GH
open Go
structure It where
  path : Str
  kind : Int
  data : Str
  time : Int
def It.none : It := ⟨[], 0, [], 0⟩
def It.top : It := ⟨sl, 2, [], 0⟩
abbrev Tr := List It
def Ao (x : It) : List AV := [.str x.path, .int .i64 x.kind, .str x.data, .int .i64 x.time]
def rdT (t : Tr) : AV := .agg [.rd 4 (t.map Ao)]
theorem rdI (l : List It) : Cl (l.map Ao) = l.map Ao := Im (fun _ => rfl) l
def B8 (t : Tr) (p : Str) : Option It := if p == sl then some It.top else t.find? fun x => x.path == p
def Kr (o : Option It) : AV := .tup [.agg (Ao (o.getD It.none)), .bool o.isSome]
def J0 (x : It) : Bool := Aw x.path && !(x.path == sl) && inB x.kind 1 3 && (if x.kind == 2 then x.data == [] && x.time == 0 else decide ((x.data.length : Int) ≤ 80) && inB x.time 0 100000)
def Nv (t : Tr) (p : Str) : Bool := (B8 t p).isSome && ((B8 t p).getD It.none).kind == 2
def chk (t : Tr) (i : Nat) : Bool := match t[i]? with
  | some x => J0 x && (i == 0 || Dm ((t.getD (i - 1) It.none).path) x.path) && Nv t (El x.path)
  | none => true
def C8 (t : Tr) : Bool := decide (t.length ≤ 40) && (List.range t.length).all (chk t)
def smT (t : Tr) : Prop := t.length ≤ 4194304 ∧ ∀ x, x ∈ t → x.path.length ≤ 4194304 ∧ x.data.length ≤ 4194304
theorem Jo : ∀ a, Dm a a = false
  | [] => rfl
  | x :: a => by simp [Dm, Jo a]
theorem Y9 : ∀ a b, Dm a b = true ∨ a = b ∨ Dm b a = true
  | [], [] => .inr (.inl rfl)
  | [], _ :: _ => .inl rfl
  | _ :: _, [] => .inr (.inr rfl)
  | x :: a, y :: b => by
    simp only [Dm]
    have tri : x < y ∨ x = y ∨ y < x := by
      rcases Nat.lt_trichotomy x.toNat y.toNat with h | h | h
      · exact .inl h
      · exact .inr (.inl (UInt8.toNat_inj.1 h))
      · exact .inr (.inr h)
    rcases tri with h | rfl | h
    · left; simp [h]
    · rcases Y9 a b with h | rfl | h
      · left; simp [h]
      · right; left; rfl
      · right; right; simp [h]
    · right; right; simp [h]
theorem Rt : ∀ a b, Dm a b = true → Dm b a = false
  | [], [], h => by cases h
  | [], _ :: _, _ => rfl
  | _ :: _, [], h => by cases h
  | x :: a, y :: b, h => by
    simp only [Dm, Bool.or_eq_true, Bool.and_eq_true, decide_eq_true_eq, beq_iff_eq] at h
    simp only [Dm, Bool.or_eq_false_iff, Bool.and_eq_false_iff, decide_eq_false_iff_not, beq_eq_false_iff_ne]
    rcases h with h | ⟨rfl, h⟩
    · exact ⟨UInt8.not_lt.2 (UInt8.le_of_lt h), .inl fun e => by subst e; exact UInt8.lt_irrefl _ h⟩
    · exact ⟨UInt8.lt_irrefl _, .inr (Rt a b h)⟩
theorem B5i (a b : Str) : (Dm b a || b == a) = !Dm a b := by
  rcases Y9 a b with h | rfl | h
  · rw [h, Rt _ _ h]
    have : (b == a) = false := by
      rw [beq_eq_false_iff_ne]; rintro rfl; rw [Jo] at h; cases h
    rw [this]; rfl
  · simp [Jo]
  · rw [h, Rt _ _ h]; rfl
theorem A15 {α : Type} {p : α → Bool} {l : List α} {i : Nat} {x : α} (h : (l.take i).find? p = none) (hx : l[i]? = some x) (hp : p x = true) : l.find? p = some x := by
  rw [← List.take_append_drop i l, List.find?_append, h]
  have hi := H5 hx
  rw [← List.getElem_cons_drop hi, List.find?_cons]
  rw [List.getElem?_eq_getElem hi] at hx
  rw [Option.some.inj hx, hp]; rfl
theorem A0m {α : Type} {p : α → Bool} {l : List α} {i : Nat} {x : α} (h : (l.take i).find? p = none) (hx : l[i]? = some x) (hp : p x = false) : (l.take (i + 1)).find? p = none := by
  rw [Bm hx, List.find?_append, h]
  simp [hp]
theorem B4s {t : Tr} {f : Nat → Bool} {n : Nat} : (List.range n).all f = true ↔ ∀ j, j < n → f j = true := by simp
theorem A0t {t : Tr} {i : Nat} (hi : i < t.length) (h : chk t i = false) : C8 t = false := by
  have : (List.range t.length).all (chk t) = false := by
    rw [List.all_eq_false]; exact ⟨i, List.mem_range.2 hi, by simp [h]⟩
  rw [C8, this, Bool.and_false]
theorem Xs {t : Tr} (h : t.length ≤ 40) (h2 : ∀ j, j < t.length → chk t j = true) : C8 t = true := by
  rw [C8, Bool.and_eq_true]
  exact ⟨by simpa using h, B4s (t := t).2 h2⟩
end Go.GH
namespace Go.GH
open Go
section
variable {t : Tr} {i : Nat} {b pv : It}
def B7f (i : Nat) (b pv : It) : Bool := !Aw b.path || b.path == sl || (decide ((i : Int) > 0) && (Dm b.path pv.path || b.path == pv.path)) || !inB b.kind 1 3 || decide ((b.data.length : Int) > 80) || !inB b.time 0 100000
def B6t (b : It) : Bool := (b.kind == 2) && (!(b.data == []) || b.time != 0)
theorem Ug (hb : t[i]? = some b) (hp : t.getD (i - 1) It.none = pv) : chk t i = (J0 b && (i == 0 || Dm pv.path b.path) && Nv t (El b.path)) := by
  unfold chk; rw [hb]; simp only [hp]
theorem A2x : (J0 b && (i == 0 || Dm pv.path b.path)) = (!B7f i b pv && !B6t b) := by
  unfold B7f B6t J0
  rw [B5i]
  have e1 : decide ((i : Int) > 0) = !(i == 0) := by
    rw [Bool.eq_iff_iff]
    simp
    omega
  have e2 : (b.data == []) = true → decide ((b.data.length : Int) > 80) = false := by
    intro h
    have : b.data = [] := by simpa using h
    rw [this]; rfl
  have e3 : (b.time == 0) = true → inB b.time 0 100000 = true := by
    intro h
    have : b.time = 0 := by simpa using h
    rw [this]; rfl
  have e4 : decide ((b.data.length : Int) ≤ 80) = !decide ((b.data.length : Int) > 80) := by
    rw [Bool.eq_iff_iff]
    simp
  have e5 : (b.time != 0) = !(b.time == 0) := rfl
  rw [e1, e4, e5]
  revert e2 e3
  generalize Aw b.path = P; generalize (b.path == sl) = S; generalize (i == 0) = I; generalize Dm pv.path b.path = O; generalize inB b.kind 1 3 = K
  generalize (b.kind == 2) = D; generalize (b.data == []) = E; generalize (b.time == 0) = Z; generalize decide ((b.data.length : Int) > 80) = L; generalize inB b.time 0 100000 = T
  revert P S I O K D E Z L T
  decide
theorem B79 (hb : t[i]? = some b) (hp : t.getD (i - 1) It.none = pv) (h : B7f i b pv = true) : chk t i = false := by
  rw [Ug hb hp, A2x, h]; rfl
theorem B6d (hb : t[i]? = some b) (h : B6t b = true) : chk t i = false := by
  rw [Ug hb rfl, A2x, h]; simp
theorem B27 (hb : t[i]? = some b) (h : Nv t (El b.path) = false) : chk t i = false := by
  rw [Ug hb rfl, h]; simp
theorem B7a (hb : t[i]? = some b) (hp : t.getD (i - 1) It.none = pv) (h1 : B7f i b pv = false) (h2 : B6t b = false) (h3 : Nv t (El b.path) = true) : chk t i = true := by
  rw [Ug hb hp, A2x, h1, h2, h3]; rfl
end
end Go.GH
namespace Go.GH
open Go
def My (a : Str × Int) (x : It) : Str × Int := if x.kind != 2 && decide ((x.data.length : Int) > a.2) then (x.path, x.data.length) else a
def J9 (t : Tr) : Str := if C8 t then (t.foldl My ([], -1)).1 else []
theorem Qb {α β : Type} {f : β → α → β} {l : List α} {i : Nat} {x : α} {b : β} (h : l[i]? = some x) : (l.take (i + 1)).foldl f b = f ((l.take i).foldl f b) x := by
  rw [Bm h, List.foldl_append]; rfl
end Go.GH


set_option linter.unusedVariables false
set_option linter.unusedSimpArgs false
namespace Go.GH
open Go
def fnd {α : Type} (p : α → Bool) (l : List α) : Int := if l.any p then (l.findIdx p : Int) else -1
theorem Zf {α : Type} {p : α → Bool} {l : List α} {i : Nat} {x : α} (h : (l.take i).any p = false) (hx : l[i]? = some x) (px : p x = true) : fnd p l = i := by
  have hi := H5 hx
  have ha : l.any p = true := List.any_eq_true.2 ⟨x, List.mem_of_getElem? hx, px⟩
  rw [fnd, if_pos ha]
  congr 1
  have e : l = l.take i ++ x :: l.drop (i + 1) := by
    have := A1f (fr := 0) (Nat.zero_le i) hx
    simpa using this
  have h2 : (l.take i).findIdx p = i := by
    rw [List.findIdx_eq_length_of_false]
    · simp; omega
    · intro y hy
      have := List.any_eq_false.1 h y hy
      simpa using this
  conv => lhs; rw [e]
  rw [List.findIdx_append, h2]
  simp [List.findIdx_cons, px]
  omega
theorem So {α : Type} {p : α → Bool} {l : List α} (h : l.any p = false) : fnd p l = -1 := by
  rw [fnd, if_neg]; simp [h]
theorem Lu {α : Type} {p : α → Bool} {l : List α} {i : Nat} {x : α} (h : (l.take i).any p = false) (hx : l[i]? = some x) (px : p x = false) : (l.take (i + 1)).any p = false := by
  rw [Bm hx, List.any_append, h]
  simp [px]
theorem Vx {α : Type} {p : α → Bool} {l : List α} : (decide (fnd p l ≥ 0)) = l.any p := by
  rw [fnd]
  split
  · rename_i h; rw [h]; simp
  · rename_i h
    have : l.any p = false := by simpa using h
    rw [this]; rfl
theorem B9b {α : Type} {p : α → Bool} {l : List α} : -1 ≤ fnd p l ∧ fnd p l ≤ l.length := by
  rw [fnd]
  split
  · have := List.findIdx_le_length (p := p) (xs := l)
    omega
  · omega
theorem B8s {α : Type} {p : α → Bool} {l : List α} (h : l.any p = true) : ∃ x, l[(fnd p l).toNat]? = some x ∧ l.find? p = some x := by
  rw [fnd, if_pos h]
  have hl : l.findIdx p < l.length := List.findIdx_lt_length_of_exists (by simpa using h)
  refine ⟨l[l.findIdx p], by simp [hl], ?_⟩
  rw [List.find?_eq_some_iff_getElem]
  refine ⟨List.findIdx_getElem (w := hl), l.findIdx p, hl, rfl, fun j hj => ?_⟩
  have := List.not_of_lt_findIdx hj
  simpa using this
theorem B77 {α : Type} {p : α → Bool} {l : List α} (h : l.any p = false) : l.find? p = none := by
  rw [List.find?_eq_none]
  intro x hx
  exact List.any_eq_false.1 h x hx
end Go.GH
namespace Go.GH
def smL (l : List Str) : Prop := l.length ≤ 4194304 ∧ ∀ s, s ∈ l → s.length ≤ 4194304
end Go.GH


set_option linter.unusedVariables false
set_option linter.unusedSimpArgs false
namespace Go.GH
open Go Go.Proofs
def toB (s : Str) : ByteArray := ⟨⟨s⟩⟩
theorem B8l {y : Ctx} {w : World} {h : Af} {n : Nat → Prop} {ρ : Option Nat → Ai} {l : List Str} {v : Value} (hs : Au y w h n ρ (.rd 1 (l.map A6)) v) (hw : y.wr = w) :
    ∃ a cap, v = .slice a l.length cap ∧ l.length ≤ cap ∧ (l ≠ [] → ∃ b o, a = some ⟨b, o, none⟩ ∧ y.R b ∧ ∀ (j : Nat) s, l[j]? = some s → w.cell? ⟨b, o + j, none⟩ = some (Da s)) := by
  cases hs with
  | cell hr =>
    cases hr with
    | rd u hcap hrow hc hr =>
      rename_i a cap
      refine ⟨a, cap, by simp, by simpa using hcap, fun hne => ?_⟩
      have at_ : ∀ (j : Nat) s, l[j]? = some s → As (l.map A6) j 0 = some (.str s) := by
        intro j s hj
        simp [As, hj, A6]
      obtain ⟨x, hx⟩ : ∃ x, l[0]? = some x := B7 (List.length_pos_iff.2 hne)
      obtain ⟨b, o, ha, hR, _, _⟩ := hc 0 0 _ (at_ 0 x hx)
      refine ⟨b, o, ha, hR, fun j s hj => ?_⟩
      obtain ⟨b', o', ha', _, _, hcell⟩ := hc j 0 _ (at_ j s hj)
      have hrep := hr j 0 _ (at_ j s hj)
      rw [ha] at ha'
      simp only [Option.some.injEq, Addr.mk.injEq, and_true] at ha'
      obtain ⟨rfl, rfl⟩ := ha'
      have hu : u j 0 = Da s := Hk (h := h) (n := n) (ρ := ρ) (.cell hrep)
      rw [hw, hu] at hcell
      simpa using hcell
theorem B7n : ∀ {l : List Str} {s : Str}, s ∈ l → s.length ≤ (l.map List.length).sum
  | a :: r, s, h => by
    rcases List.mem_cons.1 h with rfl | h
    · simp
    · have := B7n h; simp; omega
theorem B6o (l : List Str) : sl ++ Lib.join l sl = J5 l := by
  cases l with
  | nil => rfl
  | cons a r =>
    have : ∀ (r : List Str), Lib.joinTail sl r = cat r := by
      intro r
      induction r with
      | nil => rfl
      | cons b r ih =>
        rw [cat, ← ih]
        simp [Lib.joinTail, sl]
    rw [Lib.join_cons, this]
    simp [J5, cat, sl]
end Go.GH


set_option linter.unusedVariables false
set_option linter.unusedSimpArgs false
namespace Go.GH
open Go
theorem B9v {s : Nat} {x x' : List (List AV)} (h1 : x = x') : [AV.agg [AV.rd s x]] = [AV.agg [AV.rd s x']] := by rw [h1]
end Go.GH


set_option linter.unusedVariables false
namespace Go.GH
open Go Go.Proofs
def Bc : List (Nat × Ty) := [
 (2, ⟨.int .i64, 1, 8, [.int .i64 0], [none]⟩),
 (3, ⟨.int .i64, 1, 8, [.int .i64 0], [none]⟩),
 (4, ⟨.bool, 1, 1, [.bool false], [none]⟩),
 (5, ⟨.int .u8, 1, 1, [.int .u8 0], [none]⟩),
 (6, ⟨.int .u8, 1, 1, [.int .u8 0], [none]⟩),
 (7, ⟨.struct [(0, 2), (1, 3), (2, 4), (3, 6)], 4, 24, [.int .i64 0, .int .i64 0, .bool false, .int .u8 0], [none, none, none, none]⟩),
 (8, ⟨.struct [(0, 2), (1, 3), (2, 4), (3, 6)], 4, 24, [.int .i64 0, .int .i64 0, .bool false, .int .u8 0], [none, none, none, none]⟩),
 (9, ⟨.str, 1, 16, [.str []], [none]⟩),
 (10, ⟨.str, 1, 16, [.str []], [none]⟩),
 (11, ⟨.str, 1, 16, [.str []], [none]⟩),
 (12, ⟨.int .u64, 1, 8, [.int .u64 0], [none]⟩),
 (15, ⟨.ptr 229, 1, 8, [.undef], [none]⟩),
 (16, ⟨.ptr 232, 1, 8, [.undef], [none]⟩),
 (17, ⟨.ptr 239, 1, 8, [.undef], [none]⟩),
 (20, ⟨.iface, 1, 16, [.nilI], [none]⟩),
 (21, ⟨.int .i32, 1, 4, [.int .i32 0], [none]⟩),
 (22, ⟨.slice 5, 1, 24, [.own 1 []], [some 1]⟩),
 (24, ⟨.slice 32, 1, 24, [.own 4 []], [some 4]⟩),
 (25, ⟨.struct [(0, 24)], 1, 24, [.own 4 []], [some 4]⟩),
 (26, ⟨.struct [(0, 24)], 1, 24, [.own 4 []], [some 4]⟩),
 (31, ⟨.struct [(0, 9), (1, 3), (2, 9), (3, 3)], 4, 48, [.str [], .int .i64 0, .str [], .int .i64 0], [none, none, none, none]⟩),
 (32, ⟨.struct [(0, 9), (1, 3), (2, 9), (3, 3)], 4, 48, [.str [], .int .i64 0, .str [], .int .i64 0], [none, none, none, none]⟩),
 (36, ⟨.slice 9, 1, 24, [.own 1 []], [some 1]⟩),
 (39, ⟨.slice 116, 1, 24, [.own 4 []], [some 4]⟩),
 (40, ⟨.struct [(0, 39)], 1, 24, [.own 4 []], [some 4]⟩),
 (41, ⟨.struct [(0, 39)], 1, 24, [.own 4 []], [some 4]⟩),
 (42, ⟨.slice 80, 1, 24, [.own 6 []], [some 6]⟩),
 (45, ⟨.slice 3, 1, 24, [.own 1 []], [some 1]⟩),
 (49, ⟨.slice 84, 1, 24, [.own 6 []], [some 6]⟩),
 (65, ⟨.ptr 100, 1, 8, [.undef], [none]⟩),
 (79, ⟨.struct [(0, 3), (1, 9), (2, 9), (3, 3), (4, 9), (5, 3)], 6, 72, [.int .i64 0, .str [], .str [], .int .i64 0, .str [], .int .i64 0], [none, none, none, none, none, none]⟩),
 (80, ⟨.struct [(0, 3), (1, 9), (2, 9), (3, 3), (4, 9), (5, 3)], 6, 72, [.int .i64 0, .str [], .str [], .int .i64 0, .str [], .int .i64 0], [none, none, none, none, none, none]⟩),
 (84, ⟨.struct [(0, 3), (1, 9), (2, 9), (3, 3), (4, 9), (5, 3)], 6, 72, [.int .i64 0, .str [], .str [], .int .i64 0, .str [], .int .i64 0], [none, none, none, none, none, none]⟩),
 (99, ⟨.struct [(0, 22), (1, 3), (2, 3)], 3, 40, [.own 1 [], .int .i64 0, .int .i64 0], [some 1, none, none]⟩),
 (100, ⟨.struct [(0, 22), (1, 3), (2, 3)], 3, 40, [.own 1 [], .int .i64 0, .int .i64 0], [some 1, none, none]⟩),
 (102, ⟨.slice 171, 1, 24, [.own 5 []], [some 5]⟩),
 (103, ⟨.struct [(0, 102), (1, 36)], 2, 48, [.own 5 [], .own 1 []], [some 5, some 1]⟩),
 (104, ⟨.struct [(0, 102), (1, 36)], 2, 48, [.own 5 [], .own 1 []], [some 5, some 1]⟩),
 (116, ⟨.struct [(0, 9), (1, 3), (2, 9), (3, 3)], 4, 48, [.str [], .int .i64 0, .str [], .int .i64 0], [none, none, none, none]⟩),
 (124, ⟨.int .u64, 1, 8, [.int .u64 0], [none]⟩),
 (138, ⟨.ptr 140, 1, 8, [.undef], [none]⟩),
 (139, ⟨.struct [(0, 138), (1, 22)], 2, 32, [.undef, .own 1 []], [none, some 1]⟩),
 (140, ⟨.struct [(0, 138), (1, 22)], 2, 32, [.undef, .own 1 []], [none, some 1]⟩),
 (142, ⟨.iface, 1, 16, [.nilI], [none]⟩),
 (143, ⟨.iface, 1, 16, [.nilI], [none]⟩),
 (150, ⟨.ptr 32, 1, 8, [.undef], [none]⟩),
 (157, ⟨.int .i64, 1, 8, [.int .i64 0], [none]⟩),
 (165, ⟨.int .u32, 1, 4, [.int .u32 0], [none]⟩),
 (167, ⟨.int .u64, 1, 8, [.int .u64 0], [none]⟩),
 (170, ⟨.struct [(0, 3), (1, 3), (2, 3), (3, 3), (4, 45)], 5, 56, [.int .i64 0, .int .i64 0, .int .i64 0, .int .i64 0, .own 1 []], [none, none, none, none, some 1]⟩),
 (171, ⟨.struct [(0, 3), (1, 3), (2, 3), (3, 3), (4, 45)], 5, 56, [.int .i64 0, .int .i64 0, .int .i64 0, .int .i64 0, .own 1 []], [none, none, none, none, some 1]⟩),
 (172, ⟨.slice 176, 1, 24, [.own 2 []], [some 2]⟩),
 (175, ⟨.struct [(0, 9), (1, 3)], 2, 24, [.str [], .int .i64 0], [none, none]⟩),
 (176, ⟨.struct [(0, 9), (1, 3)], 2, 24, [.str [], .int .i64 0], [none, none]⟩),
 (189, ⟨.ptr 5, 1, 8, [.undef], [none]⟩),
 (190, ⟨.int .u64, 1, 8, [.int .u64 0], [none]⟩),
 (194, ⟨.ptr 3, 1, 8, [.undef], [none]⟩),
 (213, ⟨.ptr 190, 1, 8, [.undef], [none]⟩),
 (233, ⟨.int .u8, 1, 1, [.int .u8 0], [none]⟩),
 (234, ⟨.int .u8, 1, 1, [.int .u8 0], [none]⟩),
 (236, ⟨.int .i32, 1, 4, [.int .i32 0], [none]⟩),
 (237, ⟨.int .i32, 1, 4, [.int .i32 0], [none]⟩)]
theorem B92 : B4r Tryz.prog Bc = true := by kernel_rfl
theorem Ch (F : Nat → Option Bp) (kp : List Nat) : TOk Tryz.prog ⟨A4 Bc, F, kp⟩ := fun t ty h => B40 B92 t ty h
theorem mixed : Tryz.prog.follows .mixedOrders = true := by kernel_rfl
def Az (f : Func) : Code := match f.body with
  | some c => c
  | none => .skip
end Go.GH


set_option linter.unusedVariables false
set_option linter.unusedSimpArgs false
namespace Go.GH
open Go Go.Proofs
noncomputable def Co : Bp := con [mC, mC, mC] true (Int × Int × Int) (fun x => [.int .i64 x.1, .int .i64 x.2.1, .int .i64 x.2.2]) (fun _ => True) (fun x => .bool (inB x.1 x.2.1 x.2.2))
noncomputable def B15 : Env := ⟨A4 Bc, A4 [], [0, 1, 2, 6]⟩
set_option maxRecDepth 100000 in
set_option maxHeartbeats 4000000 in
theorem B0l : Bd B15 (Az Tryz.f76) Tryz.f76.results.toList Co := by
  rintro ⟨x, lo, hi⟩ _
  refine ⟨trivial, ?_⟩
  repeat ((conv => whnf); refine ⟨fun h => h, ?_⟩)
  exact ⟨trivial, rfl⟩
theorem E1 : Ay Tryz.prog 76 Co := Aq (Ch _ _) FOk.nil mixed Tryz.func76 rfl Tryz.call76 (by decide) (by kernel_rfl) B0l (by intro _ (y : (Int × Int × Int)) _; exact ⟨by simp [Co, con, Aa, A8, AV.noRd, A7, Ab, A5, A6], by simp [Co, con, Aa, A8, AV.noRd, A7, Ab, A5, A6]⟩) (by intro (y : (Int × Int × Int)) _; first | (simp [Co, con, Aa, A8, Ag, AV.free, A2, A3, A1, A6]; done) | (obtain ⟨_, _⟩ := y; simp [Co, con, Aa, A8, Ag, AV.free, A2, A3, A1, A6]; done) | (obtain ⟨_, _, _⟩ := y; simp [Co, con, Aa, A8, Ag, AV.free, A2, A3, A1, A6]; done))
noncomputable def Ee : Bp := con [mC, mC, mC] true (Int × Int × Int) (fun x => [.int .i64 x.1, .int .i64 x.2.1, .int .i64 x.2.2]) (fun _ => True) (fun x => .bool (inB x.1 x.2.1 x.2.2))
noncomputable def A50 : Env := ⟨A4 Bc, A4 [], [0, 1, 2, 6]⟩
set_option maxRecDepth 100000 in
set_option maxHeartbeats 4000000 in
theorem A3b : Bd A50 (Az Tryz.f91) Tryz.f91.results.toList Ee := by
  rintro ⟨x, lo, hi⟩ _
  refine ⟨trivial, ?_⟩
  repeat ((conv => whnf); refine ⟨fun h => h, ?_⟩)
  exact ⟨trivial, rfl⟩
theorem L0 : Ay Tryz.prog 91 Ee := Aq (Ch _ _) FOk.nil mixed Tryz.func91 rfl Tryz.call91 (by decide) (by kernel_rfl) A3b (by intro _ (y : (Int × Int × Int)) _; exact ⟨by simp [Ee, con, Aa, A8, AV.noRd, A7, Ab, A5, A6], by simp [Ee, con, Aa, A8, AV.noRd, A7, Ab, A5, A6]⟩) (by intro (y : (Int × Int × Int)) _; first | (simp [Ee, con, Aa, A8, Ag, AV.free, A2, A3, A1, A6]; done) | (obtain ⟨_, _⟩ := y; simp [Ee, con, Aa, A8, Ag, AV.free, A2, A3, A1, A6]; done) | (obtain ⟨_, _, _⟩ := y; simp [Ee, con, Aa, A8, Ag, AV.free, A2, A3, A1, A6]; done))
noncomputable def Fv : Bp := con [mC] true Str A6 (fun s => s.length ≤ 4611686018427387904) (fun s => .bool (Cx s))
noncomputable def A41 : Env := ⟨A4 Bc, A4 [(76, Co)], [0, 2, 3, 7, 11, 36]⟩
set_option maxRecDepth 100000 in
set_option maxHeartbeats 4000000 in
theorem A5g : Bd A41 (Az Tryz.f118) Tryz.f118.results.toList Fv := by
  intro (s : Str) hs
  have hs : s.length ≤ 4611686018427387904 := hs
  refine ⟨trivial, ?_⟩
  conv => whnf
  refine ⟨(s.length, 1, 6), rfl, fun _ => trivial, ?_⟩
  conv => whnf
  refine ⟨fun h => ?_, fun h => ?_⟩
  · conv => whnf
    have h : inB s.length 1 6 = false := by simpa using h
    exact ⟨trivial, eqB (by simp [Cx, h])⟩
  have h : inB s.length 1 6 = true := by simpa using h
  conv => whnf
  refine B2 (fun i : Nat => ⟨[(0, ⟨none, .str s⟩), (3, ⟨none, .int .i64 i⟩)], [], 0⟩) (fun i => i ≤ s.length ∧ (s.take i).all A2o = true) (fun i => s.length - i) 0 ?_ ⟨by omega, rfl⟩ ?_
  · exact ⟨⟨rfl, rfl, trivial⟩, trivial, rfl⟩
  rintro i ⟨hi, ha⟩
  conv => whnf
  refine ⟨fun h1 => ?_, fun h1 => ?_⟩
  · have h1 : i < s.length := by simpa using h1
    obtain ⟨b, hb⟩ := B7 h1
    repeat first
      | ((conv => whnf); refine ⟨fun h => h, ?_⟩)
      | ((conv => whnf); refine ⟨b, fun _ => ⟨Int.natCast_nonneg _, hb⟩, ?_⟩)
    refine ⟨fun h2 => ?_, fun h2 => ?_⟩
    · conv => whnf
      have h2 : (!A2o b) = true := h2
      refine ⟨trivial, eqB (Eq.symm ?_)⟩
      have hm : b ∈ s := List.mem_of_getElem? hb
      simp only [Cx, Bool.and_eq_false_iff]
      exact .inr (by rw [List.all_eq_false]; exact ⟨b, hm, by simpa using h2⟩)
    · have h2 : A2o b = true := by have : (!A2o b) = false := h2; simpa using this
      conv => whnf
      refine ⟨_, w64 (by omega), ?_⟩
      conv => whnf
      refine C5 (i + 1) ?_ ⟨by omega, ?_⟩ (by omega)
      · exact ⟨⟨rfl, rfl, trivial⟩, trivial, rfl⟩
      · rw [Bm hb]; simp [ha, h2]
  · have h1 : i = s.length := by have : ¬ (i < s.length) := by simpa using h1
                                 omega
    subst h1
    conv => whnf
    rw [List.take_length] at ha
    exact ⟨trivial, eqB (by simp [Cx, h, ha])⟩
theorem T5 : Ay Tryz.prog 118 Fv := Aq (Ch _ _) (FOk.cons E1 FOk.nil) mixed Tryz.func118 rfl Tryz.call118 (by decide) (by kernel_rfl) A5g (by intro _ (y : Str) _; exact ⟨by simp [Fv, con, Aa, A8, AV.noRd, A7, Ab, A5, A6], by simp [Fv, con, Aa, A8, AV.noRd, A7, Ab, A5, A6]⟩) (by intro (y : Str) _; first | (simp [Fv, con, Aa, A8, Ag, AV.free, A2, A3, A1, A6]; done) | (obtain ⟨_, _⟩ := y; simp [Fv, con, Aa, A8, Ag, AV.free, A2, A3, A1, A6]; done) | (obtain ⟨_, _, _⟩ := y; simp [Fv, con, Aa, A8, Ag, AV.free, A2, A3, A1, A6]; done))
noncomputable def Fu : Bp := con [mC] true Str A6 (fun s => s.length ≤ 4611686018427387904) (fun s => .bool (Cx s))
noncomputable def A3h : Env := ⟨A4 Bc, A4 [(91, Ee)], [0, 2, 3, 7, 9, 10, 11, 34]⟩
set_option maxRecDepth 100000 in
set_option maxHeartbeats 4000000 in
theorem A5l : Bd A3h (Az Tryz.f94) Tryz.f94.results.toList Fu := by
  intro (s : Str) hs
  have hs : s.length ≤ 4611686018427387904 := hs
  refine ⟨trivial, ?_⟩
  conv => whnf
  refine ⟨(s.length, 1, 6), rfl, fun _ => trivial, ?_⟩
  conv => whnf
  refine ⟨fun h => ?_, fun h => ?_⟩
  · conv => whnf
    have h : inB s.length 1 6 = false := by simpa using h
    exact ⟨trivial, eqB (by simp [Cx, h])⟩
  have h : inB s.length 1 6 = true := by simpa using h
  conv => whnf
  refine B2 (fun i : Nat => ⟨[(0, ⟨none, .str s⟩), (9, ⟨none, .int .i64 s.length⟩), (10, ⟨none, .int .i64 i⟩)], [], 0⟩) (fun i => i ≤ s.length ∧ (s.take i).all A2o = true) (fun i => s.length - i) 0 ?_ ⟨by omega, rfl⟩ ?_
  · exact ⟨⟨rfl, rfl, rfl, trivial⟩, trivial, rfl⟩
  rintro i ⟨hi, ha⟩
  conv => whnf
  refine ⟨fun h1 => ?_, fun h1 => ?_⟩
  · have h1 : i < s.length := by simpa using h1
    obtain ⟨b, hb⟩ := B7 h1
    repeat first
      | ((conv => whnf); refine ⟨fun h => h, ?_⟩)
      | ((conv => whnf); refine ⟨b, fun _ => ⟨Int.natCast_nonneg _, hb⟩, ?_⟩)
    refine ⟨fun h2 => ?_, fun h2 => ?_⟩
    · conv => whnf
      have h2 : (!A2o b) = true := (B8w b).symm.trans h2
      refine ⟨trivial, eqB (Eq.symm ?_)⟩
      have hm : b ∈ s := List.mem_of_getElem? hb
      simp only [Cx, Bool.and_eq_false_iff]
      exact .inr (by rw [List.all_eq_false]; exact ⟨b, hm, by simpa using h2⟩)
    · have h2 : A2o b = true := by have : (!A2o b) = false := (B8w b).symm.trans h2
                                   simpa using this
      conv => whnf
      refine ⟨_, w64 (by omega), ?_⟩
      conv => whnf
      refine C5 (i + 1) ?_ ⟨by omega, ?_⟩ (by omega)
      · exact ⟨⟨rfl, rfl, rfl, trivial⟩, trivial, rfl⟩
      · rw [Bm hb]; simp [ha, h2]
  · have h1 : i = s.length := by have : ¬ (i < s.length) := by simpa using h1
                                 omega
    subst h1
    conv => whnf
    rw [List.take_length] at ha
    exact ⟨trivial, eqB (by simp [Cx, h, ha])⟩
theorem Sv : Ay Tryz.prog 94 Fu := Aq (Ch _ _) (FOk.cons L0 FOk.nil) mixed Tryz.func94 rfl Tryz.call94 (by decide) (by kernel_rfl) A5l (by intro _ (y : Str) _; exact ⟨by simp [Fu, con, Aa, A8, AV.noRd, A7, Ab, A5, A6], by simp [Fu, con, Aa, A8, AV.noRd, A7, Ab, A5, A6]⟩) (by intro (y : Str) _; first | (simp [Fu, con, Aa, A8, Ag, AV.free, A2, A3, A1, A6]; done) | (obtain ⟨_, _⟩ := y; simp [Fu, con, Aa, A8, Ag, AV.free, A2, A3, A1, A6]; done) | (obtain ⟨_, _, _⟩ := y; simp [Fu, con, Aa, A8, Ag, AV.free, A2, A3, A1, A6]; done))
end Go.GH


set_option linter.unusedVariables false
set_option linter.unusedSimpArgs false
namespace Go.GH
open Go Go.Proofs
noncomputable def Gk : Bp := con [mC, mC] false (Str × UInt8) (fun x => [.str x.1, .int .u8 x.2.toNat]) (fun x => sml x.1.length) (fun x => .own 1 ((Aj x.2 x.1).map A6))
noncomputable def A8w : Env := ⟨A4 Bc, A4 [], [0, 1, 4, 5, 6, 7, 12, 25]⟩
set_option maxRecDepth 100000 in
set_option maxHeartbeats 4000000 in
theorem A7l : Bd A8w (Az Tryz.f117) Tryz.f117.results.toList Gk := by
  rintro ⟨s, c⟩ hs
  have hs : s.length ≤ 4194304 := hs
  refine ⟨trivial, ?_⟩
  conv => whnf
  refine B2 (fun ((i, fr, out) : Nat × Nat × List Str) => ⟨[(0, ⟨none, .str s⟩), (1, ⟨none, .int .u8 c.toNat⟩), (5, ⟨none, .view 0 [] 0 (out.map A6).length⟩), (6, ⟨none, .int .i64 fr⟩), (7, ⟨none, .int .i64 i⟩)], [(0, .own 1 (out.map A6))], 1⟩)
    (fun (i, fr, out) => Fe c s i fr out ∨ (i = s.length + 1 ∧ out = Aj c s)) (fun x => s.length + 2 - x.1) (0, 0, []) ?_ (.inl (Fe.zero c s)) ?_
  · (refine ⟨?_, ?_, rfl⟩ <;> repeat' (first | exact rfl | exact trivial | refine ⟨?_, ?_⟩ | fail) <;> (conv => whnf))
  rintro ⟨i, fr, out⟩ hI
  (conv => whnf); refine ⟨fun h1 => ?_, fun h1 => ?_⟩
  · have h1 : i ≤ s.length := by simpa using h1
    have hI : Fe c s i fr out := by
      rcases hI with h | h
      · exact h
      · omega
    have hle := hI.le
    have hlen := hI.len
    repeat ((conv => whnf); refine ⟨fun h => h, ?_⟩)
    conv => whnf
    rcases Nat.lt_or_ge i s.length with hi | hi
    · obtain ⟨b, hb⟩ := B7 hi
      refine ⟨b, fun _ => ⟨Int.natCast_nonneg _, hb⟩, ?_⟩
      repeat ((conv => whnf); refine ⟨fun h => h, ?_⟩)
      (conv => whnf); refine ⟨fun h2 => ?_, fun h2 => ?_⟩
      · have h2 : b = c := by
          have h2 : ((i : Int) == (s.length : Int) || ((b.toNat : Int) == (c.toNat : Int))) = true := h2
          rcases Bool.or_eq_true _ _ ▸ h2 with h | h
          · simp at h; omega
          · exact B2w.1 h
        repeat ((conv => whnf); first | refine ⟨_, w64 (bb), ?_⟩ | refine ⟨fun _ => ⟨bb, bb, bb⟩, ?_⟩ | refine ⟨bb, ?_⟩ | refine ⟨fun (r : List AV) hr c hc => by simp [A6] at hr; (try subst hr); simp at hc; (try subst hc); rfl, ?_⟩)
        refine C5 (i + 1, i + 1, _) ?_ (.inl (hI.hit hb h2)) (by first | omega | (simp; done) | (simp; omega))
        (refine ⟨?_, ?_, rfl⟩ <;> repeat' (first | exact rfl | exact trivial | refine ⟨?_, ?_⟩ | fail) <;> (conv => whnf))
        all_goals simp [A6]
      · have h2 : b ≠ c := by
          have h2 : ((i : Int) == (s.length : Int) || ((b.toNat : Int) == (c.toNat : Int))) = false := h2
          simp at h2
          exact fun e => h2.2 (by rw [e])
        conv => whnf
        refine ⟨_, w64 (by omega), ?_⟩
        conv => whnf
        refine C5 (i + 1, fr, out) ?_ (.inl (hI.pass hb h2)) (by first | omega | (simp; done) | (simp; omega))
        (refine ⟨?_, ?_, rfl⟩ <;> repeat' (first | exact rfl | exact trivial | refine ⟨?_, ?_⟩ | fail) <;> (conv => whnf))
    · have e : i = s.length := by omega
      subst e
      refine ⟨0, fun h => by simp [Cn] at h, ?_⟩
      repeat ((conv => whnf); refine ⟨fun h => h, ?_⟩)
      (conv => whnf); refine ⟨fun h2 => ?_, fun h2 => ?_⟩
      · repeat ((conv => whnf); first | refine ⟨_, w64 (bb), ?_⟩ | refine ⟨fun _ => ⟨bb, bb, bb⟩, ?_⟩ | refine ⟨bb, ?_⟩ | refine ⟨fun (r : List AV) hr c hc => by simp [A6] at hr; (try subst hr); simp at hc; (try subst hc); rfl, ?_⟩)
        refine C5 (s.length + 1, s.length + 1, _) ?_ (.inr ⟨rfl, hI.fin.symm⟩) (by first | omega | (simp; done) | (simp; omega))
        (refine ⟨?_, ?_, rfl⟩ <;> repeat' (first | exact rfl | exact trivial | refine ⟨?_, ?_⟩ | fail) <;> (conv => whnf))
        all_goals simp [A6]
      · simp at h2
  · have h1 : s.length < i := by simpa using h1
    have hI : out = Aj c s := by
      rcases hI with h | h
      · have := h.il; omega
      · exact h.2
    conv => whnf
    exact ⟨trivial, Y2 (by simp [hI])⟩
theorem Tz : Ay Tryz.prog 117 Gk := Aq (Ch _ _) FOk.nil mixed Tryz.func117 rfl Tryz.call117 (by decide) (by kernel_rfl) A7l (by intro _ (y : (Str × UInt8)) _; exact ⟨by simp [Gk, con, Aa, A8, AV.noRd, A7, Ab, A5, A6], by simp [Gk, con, Aa, A8, AV.noRd, A7, Ab, A5, A6]⟩) (by intro (y : (Str × UInt8)) _; first | (simp [Gk, con, Aa, A8, Ag, AV.free, A2, A3, A1, A6]; done) | (obtain ⟨_, _⟩ := y; simp [Gk, con, Aa, A8, Ag, AV.free, A2, A3, A1, A6]; done) | (obtain ⟨_, _, _⟩ := y; simp [Gk, con, Aa, A8, Ag, AV.free, A2, A3, A1, A6]; done))
noncomputable def Ht : Bp := con [mC, mC] false (Str × UInt8) (fun x => [.str x.1, .int .u8 x.2.toNat]) (fun x => sml x.1.length) (fun x => .own 1 ((Aj x.2 x.1).map A6))
noncomputable def A8y : Env := ⟨A4 Bc, A4 [], [0, 1, 4, 5, 6, 7, 12, 19]⟩
set_option maxRecDepth 100000 in
set_option maxHeartbeats 4000000 in
theorem A98 : Bd A8y (Az Tryz.f90) Tryz.f90.results.toList Ht := by
  rintro ⟨s, c⟩ hs
  have hs : s.length ≤ 4194304 := hs
  refine ⟨trivial, ?_⟩
  conv => whnf
  refine B2 (fun ((i, fr, out) : Nat × Nat × List Str) => ⟨[(0, ⟨none, .str s⟩), (1, ⟨none, .int .u8 c.toNat⟩), (5, ⟨none, .view 0 [] 0 (out.map A6).length⟩), (6, ⟨none, .int .i64 fr⟩), (7, ⟨none, .int .i64 i⟩)], [(0, .own 1 (out.map A6))], 1⟩)
    (fun (i, fr, out) => Fe c s i fr out) (fun x => s.length - x.1) (0, 0, []) ?_ (Fe.zero c s) ?_
  · (refine ⟨?_, ?_, rfl⟩ <;> repeat' (first | exact rfl | exact trivial | refine ⟨?_, ?_⟩ | fail) <;> (conv => whnf))
  rintro ⟨i, fr, out⟩ hI
  have hI : Fe c s i fr out := hI
  have hle := hI.le
  have hlen := hI.len
  have hil := hI.il
  (conv => whnf); refine ⟨fun h1 => ?_, fun h1 => ?_⟩
  · have h1 : i < s.length := by simpa using h1
    obtain ⟨b, hb⟩ := B7 h1
    conv => whnf
    refine ⟨b, fun _ => ⟨Int.natCast_nonneg _, hb⟩, ?_⟩
    (conv => whnf); refine ⟨fun h2 => ?_, fun h2 => ?_⟩
    · have h2 : b = c := B2w.1 h2
      repeat ((conv => whnf); first | refine ⟨_, w64 (bb), ?_⟩ | refine ⟨fun _ => ⟨bb, bb, bb⟩, ?_⟩ | refine ⟨bb, ?_⟩ | refine ⟨fun (r : List AV) hr c hc => by simp [A6] at hr; (try subst hr); simp at hc; (try subst hc); rfl, ?_⟩)
      refine C5 (i + 1, i + 1, _) ?_ (hI.hit hb h2) (by first | omega | (simp; done) | (simp; omega))
      (refine ⟨?_, ?_, rfl⟩ <;> repeat' (first | exact rfl | exact trivial | refine ⟨?_, ?_⟩ | fail) <;> (conv => whnf))
      all_goals simp [A6]
    · have h2 : b ≠ c := fun e => by rw [B2w.2 e] at h2; cases h2
      repeat ((conv => whnf); refine ⟨_, w64 (bb), ?_⟩)
      refine C5 (i + 1, fr, out) ?_ (hI.pass hb h2) (by first | omega | (simp; done) | (simp; omega))
      (refine ⟨?_, ?_, rfl⟩ <;> repeat' (first | exact rfl | exact trivial | refine ⟨?_, ?_⟩ | fail) <;> (conv => whnf))
  · have h1 : i = s.length := by
      have : ¬ i < s.length := by simpa using h1
      omega
    subst h1
    repeat ((conv => whnf); first | refine ⟨fun _ => ⟨bb, bb, bb⟩, ?_⟩ | refine ⟨bb, ?_⟩ | refine ⟨fun (r : List AV) hr c hc => by simp [A6] at hr; (try subst hr); simp at hc; (try subst hc); rfl, ?_⟩)
    exact ⟨trivial, Y2 (by (try simp only [List.drop_zero, List.take_length, A2s]); simp [hI.fin', A6])⟩
theorem A46 : Ay Tryz.prog 90 Ht := Aq (Ch _ _) FOk.nil mixed Tryz.func90 rfl Tryz.call90 (by decide) (by kernel_rfl) A98 (by intro _ (y : (Str × UInt8)) _; exact ⟨by simp [Ht, con, Aa, A8, AV.noRd, A7, Ab, A5, A6], by simp [Ht, con, Aa, A8, AV.noRd, A7, Ab, A5, A6]⟩) (by intro (y : (Str × UInt8)) _; first | (simp [Ht, con, Aa, A8, Ag, AV.free, A2, A3, A1, A6]; done) | (obtain ⟨_, _⟩ := y; simp [Ht, con, Aa, A8, Ag, AV.free, A2, A3, A1, A6]; done) | (obtain ⟨_, _, _⟩ := y; simp [Ht, con, Aa, A8, Ag, AV.free, A2, A3, A1, A6]; done))
end Go.GH


set_option linter.unusedVariables false
set_option linter.unusedSimpArgs false
namespace Go.GH
open Go Go.Proofs
noncomputable def Cu : Bp := con [mC] true Str A6 (fun s => sml s.length) (fun s => .bool (Aw s))
noncomputable def A51 : Env := ⟨A4 Bc, A4 [(76, Co), (117, Gk), (118, Fv)], [0, 2, 3, 4, 6, 18, 22, 30]⟩
set_option maxRecDepth 100000 in
set_option maxHeartbeats 4000000 in
theorem A3s : Bd A51 (Az Tryz.f75) Tryz.f75.results.toList Cu := by
  intro (s : Str) hs
  have hs : s.length ≤ 4194304 := hs
  refine ⟨trivial, ?_⟩
  (conv => whnf); refine ⟨fun h1 => ?_, fun h1 => ?_⟩
  · conv => whnf
    exact ⟨trivial, eqB (by have h1 : (s == sl) = true := h1; simp [Aw, h1])⟩
  have h1 : (s == sl) = false := h1
  conv => whnf
  refine ⟨(s, 47), rfl, fun _ => hs, ?_⟩
  conv => whnf
  have hq := P2 (c := 47) s
  have hp := Pm 47 s
  have hd : Aw s = (inB (Aj 47 s).length 2 5 && ((Aj 47 s).headD [] == []) && ((Aj 47 s).drop 1).all Cx) := by simp [Aw, h1]
  refine ⟨((Aj 47 s).length, 2, 5), by (try simp only [List.length_map]); rfl, fun _ => trivial, ?_⟩
  obtain ⟨a, ha⟩ := B7 hp
  have hh : (Aj 47 s).headD [] = a := by
    cases hx : Aj 47 s with
    | nil => rw [hx] at ha; cases ha
    | cons y r => rw [hx] at ha; simpa using ha
  rw [hh] at hd
  repeat ((conv => whnf); first | refine ⟨fun h => h, ?_⟩ | refine ⟨bb, ?_⟩ | refine ⟨A6 a, fun _ => Am ha, ?_⟩)
  (conv => whnf); refine ⟨fun h2 => ?_, fun h2 => ?_⟩
  · conv => whnf
    exact ⟨trivial, eqB (by
      have h2 : ((!inB (Aj 47 s).length 2 5) || !(a == [])) = true := h2
      rw [hd]
      revert h2
      cases inB (Aj 47 s).length 2 5 <;> cases (a == []) <;> simp)⟩
  have h2 : inB (Aj 47 s).length 2 5 = true ∧ (a == []) = true := by
    have h2 : ((!inB (Aj 47 s).length 2 5) || !(a == [])) = false := h2
    revert h2
    cases inB (Aj 47 s).length 2 5 <;> cases (a == []) <;> simp
  rw [h2.1, h2.2, Bool.true_and, Bool.true_and] at hd
  conv => whnf
  refine B2 (fun i : Nat => ⟨[(3, ⟨none, .view 0 [] 0 ((Aj 47 s).map A6).length⟩), (4, ⟨none, .int .i64 i⟩)], [(0, .own 1 ((Aj 47 s).map A6))], 1⟩)
    (fun i => 1 ≤ i ∧ i ≤ (Aj 47 s).length ∧ (((Aj 47 s).take i).drop 1).all Cx = true) (fun i => (Aj 47 s).length - i) 1 ?_ ⟨by omega, hp, by
      have : ((Aj 47 s).take 1).drop 1 = [] := by rw [List.drop_eq_nil_iff]; simp; omega
      rw [this]; rfl⟩ ?_
  · (refine ⟨?_, ?_, rfl⟩ <;> repeat' (first | exact rfl | exact trivial | refine ⟨?_, ?_⟩ | fail) <;> (conv => whnf))
  rintro i ⟨hi1, hi, hI⟩
  (conv => whnf); refine ⟨fun h3 => ?_, fun h3 => ?_⟩
  · have h3 : i < (Aj 47 s).length := by simpa using h3
    obtain ⟨b, hb⟩ := B7 h3
    repeat ((conv => whnf); first | refine ⟨bb, ?_⟩ | refine ⟨A6 b, fun _ => by simp [hb], ?_⟩)
    conv => whnf
    refine ⟨b, rfl, fun _ => ?_, ?_⟩
    · have := Mi s b (List.mem_of_getElem? hb)
      show b.length ≤ 4611686018427387904
      omega
    (conv => whnf); refine ⟨fun h4 => ?_, fun h4 => ?_⟩
    · conv => whnf
      exact ⟨trivial, eqB (by
        have h4 : (!Cx b) = true := h4
        rw [hd]
        refine (List.all_eq_false.2 ⟨b, ?_, by simpa using h4⟩).symm
        have : ((Aj 47 s).drop 1)[i - 1]? = some b := by rw [List.getElem?_drop, show 1 + (i - 1) = i by omega, hb]
        exact List.mem_of_getElem? this)⟩
    · repeat ((conv => whnf); refine ⟨_, w64 (bb), ?_⟩)
      refine C5 (i + 1) ?_ ⟨by omega, h3, ?_⟩ (by first | omega | (simp; done) | (simp; omega))
      · (refine ⟨?_, ?_, rfl⟩ <;> repeat' (first | exact rfl | exact trivial | refine ⟨?_, ?_⟩ | fail) <;> (conv => whnf))
      · have h4 : (!Cx b) = false := h4
        rw [B37 hi1 hb, List.all_append, hI]; simpa using h4
  · have h3 : i = (Aj 47 s).length := by
      have : ¬ i < (Aj 47 s).length := by simpa using h3
      omega
    subst h3
    rw [List.take_length] at hI
    conv => whnf
    exact ⟨trivial, eqB (by rw [hd, hI])⟩
theorem G4 : Ay Tryz.prog 75 Cu := Aq (Ch _ _) (FOk.cons E1 (FOk.cons Tz (FOk.cons T5 FOk.nil))) mixed Tryz.func75 rfl Tryz.call75 (by decide) (by kernel_rfl) A3s (by intro _ (y : Str) _; exact ⟨by simp [Cu, con, Aa, A8, AV.noRd, A7, Ab, A5, A6], by simp [Cu, con, Aa, A8, AV.noRd, A7, Ab, A5, A6]⟩) (by intro (y : Str) _; first | (simp [Cu, con, Aa, A8, Ag, AV.free, A2, A3, A1, A6]; done) | (obtain ⟨_, _⟩ := y; simp [Cu, con, Aa, A8, Ag, AV.free, A2, A3, A1, A6]; done) | (obtain ⟨_, _, _⟩ := y; simp [Cu, con, Aa, A8, Ag, AV.free, A2, A3, A1, A6]; done))
noncomputable def Es : Bp := con [mS 1] false (List Str) (fun l => [.rd 1 (l.map A6)]) (fun l => sml l.length) (fun l => .own 1 (l.map A6))
noncomputable def A57 : Env := ⟨A4 Bc, A4 [], [0, 2]⟩
set_option maxRecDepth 100000 in
set_option maxHeartbeats 4000000 in
theorem A44 : Bd A57 (Az Tryz.f130) Tryz.f130.results.toList Es := by
  intro (l : List Str) hs
  have hs : l.length ≤ 4194304 := hs
  refine ⟨trivial, ?_⟩
  repeat ((conv => whnf); refine ⟨bb, ?_⟩)
  exact ⟨trivial, Y2 (by (try simp only [List.drop_zero, List.take_length, A2s]); simp)⟩
theorem Nf : Ay Tryz.prog 130 Es := Aq (Ch _ _) FOk.nil mixed Tryz.func130 rfl Tryz.call130 (by decide) (by kernel_rfl) A44 (by intro _ (y : (List Str)) _; exact ⟨by simp [Es, con, Aa, A8, AV.noRd, A7, Ab, A5, A6], by simp [Es, con, Aa, A8, AV.noRd, A7, Ab, A5, A6]⟩) (by intro (y : (List Str)) _; first | (simp [Es, con, Aa, A8, Ag, AV.free, A2, A3, A1, A6]; done) | (obtain ⟨_, _⟩ := y; simp [Es, con, Aa, A8, Ag, AV.free, A2, A3, A1, A6]; done) | (obtain ⟨_, _, _⟩ := y; simp [Es, con, Aa, A8, Ag, AV.free, A2, A3, A1, A6]; done))
noncomputable def E0 : Bp := con [mC] false Str A6 (fun l => sml l.length) (fun l => .own 1 ((names l).map A6))
noncomputable def A94 : Env := ⟨A4 Bc, A4 [(75, Cu), (117, Gk), (130, Es)], [0, 2, 9]⟩
set_option maxRecDepth 100000 in
set_option maxHeartbeats 4000000 in
theorem A9k : Bd A94 (Az Tryz.f85) Tryz.f85.results.toList E0 := by
  intro (s : Str) hs
  have hs : s.length ≤ 4194304 := hs
  refine ⟨trivial, ?_⟩
  conv => whnf
  refine ⟨s, rfl, fun _ => hs, ?_⟩
  repeat ((conv => whnf); refine ⟨fun h => h, ?_⟩)
  (conv => whnf); refine ⟨fun h1 => ?_, fun h1 => ?_⟩
  · conv => whnf
    exact ⟨trivial, Y2 (by
      have h1 : ((!Aw s) || (s == sl)) = true := h1
      have : names s = [] := by
        rw [names, if_neg]
        revert h1
        cases Aw s <;> cases (s == sl) <;> simp
      rw [this]; rfl)⟩
  have h1 : ((!Aw s) || (s == sl)) = false := h1
  have hd : names s = (Aj 47 s).drop 1 := by
    rw [names, if_pos]
    revert h1
    cases Aw s <;> cases (s == sl) <;> simp
  have hq := P2 (c := 47) s
  have hp := Pm 47 s
  conv => whnf
  refine ⟨(s, 47), rfl, fun _ => hs, ?_⟩
  repeat ((conv => whnf); refine ⟨fun _ => ⟨bb, bb, bb⟩, ?_⟩)
  refine ⟨(Aj 47 s).drop 1, by refine congrArg (fun x => [AV.rd 1 x]) ?_; rw [B6j, List.take_of_length_le (by simp)]; rfl, fun _ => by show _ ≤ _; simp; omega, ?_⟩
  conv => whnf
  exact ⟨trivial, Y2 (by rw [hd]; (try simp only [List.drop_zero, List.take_length, A2s]))⟩
theorem Jw : Ay Tryz.prog 85 E0 := Aq (Ch _ _) (FOk.cons G4 (FOk.cons Tz (FOk.cons Nf FOk.nil))) mixed Tryz.func85 rfl Tryz.call85 (by decide) (by kernel_rfl) A9k (by intro _ (y : Str) _; exact ⟨by simp [E0, con, Aa, A8, AV.noRd, A7, Ab, A5, A6], by simp [E0, con, Aa, A8, AV.noRd, A7, Ab, A5, A6]⟩) (by intro (y : Str) _; first | (simp [E0, con, Aa, A8, Ag, AV.free, A2, A3, A1, A6]; done) | (obtain ⟨_, _⟩ := y; simp [E0, con, Aa, A8, Ag, AV.free, A2, A3, A1, A6]; done) | (obtain ⟨_, _, _⟩ := y; simp [E0, con, Aa, A8, Ag, AV.free, A2, A3, A1, A6]; done))
noncomputable def Fn : Bp := con [mS 1] true (List Str) (fun l => [.rd 1 (l.map A6)]) (fun l => l.length + (l.map List.length).sum < 4194304) (fun l => .str (Dl l))
noncomputable def A5k : Env := ⟨A4 Bc, A4 [(75, Cu), (85, E0)], [0, 2, 3, 4, 8, 20, 31]⟩
set_option maxRecDepth 100000 in
set_option maxHeartbeats 4000000 in
theorem A3d : Bd A5k (Az Tryz.f119) Tryz.f119.results.toList Fn := by
  intro (l : List Str) hs
  have hs : l.length + (l.map List.length).sum < 4194304 := hs
  refine ⟨trivial, ?_⟩
  skip
  refine B2 (fun i : Nat => ⟨[(0, ⟨none, .rd 1 (l.map A6)⟩), (3, ⟨none, .str (cat (l.take i))⟩), (4, ⟨none, .int .i64 i⟩)], [], 0⟩) (fun i => i ≤ l.length) (fun i => l.length - i) 0 ?_ (by omega) ?_
  · (refine ⟨?_, ?_, rfl⟩ <;> repeat' (first | exact rfl | exact trivial | refine ⟨?_, ?_⟩ | fail) <;> (conv => whnf))
  intro i hi
  (conv => whnf); refine ⟨fun h1 => ?_, fun h1 => ?_⟩
  · have h1 : i < l.length := by simpa using h1
    obtain ⟨b, hb⟩ := B7 h1
    have hl : (cat (l.take i)).length + b.length + 1 ≤ 4194304 := by
      have h2 := A25 l (i + 1)
      rw [Bm hb] at h2
      rw [Zh]
      simp at h2 ⊢
      omega
    repeat ((conv => whnf); first | refine ⟨_, w64 (bb), ?_⟩ | refine ⟨bb, ?_⟩ | refine ⟨A6 b, fun _ => ⟨by omega, by simp [hb]⟩, ?_⟩)
    refine C5 (i + 1) ?_ h1 (by first | omega | (simp; done) | (simp; omega))
    · (refine ⟨?_, ?_, rfl⟩ <;> repeat' (first | exact rfl | exact trivial | refine ⟨?_, ?_⟩ | fail) <;> (conv => whnf))
      rw [Bm hb, Ud]
      simp [cat]
  · have h1 : i = l.length := by
      have hi : i ≤ l.length := hi
      have : ¬ i < l.length := by simpa using h1
      omega
    subst h1
    rw [List.take_length]
    have hl := A1x l
    have e : J5 l = if (l.length == 0) = true then sl else cat l := by cases l <;> rfl
    have hps := B1c l
    have hpl : (J5 l).length ≤ 4194304 := by omega
    (conv => whnf); refine ⟨fun h2 => ?_, fun h2 => ?_⟩
    · have h2 : l = [] := by simpa using h2
      have hc : sl = J5 l := by subst h2; rfl
      conv => whnf
      refine ⟨J5 l, by rw [← hc]; rfl, fun _ => hpl, ?_⟩
      (conv => whnf); refine ⟨fun h3 => ?_, fun h3 => ?_⟩
      · have h3 : Aw (J5 l) = true := by
          have h3 : (!!Aw (J5 l)) = true := h3
          simpa using h3
        repeat ((conv => whnf); refine ⟨fun (h : Cn _) => by first | assumption | exact absurd (Eq.trans (Eq.symm h) (by assumption) : true = false) Bool.noConfusion, ?_⟩)
        refine ⟨J5 l, by rw [← hc]; rfl, fun _ => hpl, ?_⟩
        repeat ((conv => whnf); refine ⟨fun h => h, ?_⟩)
        (conv => whnf); refine ⟨fun h4 => ?_, fun h4 => ?_⟩
        · conv => whnf
          exact ⟨trivial, eqS (by
            have h4 : ((!Aw (J5 l)) || !((((names (J5 l)).map A6).length : Int) == ((l.map A6).length : Int))) = true := h4
            rw [hps, if_neg]
            rw [h3] at h4 ⊢
            simp at h4 ⊢; omega)⟩
        · conv => whnf
          exact ⟨trivial, eqS (by
            have h4 : ((!Aw (J5 l)) || !((((names (J5 l)).map A6).length : Int) == ((l.map A6).length : Int))) = false := h4
            rw [hps, if_pos]
            · exact hc
            rw [h3] at h4 ⊢
            simp at h4 ⊢; omega)⟩
      · have h3 : Aw (J5 l) = false := by
          have h3 : (!!Aw (J5 l)) = false := h3
          simpa using h3
        repeat ((conv => whnf); first | refine ⟨fun h => h, ?_⟩ | refine ⟨fun (h : Cn _) => by first | assumption | exact absurd (Eq.trans (Eq.symm h) (by assumption) : true = false) Bool.noConfusion, ?_⟩ | refine ⟨fun h => (absurd (Eq.trans (Eq.symm h) (by assumption) : true = false) Bool.noConfusion : False), ?_⟩)
        (conv => whnf); refine ⟨fun h4 => ?_, fun h4 => ?_⟩
        · conv => whnf
          exact ⟨trivial, eqS (by rw [hps, if_neg]; simp [h3])⟩
        · cases h4
    · have h2 : l ≠ [] := by simpa using h2
      have hc : cat l = J5 l := by rw [e, if_neg]; simpa using h2
      conv => whnf
      refine ⟨J5 l, by rw [← hc]; rfl, fun _ => hpl, ?_⟩
      (conv => whnf); refine ⟨fun h3 => ?_, fun h3 => ?_⟩
      · have h3 : Aw (J5 l) = true := by
          have h3 : (!!Aw (J5 l)) = true := h3
          simpa using h3
        repeat ((conv => whnf); refine ⟨fun (h : Cn _) => by first | assumption | exact absurd (Eq.trans (Eq.symm h) (by assumption) : true = false) Bool.noConfusion, ?_⟩)
        refine ⟨J5 l, by rw [← hc]; rfl, fun _ => hpl, ?_⟩
        repeat ((conv => whnf); refine ⟨fun h => h, ?_⟩)
        (conv => whnf); refine ⟨fun h4 => ?_, fun h4 => ?_⟩
        · conv => whnf
          exact ⟨trivial, eqS (by
            have h4 : ((!Aw (J5 l)) || !((((names (J5 l)).map A6).length : Int) == ((l.map A6).length : Int))) = true := h4
            rw [hps, if_neg]
            rw [h3] at h4 ⊢
            simp at h4 ⊢; omega)⟩
        · conv => whnf
          exact ⟨trivial, eqS (by
            have h4 : ((!Aw (J5 l)) || !((((names (J5 l)).map A6).length : Int) == ((l.map A6).length : Int))) = false := h4
            rw [hps, if_pos]
            · exact hc
            rw [h3] at h4 ⊢
            simp at h4 ⊢; omega)⟩
      · have h3 : Aw (J5 l) = false := by
          have h3 : (!!Aw (J5 l)) = false := h3
          simpa using h3
        repeat ((conv => whnf); first | refine ⟨fun h => h, ?_⟩ | refine ⟨fun (h : Cn _) => by first | assumption | exact absurd (Eq.trans (Eq.symm h) (by assumption) : true = false) Bool.noConfusion, ?_⟩ | refine ⟨fun h => (absurd (Eq.trans (Eq.symm h) (by assumption) : true = false) Bool.noConfusion : False), ?_⟩)
        (conv => whnf); refine ⟨fun h4 => ?_, fun h4 => ?_⟩
        · conv => whnf
          exact ⟨trivial, eqS (by rw [hps, if_neg]; simp [h3])⟩
        · cases h4
theorem Rn : Ay Tryz.prog 119 Fn := Aq (Ch _ _) (FOk.cons G4 (FOk.cons Jw FOk.nil)) mixed Tryz.func119 rfl Tryz.call119 (by decide) (by kernel_rfl) A3d (by intro _ (y : (List Str)) _; exact ⟨by simp [Fn, con, Aa, A8, AV.noRd, A7, Ab, A5, A6], by simp [Fn, con, Aa, A8, AV.noRd, A7, Ab, A5, A6]⟩) (by intro (y : (List Str)) _; first | (simp [Fn, con, Aa, A8, Ag, AV.free, A2, A3, A1, A6]; done) | (obtain ⟨_, _⟩ := y; simp [Fn, con, Aa, A8, Ag, AV.free, A2, A3, A1, A6]; done) | (obtain ⟨_, _, _⟩ := y; simp [Fn, con, Aa, A8, Ag, AV.free, A2, A3, A1, A6]; done))
noncomputable def Hw : Bp := con [mC] true Str A6 (fun l => sml l.length) (fun l => .str (El l))
noncomputable def A88 : Env := ⟨A4 Bc, A4 [(75, Cu), (85, E0), (119, Fn)], [0, 2, 3, 8, 11]⟩
set_option maxRecDepth 100000 in
set_option maxHeartbeats 4000000 in
theorem A91 : Bd A88 (Az Tryz.f77) Tryz.f77.results.toList Hw := by
  intro (s : Str) hs
  have hs : s.length ≤ 4194304 := hs
  refine ⟨trivial, ?_⟩
  conv => whnf
  refine ⟨s, rfl, fun _ => hs, ?_⟩
  conv => whnf
  refine ⟨s, rfl, fun _ => hs, ?_⟩
  (conv => whnf); refine ⟨fun h1 => ?_, fun h1 => ?_⟩
  · have h1 : Aw s = false := by
      have h1 : (!Aw s) = true := h1
      simpa using h1
    conv => whnf
    exact ⟨trivial, eqS (by simp [El, h1])⟩
  have h1 : Aw s = true := by
    have h1 : (!Aw s) = false := h1
    simpa using h1
  have hd : El s = Dl ((names s).take ((names s).length - 1)) := by simp [El, h1]
  (conv => whnf); refine ⟨fun h2 => ?_, fun h2 => ?_⟩
  · have h2 : names s = [] := by simpa using h2
    conv => whnf
    exact ⟨trivial, eqS (by rw [hd, h2]; rfl)⟩
  have h2 : 0 < (names s).length := by
    have : names s ≠ [] := by simpa using h2
    exact List.length_pos_iff.2 this
  have hnl := Hf (p := s)
  have hns := A6q (p := s)
  repeat ((conv => whnf); first | refine ⟨_, w64 (bb), ?_⟩ | refine ⟨fun _ => ⟨bb, bb, bb⟩, ?_⟩)
  refine ⟨(names s).take ((names s).length - 1), by
    refine congrArg (fun x => [AV.rd 1 x]) ?_
    rw [B6j]
    simp only [Int.toNat_natCast, List.drop_zero, List.length_map]
    congr 2
    omega, fun _ => ?_, ?_⟩
  · have := A25 (names s) ((names s).length - 1)
    show _ < _
    rw [List.length_take]
    omega
  conv => whnf
  exact ⟨trivial, eqS hd.symm⟩
theorem A53 : Ay Tryz.prog 77 Hw := Aq (Ch _ _) (FOk.cons G4 (FOk.cons Jw (FOk.cons Rn FOk.nil))) mixed Tryz.func77 rfl Tryz.call77 (by decide) (by kernel_rfl) A91 (by intro _ (y : Str) _; exact ⟨by simp [Hw, con, Aa, A8, AV.noRd, A7, Ab, A5, A6], by simp [Hw, con, Aa, A8, AV.noRd, A7, Ab, A5, A6]⟩) (by intro (y : Str) _; first | (simp [Hw, con, Aa, A8, Ag, AV.free, A2, A3, A1, A6]; done) | (obtain ⟨_, _⟩ := y; simp [Hw, con, Aa, A8, Ag, AV.free, A2, A3, A1, A6]; done) | (obtain ⟨_, _, _⟩ := y; simp [Hw, con, Aa, A8, Ag, AV.free, A2, A3, A1, A6]; done))
end Go.GH


set_option linter.unusedVariables false
set_option linter.unusedSimpArgs false
namespace Go.GH
open Go Go.Proofs
noncomputable def Ei : Bp := con [mS 4, mC] true (Tr × Str) (fun x => [rdT x.1, .str x.2]) (fun x => smT x.1) (fun x => Kr (B8 x.1 x.2))
noncomputable def A12 : Env := ⟨A4 Bc, A4 [], [0, 1, 2, 4, 5, 6, 8, 14, 24]⟩
set_option maxRecDepth 100000 in
set_option maxHeartbeats 4000000 in
theorem A1e : Bd A12 (Az Tryz.f45) Tryz.f45.results.toList Ei := by
  rintro ⟨t, p⟩ hs
  obtain ⟨hs1, hs2⟩ : smT t := hs
  refine ⟨trivial, ?_⟩
  (conv => whnf); refine ⟨fun h1 => ?_, fun h1 => ?_⟩
  · have h1 : (p == sl) = true := h1
    conv => whnf
    rw [show Ei.res (t, p) = .tup [.agg (Ao It.top), .bool true] by show Kr (B8 t p) = _; simp [B8, h1]; rfl]; exact ⟨trivial, ⟨rfl, rfl, rfl, rfl, trivial⟩, rfl, trivial⟩
  have h1 : (p == sl) = false := h1
  skip
  refine B2 (fun i : Nat => ⟨[(1, ⟨none, .str p⟩), (2, ⟨none, .bx 0 0⟩), (4, ⟨none, .bx 1 0⟩), (6, ⟨none, .int .i64 i⟩)], [(1, .own 4 [Ao It.none]), (0, .own 1 [[.rd 4 (t.map Ao)]])], 2⟩)
    (fun i => i ≤ t.length ∧ (t.take i).find? (fun x => x.path == p) = none) (fun i => t.length - i) 0 ?_ ⟨by omega, rfl⟩ ?_
  · (refine ⟨?_, ?_, rfl⟩ <;> repeat' (first | exact rfl | exact trivial | refine ⟨?_, ?_⟩ | fail) <;> (conv => whnf))
  rintro i ⟨hi, hI⟩
  (conv => whnf); refine ⟨fun h2 => ?_, fun h2 => ?_⟩
  · have h2 : i < t.length := by simpa using h2
    obtain ⟨b, hb⟩ := B7 h2
    repeat ((conv => whnf); refine ⟨Ao b, fun _ => ⟨by omega, by simp [hb]⟩, ?_⟩)
    (conv => whnf); refine ⟨fun h3 => ?_, fun h3 => ?_⟩
    · have h3 : (b.path == p) = true := h3
      repeat ((conv => whnf); refine ⟨Ao b, fun _ => ⟨by omega, by simp [hb]⟩, ?_⟩)
      rw [show Ei.res (t, p) = .tup [.agg (Ao b), .bool true] by show Kr (B8 t p) = _; simp [B8, h1, A15 hI hb h3, Kr]]; exact ⟨trivial, ⟨rfl, rfl, rfl, rfl, trivial⟩, rfl, trivial⟩
    · have h3 : (b.path == p) = false := h3
      repeat ((conv => whnf); refine ⟨_, w64 (bb), ?_⟩)
      refine C5 (i + 1) ?_ ⟨h2, A0m hI hb h3⟩ (by first | omega | (simp; done) | (simp; omega))
      (refine ⟨?_, ?_, rfl⟩ <;> repeat' (first | exact rfl | exact trivial | refine ⟨?_, ?_⟩ | fail) <;> (conv => whnf))
  · have h2 : i = t.length := by
      have : ¬ i < t.length := by simpa using h2
      omega
    subst h2
    rw [List.take_length] at hI
    skip
    rw [show Ei.res (t, p) = .tup [.agg (Ao It.none), .bool false] by show Kr (B8 t p) = _; simp [B8, h1, hI, Kr]]; exact ⟨trivial, ⟨rfl, rfl, rfl, rfl, trivial⟩, rfl, trivial⟩
theorem Qv : Ay Tryz.prog 45 Ei := Aq (Ch _ _) FOk.nil mixed Tryz.func45 rfl Tryz.call45 (by decide) (by kernel_rfl) A1e (by intro _ (y : Tr × Str) _; refine ⟨?_, trivial⟩; show AV.noRd (Kr (B8 y.1 y.2)); simp [Kr, AV.noRd, A7, Ao]) (by intro (y : (Tr × Str)) _; first | (simp [Ei, con, Aa, A8, Ag, AV.free, A2, A3, A1, A6, rdT, Ao]; done) | (obtain ⟨_, _⟩ := y; simp [Ei, con, Aa, A8, Ag, AV.free, A2, A3, A1, A6, rdT, Ao]; done) | (obtain ⟨_, _, _⟩ := y; simp [Ei, con, Aa, A8, Ag, AV.free, A2, A3, A1, A6, rdT, Ao]; done))
noncomputable def Gq : Bp := con [mS 4] true Tr (fun t => [rdT t]) smT (fun t => .bool (C8 t))
noncomputable def A3o : Env := ⟨A4 Bc, A4 [(45, Ei), (75, Cu), (76, Co), (77, Hw)], [0, 1, 2, 3, 4, 5, 6, 10, 15, 65, 78, 93]⟩
set_option maxRecDepth 100000 in
set_option maxHeartbeats 4000000 in
theorem A5t : Bd A3o (Az Tryz.f38) Tryz.f38.results.toList Gq := by
  intro (t : Tr) hs
  obtain ⟨hs1, hs2⟩ : smT t := hs
  refine ⟨trivial, ?_⟩
  (conv => whnf); refine ⟨fun h1 => ?_, fun h1 => ?_⟩
  · conv => whnf
    exact ⟨trivial, eqB (by have h1 : ¬ t.length ≤ 40 := by simp at h1; omega
                            simp [C8, h1])⟩
  have h1 : t.length ≤ 40 := by simp at h1; omega
  skip
  refine B2 (fun i : Nat => ⟨[(1, ⟨none, .bx 0 0⟩), (3, ⟨none, .int .i64 i⟩)], [(0, .own 1 [[.rd 4 (t.map Ao)]])], 1⟩)
    (fun i => i ≤ t.length ∧ ∀ j, j < i → chk t j = true) (fun i => t.length - i) 0 ?_ ⟨by omega, fun j hj => by omega⟩ ?_
  · (refine ⟨?_, ?_, rfl⟩ <;> repeat' (first | exact rfl | exact trivial | refine ⟨?_, ?_⟩ | fail) <;> (conv => whnf))
  rintro i ⟨hi, hI⟩
  (conv => whnf); refine ⟨fun h2 => ?_, fun h2 => ?_⟩
  · have h2 : i < t.length := by simpa using h2
    obtain ⟨b, hb⟩ := B7 h2
    have hbs := hs2 b (List.mem_of_getElem? hb)
    have hbad : ∀ {q : Bool}, chk t i = q → q = false → C8 t = false := fun h e => A0t h2 (h.trans e)
    repeat ((conv => whnf); refine ⟨Ao b, fun _ => ⟨by omega, by simp [hb]⟩, ?_⟩)
    conv => whnf
    refine ⟨b.path, rfl, fun _ => hbs.1, ?_⟩
    generalize hpv : t.getD (i - 1) It.none = pv
    have hprev : 0 < i → t[i - 1]? = some pv := fun h => by
      rw [← hpv, List.getD_eq_getElem?_getD, List.getElem?_eq_getElem (by omega)]; rfl
    have hix : ∀ {A : Bool}, Cn (some (A && decide ((i : Int) > 0))) → (0 : Int) ≤ (i : Int) - 1 ∧ (t.map Ao)[((i : Int) - 1).toNat]? = some (Ao pv) := by
      intro A h
      have hi0 : 0 < i := by simp [Cn] at h; omega
      exact ⟨by omega, by rw [show ((i : Int) - 1).toNat = i - 1 by omega]; exact Am (hprev hi0)⟩
    repeat ((conv => whnf); first | refine ⟨fun h => h, ?_⟩ | refine ⟨(by kernel_rfl : C6 _ _ = true), ?_⟩ | refine ⟨_, w64 (bb), ?_⟩ | refine ⟨Ao pv, fun h => hix h, ?_⟩ | refine ⟨(_, _, _), rfl, fun _ => trivial, ?_⟩)
    (conv => whnf); refine ⟨fun h3 => ?_, fun h3 => ?_⟩
    · conv => whnf
      exact ⟨trivial, eqB (hbad (B79 hb hpv h3) rfl).symm⟩
    have h3 : B7f i b pv = false := h3
    repeat ((conv => whnf); refine ⟨fun h => h, ?_⟩)
    (conv => whnf); refine ⟨fun h4 => ?_, fun h4 => ?_⟩
    · conv => whnf
      exact ⟨trivial, eqB (hbad (B6d hb h4) rfl).symm⟩
    have h4 : B6t b = false := h4
    conv => whnf
    refine ⟨b.path, rfl, fun _ => hbs.1, ?_⟩
    conv => whnf
    refine ⟨(t, El b.path), rfl, fun _ => ⟨hs1, hs2⟩, ?_⟩
    repeat ((conv => whnf); first | refine ⟨fun h => h, ?_⟩ | refine ⟨(by kernel_rfl : C6 _ _ = true), ?_⟩)
    (conv => whnf); refine ⟨fun h5 => ?_, fun h5 => ?_⟩
    · conv => whnf
      exact ⟨trivial, eqB (hbad (B27 hb (by
        have h5 : (!(B8 t (El b.path)).isSome || ((B8 t (El b.path)).getD It.none).kind != 2) = true := h5
        unfold Nv
        revert h5
        cases (B8 t (El b.path)).isSome <;> simp)) rfl).symm⟩
    have h5 : Nv t (El b.path) = true := by
      have h5 : (!(B8 t (El b.path)).isSome || ((B8 t (El b.path)).getD It.none).kind != 2) = false := h5
      unfold Nv
      revert h5
      cases (B8 t (El b.path)).isSome <;> simp
    repeat ((conv => whnf); refine ⟨_, w64 (bb), ?_⟩)
    refine C5 (i + 1) ?_ ⟨h2, fun j hj => ?_⟩ (by first | omega | (simp; done) | (simp; omega))
    · (refine ⟨?_, ?_, rfl⟩ <;> repeat' (first | exact rfl | exact trivial | refine ⟨?_, ?_⟩ | fail) <;> (conv => whnf))
    · rcases Nat.lt_or_ge j i with h | h
      · exact hI j h
      · rw [show j = i by omega]; exact B7a hb hpv h3 h4 h5
  · have h2 : i = t.length := by
      have : ¬ i < t.length := by simpa using h2
      omega
    subst h2
    conv => whnf
    exact ⟨trivial, eqB (Xs h1 hI).symm⟩
theorem Zv : Ay Tryz.prog 38 Gq := Aq (Ch _ _) (FOk.cons Qv (FOk.cons G4 (FOk.cons E1 (FOk.cons A53 FOk.nil)))) mixed Tryz.func38 rfl Tryz.call38 (by decide) (by kernel_rfl) A5t (by intro _ (y : Tr) _; exact ⟨by simp [Gq, con, Aa, A8, AV.noRd, A7, Ab, A5, A6], by simp [Gq, con, Aa, A8, AV.noRd, A7, Ab, A5, A6]⟩) (by intro (y : Tr) _; first | (simp [Gq, con, Aa, A8, Ag, AV.free, A2, A3, A1, A6, rdT, Ao]; done) | (obtain ⟨_, _⟩ := y; simp [Gq, con, Aa, A8, Ag, AV.free, A2, A3, A1, A6, rdT, Ao]; done) | (obtain ⟨_, _, _⟩ := y; simp [Gq, con, Aa, A8, Ag, AV.free, A2, A3, A1, A6, rdT, Ao]; done))
end Go.GH


namespace Go.Proofs
open Go.Shelf
def Tryz.lays156_ren : Go.Shelf.Ren := ⟨fun | 156 => 95 | 165 => 132 | 166 => 133 | 169 => 134 | 240 => 172 | 241 => 173 | 276 => 195 | 277 => 196 | n => n, fun | 31 => 36 | 9 => 9 | 3 => 3 | 4 => 4 | 0 => 0 | 20 => 20 | 72 => 140 | 76 => 144 | 70 => 138 | 37 => 22 | 75 => 143 | 127 => 189 | 164 => 207 | 5 => 5 | 80 => 146 | n => n, fun | n => n⟩
theorem Tryz.lays156 : Go.Proofs.Lays.n156 Tryz.prog Tryz.lays156_ren := {
  mixed := by kernel_rfl
  f156 := Tryz.func95.trans (congrArg some (by kernel_rfl))
  f165 := Tryz.func132.trans (congrArg some (by kernel_rfl))
  f166 := Tryz.func133.trans (congrArg some (by kernel_rfl))
  f169 := Tryz.func134.trans (congrArg some (by kernel_rfl))
  f240 := Tryz.func172.trans (congrArg some (by kernel_rfl))
  f241 := Tryz.func173.trans (congrArg some (by kernel_rfl))
  f276 := Tryz.func195.trans (congrArg some (by kernel_rfl))
  f277 := Tryz.func196.trans (congrArg some (by kernel_rfl))
  t0 := Tryz.underlying0
  a0 := Tryz.isAgg0
  z0 := Tryz.sizeOf0
  v0 := Tryz.zeroValue0
  t3 := Tryz.underlying3
  a3 := Tryz.isAgg3
  z3 := Tryz.sizeOf3
  v3 := Tryz.zeroValue3
  t4 := Tryz.underlying4
  a4 := Tryz.isAgg4
  z4 := Tryz.sizeOf4
  v4 := Tryz.zeroValue4
  t9 := Tryz.underlying9
  a9 := Tryz.isAgg9
  z9 := Tryz.sizeOf9
  v9 := Tryz.zeroValue9
  t20 := Tryz.underlying20
  a20 := Tryz.isAgg20
  z20 := Tryz.sizeOf20
  v20 := Tryz.zeroValue20
  t31 := Tryz.underlying36
  a31 := Tryz.isAgg36
  z31 := Tryz.sizeOf36
  v31 := Tryz.zeroValue36
  t37 := Tryz.underlying22
  a37 := Tryz.isAgg22
  z37 := Tryz.sizeOf22
  v37 := Tryz.zeroValue22
  t70 := Tryz.underlying138
  a70 := Tryz.isAgg138
  z70 := Tryz.sizeOf138
  v70 := Tryz.zeroValue138
  t72 := Tryz.underlying140
  a72 := Tryz.isAgg140
  z72 := Tryz.sizeOf140
  v72 := Tryz.zeroValue140
  t75 := Tryz.underlying143
  a75 := Tryz.isAgg143
  z75 := Tryz.sizeOf143
  v75 := Tryz.zeroValue143
  t76 := Tryz.underlying144
  a76 := Tryz.isAgg144
  z76 := Tryz.sizeOf144
  v76 := Tryz.zeroValue144
  t127 := Tryz.underlying189
  a127 := Tryz.isAgg189
  z127 := Tryz.sizeOf189
  v127 := Tryz.zeroValue189
  t164 := Tryz.underlying207
  a164 := Tryz.isAgg207
  z164 := Tryz.sizeOf207
  v164 := Tryz.zeroValue207 }
theorem Tryz.Builder_Extra_156 : Builder.Extra Tryz.prog Tryz.lays156_ren := {
  sizeBuilder := by kernel_rfl
  liesBuilder := by kernel_rfl
  t5 := Tryz.underlying5
  a5 := Tryz.isAgg5
  z5 := Tryz.sizeOf5
  v5 := Tryz.zeroValue5
  infoByte := by kernel_rfl
  cellsByte := by kernel_rfl
  sizeByte := by kernel_rfl
  neB5 := by decide }
open Go.RowKit in
theorem Tryz.strings_Join_none (a : Option Addr) (c : Nat) (sep : ByteArray) (w : World) :
    Calls Tryz.prog 95 #[.slice a 0 c, .string sep] w fun e w' => e = .returned (.string ⟨#[]⟩) ∧ w' = w := Any.strings_Join_none Tryz.lays156 Tryz.Builder_Extra_156 a c sep w
open Go.RowKit in
theorem Tryz.strings_Join (bk o c : Nat) (xs : List ByteArray) (sep : ByteArray) (w : World) (hcells : ∀ (j : Nat) x, xs[j]? = some x → w.cell? ⟨bk, o + j, none⟩ = some (.string x)) (hbk : bk < w.heap.size) (hN : xs.length ≤ 140737488355328) (hcap : xs.length ≤ c) (hlen : (Lib.join (xs.map (·.data.toList)) sep.data.toList).length ≤ 140737488355328) :
    Calls Tryz.prog 95 #[.slice (some ⟨bk, o, none⟩) xs.length c, .string sep] w fun e w' => e = .returned (.string ⟨(Lib.join (xs.map (·.data.toList)) sep.data.toList).toArray⟩) ∧ Below w.heap.size w w' := Any.strings_Join Tryz.lays156 Tryz.Builder_Extra_156 bk o c xs sep w hcells hbk hN hcap hlen
def Tryz.lays99_ren : Go.Shelf.Ren := ⟨fun | 99 => 84 | 206 => 129 | n => n, fun | 9 => 9 | 4 => 4 | 3 => 3 | n => n, fun | n => n⟩
theorem Tryz.lays99 : Go.Proofs.Lays.n99 Tryz.prog Tryz.lays99_ren := {
  mixed := by kernel_rfl
  f99 := Tryz.func84.trans (congrArg some (by kernel_rfl))
  f206 := Tryz.func129.trans (congrArg some (by kernel_rfl))
  t3 := Tryz.underlying3
  a3 := Tryz.isAgg3
  z3 := Tryz.sizeOf3
  v3 := Tryz.zeroValue3
  t4 := Tryz.underlying4
  a4 := Tryz.isAgg4
  z4 := Tryz.sizeOf4
  v4 := Tryz.zeroValue4
  t9 := Tryz.underlying9
  a9 := Tryz.isAgg9
  z9 := Tryz.sizeOf9
  v9 := Tryz.zeroValue9 }
open Go.RowKit Go.Lib in
theorem Tryz.strings_HasPrefix (s p : ByteArray) (w : World) :
    Calls Tryz.prog 84 #[.string s, .string p] w fun e w' => e = .returned (.bool (Lib.hasPrefix s.data.toList p.data.toList)) ∧ w' = w := Any.strings_HasPrefix Tryz.lays99 s p w
end Go.Proofs


set_option linter.unusedVariables false
set_option linter.unusedSimpArgs false
namespace Go.GH
open Go Go.Proofs
noncomputable def D7 : Bp := con [mC] true Str A6 (fun s => s.length ≤ 4611686018427387904) (fun s => .bool (!Cx s))
noncomputable def Vw : Env := ⟨A4 Bc, A4 [(94, Fu)], [0, 2]⟩
set_option maxRecDepth 100000 in
set_option maxHeartbeats 4000000 in
theorem Vh : Bd Vw (Az Tryz.f93) Tryz.f93.results.toList D7 := by
  intro (s : Str) hs
  have hs : s.length ≤ 4611686018427387904 := hs
  refine ⟨trivial, ?_⟩
  conv => whnf
  refine ⟨s, rfl, fun _ => hs, ?_⟩
  conv => whnf
  exact ⟨trivial, rfl⟩
theorem Kh : Ay Tryz.prog 93 D7 := Aq (Ch _ _) (FOk.cons Sv FOk.nil) mixed Tryz.func93 rfl Tryz.call93 (by decide) (by kernel_rfl) Vh (by intro _ (y : Str) _; exact ⟨by simp [D7, con, Aa, A8, AV.noRd, A7, Ab, A5, A6], by simp [D7, con, Aa, A8, AV.noRd, A7, Ab, A5, A6]⟩) (by intro (y : Str) _; first | (simp [D7, con, Aa, A8, Ag, AV.free, A2, A3, A1, A6]; done) | (obtain ⟨_, _⟩ := y; simp [D7, con, Aa, A8, Ag, AV.free, A2, A3, A1, A6]; done) | (obtain ⟨_, _, _⟩ := y; simp [D7, con, Aa, A8, Ag, AV.free, A2, A3, A1, A6]; done))
noncomputable def Dq : Bp := con [mC] true Str A6 (fun s => s.length ≤ 4611686018427387904) (fun s => .bool (!Cx s))
noncomputable def Yo : Env := ⟨A4 Bc, A4 [(94, Fu)], [0, 2]⟩
set_option maxRecDepth 100000 in
set_option maxHeartbeats 4000000 in
theorem Ym : Bd Yo (Az Tryz.f96) Tryz.f96.results.toList Dq := by
  intro (s : Str) hs
  have hs : s.length ≤ 4611686018427387904 := hs
  refine ⟨trivial, ?_⟩
  conv => whnf
  refine ⟨s, rfl, fun _ => hs, ?_⟩
  conv => whnf
  exact ⟨trivial, rfl⟩
theorem Lr : Ay Tryz.prog 96 Dq := Aq (Ch _ _) (FOk.cons Sv FOk.nil) mixed Tryz.func96 rfl Tryz.call96 (by decide) (by kernel_rfl) Ym (by intro _ (y : Str) _; exact ⟨by simp [Dq, con, Aa, A8, AV.noRd, A7, Ab, A5, A6], by simp [Dq, con, Aa, A8, AV.noRd, A7, Ab, A5, A6]⟩) (by intro (y : Str) _; first | (simp [Dq, con, Aa, A8, Ag, AV.free, A2, A3, A1, A6]; done) | (obtain ⟨_, _⟩ := y; simp [Dq, con, Aa, A8, Ag, AV.free, A2, A3, A1, A6]; done) | (obtain ⟨_, _, _⟩ := y; simp [Dq, con, Aa, A8, Ag, AV.free, A2, A3, A1, A6]; done))
noncomputable def Ce : Bp := con [mS 1, mC] true (List Str × Bool) (fun x => [.rd 1 (x.1.map A6), .fn (bif x.2 then 93 else 96) []]) (fun x => smL x.1) (fun x => .int .i64 (fnd (fun s => !Cx s) x.1))
noncomputable def O8 : Env := ⟨A4 Bc, A4 [(93, D7), (96, Dq)], [0, 1, 4, 5, 7, 8, 9, 16]⟩
set_option maxRecDepth 100000 in
set_option maxHeartbeats 4000000 in
theorem Oa : Bd O8 (Az Tryz.f131) Tryz.f131.results.toList Ce := by
  rintro ⟨l, q⟩ hs
  obtain ⟨hs1, hs2⟩ : smL l := hs
  cases q with
  | true =>
    refine ⟨trivial, ?_⟩
    conv => whnf
    refine B2 (fun i : Nat => ⟨[(0, ⟨none, .rd 1 (l.map A6)⟩), (1, ⟨none, .fn 93 []⟩), (7, ⟨none, .int .i64 l.length⟩), (8, ⟨none, .int .i64 i⟩)], [], 0⟩)
      (fun i => i ≤ l.length ∧ (l.take i).any (fun s => !Cx s) = false) (fun i => l.length - i) 0 ?_ ⟨by omega, rfl⟩ ?_
    · (refine ⟨?_, ?_, rfl⟩ <;> repeat' (first | exact rfl | exact trivial | refine ⟨?_, ?_⟩ | fail) <;> (conv => whnf))
      all_goals simp
    rintro i ⟨hi, hI⟩
    (conv => whnf); refine ⟨fun h1 => ?_, fun h1 => ?_⟩
    · have h1 : i < l.length := by simpa using h1
      obtain ⟨b, hb⟩ := B7 h1
      have hbs := hs2 b (List.mem_of_getElem? hb)
      repeat ((conv => whnf); refine ⟨A6 b, fun _ => ⟨by omega, by simp [hb]⟩, ?_⟩)
      refine ⟨b, rfl, fun _ => by show _ ≤ _; omega, ?_⟩
      (conv => whnf); refine ⟨fun h2 => ?_, fun h2 => ?_⟩
      · have h2 : (!Cx b) = true := h2
        conv => whnf
        exact ⟨trivial, Ob (Zf hI hb h2).symm⟩
      · have h2 : (!Cx b) = false := h2
        repeat ((conv => whnf); refine ⟨_, w64 (bb), ?_⟩)
        refine C5 (i + 1) ?_ ⟨h1, Lu hI hb h2⟩ (by first | omega | (simp; done) | (simp; omega))
        (refine ⟨?_, ?_, rfl⟩ <;> repeat' (first | exact rfl | exact trivial | refine ⟨?_, ?_⟩ | fail) <;> (conv => whnf))
    · have h1 : i = l.length := by
        have : ¬ i < l.length := by simpa using h1
        omega
      subst h1
      rw [List.take_length] at hI
      conv => whnf
      exact ⟨trivial, Ob (So hI).symm⟩
  | false =>
    refine ⟨trivial, ?_⟩
    conv => whnf
    refine B2 (fun i : Nat => ⟨[(0, ⟨none, .rd 1 (l.map A6)⟩), (1, ⟨none, .fn 96 []⟩), (7, ⟨none, .int .i64 l.length⟩), (8, ⟨none, .int .i64 i⟩)], [], 0⟩)
      (fun i => i ≤ l.length ∧ (l.take i).any (fun s => !Cx s) = false) (fun i => l.length - i) 0 ?_ ⟨by omega, rfl⟩ ?_
    · (refine ⟨?_, ?_, rfl⟩ <;> repeat' (first | exact rfl | exact trivial | refine ⟨?_, ?_⟩ | fail) <;> (conv => whnf))
      all_goals simp
    rintro i ⟨hi, hI⟩
    (conv => whnf); refine ⟨fun h1 => ?_, fun h1 => ?_⟩
    · have h1 : i < l.length := by simpa using h1
      obtain ⟨b, hb⟩ := B7 h1
      have hbs := hs2 b (List.mem_of_getElem? hb)
      repeat ((conv => whnf); refine ⟨A6 b, fun _ => ⟨by omega, by simp [hb]⟩, ?_⟩)
      refine ⟨b, rfl, fun _ => by show _ ≤ _; omega, ?_⟩
      (conv => whnf); refine ⟨fun h2 => ?_, fun h2 => ?_⟩
      · have h2 : (!Cx b) = true := h2
        conv => whnf
        exact ⟨trivial, Ob (Zf hI hb h2).symm⟩
      · have h2 : (!Cx b) = false := h2
        repeat ((conv => whnf); refine ⟨_, w64 (bb), ?_⟩)
        refine C5 (i + 1) ?_ ⟨h1, Lu hI hb h2⟩ (by first | omega | (simp; done) | (simp; omega))
        (refine ⟨?_, ?_, rfl⟩ <;> repeat' (first | exact rfl | exact trivial | refine ⟨?_, ?_⟩ | fail) <;> (conv => whnf))
    · have h1 : i = l.length := by
        have : ¬ i < l.length := by simpa using h1
        omega
      subst h1
      rw [List.take_length] at hI
      conv => whnf
      exact ⟨trivial, Ob (So hI).symm⟩
theorem No : Ay Tryz.prog 131 Ce := Aq (Ch _ _) (FOk.cons Kh (FOk.cons Lr FOk.nil)) mixed Tryz.func131 rfl Tryz.call131 (by decide) (by kernel_rfl) Oa (by intro _ (y : (List Str × Bool)) _; exact ⟨by simp [Ce, con, Aa, A8, AV.noRd, A7, Ab, A5, A6], by simp [Ce, con, Aa, A8, AV.noRd, A7, Ab, A5, A6]⟩) (by intro (y : (List Str × Bool)) _; first | (simp [Ce, con, Aa, A8, Ag, AV.free, A2, A3, A1, A6]; done) | (obtain ⟨_, _⟩ := y; simp [Ce, con, Aa, A8, Ag, AV.free, A2, A3, A1, A6]; done) | (obtain ⟨_, _, _⟩ := y; simp [Ce, con, Aa, A8, Ag, AV.free, A2, A3, A1, A6]; done))
end Go.GH


set_option linter.unusedVariables false
set_option linter.unusedSimpArgs false
namespace Go.GH
open Go Go.Proofs
def Rf : Bp := con [mS 1, mC] true (List Str × Str) (fun x => [.rd 1 (x.1.map A6), .str x.2]) (fun x => (Lib.join x.1 x.2).length ≤ 16777216 ∧ x.1.length ≤ 4194304) (fun x => .str (Lib.join x.1 x.2))
theorem Yz : Ay Tryz.prog 95 Rf := by
  refine Vb rfl (fun _ => rfl) (fun _ => rfl) (fun _ => rfl) (fun x _ => ⟨A1.2 fun _ _ => ⟨trivial, trivial⟩, trivial, trivial⟩) Tryz.call95 ?_
  rintro ⟨l, p⟩ hpre y w args ρ hw hR hsz hs
  obtain ⟨hp1, hp2⟩ : (Lib.join l p).length ≤ 16777216 ∧ l.length ≤ 4194304 := hpre
  have h0 := hs 0 _ rfl
  have h1 := Hk (hs 1 _ rfl)
  obtain ⟨a, cap, e0, hcap, hcell⟩ := B8l h0 hw
  have hsz : args.size = 2 := hsz
  have ha : args = #[.slice a l.length cap, .string (toB p)] := by
    apply Array.ext
    · simp [hsz]
    · intro i hi1 hi2
      have : i = 0 ∨ i = 1 := by omega
      rcases this with rfl | rfl
      · rw [Array.getD_eq_getD_getElem?, Array.getElem?_eq_getElem hi1] at e0; simpa using e0
      · rw [Array.getD_eq_getD_getElem?, Array.getElem?_eq_getElem hi1] at h1; simpa [Da, toB] using h1
  rw [ha]
  cases l with
  | nil =>
    refine (Tryz.strings_Join_none a cap (toB p) w).mono ?_
    rintro e w' ⟨rfl, rfl⟩
    exact ⟨rfl, RowKit.Below.refl _ _⟩
  | cons x r =>
    obtain ⟨b, o, rfl, hb, hc⟩ := hcell (by simp)
    have e : ((x :: r).map toB).map (fun z => z.data.toList) = x :: r := by
      rw [List.map_map]; simp [Function.comp_def, toB]
    have hJ := Tryz.strings_Join b o cap ((x :: r).map toB) (toB p) w (fun j z hz => by
      rw [List.getElem?_map] at hz
      cases hq : (x :: r)[j]? with
      | none => rw [hq] at hz; cases hz
      | some s0 =>
        rw [hq] at hz
        simp only [Option.map_some, Option.some.injEq] at hz
        subst hz
        exact hc j s0 hq) (hR b hb) (by simp at hp2 ⊢; omega) (by simpa using hcap) (by
          rw [e]; simp only [toB]; omega)
    rw [e] at hJ
    rw [List.length_map] at hJ
    exact hJ
noncomputable def Bq : Bp := con [mS 1, mC] true (List Str × Bool) (fun x => [.rd 1 (x.1.map A6), .fn (bif x.2 then 93 else 96) []]) (fun x => smL x.1) (fun x => .bool (x.1.any fun s => !Cx s))
noncomputable def Mo : Env := ⟨A4 Bc, A4 [(131, Ce), (93, D7), (96, Dq)], [0, 1, 4]⟩
set_option maxRecDepth 100000 in
set_option maxHeartbeats 4000000 in
theorem Mr : Bd Mo (Az Tryz.f92) Tryz.f92.results.toList Bq := by
  rintro ⟨l, q⟩ hs
  refine ⟨trivial, ?_⟩
  cases q with
  | true =>
    conv => whnf
    refine ⟨(l, true), rfl, fun _ => hs, ?_⟩
    conv => whnf
    exact ⟨trivial, eqB Vx⟩
  | false =>
    conv => whnf
    refine ⟨(l, false), rfl, fun _ => hs, ?_⟩
    conv => whnf
    exact ⟨trivial, eqB Vx⟩
theorem Ii : Ay Tryz.prog 92 Bq := Aq (Ch _ _) (FOk.cons No (FOk.cons Kh (FOk.cons Lr FOk.nil))) mixed Tryz.func92 rfl Tryz.call92 (by decide) (by kernel_rfl) Mr (by intro _ (y : (List Str × Bool)) _; exact ⟨by simp [Bq, con, Aa, A8, AV.noRd, A7, Ab, A5, A6], by simp [Bq, con, Aa, A8, AV.noRd, A7, Ab, A5, A6]⟩) (by intro (y : (List Str × Bool)) _; first | (simp [Bq, con, Aa, A8, Ag, AV.free, A2, A3, A1, A6]; done) | (obtain ⟨_, _⟩ := y; simp [Bq, con, Aa, A8, Ag, AV.free, A2, A3, A1, A6]; done) | (obtain ⟨_, _, _⟩ := y; simp [Bq, con, Aa, A8, Ag, AV.free, A2, A3, A1, A6]; done))
noncomputable def D9 : Bp := con [mC] false Str A6 (fun s => sml s.length) (fun s => .tup [.own 1 ((names s).map A6), .bool (Aw s)])
noncomputable def Yy : Env := ⟨A4 Bc, A4 [(90, Ht), (91, Ee), (92, Bq), (93, D7)], [0, 2, 3, 4, 6, 18, 21]⟩
set_option maxRecDepth 100000 in
set_option maxHeartbeats 4000000 in
theorem Zb : Bd Yy (Az Tryz.f50) Tryz.f50.results.toList D9 := by
  intro (s : Str) hs
  have hs : s.length ≤ 4194304 := hs
  refine ⟨trivial, ?_⟩
  (conv => whnf); refine ⟨fun h1 => ?_, fun h1 => ?_⟩
  · have h1 : (s == sl) = true := h1
    have hp : Aw s = true := by simp [Aw, h1]
    have hn : names s = [] := by simp [names, h1]
    conv => whnf
    exact ⟨trivial, B71 (by rw [hn]; rfl), eqB hp.symm, trivial⟩
  have h1 : (s == sl) = false := h1
  conv => whnf
  refine ⟨(s, 47), rfl, fun _ => hs, ?_⟩
  conv => whnf
  have hq := P2 (c := 47) s
  have hp := Pm 47 s
  have hd : Aw s = (inB (Aj 47 s).length 2 5 && ((Aj 47 s).headD [] == []) && ((Aj 47 s).drop 1).all Cx) := by simp [Aw, h1]
  have hn : names s = if Aw s then (Aj 47 s).drop 1 else [] := by simp [names, h1]
  obtain ⟨a, ha⟩ := B7 hp
  have hh : (Aj 47 s).headD [] = a := by
    cases hx : Aj 47 s with
    | nil => rw [hx] at ha; cases ha
    | cons y r => rw [hx] at ha; simpa using ha
  rw [hh] at hd
  repeat ((conv => whnf); first | refine ⟨fun h => h, ?_⟩ | refine ⟨bb, ?_⟩ | refine ⟨A6 a, fun _ => Am ha, ?_⟩)
  refine ⟨((Aj 47 s).length, 2, 5), by (try simp only [List.length_map]); rfl, fun _ => trivial, ?_⟩
  repeat ((conv => whnf); refine ⟨fun h => h, ?_⟩)
  (conv => whnf); refine ⟨fun h2 => ?_, fun h2 => ?_⟩
  · have hf : Aw s = false := by
      have h2 : (!(a == []) || (!inB (Aj 47 s).length 2 5)) = true := h2
      rw [hd]
      revert h2
      cases inB (Aj 47 s).length 2 5 <;> cases (a == []) <;> simp
    rw [hf] at hn
    conv => whnf
    exact ⟨trivial, B71 (by rw [hn]; rfl), eqB hf.symm, trivial⟩
  have h2 : inB (Aj 47 s).length 2 5 = true ∧ (a == []) = true := by
    have h2 : (!(a == []) || (!inB (Aj 47 s).length 2 5)) = false := h2
    revert h2
    cases inB (Aj 47 s).length 2 5 <;> cases (a == []) <;> simp
  rw [h2.1, h2.2, Bool.true_and, Bool.true_and] at hd
  repeat ((conv => whnf); refine ⟨fun _ => ⟨bb, bb, bb⟩, ?_⟩)
  refine ⟨((Aj 47 s).drop 1, true), ?_, fun _ => ?_, ?_⟩
  · refine congrArg (fun x => [AV.rd 1 x, AV.fn 93 []]) ?_
    rw [B6j, List.take_of_length_le (by simp)]; rfl
  · refine ⟨by simp; omega, fun x hx => ?_⟩
    have := Mi s x (List.mem_of_mem_drop hx)
    omega
  have hany : ((Aj 47 s).drop 1).any (fun s => !Cx s) = !Aw s := by rw [hd, List.not_all_eq_any_not]
  (conv => whnf); refine ⟨fun h3 => ?_, fun h3 => ?_⟩
  · have h3 : ((Aj 47 s).drop 1).any (fun s => !Cx s) = true := h3
    have hf : Aw s = false := by rw [hany] at h3; simpa using h3
    rw [hf] at hn
    conv => whnf
    exact ⟨trivial, B71 (by rw [hn]; rfl), eqB hf.symm, trivial⟩
  · have h3 : ((Aj 47 s).drop 1).any (fun s => !Cx s) = false := h3
    have hf : Aw s = true := by rw [hany] at h3; simpa using h3
    rw [hf, if_pos rfl] at hn
    repeat ((conv => whnf); refine ⟨fun _ => ⟨bb, bb, bb⟩, ?_⟩)
    refine ⟨trivial, ?_, eqB hf.symm, trivial⟩
    refine Y2 ?_
    rw [hn]
    simp
    rw [List.take_of_length_le (by simp)]
theorem Js : Ay Tryz.prog 50 D9 := Aq (Ch _ _) (FOk.cons A46 (FOk.cons L0 (FOk.cons Ii (FOk.cons Kh FOk.nil)))) mixed Tryz.func50 rfl Tryz.call50 (by decide) (by kernel_rfl) Zb (by intro _ (y : Str) _; exact ⟨by simp [D9, con, Aa, A8, AV.noRd, A7, Ab, A5, A6], by simp [D9, con, Aa, A8, AV.noRd, A7, Ab, A5, A6]⟩) (by intro (y : Str) _; first | (simp [D9, con, Aa, A8, Ag, AV.free, A2, A3, A1, A6]; done) | (obtain ⟨_, _⟩ := y; simp [D9, con, Aa, A8, Ag, AV.free, A2, A3, A1, A6]; done) | (obtain ⟨_, _, _⟩ := y; simp [D9, con, Aa, A8, Ag, AV.free, A2, A3, A1, A6]; done))
end Go.GH


set_option linter.unusedVariables false
set_option linter.unusedSimpArgs false
namespace Go.GH
open Go
def Gb (p q : Str) : Bool := Aw p && Aw q && (names q).isPrefixOf (names p)
theorem A9j {p : Str} (h : (Aj 47 p).headD [] = []) (h2 : 2 ≤ (Aj 47 p).length) : ∃ r, p = 47 :: r ∧ Aj 47 r = (Aj 47 p).drop 1 := by
  cases p with
  | nil => simp [Aj] at h2
  | cons x r =>
    by_cases hx : x = 47
    · subst hx; exact ⟨r, rfl, by simp [Aj]⟩
    · simp only [Aj, if_neg hx] at h
      split at h
      · simp at h
      · simp at h
theorem A7h : ∀ (s : Str), cat (Aj 47 s) = 47 :: s
  | [] => rfl
  | x :: r => by
    unfold Aj
    have ih := A7h r
    split
    · rename_i hx; rw [cat, ih, hx]; rfl
    · have := J8 47 r
      cases h : Aj 47 r with
      | nil => exact absurd h this
      | cons y t =>
        rw [h] at ih
        simp only [cat, List.cons_append] at ih ⊢
        rw [List.cons.injEq] at ih
        rw [← ih.2]
theorem Jk {p : Str} (h : Aw p = true) (h2 : (p == sl) = false) : p = cat (names p) ∧ names p ≠ [] := by
  have hn : names p = (Aj 47 p).drop 1 := by simp [names, h, h2]
  simp only [Aw, h2, Bool.false_or, Bool.and_eq_true, inB, decide_eq_true_eq, beq_iff_eq] at h
  obtain ⟨⟨⟨h3, h4⟩, h5⟩, h6⟩ := h
  obtain ⟨r, hr, hs⟩ := A9j h5 (by omega)
  rw [hn, ← hs]
  exact ⟨by rw [A7h, hr], J8 _ _⟩
theorem B24 {p : Str} : ∀ a, a ∈ names p → ∀ x, x ∈ a → x ≠ 47 := fun a ha => Xm (List.all_eq_true.1 N7 a ha)
theorem Su : names sl = [] := by simp [names]
theorem A7o {p q : Str} (hp : Aw p = true) (hq : Aw q = true) : ((p == q) || (q == sl) || (q ++ sl).isPrefixOf p) = Gb p q := by
  have e0 : Gb p q = (names q).isPrefixOf (names p) := by simp [Gb, hp, hq]
  rw [e0]
  by_cases h1 : (p == q) = true
  · have : p = q := by simpa using h1
    subst this
    rw [h1]
    simp
  have h1 : (p == q) = false := by simpa using h1
  by_cases h2 : (q == sl) = true
  · rw [h2]
    have : q = sl := by simpa using h2
    subst this
    rw [Su]
    simp
  have h2 : (q == sl) = false := by simpa using h2
  obtain ⟨cq, nq⟩ := Jk hq h2
  rw [h1, h2, Bool.false_or, Bool.false_or]
  by_cases h3 : (p == sl) = true
  · have : p = sl := by simpa using h3
    subst this
    rw [Su]
    have hl : 1 ≤ q.length := by
      rw [cq, Zh]
      have := List.length_pos_iff.2 nq
      omega
    have e1 : (q ++ sl).isPrefixOf sl = false := by
      rw [Bool.eq_false_iff]
      intro h
      have := (List.isPrefixOf_iff_prefix.1 h).length_le
      simp [sl] at this
      subst this
      simp at hl
    rw [e1]
    cases hn : names q with
    | nil => exact absurd hn nq
    | cons x r => rfl
  have h3 : (p == sl) = false := by simpa using h3
  obtain ⟨cp, np⟩ := Jk hp h3
  have sp := Pj (B24 (p := p)) np
  have sq := Pj (B24 (p := q)) nq
  rw [← cp] at sp
  rw [← cq] at sq
  rw [Bool.eq_iff_iff, List.isPrefixOf_iff_prefix, List.isPrefixOf_iff_prefix]
  constructor
  · rintro ⟨t, ht⟩
    have ht : q ++ 47 :: t = p := by rw [← ht]; simp [sl]
    have sp2 : Aj 47 (q ++ 47 :: t) = [] :: names p := by rw [ht]; exact sp
    rw [A0y, sq, List.cons_append, List.cons.injEq] at sp2
    exact ⟨_, sp2.2⟩
  · rintro ⟨r, hr⟩
    cases r with
    | nil =>
      rw [List.append_nil] at hr
      rw [← hr, ← cq] at cp
      subst cp
      simp at h1
    | cons a r =>
      rw [← hr, Ud, ← cq] at cp
      refine ⟨a ++ cat r, ?_⟩
      rw [cp]
      simp [cat, sl]
theorem A4l {a b : List Str} : (decide ((b.length : Int) ≤ a.length) && (a.take b.length == b)) = b.isPrefixOf a := by
  rw [Bool.eq_iff_iff, List.isPrefixOf_iff_prefix, List.prefix_iff_eq_take]
  simp only [Bool.and_eq_true, decide_eq_true_eq, beq_iff_eq]
  constructor
  · rintro ⟨_, h⟩; exact h.symm
  · intro h
    refine ⟨?_, h.symm⟩
    have := congrArg List.length h
    simp at this
    omega
theorem B9j {s s2 : Nat} {x x' y y' : List (List AV)} (h1 : x = x') (h2 : y = y') : [AV.rd s x, AV.rd s2 y] = [AV.rd s x', AV.rd s2 y'] := by rw [h1, h2]
theorem B6u {args : Array Value} {p q : Str} (hsz : args.size = 2) (h0 : args.getD 0 undef = Da p) (h1 : args.getD 1 undef = Da q) : args = #[.string (toB p), .string (toB q)] := by
  apply Array.ext
  · simp [hsz]
  · intro i hi1 hi2
    have : i = 0 ∨ i = 1 := by omega
    rcases this with rfl | rfl
    · rw [Array.getD_eq_getD_getElem?, Array.getElem?_eq_getElem hi1] at h0; simpa [Da, toB] using h0
    · rw [Array.getD_eq_getD_getElem?, Array.getElem?_eq_getElem hi1] at h1; simpa [Da, toB] using h1
theorem B0r {p : Str} : smL (names p) := by
  refine ⟨by have := Hf (p := p); omega, fun s hs => ?_⟩
  have := A0d (List.all_eq_true.1 (N7 (p := p)) s hs)
  omega
theorem B7o {l : List Str} {k : Nat} (h : smL l) : smL (l.take k) := by
  refine ⟨by have := h.1; simp; omega, fun s hs => h.2 s (List.mem_of_mem_take hs)⟩
def Kf (t : Tr) (p : Str) : Bool × Nat × Nat :=
  if C8 t && (B8 t p).isSome then (true, (t.filter fun x => x.kind != 2 && Gb x.path p).length, ((t.filter fun x => x.kind != 2 && Gb x.path p).map fun x => x.data.length).sum) else (false, 0, 0)
def Ju (t : Tr) (p : Str) : AV := .tup [.int .i64 (Kf t p).2.1, .int .i64 (Kf t p).2.2, .bool (Kf t p).1]
def lyP (p : Str) (x : It) : Bool := x.kind != 2 && Gb x.path p
def cnt (p : Str) (l : Tr) : Nat := (l.filter (lyP p)).length
def byt (p : Str) (l : Tr) : Nat := ((l.filter (lyP p)).map fun x => x.data.length).sum
theorem B3z {p : Str} {l : Tr} {i : Nat} {x : It} (h : l[i]? = some x) (hx : lyP p x = true) : cnt p (l.take (i + 1)) = cnt p (l.take i) + 1 := by
  unfold cnt; rw [Bm h, List.filter_append]; simp [hx]
theorem B02 {p : Str} {l : Tr} {i : Nat} {x : It} (h : l[i]? = some x) (hx : lyP p x = false) : cnt p (l.take (i + 1)) = cnt p (l.take i) := by
  unfold cnt; rw [Bm h, List.filter_append]; simp [hx]
theorem B4h {p : Str} {l : Tr} {i : Nat} {x : It} (h : l[i]? = some x) (hx : lyP p x = true) : byt p (l.take (i + 1)) = byt p (l.take i) + x.data.length := by
  unfold byt; rw [Bm h, List.filter_append]; simp [hx]
theorem B12 {p : Str} {l : Tr} {i : Nat} {x : It} (h : l[i]? = some x) (hx : lyP p x = false) : byt p (l.take (i + 1)) = byt p (l.take i) := by
  unfold byt; rw [Bm h, List.filter_append]; simp [hx]
theorem B3m {p : Str} {l : Tr} {i : Nat} : cnt p (l.take i) ≤ i := by
  unfold cnt
  have := List.length_filter_le (lyP p) (l.take i)
  simp at this
  omega
theorem B3s {p : Str} {l : Tr} (h : ∀ x, x ∈ l → x.data.length ≤ 4194304) {i : Nat} : byt p (l.take i) ≤ i * 4194304 := by
  unfold byt
  generalize 4194304 = B at *
  have h1 : ∀ (m : Tr), (∀ x, x ∈ m → x.data.length ≤ B) → (m.map fun x => x.data.length).sum ≤ m.length * B := by
    intro m hm
    induction m with
    | nil => exact Nat.zero_le _
    | cons a r ih =>
      have := ih fun x hx => hm x (by simp [hx])
      have := hm a (by simp)
      simp only [List.map_cons, List.sum_cons, List.length_cons, Nat.add_mul]
      omega
  have h2 := h1 ((l.take i).filter (lyP p)) fun x hx => h x (List.mem_of_mem_take (List.mem_filter.1 hx).1)
  have h3 := List.length_filter_le (lyP p) (l.take i)
  simp at h3
  have h4 : ((l.take i).filter (lyP p)).length * B ≤ i * B := Nat.mul_le_mul_right _ (by omega)
  omega
theorem B7t {t : Tr} {p : Str} (h : (C8 t && (B8 t p).isSome) = false) : Ju t p = .tup [.int .i64 0, .int .i64 0, .bool false] := by
  simp [Ju, Kf, h]
theorem B42 {t : Tr} {p : Str} (h : (C8 t && (B8 t p).isSome) = true) : Ju t p = .tup [.int .i64 (cnt p t), .int .i64 (byt p t), .bool true] := by
  simp only [Ju, Kf, h, if_true, cnt, byt]
  rfl
end Go.GH


set_option linter.unusedVariables false
set_option linter.unusedSimpArgs false
namespace Go.GH
open Go
structure OpR where
  kind : Int
  path : Str
  «to» : Str
  at_ : Int
  data : Str
  time : Int
def Cc (o : OpR) : List AV := [.int .i64 o.kind, .str o.path, .str o.to, .int .i64 o.at_, .str o.data, .int .i64 o.time]
def OpR.zero : OpR := ⟨0, [], [], 0, [], 0⟩
theorem rdO (l : List OpR) : Cl (l.map Cc) = l.map Cc := Im (fun _ => rfl) l
theorem Xq : ∀ {a b c : Str}, Dm a b = true → Dm b c = true → Dm a c = true
  | [], [], _, h, _ => by cases h
  | [], _ :: _, [], _, h => by cases h
  | [], _ :: _, _ :: _, _, _ => rfl
  | _ :: _, [], _, h, _ => by cases h
  | _ :: _, _ :: _, [], _, h => by cases h
  | x :: a, y :: b, z :: c, h1, h2 => by
    simp only [Dm, Bool.or_eq_true, Bool.and_eq_true, decide_eq_true_eq, beq_iff_eq] at h1 h2 ⊢
    rcases h1 with h1 | ⟨rfl, h1⟩
    · rcases h2 with h2 | ⟨rfl, h2⟩
      · exact .inl (UInt8.lt_trans h1 h2)
      · exact .inl h1
    · rcases h2 with h2 | ⟨rfl, h2⟩
      · exact .inl h2
      · exact .inr ⟨rfl, Xq h1 h2⟩
section
variable {t : Tr}
theorem B3r (h : C8 t = true) {i : Nat} (hi : i < t.length) : chk t i = true := by
  rw [C8, Bool.and_eq_true] at h
  exact (B4s (t := t)).1 h.2 i hi
theorem A2z (h : C8 t = true) : t.length ≤ 40 := by
  rw [C8, Bool.and_eq_true] at h
  simpa using h.1
theorem Ul (h : C8 t = true) {i : Nat} {x : It} (hx : t[i]? = some x) : J0 x = true ∧ (i = 0 ∨ Dm (t.getD (i - 1) It.none).path x.path = true) ∧ Nv t (El x.path) = true := by
  have := B3r h (H5 hx)
  rw [Ug hx rfl] at this
  simp only [Bool.and_eq_true, Bool.or_eq_true, beq_iff_eq] at this
  exact ⟨this.1.1, this.1.2, this.2⟩
theorem Y1 (h : C8 t = true) {x : It} (hx : x ∈ t) : J0 x = true := by
  obtain ⟨i, hi⟩ := List.mem_iff_getElem?.1 hx
  exact (Ul h hi).1
theorem Td (h : C8 t = true) : ∀ {j i : Nat} {x y : It}, t[i]? = some x → t[j]? = some y → i < j → Dm x.path y.path = true
  | 0, i, x, y, hx, hy, hij => by omega
  | j + 1, i, x, y, hx, hy, hij => by
    have hj := H5 hy
    obtain ⟨z, hz⟩ := B7 (l := t) (i := j) (by omega)
    have h1 : Dm z.path y.path = true := by
      have := (Ul h hy).2.1
      rcases this with h0 | h0
      · omega
      · rw [Nat.add_sub_cancel, List.getD_eq_getElem?_getD, hz] at h0; exact h0
    rcases Nat.lt_or_ge i j with hi | hi
    · exact Xq (Td h hx hz hi) h1
    · have : i = j := by omega
      subst this
      rw [hx] at hz
      rw [Option.some.inj hz]
      exact h1
theorem Q4 (h : C8 t = true) {x y : It} (hx : x ∈ t) (hy : y ∈ t) (e : x.path = y.path) : x = y := by
  obtain ⟨i, hi⟩ := List.mem_iff_getElem?.1 hx
  obtain ⟨j, hj⟩ := List.mem_iff_getElem?.1 hy
  rcases Nat.lt_trichotomy i j with hij | rfl | hij
  · have := Td h hi hj hij
    rw [e, Jo] at this; cases this
  · rw [hi] at hj; exact Option.some.inj hj
  · have := Td h hj hi hij
    rw [e, Jo] at this; cases this
theorem A6c {x : It} (h : J0 x = true) : (x.path == sl) = false := by
  unfold J0 at h
  simp only [Bool.and_eq_true, Bool.not_eq_true'] at h
  exact h.1.1.2
theorem Qm {p : Str} (h : (p == sl) = false) : B8 t p = t.find? fun x => x.path == p := by
  rw [B8, if_neg (by simp [h])]
theorem Y4 (h : C8 t = true) {x : It} (hx : x ∈ t) : B8 t x.path = some x := by
  rw [Qm (A6c (Y1 h hx))]
  cases hf : t.find? fun z => z.path == x.path with
  | none =>
    have := List.find?_eq_none.1 hf x hx
    simp at this
  | some y =>
    have h1 := List.find?_some hf
    have h2 := List.mem_of_find?_eq_some hf
    rw [Q4 h h2 hx (by simpa using h1)]
end
def back (t : Tr) (i : Nat) : Tr := (t.drop i).reverse
end Go.GH


set_option linter.unusedVariables false
set_option linter.unusedSimpArgs false
namespace Go.GH
open Go
def dst (l : Tr) : Prop := l.Pairwise fun x y => x.path ≠ y.path
def E7 (x : It) (s : Tr × Bool) (y : It) : Tr × Bool :=
  let d := !s.2 && Dm x.path y.path
  (s.1 ++ (if d then [x] else []) ++ (if !(y.path == x.path) then [y] else []), d || s.2)
def Mw (l : Tr) (x : It) : Tr × Bool := l.foldl (E7 x) ([], false)
def Ut (l : Tr) (x : It) : Tr := if (Mw l x).2 then (Mw l x).1 else (Mw l x).1 ++ [x]
theorem B3l {l : Tr} {x y : It} {i : Nat} (h : l[i]? = some y) : Mw (l.take (i + 1)) x = E7 x (Mw (l.take i) x) y := Qb h
theorem A79 {x : It} : ∀ {l out : Tr} {d : Bool}, (l.foldl (E7 x) (out, d)).1.length ≤ out.length + 2 * l.length
  | [], out, d => by simp
  | y :: l, out, d => by
    rw [List.foldl_cons]
    obtain ⟨o', d', h⟩ : ∃ o' d', E7 x (out, d) y = (o', d') := ⟨_, _, rfl⟩
    have h1 : o'.length ≤ out.length + 2 := by
      have : o' = (E7 x (out, d) y).1 := by rw [h]
      rw [this]
      unfold E7
      dsimp only
      split <;> split <;> simp
    rw [h]
    have := A79 (x := x) (l := l) (out := o') (d := d')
    simp only [List.length_cons]
    omega
theorem B6k {l : Tr} {x y : It} (h : y ∈ Ut l x) : y = x ∨ y ∈ l := by
  have go : ∀ {l out : Tr} {d : Bool}, y ∈ (l.foldl (E7 x) (out, d)).1 → y = x ∨ y ∈ out ∨ y ∈ l := by
    intro l
    induction l with
    | nil => intro out d h; exact .inr (.inl h)
    | cons z l ih =>
      intro out d h
      rw [List.foldl_cons] at h
      rcases ih (out := (E7 x (out, d) z).1) (d := (E7 x (out, d) z).2) h with h | h | h
      · exact .inl h
      · unfold E7 at h
        simp only [List.mem_append] at h
        rcases h with (h | h) | h
        · exact .inr (.inl h)
        · split at h
          · exact .inl (by simpa using h)
          · cases h
        · split at h
          · exact .inr (.inr (by simp at h; simp [h]))
          · cases h
      · exact .inr (.inr (by simp [h]))
  unfold Ut at h
  split at h
  · rcases go h with h | h | h
    · exact .inl h
    · cases h
    · exact .inr h
  · rcases List.mem_append.1 h with h | h
    · rcases go h with h | h | h
      · exact .inl h
      · cases h
      · exact .inr h
    · exact .inl (by simpa using h)
end Go.GH


set_option linter.unusedVariables false
set_option linter.unusedSimpArgs false
namespace Go.GH
open Go
def B9r : Nat → Nat → Str → Str
  | 0, _, out => out
  | f + 1, k, out => if k = 0 then out else B9r f (k / 10) (UInt8.ofNat (48 + k % 10) :: out)
end Go.GH


set_option linter.unusedVariables false
set_option linter.unusedSimpArgs false
namespace Go.GH
open Go
def dig (n : Nat) : Str := if n = 0 then [48] else B9r 64 n []
def B9s : Str := [48, 49, 50, 51, 52, 53, 54, 55, 56, 57, 97, 98, 99, 100, 101, 102]
def hx (n : Nat) : UInt8 := B9s.getD n 0
def B9y (s : Str) : Str := s.flatMap fun b => [hx (b.toNat / 16), hx (b.toNat % 16)]
def B9a (o : OpR) : Bool := inB o.kind 0 8 && inB o.at_ 0 1000 && inB o.time 0 100000
def B8v (s : Str) : Bool := s == [] || Aw s
def B9x (o : OpR) : Bool := B9a o && B8v o.path && B8v o.to && decide (o.data.length ≤ 80)
def B9f (o : OpR) : Str := dig o.kind.toNat ++ [32] ++ o.path ++ [32] ++ o.to ++ [32] ++ dig o.at_.toNat ++ [32] ++ dig o.time.toNat ++ [32]
def B99 (o : OpR) : Str := if B9x o then B9f o ++ B9y o.data else []
end Go.GH


set_option linter.unusedVariables false
set_option linter.unusedSimpArgs false
namespace Go.GH
open Go
def pad (old : Str) (n : Nat) : Str := old ++ List.replicate (n - old.length) 0
def wrote (old : Str) (a : Int) (d : Str) : Str := if inB a 0 100000 then (pad old a.toNat).take a.toNat ++ d ++ (pad old a.toNat).drop (a.toNat + d.length) else old
def Ji (p : Str) : Str := (names p).getLastD []
def Mf (t : Tr) (p : Str) : Tr := t.filter fun y => El y.path == p
def Ib (t : Tr) (p : Str) : List Str := if C8 t && Nv t p then (Mf t p).map fun y => Ji y.path else []
def B9o (o : OpR) (x : It) : It := if Gb x.path o.path then ⟨Dl (names o.to ++ (names x.path).drop (names o.path).length), x.kind, x.data, x.time⟩ else x
def stuck (o : OpR) (x : It) : Bool := Gb x.path o.path && (B9o o x).path == []
end Go.GH


set_option linter.unusedVariables false
set_option linter.unusedSimpArgs false
namespace Go.GH
open Go
theorem B96 {l : List Str} (hl : l ≠ []) (hn : l.all Cx = true) : Aw (cat l) = decide (l.length ≤ 4) ∧ (cat l == sl) = false ∧ (l.length ≤ 4 → names (cat l) = l) := by
  have hs : Aj 47 (cat l) = [] :: l := Pj (fun a ha => Xm (List.all_eq_true.1 hn a ha)) hl
  have h1 : (cat l == sl) = false := by
    rw [beq_eq_false_iff_ne]
    intro e
    rw [e] at hs
    have : l = [[]] := by
      have h2 : Aj 47 sl = [[], []] := rfl
      rw [h2] at hs
      exact (List.cons.inj hs).2.symm
    subst this
    exact absurd hn (by decide)
  have hp : 1 ≤ l.length := List.length_pos_iff.2 hl
  have h2 : Aw (cat l) = decide (l.length ≤ 4) := by
    unfold Aw
    rw [h1, hs]
    simp only [Bool.false_or, List.length_cons, List.headD_cons, List.drop_one, List.tail_cons, hn, Bool.and_true, beq_self_eq_true, inB]
    by_cases h : l.length ≤ 4
    · simp [h]; omega
    · simp [h]; omega
  refine ⟨h2, h1, fun h => ?_⟩
  have h3 : Aw (cat l) = true := by rw [h2]; simpa using h
  rw [names, h3, h1, hs]; simp
theorem B8j {l : List Str} (hl : l ≠ []) : J5 l = cat l := by
  cases l with
  | nil => exact absurd rfl hl
  | cons a l => rfl
theorem W4 {l : List Str} (hl : l ≠ []) (hn : l.all Cx = true) : Dl l = if l.length ≤ 4 then cat l else [] := by
  unfold Dl
  rw [hn, B8j hl]
  by_cases h : l.length ≤ 4 <;> simp [h]
theorem B9c {l : List Str} (hl : l ≠ []) : cat l ≠ [] := by
  cases l with
  | nil => exact absurd rfl hl
  | cons a l => simp [cat]
end Go.GH


set_option linter.unusedVariables false
set_option linter.unusedSimpArgs false
namespace Go.GH
open Go
end Go.GH


set_option linter.unusedVariables false
set_option linter.unusedSimpArgs false
namespace Go.GH
open Go
end Go.GH


set_option linter.unusedVariables false
set_option linter.unusedSimpArgs false
namespace Go.GH
open Go
theorem B0w {x : It} : ∀ {l out : Tr} {d : Bool}, (l.foldl (E7 x) (out, d)).1.length + (if (l.foldl (E7 x) (out, d)).2 then 0 else 1) ≤ out.length + l.length + (if d then 0 else 1)
  | [], out, d => by exact Nat.le_refl _
  | y :: l, out, d => by
    rw [List.foldl_cons]
    obtain ⟨o', d', h⟩ : ∃ o' d', E7 x (out, d) y = (o', d') := ⟨_, _, rfl⟩
    have h1 : o'.length + (if d' then 0 else 1) ≤ out.length + 1 + (if d then 0 else 1) := by
      have e1 : o' = (E7 x (out, d) y).1 := by rw [h]
      have e2 : d' = (E7 x (out, d) y).2 := by rw [h]
      rw [e1, e2]
      unfold E7
      dsimp only
      cases d <;> cases Dm x.path y.path <;> cases (y.path == x.path) <;> simp <;> omega
    rw [h]
    have := B0w (x := x) (l := l) (out := o') (d := d')
    simp only [List.length_cons]
    omega
theorem Xh {x : It} {l : Tr} : (Ut l x).length ≤ l.length + 1 := by
  have := B0w (x := x) (l := l) (out := []) (d := false)
  unfold Ut
  rw [show Mw l x = l.foldl (E7 x) ([], false) from rfl]
  split
  · rename_i h; simp [h] at this; exact this
  · rename_i h; simp [h] at this; simp; exact this
end Go.GH


set_option linter.unusedVariables false
set_option linter.unusedSimpArgs false
namespace Go.GH
open Go
end Go.GH


namespace Go.GH
open Go
def atP : Str ⊕ OpR → It → Bool
  | .inl p, y => y.path == p
  | .inr o, y => El y.path == o.path
def atC : Str ⊕ OpR → List AV
  | .inl p => [.str p]
  | .inr o => Cc o
theorem Bf (x : Str ⊕ OpR) : A2 (atC x) := by cases x <;> simp [atC, Cc, A2, AV.free]
theorem Be (x : Str ⊕ OpR) : A7 (atC x) := by cases x <;> simp [atC, Cc, A7, AV.noRd]
end Go.GH


set_option linter.unusedVariables false
set_option linter.unusedSimpArgs false
namespace Go.GH
open Go Go.Proofs
noncomputable def Fw : Bp := con [mC] true Str A6 (fun s => sml s.length) (fun s => .bool (Aw s))
noncomputable def A3g : Env := ⟨A4 Bc, A4 [(50, D9)], [0, 2, 4]⟩
set_option maxRecDepth 100000 in
set_option maxHeartbeats 4000000 in
theorem A60 : Bd A3g (Az Tryz.f83) Tryz.f83.results.toList Fw := by
  intro (s : Str) hs
  refine ⟨trivial, ?_⟩
  conv => whnf
  refine ⟨s, rfl, fun _ => hs, ?_⟩
  conv => whnf
  exact ⟨trivial, rfl⟩
theorem Rs : Ay Tryz.prog 83 Fw := Aq (Ch _ _) (FOk.cons Js FOk.nil) mixed Tryz.func83 rfl Tryz.call83 (by decide) (by kernel_rfl) A60 (by intro _ (y : Str) _; exact ⟨by simp [Fw, con, Aa, A8, AV.noRd, A7, Ab, A5, A6, Ao, Cc, Bf, Be], by simp [Fw, con, Aa, A8, AV.noRd, A7, Ab, A5, A6, Ao, Cc, Bf, Be]⟩) (by intro (y : Str) _; first | (simp [Fw, con, Aa, A8, Ag, AV.free, A2, A3, A1, A6, Ao, Cc, Bf, Be]; done) | (obtain ⟨_, _⟩ := y; simp [Fw, con, Aa, A8, Ag, AV.free, A2, A3, A1, A6, Ao, Cc, Bf, Be]; done) | (obtain ⟨_, _, _⟩ := y; simp [Fw, con, Aa, A8, Ag, AV.free, A2, A3, A1, A6, Ao, Cc, Bf, Be]; done))
noncomputable def Fr : Bp := con [mS 1] true (List Str) (fun l => [.rd 1 (l.map A6)]) (fun l => l.length + (l.map List.length).sum < 4194304) (fun l => .str (Dl l))
noncomputable def A3y : Env := ⟨A4 Bc, A4 [(92, Bq), (95, Rf), (96, Dq)], [0, 2, 3, 13]⟩
set_option maxRecDepth 100000 in
set_option maxHeartbeats 4000000 in
theorem A4f : Bd A3y (Az Tryz.f51) Tryz.f51.results.toList Fr := by
  intro (l : List Str) hs
  have hs : l.length + (l.map List.length).sum < 4194304 := hs
  have hl := A1x l
  have hj := B6o l
  have hjl : (Lib.join l sl).length + 1 = (J5 l).length := by rw [← hj]; simp [sl]
  have hsm : smL l := ⟨by omega, fun s hs => by
    have : s.length ≤ (l.map List.length).sum := B7n hs
    omega⟩
  refine ⟨trivial, ?_⟩
  conv => whnf
  refine ⟨(l, sl), rfl, fun _ => ⟨by show (Lib.join l sl).length ≤ _; omega, by show l.length ≤ _; omega⟩, ?_⟩
  conv => whnf
  refine ⟨by show 1 + (Lib.join l sl).length ≤ _; omega, ?_⟩
  repeat ((conv => whnf); refine ⟨fun h => h, ?_⟩)
  refine ⟨(l, false), rfl, fun _ => hsm, ?_⟩
  repeat ((conv => whnf); refine ⟨fun h => h, ?_⟩)
  have e : (decide (l.length ≤ 4) && l.all Cx) = !(decide (((l.map A6).length : Int) > 4) || l.any fun s => !Cx s) := by
    rw [List.all_eq_not_any_not, Bool.not_or]
    congr 1
    rw [Bool.eq_iff_iff]
    simp
    omega
  (conv => whnf); refine ⟨fun h1 => ?_, fun h1 => ?_⟩
  · conv => whnf
    exact ⟨trivial, eqS (by
      rw [Dl, e, show (_ || _) = true from h1]; rfl)⟩
  · conv => whnf
    exact ⟨trivial, eqS (by
      rw [Dl, e, show (_ || _) = false from h1]; exact hj)⟩
theorem Rk : Ay Tryz.prog 51 Fr := Aq (Ch _ _) (FOk.cons Ii (FOk.cons Yz (FOk.cons Lr FOk.nil))) mixed Tryz.func51 rfl Tryz.call51 (by decide) (by kernel_rfl) A4f (by intro _ (y : (List Str)) _; exact ⟨by simp [Fr, con, Aa, A8, AV.noRd, A7, Ab, A5, A6, Ao, Cc, Bf, Be], by simp [Fr, con, Aa, A8, AV.noRd, A7, Ab, A5, A6, Ao, Cc, Bf, Be]⟩) (by intro (y : (List Str)) _; first | (simp [Fr, con, Aa, A8, Ag, AV.free, A2, A3, A1, A6, Ao, Cc, Bf, Be]; done) | (obtain ⟨_, _⟩ := y; simp [Fr, con, Aa, A8, Ag, AV.free, A2, A3, A1, A6, Ao, Cc, Bf, Be]; done) | (obtain ⟨_, _, _⟩ := y; simp [Fr, con, Aa, A8, Ag, AV.free, A2, A3, A1, A6, Ao, Cc, Bf, Be]; done))
noncomputable def Fq : Bp := con [mC] true Str A6 (fun l => sml l.length) (fun l => .str (El l))
noncomputable def A7n : Env := ⟨A4 Bc, A4 [(50, D9), (51, Fr)], [0, 2, 3, 4, 11]⟩
set_option maxRecDepth 100000 in
set_option maxHeartbeats 4000000 in
theorem A82 : Bd A7n (Az Tryz.f48) Tryz.f48.results.toList Fq := by
  intro (s : Str) hs
  have hs : s.length ≤ 4194304 := hs
  refine ⟨trivial, ?_⟩
  conv => whnf
  refine ⟨s, rfl, fun _ => hs, ?_⟩
  (conv => whnf); refine ⟨fun h1 => ?_, fun h1 => ?_⟩
  · have h1 : Aw s = false := by
      have h1 : (!Aw s) = true := h1
      simpa using h1
    conv => whnf
    exact ⟨trivial, eqS (by simp [El, h1])⟩
  have h1 : Aw s = true := by
    have h1 : (!Aw s) = false := h1
    simpa using h1
  have hd : El s = Dl ((names s).take ((names s).length - 1)) := by simp [El, h1]
  have hnl := Hf (p := s)
  have hns := A6q (p := s)
  repeat ((conv => whnf); refine ⟨_, w64 (bb), ?_⟩)
  conv => whnf
  refine ⟨(((names s).length - 1 : Nat) : Int), by simp only [List.length_map]; split <;> omega, ?_⟩
  repeat ((conv => whnf); refine ⟨fun _ => ⟨bb, bb, bb⟩, ?_⟩)
  refine ⟨(names s).take ((names s).length - 1), by
    refine congrArg (fun x => [AV.rd 1 x]) ?_
    rw [B6j]
    simp only [Int.toNat_natCast, List.drop_zero, List.length_map]
    rfl, fun _ => ?_, ?_⟩
  · have := A25 (names s) ((names s).length - 1)
    show _ < _
    rw [List.length_take]
    omega
  conv => whnf
  exact ⟨trivial, eqS hd.symm⟩
theorem P6 : Ay Tryz.prog 48 Fq := Aq (Ch _ _) (FOk.cons Js (FOk.cons Rk FOk.nil)) mixed Tryz.func48 rfl Tryz.call48 (by decide) (by kernel_rfl) A82 (by intro _ (y : Str) _; exact ⟨by simp [Fq, con, Aa, A8, AV.noRd, A7, Ab, A5, A6, Ao, Cc, Bf, Be], by simp [Fq, con, Aa, A8, AV.noRd, A7, Ab, A5, A6, Ao, Cc, Bf, Be]⟩) (by intro (y : Str) _; first | (simp [Fq, con, Aa, A8, Ag, AV.free, A2, A3, A1, A6, Ao, Cc, Bf, Be]; done) | (obtain ⟨_, _⟩ := y; simp [Fq, con, Aa, A8, Ag, AV.free, A2, A3, A1, A6, Ao, Cc, Bf, Be]; done) | (obtain ⟨_, _, _⟩ := y; simp [Fq, con, Aa, A8, Ag, AV.free, A2, A3, A1, A6, Ao, Cc, Bf, Be]; done))
noncomputable def Gr : Bp := con [mC] true Int (fun x => [.int .i64 x]) (fun _ => True) (fun x => .bool (inB x 1 3))
noncomputable def A4m : Env := ⟨A4 Bc, A4 [(91, Ee)], [0, 2]⟩
set_option maxRecDepth 100000 in
set_option maxHeartbeats 4000000 in
theorem A4d : Bd A4m (Az Tryz.f116) Tryz.f116.results.toList Gr := by
  intro (x : Int) hs
  refine ⟨trivial, ?_⟩
  conv => whnf
  refine ⟨(x, 1, 3), rfl, fun _ => trivial, ?_⟩
  conv => whnf
  exact ⟨trivial, rfl⟩
theorem A1s : Ay Tryz.prog 116 Gr := Aq (Ch _ _) (FOk.cons L0 FOk.nil) mixed Tryz.func116 rfl Tryz.call116 (by decide) (by kernel_rfl) A4d (by intro _ (y : Int) _; exact ⟨by simp [Gr, con, Aa, A8, AV.noRd, A7, Ab, A5, A6, Ao, Cc, Bf, Be], by simp [Gr, con, Aa, A8, AV.noRd, A7, Ab, A5, A6, Ao, Cc, Bf, Be]⟩) (by intro (y : Int) _; first | (simp [Gr, con, Aa, A8, Ag, AV.free, A2, A3, A1, A6, Ao, Cc, Bf, Be]; done) | (obtain ⟨_, _⟩ := y; simp [Gr, con, Aa, A8, Ag, AV.free, A2, A3, A1, A6, Ao, Cc, Bf, Be]; done) | (obtain ⟨_, _, _⟩ := y; simp [Gr, con, Aa, A8, Ag, AV.free, A2, A3, A1, A6, Ao, Cc, Bf, Be]; done))
noncomputable def Gy : Bp := con [.rd [none, none, none, none]] true It (fun x => [.agg (Ao x)]) (fun x => x.path.length ≤ 4194304 ∧ x.data.length ≤ 4194304) (fun x => .bool (J0 x))
noncomputable def A5o : Env := ⟨A4 Bc, A4 [(83, Fw), (91, Ee), (116, Gr)], [0, 1, 2, 17, 20]⟩
set_option maxRecDepth 100000 in
set_option maxHeartbeats 4000000 in
theorem A4w : Bd A5o (Az Tryz.f69) Tryz.f69.results.toList Gy := by
  intro (x : It) hs
  obtain ⟨hs1, hs2⟩ : x.path.length ≤ 4194304 ∧ x.data.length ≤ 4194304 := hs
  refine ⟨trivial, ?_⟩
  conv => whnf
  refine ⟨x.path, rfl, fun _ => hs1, ?_⟩
  repeat ((conv => whnf); first | refine ⟨fun h => h, ?_⟩ | refine ⟨x.kind, rfl, fun _ => trivial, ?_⟩)
  (conv => whnf); refine ⟨fun h1 => ?_, fun h1 => ?_⟩
  · conv => whnf
    exact ⟨trivial, eqB (by
      have h1 : (!Aw x.path || x.path == sl || !inB x.kind 1 3) = true := h1
      unfold J0
      revert h1
      cases Aw x.path <;> cases (x.path == sl) <;> cases inB x.kind 1 3 <;> simp)⟩
  have h1 : (Aw x.path && !(x.path == sl) && inB x.kind 1 3) = true := by
    have h1 : (!Aw x.path || x.path == sl || !inB x.kind 1 3) = false := h1
    revert h1
    cases Aw x.path <;> cases (x.path == sl) <;> cases inB x.kind 1 3 <;> simp
  (conv => whnf); refine ⟨fun h2 => ?_, fun h2 => ?_⟩
  · repeat ((conv => whnf); refine ⟨fun h => h, ?_⟩)
    have h2 : (x.kind == 2) = true := h2
    exact ⟨trivial, eqB (by unfold J0; rw [h1, if_pos h2]; rfl)⟩
  · repeat ((conv => whnf); first | refine ⟨fun h => h, ?_⟩ | refine ⟨(_, _, _), rfl, fun _ => trivial, ?_⟩)
    have h2 : (x.kind == 2) = false := h2
    exact ⟨trivial, eqB (by unfold J0; rw [h1, if_neg (by rw [h2]; exact Bool.false_ne_true)]; rfl)⟩
theorem A1c : Ay Tryz.prog 69 Gy := Aq (Ch _ _) (FOk.cons Rs (FOk.cons L0 (FOk.cons A1s FOk.nil))) mixed Tryz.func69 rfl Tryz.call69 (by decide) (by kernel_rfl) A4w (by intro _ (y : It) _; exact ⟨by simp [Gy, con, Aa, A8, AV.noRd, A7, Ab, A5, A6, Ao, Cc, Bf, Be], by simp [Gy, con, Aa, A8, AV.noRd, A7, Ab, A5, A6, Ao, Cc, Bf, Be]⟩) (by intro (y : It) _; first | (simp [Gy, con, Aa, A8, Ag, AV.free, A2, A3, A1, A6, Ao, Cc, Bf, Be]; done) | (obtain ⟨_, _⟩ := y; simp [Gy, con, Aa, A8, Ag, AV.free, A2, A3, A1, A6, Ao, Cc, Bf, Be]; done) | (obtain ⟨_, _, _⟩ := y; simp [Gy, con, Aa, A8, Ag, AV.free, A2, A3, A1, A6, Ao, Cc, Bf, Be]; done))
noncomputable def F9 : Bp := con [.rd [none, none, none, none], .rd []] true (It × Str) (fun x => [.agg (Ao x.1), .pin [.str x.2]]) (fun _ => True) (fun x => .bool (x.1.path == x.2))
noncomputable def Yi : Env := ⟨A4 Bc, A4 [], [0, 1, 2, 3]⟩
set_option maxRecDepth 100000 in
set_option maxHeartbeats 4000000 in
theorem Yu : Bd Yi (Az Tryz.f88) Tryz.f88.results.toList F9 := by
  rintro ⟨x, p⟩ hs
  refine ⟨trivial, ?_⟩
  conv => whnf
  exact ⟨trivial, rfl⟩
theorem X9 : Ay Tryz.prog 88 F9 := Aq (Ch _ _) FOk.nil mixed Tryz.func88 rfl Tryz.call88 (by decide) (by kernel_rfl) Yu (by intro _ (y : (It × Str)) _; exact ⟨by simp [F9, con, Aa, A8, AV.noRd, A7, Ab, A5, A6, Ao, Cc, Bf, Be], by simp [F9, con, Aa, A8, AV.noRd, A7, Ab, A5, A6, Ao, Cc, Bf, Be]⟩) (by intro (y : (It × Str)) _; first | (simp [F9, con, Aa, A8, Ag, AV.free, A2, A3, A1, A6, Ao, Cc, Bf, Be]; done) | (obtain ⟨_, _⟩ := y; simp [F9, con, Aa, A8, Ag, AV.free, A2, A3, A1, A6, Ao, Cc, Bf, Be]; done) | (obtain ⟨_, _, _⟩ := y; simp [F9, con, Aa, A8, Ag, AV.free, A2, A3, A1, A6, Ao, Cc, Bf, Be]; done))
noncomputable def E8 : Bp := con [.rd [none, none, none, none], .rd []] true (It × OpR) (fun x => [.agg (Ao x.1), .pin (Cc x.2)]) (fun x => x.1.path.length ≤ 4194304) (fun x => .bool (El x.1.path == x.2.path))
noncomputable def Vl : Env := ⟨A4 Bc, A4 [(48, Fq)], [0, 1, 2, 3]⟩
set_option maxRecDepth 100000 in
set_option maxHeartbeats 4000000 in
theorem Ve : Bd Vl (Az Tryz.f143) Tryz.f143.results.toList E8 := by
  rintro ⟨x, o⟩ hs
  have hs : x.path.length ≤ 4194304 := hs
  refine ⟨trivial, ?_⟩
  skip
  refine ⟨x.path, rfl, fun _ => hs, ?_⟩
  repeat ((conv => whnf); refine ⟨(by kernel_rfl : C6 _ _ = true), ?_⟩)
  exact ⟨trivial, rfl⟩
theorem Un : Ay Tryz.prog 143 E8 := Aq (Ch _ _) (FOk.cons P6 FOk.nil) mixed Tryz.func143 rfl Tryz.call143 (by decide) (by kernel_rfl) Ve (by intro _ (y : (It × OpR)) _; exact ⟨by simp [E8, con, Aa, A8, AV.noRd, A7, Ab, A5, A6, Ao, Cc, Bf, Be], by simp [E8, con, Aa, A8, AV.noRd, A7, Ab, A5, A6, Ao, Cc, Bf, Be]⟩) (by intro (y : (It × OpR)) _; first | (simp [E8, con, Aa, A8, Ag, AV.free, A2, A3, A1, A6, Ao, Cc, Bf, Be]; done) | (obtain ⟨_, _⟩ := y; simp [E8, con, Aa, A8, Ag, AV.free, A2, A3, A1, A6, Ao, Cc, Bf, Be]; done) | (obtain ⟨_, _, _⟩ := y; simp [E8, con, Aa, A8, Ag, AV.free, A2, A3, A1, A6, Ao, Cc, Bf, Be]; done))
def atF : Str ⊕ OpR → Nat
  | .inl _ => 88
  | .inr _ => 143
noncomputable def Cm : Bp := con [mS 4, mC] true (Tr × (Str ⊕ OpR)) (fun x => [.rd 4 (x.1.map Ao), .fn (atF x.2) [.pin (atC x.2)]]) (fun x => smT x.1) (fun x => .int .i64 (fnd (atP x.2) x.1))
noncomputable def Pf : Env := ⟨A4 Bc, A4 [(88, F9), (143, E8)], [0, 1, 4, 5, 7, 8, 9, 16]⟩
set_option maxRecDepth 100000 in
set_option maxHeartbeats 4000000 in
theorem Pt : Bd Pf (Az Tryz.f87) Tryz.f87.results.toList Cm := by
  rintro ⟨l, q⟩ hs
  obtain ⟨hs1, hs2⟩ : smT l := hs
  cases q with
  | inl p =>
    refine ⟨trivial, ?_⟩
    conv => whnf
    refine B2 (fun i : Nat => ⟨[(0, ⟨none, .rd 4 (l.map Ao)⟩), (1, ⟨none, .fn 88 [.pin [.str p]]⟩), (7, ⟨none, .int .i64 l.length⟩), (8, ⟨none, .int .i64 i⟩)], [], 0⟩)
      (fun i => i ≤ l.length ∧ (l.take i).any (atP (.inl p)) = false) (fun i => l.length - i) 0 ?_ ⟨by omega, rfl⟩ ?_
    · (refine ⟨?_, ?_, rfl⟩ <;> repeat' (first | exact rfl | exact trivial | refine ⟨?_, ?_⟩ | fail) <;> (conv => whnf))
      all_goals simp
    rintro i ⟨hi, hI⟩
    (conv => whnf); refine ⟨fun h1 => ?_, fun h1 => ?_⟩
    · have h1 : i < l.length := by simpa using h1
      obtain ⟨b, hb⟩ := B7 h1
      have hbl := (hs2 b (List.mem_of_getElem? hb)).1
      repeat ((conv => whnf); refine ⟨Ao b, fun _ => ⟨by omega, by simp [hb]⟩, ?_⟩)
      refine ⟨(b, p), rfl, fun _ => trivial, ?_⟩
      (conv => whnf); refine ⟨fun h2 => ?_, fun h2 => ?_⟩
      · have h2 : atP (.inl p) b = true := h2
        conv => whnf
        exact ⟨trivial, Ob (Zf hI hb h2).symm⟩
      · have h2 : atP (.inl p) b = false := h2
        repeat ((conv => whnf); refine ⟨_, w64 (bb), ?_⟩)
        refine C5 (i + 1) ?_ ⟨h1, Lu hI hb h2⟩ (by first | omega | (simp; done) | (simp; omega))
        (refine ⟨?_, ?_, rfl⟩ <;> repeat' (first | exact rfl | exact trivial | refine ⟨?_, ?_⟩ | fail) <;> (conv => whnf))
    · have h1 : i = l.length := by
        have : ¬ i < l.length := by simpa using h1
        omega
      subst h1
      rw [List.take_length] at hI
      conv => whnf
      exact ⟨trivial, Ob (So hI).symm⟩
  | inr o =>
    refine ⟨trivial, ?_⟩
    conv => whnf
    refine B2 (fun i : Nat => ⟨[(0, ⟨none, .rd 4 (l.map Ao)⟩), (1, ⟨none, .fn 143 [.pin (Cc o)]⟩), (7, ⟨none, .int .i64 l.length⟩), (8, ⟨none, .int .i64 i⟩)], [], 0⟩)
      (fun i => i ≤ l.length ∧ (l.take i).any (atP (.inr o)) = false) (fun i => l.length - i) 0 ?_ ⟨by omega, rfl⟩ ?_
    · (refine ⟨?_, ?_, rfl⟩ <;> repeat' (first | exact rfl | exact trivial | refine ⟨?_, ?_⟩ | fail) <;> (conv => whnf))
      all_goals simp
    rintro i ⟨hi, hI⟩
    (conv => whnf); refine ⟨fun h1 => ?_, fun h1 => ?_⟩
    · have h1 : i < l.length := by simpa using h1
      obtain ⟨b, hb⟩ := B7 h1
      have hbl := (hs2 b (List.mem_of_getElem? hb)).1
      repeat ((conv => whnf); refine ⟨Ao b, fun _ => ⟨by omega, by simp [hb]⟩, ?_⟩)
      refine ⟨(b, o), rfl, fun _ => hbl, ?_⟩
      (conv => whnf); refine ⟨fun h2 => ?_, fun h2 => ?_⟩
      · have h2 : atP (.inr o) b = true := h2
        conv => whnf
        exact ⟨trivial, Ob (Zf hI hb h2).symm⟩
      · have h2 : atP (.inr o) b = false := h2
        repeat ((conv => whnf); refine ⟨_, w64 (bb), ?_⟩)
        refine C5 (i + 1) ?_ ⟨h1, Lu hI hb h2⟩ (by first | omega | (simp; done) | (simp; omega))
        (refine ⟨?_, ?_, rfl⟩ <;> repeat' (first | exact rfl | exact trivial | refine ⟨?_, ?_⟩ | fail) <;> (conv => whnf))
    · have h1 : i = l.length := by
        have : ¬ i < l.length := by simpa using h1
        omega
      subst h1
      rw [List.take_length] at hI
      conv => whnf
      exact ⟨trivial, Ob (So hI).symm⟩
theorem Pa : Ay Tryz.prog 87 Cm := Aq (Ch _ _) (FOk.cons X9 (FOk.cons Un FOk.nil)) mixed Tryz.func87 rfl Tryz.call87 (by decide) (by kernel_rfl) Pt (by intro _ (y : (Tr × (Str ⊕ OpR))) _; exact ⟨by simp [Cm, con, Aa, A8, AV.noRd, A7, Ab, A5, A6, Ao, Cc, Bf, Be], by simp [Cm, con, Aa, A8, AV.noRd, A7, Ab, A5, A6, Ao, Cc, Bf, Be]⟩) (by intro (y : (Tr × (Str ⊕ OpR))) _; first | (simp [Cm, con, Aa, A8, Ag, AV.free, A2, A3, A1, A6, Ao, Cc, Bf, Be]; done) | (obtain ⟨_, _⟩ := y; simp [Cm, con, Aa, A8, Ag, AV.free, A2, A3, A1, A6, Ao, Cc, Bf, Be]; done) | (obtain ⟨_, _, _⟩ := y; simp [Cm, con, Aa, A8, Ag, AV.free, A2, A3, A1, A6, Ao, Cc, Bf, Be]; done))
noncomputable def Gz : Bp := con [mS 4, mC] true (Tr × Str) (fun x => [rdT x.1, .str x.2]) (fun x => smT x.1) (fun x => .int .i64 (fnd (fun y => y.path == x.2) x.1))
noncomputable def A4x : Env := ⟨A4 Bc, A4 [(87, Cm)], [0, 1, 2, 3, 4]⟩
set_option maxRecDepth 100000 in
set_option maxHeartbeats 4000000 in
theorem A5d : Bd A4x (Az Tryz.f47) Tryz.f47.results.toList Gz := by
  rintro ⟨l, p⟩ hs
  have hs : smT l := hs
  refine ⟨trivial, ?_⟩
  conv => whnf
  refine ⟨(l, .inl p), rfl, fun _ => hs, ?_⟩
  conv => whnf
  exact ⟨trivial, rfl⟩
theorem A2a : Ay Tryz.prog 47 Gz := Aq (Ch _ _) (FOk.cons Pa FOk.nil) mixed Tryz.func47 rfl Tryz.call47 (by decide) (by kernel_rfl) A5d (by intro _ (y : (Tr × Str)) _; exact ⟨by simp [Gz, con, Aa, A8, AV.noRd, A7, Ab, A5, A6, Ao, Cc, Bf, Be], by simp [Gz, con, Aa, A8, AV.noRd, A7, Ab, A5, A6, Ao, Cc, Bf, Be]⟩) (by intro (y : (Tr × Str)) _; first | (simp [Gz, con, Aa, A8, Ag, AV.free, A2, A3, A1, A6, rdT, Ao, Cc, Bf, Be]; done) | (obtain ⟨_, _⟩ := y; simp [Gz, con, Aa, A8, Ag, AV.free, A2, A3, A1, A6, rdT, Ao, Cc, Bf, Be]; done) | (obtain ⟨_, _, _⟩ := y; simp [Gz, con, Aa, A8, Ag, AV.free, A2, A3, A1, A6, rdT, Ao, Cc, Bf, Be]; done))
noncomputable def Dc : Bp := con [mS 4, mC] true (Tr × Str) (fun x => [rdT x.1, .str x.2]) (fun x => smT x.1) (fun x => Kr (B8 x.1 x.2))
noncomputable def A02 : Env := ⟨A4 Bc, A4 [(47, Gz)], [0, 1, 2, 4, 5, 6, 8, 14]⟩
set_option maxRecDepth 100000 in
set_option maxHeartbeats 4000000 in
theorem Zu : Bd A02 (Az Tryz.f11) Tryz.f11.results.toList Dc := by
  rintro ⟨t, p⟩ hs
  obtain ⟨hs1, hs2⟩ : smT t := hs
  refine ⟨trivial, ?_⟩
  (conv => whnf); refine ⟨fun h1 => ?_, fun h1 => ?_⟩
  · have h1 : (p == sl) = true := h1
    conv => whnf
    rw [show Dc.res (t, p) = .tup [.agg (Ao It.top), .bool true] by show Kr (B8 t p) = _; simp [B8, h1]; rfl]
    exact ⟨trivial, ⟨rfl, rfl, rfl, rfl, trivial⟩, rfl, trivial⟩
  have h1 : (p == sl) = false := h1
  have hd : B8 t p = t.find? (fun y => y.path == p) := by simp [B8, h1]
  conv => whnf
  refine ⟨(t, p), rfl, fun _ => ⟨hs1, hs2⟩, ?_⟩
  (conv => whnf); refine ⟨fun h2 => ?_, fun h2 => ?_⟩
  · have h2 : t.any (fun y => y.path == p) = false := by
      rw [← Vx]; simpa using h2
    conv => whnf
    rw [show Dc.res (t, p) = .tup [.agg (Ao It.none), .bool false] by show Kr (B8 t p) = _; rw [hd, B77 h2]; rfl]
    exact ⟨trivial, ⟨rfl, rfl, rfl, rfl, trivial⟩, rfl, trivial⟩
  · have h2 : t.any (fun y => y.path == p) = true := by
      rw [← Vx]; simpa using h2
    obtain ⟨b, hb1, hb2⟩ := B8s h2
    have hg := B9b (p := fun y : It => y.path == p) (l := t)
    have hp0 : 0 ≤ fnd (fun y : It => y.path == p) t := by have := Vx (p := fun y : It => y.path == p) (l := t); rw [h2] at this; simpa using this
    repeat ((conv => whnf); refine ⟨Ao b, fun _ => ⟨hp0, Am hb1⟩, ?_⟩)
    rw [show Dc.res (t, p) = .tup [.agg (Ao b), .bool true] by show Kr (B8 t p) = _; rw [hd, hb2]; rfl]
    exact ⟨trivial, ⟨rfl, rfl, rfl, rfl, trivial⟩, rfl, trivial⟩
theorem Kd : Ay Tryz.prog 11 Dc := Aq (Ch _ _) (FOk.cons A2a FOk.nil) mixed Tryz.func11 rfl Tryz.call11 (by decide) (by kernel_rfl) Zu (by intro _ (y : Tr × Str) _; refine ⟨?_, trivial⟩; show AV.noRd (Kr (B8 y.1 y.2)); simp [Kr, AV.noRd, A7, Ao]) (by intro (y : (Tr × Str)) _; first | (simp [Dc, con, Aa, A8, Ag, AV.free, A2, A3, A1, A6, rdT, Ao, Cc, Bf, Be]; done) | (obtain ⟨_, _⟩ := y; simp [Dc, con, Aa, A8, Ag, AV.free, A2, A3, A1, A6, rdT, Ao, Cc, Bf, Be]; done) | (obtain ⟨_, _, _⟩ := y; simp [Dc, con, Aa, A8, Ag, AV.free, A2, A3, A1, A6, rdT, Ao, Cc, Bf, Be]; done))
end Go.GH


set_option linter.unusedVariables false
set_option linter.unusedSimpArgs false
namespace Go.GH
open Go Go.Proofs
noncomputable def Et : Bp := con [mS 4] true Tr (fun t => [rdT t]) smT (fun t => .bool (C8 t))
noncomputable def A35 : Env := ⟨A4 Bc, A4 [(11, Dc), (48, Fq), (69, Gy)], [0, 1, 2, 3, 4, 5, 6, 10, 12, 13, 14, 15, 37, 52]⟩
set_option maxRecDepth 100000 in
set_option maxHeartbeats 4000000 in
theorem A4y : Bd A35 (Az Tryz.f32) Tryz.f32.results.toList Et := by
  intro (t : Tr) hs
  obtain ⟨hs1, hs2⟩ : smT t := hs
  refine ⟨trivial, ?_⟩
  (conv => whnf); refine ⟨fun h1 => ?_, fun h1 => ?_⟩
  · conv => whnf
    exact ⟨trivial, eqB (by have h1 : ¬ t.length ≤ 40 := by simp at h1; omega
                            simp [C8, h1])⟩
  have h1 : t.length ≤ 40 := by simp at h1; omega
  skip
  refine B2 (fun i : Nat => ⟨[(1, ⟨none, .bx 0 0⟩), (12, ⟨none, .rd 4 (t.map Ao)⟩), (13, ⟨none, .int .i64 t.length⟩), (14, ⟨none, .int .i64 i⟩)], [(0, .own 1 [[.rd 4 (t.map Ao)]])], 1⟩)
    (fun i => i ≤ t.length ∧ ∀ j, j < i → chk t j = true) (fun i => t.length - i) 0 ?_ ⟨by omega, fun j hj => by omega⟩ ?_
  · (refine ⟨?_, ?_, rfl⟩ <;> repeat' (first | exact rfl | exact trivial | refine ⟨?_, ?_⟩ | fail) <;> (conv => whnf))
    all_goals simp
  rintro i ⟨hi, hI⟩
  (conv => whnf); refine ⟨fun h2 => ?_, fun h2 => ?_⟩
  · have h2 : i < t.length := by simpa using h2
    obtain ⟨b, hb⟩ := B7 h2
    have hbs := hs2 b (List.mem_of_getElem? hb)
    have hbad : ∀ {q : Bool}, chk t i = q → q = false → C8 t = false := fun h e => A0t h2 (h.trans e)
    generalize hpv : t.getD (i - 1) It.none = pv
    have hprev : 0 < i → t[i - 1]? = some pv := fun h => by
      rw [← hpv, List.getD_eq_getElem?_getD, List.getElem?_eq_getElem (by omega)]; rfl
    have hix : ∀ {A : Bool}, Cn (some (A && decide ((i : Int) > 0))) → (0 : Int) ≤ (i : Int) - 1 ∧ (t.map Ao)[((i : Int) - 1).toNat]? = some (Ao pv) := by
      intro A h
      have hi0 : 0 < i := by simp [Cn] at h; omega
      exact ⟨by omega, by rw [show ((i : Int) - 1).toNat = i - 1 by omega]; exact Am (hprev hi0)⟩
    repeat ((conv => whnf); refine ⟨Ao b, fun _ => ⟨by omega, by simp [hb]⟩, ?_⟩)
    refine ⟨b, rfl, fun _ => hbs, ?_⟩
    repeat ((conv => whnf); first | refine ⟨fun h => h, ?_⟩ | refine ⟨(by kernel_rfl : C6 _ _ = true), ?_⟩ | refine ⟨_, w64 (bb), ?_⟩ | refine ⟨Ao pv, fun h => hix h, ?_⟩)
    have e1 : decide ((i : Int) > 0) = !(i == 0) := by
      rw [Bool.eq_iff_iff]
      simp
      omega
    (conv => whnf); refine ⟨fun h3 => ?_, fun h3 => ?_⟩
    · have h3 : (!J0 b || (decide ((i : Int) > 0) && !Dm pv.path b.path)) = true := h3
      conv => whnf
      exact ⟨trivial, eqB (hbad (Ug hb hpv) (by
        rw [e1] at h3
        revert h3
        cases J0 b <;> cases (i == 0) <;> cases Dm pv.path b.path <;> simp)).symm⟩
    have h3 : (J0 b && (i == 0 || Dm pv.path b.path)) = true := by
      have h3 : (!J0 b || (decide ((i : Int) > 0) && !Dm pv.path b.path)) = false := h3
      rw [e1] at h3
      revert h3
      cases J0 b <;> cases (i == 0) <;> cases Dm pv.path b.path <;> simp
    conv => whnf
    refine ⟨b.path, rfl, fun _ => hbs.1, ?_⟩
    conv => whnf
    refine ⟨(t, El b.path), rfl, fun _ => ⟨hs1, hs2⟩, ?_⟩
    repeat ((conv => whnf); first | refine ⟨fun h => h, ?_⟩ | refine ⟨(by kernel_rfl : C6 _ _ = true), ?_⟩)
    (conv => whnf); refine ⟨fun h5 => ?_, fun h5 => ?_⟩
    · conv => whnf
      exact ⟨trivial, eqB (hbad (B27 hb (by
        have h5 : (!(B8 t (El b.path)).isSome || ((B8 t (El b.path)).getD It.none).kind != 2) = true := h5
        unfold Nv
        revert h5
        cases (B8 t (El b.path)).isSome <;> simp)) rfl).symm⟩
    have h5 : Nv t (El b.path) = true := by
      have h5 : (!(B8 t (El b.path)).isSome || ((B8 t (El b.path)).getD It.none).kind != 2) = false := h5
      unfold Nv
      revert h5
      cases (B8 t (El b.path)).isSome <;> simp
    repeat ((conv => whnf); refine ⟨_, w64 (bb), ?_⟩)
    refine C5 (i + 1) ?_ ⟨h2, fun j hj => ?_⟩ (by first | omega | (simp; done) | (simp; omega))
    · (refine ⟨?_, ?_, rfl⟩ <;> repeat' (first | exact rfl | exact trivial | refine ⟨?_, ?_⟩ | fail) <;> (conv => whnf))
    · rcases Nat.lt_or_ge j i with h | h
      · exact hI j h
      · rw [show j = i by omega, Ug hb hpv, h3, h5]; rfl
  · have h2 : i = t.length := by
      have : ¬ i < t.length := by simpa using h2
      omega
    subst h2
    conv => whnf
    exact ⟨trivial, eqB (Xs h1 hI).symm⟩
theorem Nb : Ay Tryz.prog 32 Et := Aq (Ch _ _) (FOk.cons Kd (FOk.cons P6 (FOk.cons A1c FOk.nil))) mixed Tryz.func32 rfl Tryz.call32 (by decide) (by kernel_rfl) A4y (by intro _ (y : Tr) _; exact ⟨by simp [Et, con, Aa, A8, AV.noRd, A7, Ab, A5, A6], by simp [Et, con, Aa, A8, AV.noRd, A7, Ab, A5, A6]⟩) (by intro (y : Tr) _; first | (simp [Et, con, Aa, A8, Ag, AV.free, A2, A3, A1, A6, rdT, Ao]; done) | (obtain ⟨_, _⟩ := y; simp [Et, con, Aa, A8, Ag, AV.free, A2, A3, A1, A6, rdT, Ao]; done) | (obtain ⟨_, _, _⟩ := y; simp [Et, con, Aa, A8, Ag, AV.free, A2, A3, A1, A6, rdT, Ao]; done))
noncomputable def Fa : Bp := con [mS 4] true Tr (fun t => [rdT t]) smT (fun t => .str (J9 t))
noncomputable def Z5 : Env := ⟨A4 Bc, A4 [(32, Et)], [0, 1, 2, 3, 4, 6, 9, 11, 12, 13, 14, 26]⟩
set_option maxRecDepth 100000 in
set_option maxHeartbeats 4000000 in
theorem Zc : Bd Z5 (Az Tryz.f12) Tryz.f12.results.toList Fa := by
  intro (t : Tr) hs
  obtain ⟨hs1, hs2⟩ : smT t := hs
  refine ⟨trivial, ?_⟩
  conv => whnf
  refine ⟨t, rfl, fun _ => ⟨hs1, hs2⟩, ?_⟩
  (conv => whnf); refine ⟨fun h1 => ?_, fun h1 => ?_⟩
  · have h1 : C8 t = false := by
      have h1 : (!C8 t) = true := h1
      simpa using h1
    conv => whnf
    exact ⟨trivial, eqS (by simp [J9, h1])⟩
  have h1 : C8 t = true := by
    have h1 : (!C8 t) = false := h1
    simpa using h1
  have hd : J9 t = (t.foldl My ([], -1)).1 := by simp [J9, h1]
  skip
  refine B2 (fun i : Nat => ⟨[(3, ⟨none, .str ((t.take i).foldl My ([], -1)).1⟩), (4, ⟨none, .int .i64 ((t.take i).foldl My ([], -1)).2⟩), (11, ⟨none, .rd 4 (t.map Ao)⟩), (12, ⟨none, .int .i64 t.length⟩), (13, ⟨none, .int .i64 i⟩)], [], 0⟩)
    (fun i => i ≤ t.length) (fun i => t.length - i) 0 ?_ (by omega) ?_
  · (refine ⟨?_, ?_, rfl⟩ <;> repeat' (first | exact rfl | exact trivial | refine ⟨?_, ?_⟩ | fail) <;> (conv => whnf))
    all_goals simp
  intro i hi
  have hi : i ≤ t.length := hi
  (conv => whnf); refine ⟨fun h2 => ?_, fun h2 => ?_⟩
  · have h2 : i < t.length := by simpa using h2
    obtain ⟨b, hb⟩ := B7 h2
    repeat ((conv => whnf); first | refine ⟨fun h => h, ?_⟩ | refine ⟨Ao b, fun _ => ⟨by omega, by simp [hb]⟩, ?_⟩)
    (conv => whnf); refine ⟨fun h3 => ?_, fun h3 => ?_⟩
    · repeat ((conv => whnf); first | refine ⟨(by kernel_rfl : C6 _ _ = true), ?_⟩ | refine ⟨_, w64 (bb), ?_⟩)
      refine C5 (i + 1) ?_ h2 (by first | omega | (simp; done) | (simp; omega))
      rw [Qb hb, My, if_pos h3]
      (refine ⟨?_, ?_, rfl⟩ <;> repeat' (first | exact rfl | exact trivial | refine ⟨?_, ?_⟩ | fail) <;> (conv => whnf))
    · repeat ((conv => whnf); refine ⟨_, w64 (bb), ?_⟩)
      refine C5 (i + 1) ?_ h2 (by first | omega | (simp; done) | (simp; omega))
      rw [Qb hb, My, if_neg (by rw [show _ = false from h3]; exact Bool.false_ne_true)]
      (refine ⟨?_, ?_, rfl⟩ <;> repeat' (first | exact rfl | exact trivial | refine ⟨?_, ?_⟩ | fail) <;> (conv => whnf))
  · have h2 : i = t.length := by
      have : ¬ i < t.length := by simpa using h2
      omega
    subst h2
    rw [List.take_length]
    conv => whnf
    exact ⟨trivial, eqS hd.symm⟩
theorem X5 : Ay Tryz.prog 12 Fa := Aq (Ch _ _) (FOk.cons Nb FOk.nil) mixed Tryz.func12 rfl Tryz.call12 (by decide) (by kernel_rfl) Zc (by intro _ (y : Tr) _; exact ⟨by simp [Fa, con, Aa, A8, AV.noRd, A7, Ab, A5, A6], by simp [Fa, con, Aa, A8, AV.noRd, A7, Ab, A5, A6]⟩) (by intro (y : Tr) _; first | (simp [Fa, con, Aa, A8, Ag, AV.free, A2, A3, A1, A6, rdT, Ao]; done) | (obtain ⟨_, _⟩ := y; simp [Fa, con, Aa, A8, Ag, AV.free, A2, A3, A1, A6, rdT, Ao]; done) | (obtain ⟨_, _, _⟩ := y; simp [Fa, con, Aa, A8, Ag, AV.free, A2, A3, A1, A6, rdT, Ao]; done))
end Go.GH


set_option linter.unusedVariables false
set_option linter.unusedSimpArgs false
namespace Go.GH
open Go Go.Proofs
end Go.GH


set_option linter.unusedVariables false
set_option linter.unusedSimpArgs false
namespace Go.GH
open Go
def B9z (b : UInt8) : Bool := decide (48 ≤ b.toNat) && decide (b.toNat ≤ 57)
def C01 (a : Nat) (s : Str) : Nat := s.foldl (fun a b => 10 * a + (b.toNat - 48)) a
def B9n (s : Str) : Nat := C01 0 s
def B9h (s : Str) : Bool := decide (1 ≤ s.length) && decide (s.length ≤ 6) && s.all B9z && (dig (B9n s) == s)
def num (s : Str) : Option Nat := if B9h s then some (B9n s) else none
end Go.GH


set_option linter.unusedVariables false
set_option linter.unusedSimpArgs false
namespace Go.GH
open Go
def B5a (c : UInt8) : Int := fnd (fun b => b == c) B9s
def B9p (a b : UInt8) : UInt8 := UInt8.ofNat (16 * (B5a a).toNat + (B5a b).toNat)
def U7 : Str → Option Str
  | [] => some []
  | [_] => none
  | a :: b :: r => if (decide (B5a a < 0) || decide (B5a b < 0)) = true then none else (U7 r).map (B9p a b :: ·)
theorem B61 {s : Str} {i : Nat} {a b : UInt8} (ha : s[i]? = some a) (hb : s[i + 1]? = some b) : s.drop i = a :: b :: s.drop (i + 2) := by
  have h1 := H5 ha
  have h2 := H5 hb
  rw [List.drop_eq_getElem_cons h1, List.drop_eq_getElem_cons h2]
  rw [List.getElem?_eq_getElem h1] at ha
  rw [List.getElem?_eq_getElem h2] at hb
  simp only [Option.some.injEq] at ha hb
  rw [ha, hb]
def Ui (s : Str) (i : Nat) (out : Str) : Prop := i ≤ s.length ∧ i % 2 = 0 ∧ out.length ≤ i ∧ U7 s = (U7 (s.drop i)).map (out ++ ·)
theorem Ui.zero (s : Str) : Ui s 0 [] := ⟨by omega, rfl, by simp, by rw [List.drop_zero]; cases U7 s <;> simp⟩
theorem Ui.next {s : Str} {i : Nat} {out : Str} (h : Ui s i out) {a b : UInt8} (ha : s[i]? = some a) (hb : s[i + 1]? = some b) (hn : (decide (B5a a < 0) || decide (B5a b < 0)) = false) : Ui s (i + 2) (out ++ [B9p a b]) := by
  obtain ⟨h1, h2, h3, h4⟩ := h
  have := H5 hb
  refine ⟨by omega, by omega, by simp; omega, ?_⟩
  rw [h4, B61 ha hb, U7, if_neg (by simp [hn])]
  cases U7 (s.drop (i + 2)) <;> simp
theorem Ui.fin {s out : Str} (h : Ui s s.length out) : U7 s = some out := by
  rw [h.2.2.2, List.drop_length]; simp [U7]
def B8x (w : List Str) : OpR := ⟨((num (w.getD 0 [])).getD 0 : Nat), w.getD 1 [], w.getD 2 [], ((num (w.getD 3 [])).getD 0 : Nat), (U7 (w.getD 5 [])).getD [], ((num (w.getD 4 [])).getD 0 : Nat)⟩
def B97 (s : Str) (w : List Str) : Bool := decide (w.length = 6) && (num (w.getD 0 [])).isSome && (num (w.getD 3 [])).isSome && (num (w.getD 4 [])).isSome && (U7 (w.getD 5 [])).isSome && (B99 (B8x w) == s)
def B76 (s : Str) : Option OpR := if B97 s (Aj 32 s) then some (B8x (Aj 32 s)) else none
end Go.GH


set_option linter.unusedVariables false
set_option linter.unusedSimpArgs false
namespace Go.GH
open Go
def B3v : List Str → Option (List OpR)
  | [] => some []
  | a :: r => match B76 a with
    | none => none
    | some o => (B3v r).map (o :: ·)
def Wb (ls : List Str) : Option (List OpR) := if ls.getD (ls.length - 1) [] == [] then B3v (ls.take (ls.length - 1)) else none
def Vs (s : Str) : Option (List OpR) := Wb (Aj 10 s)
def A5j (s : Str) : Str × Str × Bool := if fnd (fun b => b == 10) s ≥ 0 then (s.take (fnd (fun b => b == 10) s).toNat, s.drop ((fnd (fun b => b == 10) s).toNat + 1), true) else (s, [], false)
theorem B4y {p : UInt8 → Bool} {s : Str} (h : 0 ≤ fnd p s) : ∃ x, s[(fnd p s).toNat]? = some x ∧ p x = true ∧ ∀ y, y ∈ s.take (fnd p s).toNat → p y = false := by
  have ha : s.any p = true := by
    rcases Bool.eq_false_or_eq_true (s.any p) with h1 | h1
    · exact h1
    · rw [So h1] at h; omega
  have e : (fnd p s).toNat = s.findIdx p := by unfold fnd; rw [if_pos ha]; simp
  rw [e]
  have hlt : s.findIdx p < s.length := List.findIdx_lt_length.2 (List.any_eq_true.1 ha)
  refine ⟨s[s.findIdx p], List.getElem?_eq_getElem hlt, List.findIdx_getElem, fun y hy => ?_⟩
  obtain ⟨j, hj⟩ := List.getElem?_of_mem hy
  have hjl : j < s.findIdx p := by
    have := H5 hj
    rw [List.length_take] at this; omega
  rw [List.getElem?_take_of_lt hjl] at hj
  have h1 := List.not_of_lt_findIdx hjl
  have hjs : j < s.length := by omega
  rw [List.getElem?_eq_getElem hjs] at hj
  simp only [Option.some.injEq] at hj
  rw [← hj]; simpa using h1
theorem B6a {s : Str} (h : (A5j s).2.2 = true) : s = (A5j s).1 ++ 10 :: (A5j s).2.1 ∧ ∀ x, x ∈ (A5j s).1 → x ≠ 10 := by
  unfold A5j at h ⊢
  by_cases hf : fnd (fun b => b == 10) s ≥ 0
  · rw [if_pos hf]
    obtain ⟨x, h1, h2, h3⟩ := B4y hf
    have hx : x = 10 := by simpa using h2
    subst hx
    refine ⟨?_, fun y hy => by simpa using h3 y hy⟩
    have hlt := H5 h1
    have e : s.drop (fnd (fun b => b == 10) s).toNat = 10 :: s.drop ((fnd (fun b => b == 10) s).toNat + 1) := by
      rw [List.drop_eq_getElem_cons hlt]
      rw [List.getElem?_eq_getElem hlt] at h1
      simp only [Option.some.injEq] at h1
      rw [h1]
    show s = s.take _ ++ 10 :: s.drop _
    rw [← e, List.take_append_drop]
  · rw [if_neg hf] at h; cases h
theorem B50 : Vs [] = some [] := rfl
theorem A3f {a : Str} {r : List Str} (hr : r ≠ []) : Wb (a :: r) = match B76 a with
    | none => none
    | some o => (Wb r).map (o :: ·) := by
  have hl : 0 < r.length := List.length_pos_iff.2 hr
  obtain ⟨k, hk⟩ : ∃ k, r.length = k + 1 := ⟨r.length - 1, by omega⟩
  unfold Wb
  rw [List.length_cons, hk]
  simp only [Nat.add_sub_cancel, List.getD_cons_succ, List.take_succ_cons]
  by_cases h : (r.getD k [] == []) = true
  · rw [if_pos h, if_pos h, B3v]
  · rw [if_neg h, if_neg h]
    cases B76 a <;> rfl
theorem B57 {a b : Str} (ha : ∀ x, x ∈ a → x ≠ 10) : Vs (a ++ 10 :: b) = match B76 a with
    | none => none
    | some o => (Vs b).map (o :: ·) := by
  unfold Vs
  rw [Q0 ha, A3f (J8 10 b)]
def Uk (s r : Str) (out : List OpR) : Prop := out.length + r.length ≤ s.length ∧ Vs s = (Vs r).map (out ++ ·)
theorem Uk.zero (s : Str) : Uk s s [] := ⟨by simp, by cases Vs s <;> simp⟩
theorem Uk.fin {s : Str} {out : List OpR} (h : Uk s [] out) : Vs s = some out := by rw [h.2, B50]; simp
theorem Uk.next {s r : Str} {out : List OpR} (h : Uk s r out) (hc : (A5j r).2.2 = true) {o : OpR} (ho : B76 (A5j r).1 = some o) : Uk s (A5j r).2.1 (out ++ [o]) ∧ (A5j r).2.1.length < r.length := by
  obtain ⟨e, hn⟩ := B6a hc
  have hl := congrArg List.length e
  simp at hl
  refine ⟨⟨by have := h.1; simp; omega, ?_⟩, by omega⟩
  rw [h.2]
  conv => lhs; rw [e]
  rw [B57 hn, ho]
  cases Vs (A5j r).2.1 <;> simp
end Go.GH


set_option linter.unusedVariables false
set_option linter.unusedSimpArgs false
namespace Go.GH
open Go
structure Cur where
  b : Str
  i : Nat
  h : Int
def Ae (b : UInt8) : List AV := [.int .u8 b.toNat]
def B9 (c : Cur) : List AV := [.rd 1 (c.b.map Ae), .int .i64 c.i, .int .i64 c.h]
def Dz (c : Cur) : Prop := c.i ≤ c.b.length ∧ c.b.length ≤ 1048576
def A7p (a b : Int) : Int := IntKind.i64.wrap (BitVec.ofInt IntKind.i64.bits a &&& BitVec.ofInt IntKind.i64.bits b).toNat
def B9m (a b : Int) : Int := IntKind.i64.wrap (BitVec.ofInt IntKind.i64.bits a ^^^ BitVec.ofInt IntKind.i64.bits b).toNat
def B88 (a b : Int) : Int := IntKind.i64.wrap (a * b)
def B73 (a b : Int) : Int := IntKind.i64.wrap (a + b)
theorem B4t {a : Int} {m : Nat} (hm : m < 2 ^ 62) : 0 ≤ A7p a m ∧ A7p a m ≤ m := by
  have h : ((BitVec.ofInt 64 a &&& BitVec.ofInt 64 (m : Int)).toNat : Nat) ≤ m := by
    rw [BitVec.toNat_and]
    refine Nat.le_trans Nat.and_le_right ?_
    rw [BitVec.ofInt_natCast, BitVec.toNat_ofNat]
    exact Nat.mod_le _ _
  have e : A7p a m = ((BitVec.ofInt 64 a &&& BitVec.ofInt 64 (m : Int)).toNat : Int) := w64 (a := ((BitVec.ofInt 64 a &&& BitVec.ofInt 64 (m : Int)).toNat : Int)) (by omega)
  rw [e]
  omega
def Nj (h : Int) : Int := B73 (B88 h 6364136223846793005) 1442695040888963407
def x0 (h : Int) : Int := A7p (B9m (h.fdiv (2 ^ min (33 : Int).toNat IntKind.i64.bits)) (h.fdiv (2 ^ min (45 : Int).toNat IntKind.i64.bits))) 255
def Nw (c : Cur) : Int := match c.b[c.i]? with
  | some y => A7p (x0 (Nj c.h) + y.toNat) 255
  | none => x0 (Nj c.h)
def G5 (c : Cur) : Cur := ⟨c.b, if c.i < c.b.length then c.i + 1 else c.i, Nj c.h⟩
theorem B8t (h : Int) : 0 ≤ x0 h ∧ x0 h ≤ 255 := B4t (m := 255) (by decide)
theorem Oe (c : Cur) : 0 ≤ Nw c ∧ Nw c ≤ 255 := by
  unfold Nw
  split
  · exact B4t (m := 255) (by decide)
  · exact B8t _
theorem Lb {c : Cur} (h : Dz c) : Dz (G5 c) := by
  obtain ⟨h1, h2⟩ := h
  refine ⟨?_, h2⟩
  show (if c.i < c.b.length then c.i + 1 else c.i) ≤ c.b.length
  split <;> omega
def Bx (c : Cur) (n : Int) : Int := if n ≤ 0 then 0 else if n ≤ 256 then (Nw c).tmod n else (Nw c * 16777216 + Nw (G5 c) * 65536 + Nw (G5 (G5 c)) * 256 + Nw (G5 (G5 (G5 c)))).tmod n
def Ak (c : Cur) (n : Int) : Cur := if n ≤ 0 then c else if n ≤ 256 then G5 c else G5 (G5 (G5 (G5 c)))
theorem N3 (c : Cur) (n : Int) : 0 ≤ Bx c n ∧ (0 < n → Bx c n < n) := by
  have c0 := Oe c
  have c1 := Oe (G5 c)
  have c2 := Oe (G5 (G5 c))
  have c3 := Oe (G5 (G5 (G5 c)))
  unfold Bx
  split
  · omega
  · rename_i h
    split
    · exact ⟨Int.tmod_nonneg _ c0.1, fun hn => Int.tmod_lt_of_pos _ hn⟩
    · exact ⟨Int.tmod_nonneg _ (by omega), fun hn => Int.tmod_lt_of_pos _ hn⟩
theorem Bl {c : Cur} {n : Int} (h : Dz c) : Dz (Ak c n) := by
  unfold Ak
  split
  · exact h
  · split
    · exact Lb h
    · exact Lb (Lb (Lb (Lb h)))
def B90 (h : Int) (x : UInt8) : Int := A7p (B73 (B73 (B88 h 131) x.toNat) 7) 1073741823
def B9u (s : Str) : Int := (s.take 4000).foldl B90 (26583 + s.length)
def Jn (s : Str) : Cur := ⟨s, 0, B9u s⟩
theorem B4q {s : Str} (h : s.length ≤ 1048576) : Dz (Jn s) := ⟨Nat.zero_le _, h⟩
theorem B3f {α β : Type} {f : β → α → β} {z : β} {l : List α} {i : Nat} {x : α} (h : l[i]? = some x) : (l.take (i + 1)).foldl f z = f ((l.take i).foldl f z) x := by
  rw [Bm h, List.foldl_append]; rfl
end Go.GH


set_option linter.unusedVariables false
set_option linter.unusedSimpArgs false
namespace Go.GH
open Go Go.Proofs
end Go.GH


set_option linter.unusedVariables false
set_option linter.unusedSimpArgs false
namespace Go.GH
open Go Go.Proofs
open Go.ChangeShapes Go.WideShapes Go.ChangeAt Go.RowKit
end Go.GH


set_option linter.unusedVariables false
set_option linter.unusedSimpArgs false
namespace Go.GH
open Go
def Lf (c : Cur) (l : List Int) : Int := l.getD (Bx c l.length).toNat 0
def G8 (c : Cur) (l : List Str) : Str := l.getD (Bx c l.length).toNat []
def Ad (n : Int) : List AV := [.int .i64 n]
theorem A6o {c : Cur} {l : List Int} (h : 0 < l.length) : l[(Bx c l.length).toNat]? = some (Lf c l) := by
  have := N3 c l.length
  have := this.2 (by omega)
  rw [Lf, List.getD_eq_getElem?_getD, List.getElem?_eq_getElem (by omega)]; rfl
theorem A6i {c : Cur} {l : List Str} (h : 0 < l.length) : l[(Bx c l.length).toNat]? = some (G8 c l) := by
  have := N3 c l.length
  have := this.2 (by omega)
  rw [G8, List.getD_eq_getElem?_getD, List.getElem?_eq_getElem (by omega)]; rfl
theorem A6y {c : Cur} {l : List Int} (h : 0 < l.length) : Lf c l ∈ l := List.mem_of_getElem? (A6o h)
theorem B5z {c : Cur} {l : List Str} (h : 0 < l.length) : G8 c l ∈ l := List.mem_of_getElem? (A6i h)
theorem Pe {c : Cur} {l : List Str} (h : 0 < l.length) {k : Nat} (hk : (l.all fun s => decide (s.length ≤ k)) = true) : (G8 c l).length ≤ k := by
  have := List.all_eq_true.1 hk _ (B5z (c := c) h)
  simpa using this
def T1 : List Str := [[], [47], [97], [47, 65], [47, 97, 47], [47, 47], [47, 116, 111, 111, 108, 111, 110, 103], [47, 97, 47, 98, 47, 99, 47, 100, 47, 101], [47, 97, 47, 98, 47, 99, 47, 100], [47, 97, 32, 98], [47, 126, 48], [47, 97, 47, 46, 46]]
def C9 : List Str := [[47, 97], [47, 98], [47, 97, 47, 120], [47, 97, 47, 121], [47, 98, 47, 120], [47, 99], [47, 97, 47, 120, 47, 122], [47, 100], [47, 97, 47, 98], [47, 101, 47, 102]]
def Tt (c : Cur) : Str := if Bx c 12 = 0 then G8 (Ak c 12) T1 else G8 (Ak c 12) C9
def Qq (c : Cur) : Cur := if Bx c 12 = 0 then Ak (Ak c 12) 12 else Ak (Ak c 12) 10
theorem B5s (c : Cur) : (Tt c).length ≤ 20 := by
  unfold Tt
  split
  · exact Pe (by decide) (by decide)
  · exact Pe (by decide) (by decide)
theorem B00 {c : Cur} (h : Dz c) : Dz (Qq c) := by
  unfold Qq
  split
  · exact Bl (Bl h)
  · exact Bl (Bl h)
def Ka : List Int := [0, 1, 5, 15, 16, 17, 33, 64, 80, 81]
def Re : Nat → Nat → Cur → Str → Str × Cur
  | 0, i, c, s => (s, c)
  | k + 1, i, c, s => Re k (i + 1) (Ak c 2) (s ++ [UInt8.ofNat (97 + (i + (Bx c 2).toNat) % 26)])
def Tm (c : Cur) : Nat := (Lf c Ka).toNat
def Qg (c : Cur) : Str := (Re (Tm c) 0 (Ak c 10) []).1
def Lp (c : Cur) : Cur := (Re (Tm c) 0 (Ak c 10) []).2
theorem A6a : ∀ (k i : Nat) (c : Cur) (s : Str), (Re k i c s).1.length = s.length + k
  | 0, i, c, s => rfl
  | k + 1, i, c, s => by rw [Re, A6a k]; simp; omega
theorem A9z : ∀ (k i : Nat) {c : Cur} (s : Str), Dz c → Dz (Re k i c s).2
  | 0, i, c, s, h => h
  | k + 1, i, c, s, h => by rw [Re]; exact A9z k _ _ (Bl h)
theorem B20 (c : Cur) : 0 ≤ Lf c Ka ∧ Lf c Ka ≤ 81 := by
  have h := A6y (c := c) (l := Ka) (by decide)
  have : (Ka.all fun n => decide (0 ≤ n) && decide (n ≤ 81)) = true := by decide
  have := List.all_eq_true.1 this _ h
  simpa using this
theorem A26 (c : Cur) : (Qg c).length ≤ 81 := by
  have := B20 c
  rw [Qg, A6a, Tm]
  simp; omega
theorem Vu {c : Cur} (h : Dz c) : Dz (Lp c) := A9z _ _ _ (Bl h)
end Go.GH


set_option linter.unusedVariables false
set_option linter.unusedSimpArgs false
namespace Go.GH
open Go
theorem Bn {a a' : AV} {l l' : List AV} (h : a = a') (h2 : l = l') : a :: l = a' :: l' := by rw [h, h2]
theorem Bu {l l' : List AV} (h : l = l') : AV.agg l = .agg l' := by rw [h]
theorem Bh {s : Nat} {x x' : List (List AV)} (h : x = x') : AV.rd s x = .rd s x' := by rw [h]
theorem Bs {s : Nat} {x x' : List (List AV)} (h : x = x') : AV.own s x = .own s x' := by rw [h]
theorem B2z {α : Type} {f : α → List AV} (h : ∀ a, ∀ c, c ∈ f a → c.isOwn = false) {l : List α} {o n : Nat} : ∀ r, r ∈ ((l.map f).drop o).take n → ∀ c, c ∈ r → c.isOwn = false := by
  intro r hr c hc
  obtain ⟨a, _, rfl⟩ := List.mem_map.1 (List.mem_of_mem_drop (List.mem_of_mem_take hr))
  exact h a c hc
theorem rdB (l : Str) : Cl (l.map Ae) = l.map Ae := Im (fun _ => rfl) l
theorem rdN (l : List Int) : Cl (l.map Ad) = l.map Ad := Im (fun _ => rfl) l
theorem tkM {α β : Type} {f : α → β} {l : List α} : (l.map f).take l.length = l.map f := by rw [← List.map_take, List.take_length]
def leb : Nat → Nat → Str
  | 0, n => [UInt8.ofNat n]
  | f + 1, n => if n > 127 then UInt8.ofNat (n % 128 + 128) :: leb f (n / 128) else [UInt8.ofNat n]
def Kq (n : Int) : Str := if inB n 0 2147483647 then leb 5 n.toNat else []
theorem B4p : ∀ (f n : Nat), (leb f n).length ≤ f + 1
  | 0, n => by simp [leb]
  | f + 1, n => by
    rw [leb]
    split
    · have := B4p f (n / 128); simp; omega
    · simp
theorem O5 (n : Int) : (Kq n).length ≤ 6 := by
  unfold Kq
  split
  · exact B4p _ _
  · simp
def gN (b : Str) (a : Int) : Nat → Nat → Nat → Option (Nat × Nat)
  | 0, k, n => none
  | f + 1, k, n =>
    if a < 0 ∨ a ≥ (b.length : Int) - k then none
    else if (b.getD (a + k).toNat 0).toNat < 128 then
      if (k > 0 ∧ (b.getD (a + k).toNat 0).toNat = 0) ∨ n ||| ((b.getD (a + k).toNat 0).toNat % 128) <<< (7 * k) > 2147483647 then none
      else some (n ||| ((b.getD (a + k).toNat 0).toNat % 128) <<< (7 * k), (a + k + 1).toNat)
    else gN b a f (k + 1) (n ||| ((b.getD (a + k).toNat 0).toNat % 128) <<< (7 * k))
def Ea (b : Str) (a : Int) : Option (Nat × Nat) := gN b a 5 0 0
theorem B8z {b : Str} {a : Int} : ∀ {f k n : Nat} {r : Nat × Nat}, gN b a f k n = some r → 0 ≤ a ∧ r.1 ≤ 2147483647 ∧ a.toNat < r.2 ∧ r.2 ≤ b.length
  | 0, k, n, r, h => by cases h
  | f + 1, k, n, r, h => by
    rw [gN] at h
    split at h
    · cases h
    rename_i h1
    split at h
    · split at h
      · cases h
      · rename_i h2 h3
        simp only [Option.some.injEq] at h
        subst h
        refine ⟨by omega, by omega, ?_, ?_⟩ <;> dsimp only <;> omega
    · exact B8z h
theorem Tc {b : Str} {a : Int} {n x : Nat} (h : Ea b a = some (n, x)) : 0 ≤ a ∧ n ≤ 2147483647 ∧ a.toNat < x ∧ x ≤ b.length := B8z h
def He (b : Str) (a : Int) : Option (Str × Nat) := match Ea b a with
  | none => none
  | some (n, x) => if n > b.length - x then none else some ((b.drop x).take n, x + n)
theorem B2h {b : Str} {a : Int} {s : Str} {x : Nat} (h : He b a = some (s, x)) : 0 ≤ a ∧ a.toNat + s.length < x ∧ x ≤ b.length := by
  unfold He at h
  split at h
  · cases h
  · rename_i n y hg
    split at h
    · cases h
    · rename_i h2
      simp only [Option.some.injEq, Prod.mk.injEq] at h
      obtain ⟨rfl, rfl⟩ := h
      have := Tc hg
      simp
      omega
def Qd (s : Str) : Str := Kq s.length ++ s
structure En where
  name : Str
  node : Int
def Ah (e : En) : List AV := [.str e.name, .int .i64 e.node]
theorem rdE (l : List En) : Cl (l.map Ah) = l.map Ah := Im (fun _ => rfl) l
def Qn (e : En) : Str := Qd e.name ++ Kq e.node
def F1 (l : List En) : Str := l.flatMap Qn
def szE (l : List En) : Nat := (l.map fun e => e.name.length + 12).sum
theorem B03 (e : En) : (Qn e).length ≤ e.name.length + 12 := by
  have := O5 e.name.length
  have := O5 e.node
  simp [Qn, Qd]; omega
theorem Om : ∀ (l : List En), (F1 l).length ≤ szE l
  | [] => by simp [F1, szE]
  | e :: l => by
    have h1 := B03 e
    have h2 := Om l
    simp only [F1, szE, List.flatMap_cons, List.length_append, List.map_cons, List.sum_cons] at *
    omega
theorem T4 (e : En) (l : List En) : szE (e :: l) = e.name.length + 12 + szE l := by simp [szE]
theorem V8 (l m : List En) : szE (l ++ m) = szE l + szE m := by simp [szE]
theorem B4n : ∀ (l : List En), 12 * l.length ≤ szE l
  | [] => by simp
  | e :: l => by have := B4n l; rw [T4]; simp; omega
def hid : Str := [126]
def Uu (s : Str) : Bool := s == hid || Cx s
def B4g (i : Nat) (e pv : En) : Bool := !Uu e.name || !inB e.node 1 9 || (decide ((i : Int) > 0) && (Dm e.name pv.name || e.name == pv.name))
def Xy (l : List En) (i : Nat) : Bool := match l[i]? with
  | none => false
  | some e => !B4g i e (l.getD (i - 1) e) && !((l.take i).any fun x => x.node == e.node)
def Cz (l : List En) : Bool := (List.range l.length).all (Xy l) && decide ((F1 l).length ≤ 80)
def Xo (b : Str) : Nat → Nat → List En → Option (List En)
  | 0, a, out => if a < b.length then none else some out
  | f + 1, a, out => if a < b.length then match He b a with
      | none => none
      | some (s, x) => match Ea b x with
        | none => none
        | some (n, y) => Xo b f y (out ++ [⟨s, n⟩])
    else some out
def Pg (s : Str) : Option (List En) := match Xo s s.length 0 [] with
  | none => none
  | some l => if Cz l then some l else none
def F0 (l : List En) (s : Str) : Int := match l.find? fun e => e.name == s with
  | none => -1
  | some e => e.node
def Qe (l : List En) (s : Str) : Nat := l.findIdx fun e => Dm s e.name
def L8 (l : List En) (e : En) : List En := l.take (Qe l e.name) ++ [e] ++ l.drop (Qe l e.name)
def Gl (l : List En) (e : En) : List En × Bool := if Cz l && Cz (L8 l e) then (L8 l e, true) else (l, false)
def Gm (l : List En) (s : Str) : List En := l.eraseP fun e => e.name == s
theorem orN {a b : Nat} (ha : a < 2 ^ 62) (hb : b < 2 ^ 62) : IntKind.i64.wrap (BitVec.ofInt IntKind.i64.bits (a : Int) ||| BitVec.ofInt IntKind.i64.bits (b : Int)).toNat = ((a ||| b : Nat) : Int) := by
  have h : ((BitVec.ofInt 64 (a : Int) ||| BitVec.ofInt 64 (b : Int)).toNat : Nat) = a ||| b := by
    rw [BitVec.toNat_or, BitVec.ofInt_natCast, BitVec.ofInt_natCast, BitVec.toNat_ofNat, BitVec.toNat_ofNat, Nat.mod_eq_of_lt (by omega), Nat.mod_eq_of_lt (by omega)]
  have h2 := Nat.or_lt_two_pow ha hb
  show IntKind.i64.wrap ((BitVec.ofInt 64 (a : Int) ||| BitVec.ofInt 64 (b : Int)).toNat : Int) = _
  rw [h]
  exact w64 (by omega)
theorem shN {d k : Nat} (hd : d < 128) (hk : k < 5) : (d <<< (7 * k) : Nat) < 2 ^ (7 * k + 7) ∧ d * 2 ^ (7 * k) = d <<< (7 * k) := by
  rw [Nat.shiftLeft_eq, Nat.pow_add]
  refine ⟨?_, rfl⟩
  rw [Nat.mul_comm]
  exact Nat.mul_lt_mul_of_pos_left (by omega) (Nat.two_pow_pos _)
end Go.GH
namespace Go.GH
theorem A0b (l : List En) (s : Str) : Qe l s ≤ l.length := List.findIdx_le_length
theorem B58 {l : List En} {s : Str} {j : Nat} {e : En} (h : l[j]? = some e) : j + ((l.drop j).findIdx fun e => Dm s e.name) = if Dm s e.name then j else j + 1 + ((l.drop (j + 1)).findIdx fun e => Dm s e.name) := by
  have hj := (List.getElem?_eq_some_iff.1 h).1
  rw [List.drop_eq_getElem_cons hj, List.findIdx_cons, (List.getElem?_eq_some_iff.1 h).2]
  cases Dm s e.name
  · simp; omega
  · simp
theorem A6w (l : List En) (e : En) : szE (L8 l e) = szE l + (e.name.length + 12) := by
  have h := V8 (l.take (Qe l e.name)) (l.drop (Qe l e.name))
  rw [List.take_append_drop] at h
  rw [L8, V8, V8, h]
  simp [szE]; omega
theorem A1z (l : List En) (e : En) : (L8 l e).length = l.length + 1 := by
  have := A0b l e.name
  simp [L8]; omega
theorem A2v {l : List En} {e x : En} (h : x ∈ L8 l e) : x = e ∨ x ∈ l := by
  simp only [L8, List.mem_append, List.mem_singleton] at h
  rcases h with (h | h) | h
  · exact .inr (List.mem_of_mem_take h)
  · exact .inl h
  · exact .inr (List.mem_of_mem_drop h)
def smE (l : List En) : Prop := l.length ≤ 1048576 ∧ szE l ≤ 1099511627776 ∧ ∀ e, e ∈ l → e.name.length ≤ 1048576
theorem B7s {l : List En} {s : Str} {i : Nat} {e : En} (h : l[i]? = some e) (hn : ((l.take i).any fun e => e.name == s) = false) (he : (e.name == s) = true) : Gm l s = l.take i ++ l.drop (i + 1) := by
  have hj := (List.getElem?_eq_some_iff.1 h).1
  have hs : l = l.take i ++ e :: l.drop (i + 1) := by
    have := List.take_append_drop i l
    rw [List.drop_eq_getElem_cons hj, (List.getElem?_eq_some_iff.1 h).2] at this
    exact this.symm
  have h1 : Gm l s = Gm (l.take i ++ e :: l.drop (i + 1)) s := congrArg (fun x => Gm x s) hs
  rw [h1, Gm, List.eraseP_append_right _ (by
    intro b hb
    have := List.any_eq_false.1 hn b hb
    simpa using this), List.eraseP_cons_of_pos (p := fun e : En => e.name == s) (by simpa using he)]
theorem B7b {l : List En} {s : Str} (hn : (l.any fun e => e.name == s) = false) : Gm l s = l := by
  rw [Gm, List.eraseP_of_forall_not]
  intro a ha
  have := List.any_eq_false.1 hn a ha
  simpa using this
end Go.GH


set_option linter.unusedVariables false
set_option linter.unusedSimpArgs false
namespace Go.GH
open Go Go.Proofs
noncomputable def Hn : Bp := con [mS 1, mC] true (List Int × Int) (fun ⟨l, x⟩ => [.rd 1 (l.map Ad), .int .i64 x]) (fun x => x.1.length ≤ 4611686018427387904) (fun ⟨l, x⟩ => .bool (l.contains x))
noncomputable def A9q : Env := ⟨A4 Bc, A4 [], [0, 1, 4, 5, 9, 17]⟩
set_option maxRecDepth 100000 in
set_option maxHeartbeats 4000000 in
theorem A8l : Bd A9q (Az Tryz.f200) Tryz.f200.results.toList Hn := by
  rintro ⟨l, x⟩ hl
  have hl : l.length ≤ 4611686018427387904 := hl
  refine ⟨trivial, ?_⟩
  skip
  refine B2 (fun i : Nat => ⟨[(0, ⟨none, .rd 1 (l.map Ad)⟩), (1, ⟨none, .int .i64 x⟩), (5, ⟨none, .int .i64 i⟩)], [], 0⟩) (fun i => i ≤ l.length ∧ (l.take i).contains x = false) (fun i => l.length - i) 0 ?_ ⟨by omega, rfl⟩ ?_
  · (refine ⟨?_, ?_, rfl⟩ <;> repeat' (first | exact rfl | exact trivial | refine ⟨?_, ?_⟩ | fail) <;> (conv => whnf))
  rintro i ⟨hi, hc⟩
  (conv => whnf); refine ⟨fun h1 => ?_, fun h1 => ?_⟩
  · have h1 : i < l.length := by simpa using h1
    obtain ⟨b, hb⟩ := B7 h1
    repeat ((conv => whnf); refine ⟨Ad b, fun _ => ⟨by omega, Am hb⟩, ?_⟩)
    (conv => whnf); refine ⟨fun h2 => ?_, fun h2 => ?_⟩
    · have h2 : (b == x) = true := h2
      have h2 : b = x := by simpa using h2
      skip
      refine ⟨trivial, eqB (Eq.symm ?_)⟩
      have hm : x ∈ l := by rw [← h2]; exact List.mem_of_getElem? hb
      simpa using hm
    · have h2 : (b == x) = false := h2
      repeat ((conv => whnf); refine ⟨_, w64 (bb), ?_⟩)
      refine C5 (i + 1) ?_ ⟨h1, ?_⟩ (by first | omega | (simp; done) | (simp; omega))
      · (refine ⟨?_, ?_, rfl⟩ <;> repeat' (first | exact rfl | exact trivial | refine ⟨?_, ?_⟩ | fail) <;> (conv => whnf))
      · rw [Bm hb]
        simp at h2 hc ⊢
        exact ⟨hc, fun e => h2 e.symm⟩
  · have h1 : i = l.length := by have : ¬ (i < l.length) := by simpa using h1
                                 omega
    subst h1
    rw [List.take_length] at hc
    skip
    exact ⟨trivial, eqB hc.symm⟩
theorem A52 : Ay Tryz.prog 200 Hn := Aq (Ch _ _) FOk.nil mixed Tryz.func200 rfl Tryz.call200 (by decide) (by kernel_rfl) A8l (by intro _ (y : (List Int × Int)) _; exact ⟨by simp [Hn, con, Aa, A8, AV.noRd, A7, Ab, A5, A6, Ad, Ae, Ah], by simp [Hn, con, Aa, A8, AV.noRd, A7, Ab, A5, A6, Ad, Ae, Ah]⟩) (by intro (y : (List Int × Int)) _; first | (simp [Hn, con, Aa, A8, Ag, AV.free, A2, A3, A1, A6, Ad, Ae, Ah]; done) | (obtain ⟨_, _⟩ := y; simp [Hn, con, Aa, A8, Ag, AV.free, A2, A3, A1, A6, Ad, Ae, Ah]; done) | (obtain ⟨_, _, _⟩ := y; simp [Hn, con, Aa, A8, Ag, AV.free, A2, A3, A1, A6, Ad, Ae, Ah]; done))
noncomputable def Hl : Bp := con [mC, mC] true (Int × Int) (fun ⟨a, b⟩ => [.int .i64 a, .int .i64 b]) (fun _ => True) (fun ⟨a, b⟩ => .int .i64 (if a < b then a else b))
noncomputable def A87 : Env := ⟨A4 Bc, A4 [], [0, 1, 4, 7]⟩
set_option maxRecDepth 100000 in
set_option maxHeartbeats 4000000 in
theorem A9e : Bd A87 (Az Tryz.f201) Tryz.f201.results.toList Hl := by
  rintro ⟨a, b⟩ _
  refine ⟨trivial, ?_⟩
  (conv => whnf); refine ⟨fun h1 => ?_, fun h1 => ?_⟩
  · have h1 : a < b := by simpa using h1
    skip
    exact ⟨trivial, Ob (by rw [if_pos h1])⟩
  · have h1 : ¬ a < b := by simpa using h1
    skip
    exact ⟨trivial, Ob (by rw [if_neg h1])⟩
theorem A3r : Ay Tryz.prog 201 Hl := Aq (Ch _ _) FOk.nil mixed Tryz.func201 rfl Tryz.call201 (by decide) (by kernel_rfl) A9e (by intro _ (y : (Int × Int)) _; exact ⟨by simp [Hl, con, Aa, A8, AV.noRd, A7, Ab, A5, A6, Ad, Ae, Ah], by simp [Hl, con, Aa, A8, AV.noRd, A7, Ab, A5, A6, Ad, Ae, Ah]⟩) (by intro (y : (Int × Int)) _; first | (simp [Hl, con, Aa, A8, Ag, AV.free, A2, A3, A1, A6, Ad, Ae, Ah]; done) | (obtain ⟨_, _⟩ := y; simp [Hl, con, Aa, A8, Ag, AV.free, A2, A3, A1, A6, Ad, Ae, Ah]; done) | (obtain ⟨_, _, _⟩ := y; simp [Hl, con, Aa, A8, Ag, AV.free, A2, A3, A1, A6, Ad, Ae, Ah]; done))
noncomputable def Eg : Bp := con [mC] false Int (fun n => [.int .i64 n]) (fun _ => True) (fun n => .own 1 ((Kq n).map Ae))
noncomputable def A3l : Env := ⟨A4 Bc, A4 [(76, Co)], [0, 2, 3, 7, 10]⟩
set_option maxRecDepth 100000 in
set_option maxHeartbeats 4000000 in
theorem A3k : Bd A3l (Az Tryz.f208) Tryz.f208.results.toList Eg := by
  intro (n : Int) _
  refine ⟨trivial, ?_⟩
  skip
  refine ⟨(n, 0, 2147483647), rfl, fun _ => trivial, ?_⟩
  (conv => whnf); refine ⟨fun h1 => ?_, fun h1 => ?_⟩
  · have h1 : inB n 0 2147483647 = false := by simpa using h1
    skip
    rw [show Eg.res n = .own 1 [] by show AV.own 1 ((Kq n).map Ae) = _; rw [Kq, if_neg (by rw [h1]; decide)]; rfl]
    exact ⟨trivial, rfl, rfl⟩
  · have h1 : inB n 0 2147483647 = true := by simpa using h1
    have hn : 0 ≤ n ∧ n ≤ 2147483647 := by simpa [inB] using h1
    have hp : Kq n = leb 5 n.toNat := by rw [Kq, if_pos h1]
    refine B2 (fun ((m, o, t) : Nat × Str × Nat) => ⟨[(0, ⟨none, .int .i64 m⟩), (3, ⟨none, .view 0 [] 0 o.length⟩)], [(0, .own 1 (o.map Ae))], 1⟩)
      (fun (m, o, t) => m ≤ 2147483647 ∧ o.length + t = 5 ∧ m < 128 ^ t * 8 ∧ o ++ leb t m = Kq n) (fun x => x.2.2) (n.toNat, [], 5) ?_ ⟨by omega, rfl, by omega, hp.symm⟩ ?_
    · (refine ⟨?_, ?_, rfl⟩ <;> repeat' (first | exact rfl | exact trivial | refine ⟨?_, ?_⟩ | fail) <;> (conv => whnf))
      all_goals first | rfl | (simp; omega)
    rintro ⟨m, o, t⟩ ⟨hm, ho, ht, hI⟩
    (conv => whnf); refine ⟨fun h2 => ?_, fun h2 => ?_⟩
    · have h2 : 127 < m := by have h2 : decide ((m : Int) > 127) = true := h2
                              simp at h2; omega
      obtain ⟨t, rfl⟩ : ∃ u, t = u + 1 := ⟨t - 1, by
        have : t ≠ 0 := fun e => by subst e; simp at ht; omega
        omega⟩
      rw [leb, if_pos h2] at hI
      repeat ((conv => whnf); refine ⟨bb, ?_⟩)
      refine ⟨((m % 128 : Nat) : Int), by show ((m : Int)).tmod 128 = _; rfl, ?_⟩
      repeat ((conv => whnf); refine ⟨_, w64 (bb), ?_⟩)
      refine ⟨((m % 128 + 128 : Nat) : Int), by show Int.ofNat ((m % 128 + 128) % 256) = _; rw [Nat.mod_eq_of_lt (by omega)]; rfl, ?_⟩
      repeat ((conv => whnf); first | refine ⟨bb, ?_⟩ | refine ⟨fun (r : List AV) hr c hc => by simp [A6] at hr; (try subst hr); simp at hc; (try subst hc); rfl, ?_⟩)
      refine ⟨((m / 128 : Nat) : Int), by
        show IntKind.i64.wrap ((m : Int).tdiv 128) = _
        rw [show (m : Int).tdiv 128 = ((m / 128 : Nat) : Int) from rfl]
        exact w64 (by omega), ?_⟩
      skip
      refine C5 (m / 128, o ++ [UInt8.ofNat (m % 128 + 128)], t) ?_ ⟨by omega, by simp; omega, by rw [Nat.pow_succ] at ht; omega, by rw [← hI]; simp⟩ (by first | omega | (simp; done) | (simp; omega))
      (refine ⟨?_, ?_, rfl⟩ <;> repeat' (first | exact rfl | exact trivial | refine ⟨?_, ?_⟩ | fail) <;> (conv => whnf))
      all_goals first | rfl | (simp [Ae]; done) | (simp [Ae, List.take_of_length_le]; omega)
    · have h2 : ¬ 127 < m := by have h2 : decide ((m : Int) > 127) = false := h2
                                simp at h2; omega
      have hl : leb t m = [UInt8.ofNat m] := by
        cases t with
        | zero => rfl
        | succ t => rw [leb, if_neg h2]
      rw [hl] at hI
      refine ⟨(m : Int), by show Int.ofNat (m % 256) = _; rw [Nat.mod_eq_of_lt (by omega)]; rfl, ?_⟩
      repeat ((conv => whnf); first | refine ⟨bb, ?_⟩ | refine ⟨fun (r : List AV) hr c hc => by simp [A6] at hr; (try subst hr); simp at hc; (try subst hc); rfl, ?_⟩)
      rw [show Eg.res n = .own 1 ((o ++ [UInt8.ofNat m]).map Ae) by rw [hI]; rfl]
      refine ⟨trivial, rfl, ?_⟩
      have : m < 256 := by omega
      simp [Ae, List.take_of_length_le]; omega
theorem Rv : Ay Tryz.prog 208 Eg := Aq (Ch _ _) (FOk.cons E1 FOk.nil) mixed Tryz.func208 rfl Tryz.call208 (by decide) (by kernel_rfl) A3k (by intro _ (y : Int) _; exact ⟨by simp [Eg, con, Aa, A8, AV.noRd, A7, Ab, A5, A6, Ad, Ae, Ah], by simp [Eg, con, Aa, A8, AV.noRd, A7, Ab, A5, A6, Ad, Ae, Ah]⟩) (by intro (y : Int) _; first | (simp [Eg, con, Aa, A8, Ag, AV.free, A2, A3, A1, A6, Ad, Ae, Ah]; done) | (obtain ⟨_, _⟩ := y; simp [Eg, con, Aa, A8, Ag, AV.free, A2, A3, A1, A6, Ad, Ae, Ah]; done) | (obtain ⟨_, _, _⟩ := y; simp [Eg, con, Aa, A8, Ag, AV.free, A2, A3, A1, A6, Ad, Ae, Ah]; done))
noncomputable def Ev : Bp := con [mS 1, mC] false (Str × Int) (fun ⟨b, a⟩ => [.rd 1 (b.map Ae), .int .i64 a]) (fun x => x.1.length ≤ 4611686018427387904) (fun ⟨b, a⟩ => .tup [.int .i64 (((Ea b a).getD (0, 0)).1 : Nat), .int .i64 (((Ea b a).getD (0, 0)).2 : Nat), .bool (Ea b a).isSome])
noncomputable def A5m : Env := ⟨A4 Bc, A4 [], [0, 1, 4, 5, 6, 7, 8, 9, 11, 23, 39, 49]⟩
set_option maxRecDepth 100000 in
set_option maxHeartbeats 4000000 in
theorem A4p : Bd A5m (Az Tryz.f203) Tryz.f203.results.toList Ev := by
  rintro ⟨b, a⟩ hb
  have hb : b.length ≤ 4611686018427387904 := hb
  refine ⟨trivial, ?_⟩
  have fin : ∀ {o : Option (Nat × Nat)}, o = Ea b a → Ev.res (b, a) = .tup [.int .i64 ((o.getD (0, 0)).1 : Nat), .int .i64 ((o.getD (0, 0)).2 : Nat), .bool o.isSome] := fun h => by rw [h]; rfl
  skip
  refine B2 (fun ((k, n) : Nat × Nat) => ⟨[(0, ⟨none, .rd 1 (b.map Ae)⟩), (1, ⟨none, .int .i64 a⟩), (7, ⟨none, .int .i64 n⟩), (8, ⟨none, .int .i64 k⟩)], [], 0⟩)
    (fun (k, n) => k ≤ 5 ∧ n < 2 ^ (7 * k) ∧ gN b a (5 - k) k n = Ea b a) (fun x => 5 - x.1) (0, 0) ?_ ⟨by omega, by omega, rfl⟩ ?_
  · (refine ⟨?_, ?_, rfl⟩ <;> repeat' (first | exact rfl | exact trivial | refine ⟨?_, ?_⟩ | fail) <;> (conv => whnf))
  rintro ⟨k, n⟩ ⟨hk, hn, hI⟩
  (conv => whnf); refine ⟨fun h1 => ?_, fun h1 => ?_⟩
  · have h1 : k < 5 := by have h1 : decide ((k : Int) < 5) = true := h1
                          simp at h1; omega
    obtain ⟨f, hf⟩ : ∃ f, 5 - k = f + 1 := ⟨4 - k, by omega⟩
    have hf2 : 5 - (k + 1) = f := by omega
    rw [hf, gN] at hI
    have hn2 : n < 2 ^ 35 := Nat.lt_of_lt_of_le hn (Nat.pow_le_pow_right (by omega) (by omega))
    repeat ((conv => whnf); first | refine ⟨fun h => h, ?_⟩ | refine ⟨_, w64 (bb), ?_⟩)
    (conv => whnf); refine ⟨fun h2 => ?_, fun h2 => ?_⟩
    · have h2 : a < 0 ∨ a ≥ (b.length : Int) - k := by
        have h2 : (decide (a < 0) || decide (a ≥ (((b.map Ae).length : Nat) : Int) - k)) = true := h2
        rw [List.length_map] at h2
        simpa using h2
      rw [if_pos h2] at hI
      skip
      rw [fin hI]
      exact ⟨trivial, rfl, rfl, rfl, trivial⟩
    have h2 : ¬ (a < 0 ∨ a ≥ (b.length : Int) - k) := by
      have h2 : (decide (a < 0) || decide (a ≥ (((b.map Ae).length : Nat) : Int) - k)) = false := h2
      rw [List.length_map] at h2
      simp at h2
      omega
    rw [if_neg h2] at hI
    obtain ⟨x, hx⟩ := B7 (l := b) (i := (a + k).toNat) (by omega)
    have hx1 : b.getD (a + k).toNat 0 = x := by rw [List.getD_eq_getElem?_getD, hx]; rfl
    have hxl := x.toNat_lt
    rw [hx1] at hI
    obtain ⟨s1, s2⟩ := shN (d := x.toNat % 128) (k := k) (by omega) h1
    have s3 : (x.toNat % 128) <<< (7 * k) < 2 ^ 35 := Nat.lt_of_lt_of_le s1 (Nat.pow_le_pow_right (by omega) (by omega))
    have s4 : n ||| (x.toNat % 128) <<< (7 * k) < 2 ^ (7 * k + 7) := Nat.or_lt_two_pow (Nat.lt_of_lt_of_le hn (Nat.pow_le_pow_right (by omega) (by omega))) s1
    repeat ((conv => whnf); first | refine ⟨_, w64 (bb), ?_⟩ | refine ⟨bb, ?_⟩ | refine ⟨Ae x, fun _ => ⟨by omega, Am hx⟩, ?_⟩)
    refine ⟨((x.toNat % 128 : Nat) : Int), rfl, ?_⟩
    repeat ((conv => whnf); first | refine ⟨_, w64 (bb), ?_⟩ | refine ⟨bb, ?_⟩)
    refine ⟨(((x.toNat % 128) <<< (7 * k) : Nat) : Int), by
      show IntKind.i64.wrap (((x.toNat % 128 : Nat) : Int) * 2 ^ min (7 * (k : Int)).toNat 64) = _
      rw [show min (7 * (k : Int)).toNat 64 = 7 * k by omega, ← s2]
      rw [← s2] at s3
      rw [show (((x.toNat % 128 : Nat) : Int) * 2 ^ (7 * k)) = ((x.toNat % 128 * 2 ^ (7 * k) : Nat) : Int) by rw [Int.natCast_mul, Int.natCast_pow]; rfl]
      exact w64 (by omega), ?_⟩
    skip
    refine ⟨((n ||| (x.toNat % 128) <<< (7 * k) : Nat) : Int), orN (by omega) (by omega), ?_⟩
    generalize hm : n ||| (x.toNat % 128) <<< (7 * k) = m at hI s4 ⊢
    skip
    (conv => whnf); refine ⟨fun h3 => ?_, fun h3 => ?_⟩
    · have h3 : x.toNat < 128 := by have h3 : decide ((x.toNat : Int) < 128) = true := h3
                                    simp at h3; omega
      rw [if_pos h3] at hI
      repeat ((conv => whnf); refine ⟨fun h => h, ?_⟩)
      (conv => whnf); refine ⟨fun h4 => ?_, fun h4 => ?_⟩
      · have h4 : (k > 0 ∧ x.toNat = 0) ∨ m > 2147483647 := by
          have h4 : ((decide ((k : Int) > 0) && ((x.toNat : Int) == 0)) || decide ((m : Int) > 2147483647)) = true := h4
          simp at h4
          omega
        rw [if_pos h4] at hI
        skip
        rw [fin hI]
        exact ⟨trivial, rfl, rfl, rfl, trivial⟩
      · have h4 : ¬ ((k > 0 ∧ x.toNat = 0) ∨ m > 2147483647) := by
          have h4 : ((decide ((k : Int) > 0) && ((x.toNat : Int) == 0)) || decide ((m : Int) > 2147483647)) = false := h4
          simp at h4
          omega
        rw [if_neg h4] at hI
        repeat ((conv => whnf); refine ⟨_, w64 (bb), ?_⟩)
        rw [fin hI]
        refine ⟨trivial, rfl, Ob ?_, rfl, trivial⟩
        show _ = (((a + k + 1).toNat : Nat) : Int)
        omega
    · have h3 : ¬ x.toNat < 128 := by have h3 : decide ((x.toNat : Int) < 128) = false := h3
                                      simp at h3; omega
      rw [if_neg h3] at hI
      repeat ((conv => whnf); refine ⟨_, w64 (bb), ?_⟩)
      refine C5 (k + 1, m) ?_ ⟨by omega, by rw [show 7 * (k + 1) = 7 * k + 7 by omega]; exact s4, by rw [hf2]; exact hI⟩ (by show 5 - (k + 1) < 5 - k; omega)
      (refine ⟨?_, ?_, rfl⟩ <;> repeat' (first | exact rfl | exact trivial | refine ⟨?_, ?_⟩ | fail) <;> (conv => whnf))
  · have h1 : k = 5 := by have h1 : decide ((k : Int) < 5) = false := h1
                          simp at h1; omega
    subst h1
    skip
    rw [fin hI]
    exact ⟨trivial, rfl, rfl, rfl, trivial⟩
theorem Sl : Ay Tryz.prog 203 Ev := Aq (Ch _ _) FOk.nil mixed Tryz.func203 rfl Tryz.call203 (by decide) (by kernel_rfl) A4p (by intro _ (y : (Str × Int)) _; exact ⟨by simp [Ev, con, Aa, A8, AV.noRd, A7, Ab, A5, A6, Ad, Ae, Ah], by simp [Ev, con, Aa, A8, AV.noRd, A7, Ab, A5, A6, Ad, Ae, Ah]⟩) (by intro (y : (Str × Int)) _; first | (simp [Ev, con, Aa, A8, Ag, AV.free, A2, A3, A1, A6, Ad, Ae, Ah]; done) | (obtain ⟨_, _⟩ := y; simp [Ev, con, Aa, A8, Ag, AV.free, A2, A3, A1, A6, Ad, Ae, Ah]; done) | (obtain ⟨_, _, _⟩ := y; simp [Ev, con, Aa, A8, Ag, AV.free, A2, A3, A1, A6, Ad, Ae, Ah]; done))
end Go.GH


set_option linter.unusedVariables false
set_option linter.unusedSimpArgs false
namespace Go.GH
open Go
structure Nd where
  kind : Int
  gen : Int
  time : Int
  size : Int
  blocks : List Int
def Nd.zero : Nd := ⟨0, 0, 0, 0, []⟩
structure Fs where
  nodes : List Nd
  data : List Str
def Ap (n : Nd) : List AV := [.int .i64 n.kind, .int .i64 n.gen, .int .i64 n.time, .int .i64 n.size, .rd 1 (n.blocks.map Ad)]
def Av (n : Nd) : List AV := [.int .i64 n.kind, .int .i64 n.gen, .int .i64 n.time, .int .i64 n.size, .own 1 (n.blocks.map Ad)]
theorem rdD (l : List Nd) : Cl (l.map Ap) = l.map Ap := Im (fun n => by simp [Ap, H0, AV.toRd, rdN]) l
theorem rdW (l : List Nd) : Cl (l.map Av) = l.map Ap := by
  induction l with
  | nil => rfl
  | cons n l ih => simp only [List.map_cons, Cl, ih]; simp [Ap, Av, H0, AV.toRd, rdN]
def Al (f : Fs) : List AV := [.rd 5 (f.nodes.map Ap), .rd 1 (f.data.map A6)]
def Ax (f : Fs) : List AV := [.own 5 (f.nodes.map Av), .own 1 (f.data.map A6)]
def smF (f : Fs) : Prop := f.nodes.length ≤ 65536 ∧ f.data.length ≤ 65536 ∧ (∀ n, n ∈ f.nodes → n.blocks.length ≤ 65536) ∧ ∀ s, s ∈ f.data → s.length ≤ 4194304
def Fg (s : Int) : Int := if s ≤ 0 then 0 else if s ≥ 80 then 5 else (s + 15).tdiv 16
theorem Q8 (s : Int) : 0 ≤ Fg s ∧ Fg s ≤ 5 := by
  unfold Fg
  split
  · omega
  · split
    · omega
    · rw [Int.tdiv_eq_ediv_of_nonneg (by omega)]; omega
def Ue (l : List Int) (i : Nat) : Bool := match l[i]? with
  | none => false
  | some b => inB b 0 35 && !(l.take i).contains b
def Hy (n : Nd) : Bool := if n.kind == 0 then n.gen == 0 && n.time == 0 && n.size == 0 && n.blocks.length == 0
  else inB n.kind 1 3 && inB n.gen 0 1000000 && inB n.time 0 100000 && inB n.size 0 80 && decide ((n.blocks.length : Int) = Fg n.size) && !(n.kind == 2 && (n.gen != 0 || n.time != 0)) && (List.range n.blocks.length).all (Ue n.blocks)
theorem Q2 {n : Nd} (h : Hy n = true) : n.blocks.length ≤ 5 := by
  unfold Hy at h
  have := Q8 n.size
  split at h
  · simp at h; rw [h.2]; simp
  · simp only [Bool.and_eq_true, decide_eq_true_eq] at h
    omega
theorem B1u {n : Nd} (h : Hy n = true) (hk : n.kind = 0) : n = Nd.zero := by
  obtain ⟨k, g, t, s, b⟩ := n
  simp only at hk
  subst hk
  simp [Hy] at h
  obtain ⟨⟨⟨h1, h2⟩, h3⟩, h4⟩ := h
  simp [Nd.zero, h1, h2, h3, h4]
def Fd (n : Nat) (o : List Int) (b : Int) : List Int := if inB b 0 (n - 1) then o.set b.toNat (o.getD b.toNat 0 + 1) else o.set n (o.getD n 0 + 1)
def Jx (l : List Nd) : List Int := l.flatMap Nd.blocks
def Pi (n : Nat) (l : List Int) : List Int := l.foldl (Fd n) (List.replicate (n + 1) 0)
def Ll (f : Fs) : List Int := Pi f.data.length (Jx f.nodes)
theorem Uv (n : Nat) (o : List Int) (b : Int) : (Fd n o b).length = o.length := by unfold Fd; split <;> simp
theorem Tp (n : Nat) : ∀ (l : List Int) (o : List Int), (l.foldl (Fd n) o).length = o.length
  | [], o => rfl
  | b :: l, o => by rw [List.foldl_cons, Tp n l, Uv]
theorem Th (n : Nat) (l : List Int) : (Pi n l).length = n + 1 := by rw [Pi, Tp]; simp
theorem Sw (o : List Int) (i k : Nat) (v : Int) : (o.set i v).getD k 0 = if i = k ∧ k < o.length then v else o.getD k 0 := by
  simp only [List.getD_eq_getElem?_getD, List.getElem?_set]
  by_cases h : i = k
  · subst h
    by_cases h2 : i < o.length
    · simp [h2]
    · simp [h2]
  · simp [h]
theorem Xz {n : Nat} {o : List Int} {b : Int} {m : Int} (h : ∀ k, 0 ≤ o.getD k 0 ∧ o.getD k 0 ≤ m) (k : Nat) : 0 ≤ (Fd n o b).getD k 0 ∧ (Fd n o b).getD k 0 ≤ m + 1 ∧ o.getD k 0 ≤ (Fd n o b).getD k 0 := by
  unfold Fd
  have h1 := h k
  have h2 := h b.toNat
  have h3 := h n
  split
  · rw [Sw]
    split
    · rename_i e
      obtain ⟨rfl, _⟩ := e
      omega
    · omega
  · rw [Sw]
    split
    · rename_i e
      obtain ⟨rfl, _⟩ := e
      omega
    · omega
theorem Py {n : Nat} : ∀ {l : List Int} {o : List Int} {m : Int}, (∀ k, 0 ≤ o.getD k 0 ∧ o.getD k 0 ≤ m) → ∀ k, 0 ≤ (l.foldl (Fd n) o).getD k 0 ∧ (l.foldl (Fd n) o).getD k 0 ≤ m + l.length ∧ o.getD k 0 ≤ (l.foldl (Fd n) o).getD k 0
  | [], o, m, h, k => by have := h k; simp only [List.foldl_nil, List.length_nil]; omega
  | b :: l, o, m, h, k => by
    have h1 := fun k => Xz (n := n) (b := b) h k
    have h2 := Py (n := n) (l := l) (m := m + 1) (fun k => ⟨(h1 k).1, (h1 k).2.1⟩) k
    have h3 := h1 k
    rw [List.foldl_cons, List.length_cons]
    omega
theorem Ti (n k : Nat) : (List.replicate n (0 : Int)).getD k 0 = 0 := by
  rw [List.getD_eq_getElem?_getD, List.getElem?_replicate]
  split <;> rfl
theorem B0h (n : Nat) (l : List Int) (k : Nat) : 0 ≤ (Pi n l).getD k 0 ∧ (Pi n l).getD k 0 ≤ l.length := by
  have := Py (n := n) (l := l) (o := List.replicate (n + 1) 0) (m := 0) (fun k => by rw [Ti]; omega) k
  unfold Pi
  omega
theorem B0b {n : Nat} : ∀ {l : List Int} {o : List Int}, o.length = n + 1 → (∀ k, 0 ≤ o.getD k 0) → (l.foldl (Fd n) o).getD n 0 ≤ o.getD n 0 → ∀ b, b ∈ l → 0 ≤ b ∧ b < n
  | [], o, _, _, _, b, hb => by cases hb
  | a :: l, o, hl, h0, h, b, hb => by
    have hM : ∃ m : Int, ∀ k, o.getD k 0 ≤ m := by
      clear h hl h0 hb
      induction o with
      | nil => exact ⟨0, fun k => by simp⟩
      | cons x o ih =>
        obtain ⟨m, hm⟩ := ih
        refine ⟨max x m, fun k => ?_⟩
        cases k with
        | zero => simp; omega
        | succ k => have := hm k; simp only [List.getD_cons_succ]; omega
    obtain ⟨m, hm⟩ := hM
    have s1 := fun k => Xz (n := n) (b := a) (m := m) (fun k => ⟨h0 k, hm k⟩) k
    have s2 := Py (n := n) (l := l) (m := m + 1) (fun k => ⟨(s1 k).1, (s1 k).2.1⟩) n
    rw [List.foldl_cons] at h
    have s3 := s1 n
    have e : (Fd n o a).getD n 0 = o.getD n 0 := by omega
    have ha : 0 ≤ a ∧ a < n := by
      by_cases c : inB a 0 (n - 1) = true
      · simp [inB] at c; omega
      · exfalso
        unfold Fd at e
        rw [if_neg c, Sw, if_pos ⟨rfl, by omega⟩] at e
        omega
    rcases List.mem_cons.1 hb with rfl | hb
    · exact ha
    · exact B0b (o := Fd n o a) (by rw [Uv]; exact hl) (fun k => (s1 k).1) (by omega) b hb
def X2 (s : Int) (k : Nat) : Int := if 16 < s - (k : Int) * 16 then 16 else s - (k : Int) * 16
def Um (f : Fs) (k : Nat) : Bool := match f.data[k]? with
  | none => false
  | some s => !(decide ((Ll f).getD k 0 > 1) || ((Ll f).getD k 0 == 0 && s != []) || decide ((s.length : Int) > 16))
def A8u (f : Fs) (n : Nd) (k : Nat) : Bool := match n.blocks[k]? with
  | none => false
  | some b => decide (((f.data.getD b.toNat []).length : Int) = X2 n.size k)
def A28 (f : Fs) (n : Nd) : Bool := (List.range n.blocks.length).all (A8u f n)
def E3 (f : Fs) : Bool := inB f.nodes.length 2 10 && inB f.data.length 1 36 && (f.nodes.headD .zero).kind == 2 && f.nodes.all Hy && !decide ((Ll f).getD f.data.length 0 > 0) && (List.range f.data.length).all (Um f) && f.nodes.all (A28 f)
def inR (f : Fs) : Prop := ∀ n, n ∈ f.nodes → ∀ b, b ∈ n.blocks → 0 ≤ b ∧ b < f.data.length
theorem B6b {l : List Nd} {n : Nd} (h : n ∈ l) {b : Int} (hb : b ∈ n.blocks) : b ∈ Jx l := List.mem_flatMap.2 ⟨n, h, hb⟩
theorem B1p {f : Fs} (h : (Ll f).getD f.data.length 0 ≤ 0) : inR f := fun n hn b hb =>
  B0b (n := f.data.length) (l := Jx f.nodes) (o := List.replicate (f.data.length + 1) 0) (by simp) (fun k => by rw [Ti]; omega) (by rw [Ti]; exact h) b (B6b hn hb)
structure Oc (f : Fs) : Prop where
  nn : 2 ≤ f.nodes.length ∧ f.nodes.length ≤ 10
  nd : 1 ≤ f.data.length ∧ f.data.length ≤ 36
  top : (f.nodes.headD .zero).kind = 2
  all : ∀ n, n ∈ f.nodes → Hy n = true
  inr : inR f
  dat : ∀ s, s ∈ f.data → s.length ≤ 16
  sm : smF f
theorem W9 {f : Fs} (h : E3 f = true) : Oc f := by
  simp only [E3, Bool.and_eq_true, List.all_eq_true, Bool.not_eq_true', decide_eq_false_iff_not] at h
  obtain ⟨⟨⟨⟨⟨⟨h1, h2⟩, h3⟩, h4⟩, h5⟩, h6⟩, h7⟩ := h
  simp [inB] at h1 h2
  have hd : ∀ s, s ∈ f.data → s.length ≤ 16 := by
    intro s hs
    obtain ⟨k, hk, e⟩ := List.getElem_of_mem hs
    have := h6 k (List.mem_range.2 hk)
    simp only [Um, List.getElem?_eq_getElem hk, e, Bool.not_eq_true', Bool.or_eq_false_iff, decide_eq_false_iff_not] at this
    omega
  exact ⟨by omega, by omega, by simpa using h3, h4, B1p (by omega), hd, by omega, by omega, fun n hn => by have := Q2 (h4 n hn); omega, fun s hs => by have := hd s hs; omega⟩
def I0 (f : Fs) (i : Nat) : Str := match f.nodes[i]? with
  | none => []
  | some n => n.blocks.flatMap fun b => f.data.getD b.toNat []
theorem Tk {d : List Str} {m : Nat} (hd : ∀ s, s ∈ d → s.length ≤ m) : ∀ (l : List Int), (l.flatMap fun b => d.getD b.toNat []).length ≤ l.length * m
  | [] => by simp
  | b :: l => by
    have h1 := Tk hd l
    have h2 : (d.getD b.toNat []).length ≤ m := by
      rw [List.getD_eq_getElem?_getD]
      cases h : d[b.toNat]? with
      | none => simp
      | some s => exact hd s (List.mem_of_getElem? h)
    rw [List.flatMap_cons, List.length_append, List.length_cons, Nat.add_mul]
    omega
theorem M9 {f : Fs} (h : Oc f) (i : Nat) : (I0 f i).length ≤ 80 := by
  unfold I0
  cases hn : f.nodes[i]? with
  | none => simp
  | some n =>
    have h1 := Tk h.dat n.blocks
    have h2 := Q2 (h.all n (List.mem_of_getElem? hn))
    have h3 : n.blocks.length * 16 ≤ 5 * 16 := Nat.mul_le_mul_right _ h2
    show (n.blocks.flatMap _).length ≤ _
    omega
def H4 (f : Fs) (i : Nat) : Option (List En) := match f.nodes[i]? with
  | none => none
  | some n => if n.kind == 2 then Pg (I0 f i) else none
def Jt (f : Fs) (i : Nat) : Int := (f.nodes.getD i .zero).kind
def Na (s : List Int) (i : Nat) : List Int := s.set i (s.getD i 0 + 1)
def B8q (f : Fs) (i : Nat) (e : En) : Bool := decide (e.node ≥ f.nodes.length) || Jt f e.node.toNat == 0 || (e.name == hid && (i != 0 || Jt f e.node.toNat != 1))
def Rj (rec : Nat → List Int → List Int × Bool) (f : Fs) (i : Nat) : List En → List Int → List Int × Bool
  | [], o => (o, true)
  | e :: r, o => if B8q f i e then (o, false) else if (rec e.node.toNat o).2 then Rj rec f i r (rec e.node.toNat o).1 else (o, false)
def G6 (f : Fs) : Nat → Nat → List Int → List Int × Bool
  | 0, i, s => (Na s i, false)
  | d + 1, i, s => if (Na s i).getD i 0 > 1 then (Na s i, false) else if Jt f i != 2 then (Na s i, true) else match H4 f i with
    | none => (Na s i, false)
    | some l => Rj (G6 f d) f i l (Na s i)
def zrs (n : Nat) : List Int := List.replicate n 0
def Iu (f : Fs) : Bool := E3 f && (G6 f 5 0 (zrs f.nodes.length)).2 && (List.range f.nodes.length).all fun i => ((G6 f 5 0 (zrs f.nodes.length)).1.getD i 0 == 1) == (Jt f i != 0)
def Uf (f : Fs) (d i : Nat) : Prop := ∃ s, (G6 f d i s).2 = true
theorem A6n {rec : Nat → List Int → List Int × Bool} {f : Fs} {i : Nat} : ∀ {l : List En} {o : List Int}, (Rj rec f i l o).2 = true → ∀ e, e ∈ l → B8q f i e = false ∧ ∃ s, (rec e.node.toNat s).2 = true
  | [], o, h, e, he => by cases he
  | a :: l, o, h, e, he => by
    rw [Rj] at h
    split at h
    · cases h
    · rename_i h1
      split at h
      · rename_i h2
        rcases List.mem_cons.1 he with rfl | he
        · exact ⟨by simpa using h1, _, h2⟩
        · exact A6n h e he
      · cases h
theorem K4 {f : Fs} {d i : Nat} (h : Uf f d i) : d ≠ 0 ∧ ∀ l, H4 f i = some l → ∀ e, e ∈ l → e.node < f.nodes.length ∧ Jt f e.node.toNat ≠ 0 ∧ (e.name = hid → Jt f e.node.toNat = 1) ∧ Uf f (d - 1) e.node.toNat := by
  obtain ⟨s, h⟩ := h
  cases d with
  | zero => cases h
  | succ d =>
    refine ⟨by omega, fun l hl e he => ?_⟩
    rw [G6] at h
    split at h
    · cases h
    split at h
    · rename_i h1
      have : Jt f i = 2 := by
        unfold H4 at hl
        split at hl
        · cases hl
        · rename_i n hn
          split at hl
          · rename_i hk
            rw [Jt, List.getD_eq_getElem?_getD, hn]
            simpa using hk
          · cases hl
      rw [this] at h1
      cases h1
    rw [hl] at h
    obtain ⟨h1, h2⟩ := A6n h e he
    simp only [B8q, Bool.or_eq_false_iff, decide_eq_false_iff_not] at h1
    obtain ⟨⟨h3, h4⟩, h5⟩ := h1
    refine ⟨by omega, by simpa using h4, fun hn => ?_, h2⟩
    rw [hn] at h5
    simp at h5
    exact h5.2
theorem On {f : Fs} (h : Iu f = true) : Oc f ∧ E3 f = true ∧ Uf f 5 0 := by
  simp only [Iu, Bool.and_eq_true] at h
  exact ⟨W9 h.1.1, h.1.1, _, h.1.2⟩
theorem B7d {s : Str} {l : List En} (h : Pg s = some l) : Cz l = true := by
  unfold Pg at h
  split at h
  · cases h
  · split at h
    · rename_i h2; simp only [Option.some.injEq] at h; subst h; exact h2
    · cases h
theorem Ow {f : Fs} {i : Nat} {l : List En} (h : H4 f i = some l) : Cz l = true := by
  unfold H4 at h
  split at h
  · cases h
  · split at h
    · exact B7d h
    · cases h
theorem Hu {l : List En} (h : Cz l = true) {e : En} (he : e ∈ l) : Uu e.name = true ∧ 1 ≤ e.node ∧ e.node ≤ 9 := by
  simp only [Cz, Bool.and_eq_true, List.all_eq_true] at h
  obtain ⟨k, hk, e1⟩ := List.getElem_of_mem he
  have := h.1 k (List.mem_range.2 hk)
  simp only [Xy, List.getElem?_eq_getElem hk, e1, Bool.and_eq_true, Bool.not_eq_true', B4g, Bool.or_eq_false_iff, Bool.not_eq_false'] at this
  have h2 := this.1.1.2
  simp [inB] at h2
  exact ⟨this.1.1.1, h2⟩
theorem Nh {s : Str} (h : Uu s = true) : 1 ≤ s.length ∧ s.length ≤ 6 := by
  simp only [Uu, Bool.or_eq_true] at h
  rcases h with h | h
  · have : s = hid := by simpa using h
    subst this; decide
  · simp only [Cx, Bool.and_eq_true, inB, decide_eq_true_eq] at h
    omega
theorem A0q {n : Int} (h : inB n 0 2147483647 = true) : 1 ≤ (Kq n).length := by
  unfold Kq
  rw [if_pos h, leb]
  split <;> simp
theorem B2x {e : En} (h : Uu e.name = true) (h1 : 1 ≤ e.node) (h2 : e.node ≤ 9) : 3 ≤ (Qn e).length := by
  have a := Nh h
  have b := A0q (n := e.name.length) (by simp [inB]; omega)
  have c := A0q (n := e.node) (by simp [inB]; omega)
  simp only [Qn, Qd, List.length_append]
  omega
theorem M8 {l : List En} (h : Cz l = true) : l.length ≤ 26 := by
  have key : ∀ (l : List En), (∀ e, e ∈ l → 3 ≤ (Qn e).length) → 3 * l.length ≤ (F1 l).length := by
    intro l
    induction l with
    | nil => intro _; simp [F1]
    | cons e l ih =>
      intro hm
      have h1 := hm e (by simp)
      have h2 := ih fun x hx => hm x (by simp [hx])
      simp only [F1, List.flatMap_cons, List.length_append, List.length_cons] at *
      omega
  have h1 := key l fun e he => by
    obtain ⟨a, b, c⟩ := Hu h he
    exact B2x a b c
  simp only [Cz, Bool.and_eq_true, decide_eq_true_eq] at h
  omega
def Dk (f : Fs) : Nat → List Str → Int
  | i, [] => i
  | i, s :: r => match H4 f i with
    | none => -1
    | some l => if F0 l s < 0 then -1 else Dk f (F0 l s).toNat r
theorem Od {l : List En} {s : Str} : F0 l s = -1 ∨ ∃ e, e ∈ l ∧ e.name = s ∧ F0 l s = e.node := by
  unfold F0
  split
  · exact .inl rfl
  · rename_i e he
    exact .inr ⟨e, List.mem_of_find?_eq_some he, by simpa using List.find?_some he, rfl⟩
theorem Rq {f : Fs} : ∀ {l : List Str} {d i : Nat}, Uf f d i → i < f.nodes.length → Dk f i l < 0 ∧ Dk f i l = -1 ∨ (0 ≤ Dk f i l ∧ Dk f i l < f.nodes.length ∧ ∃ d', Uf f d' (Dk f i l).toNat)
  | [], d, i, h, hi => by
    right
    rw [Dk]
    exact ⟨by omega, by omega, d, by simpa using h⟩
  | s :: r, d, i, h, hi => by
    rw [Dk]
    split
    · left; omega
    · rename_i l hl
      split
      · left; omega
      · rename_i hd
        rcases Od (l := l) (s := s) with e | ⟨e, he, _, e1⟩
        · rw [e] at hd; omega
        · obtain ⟨q1, _, _, q2⟩ := (K4 h).2 l hl e he
          have q3 := (Hu (Ow hl) he).2
          rw [e1]
          exact Rq q2 (by omega)
def Ja (rec : Nat → List Str → Tr → Tr) (f : Fs) (ns : List Str) (t : Tr) (e : En) : Tr := if e.name == hid then t
  else if Jt f e.node.toNat == 2 then rec e.node.toNat (ns ++ [e.name]) (Ut t ⟨Dl (ns ++ [e.name]), 2, [], 0⟩)
  else Ut t ⟨Dl (ns ++ [e.name]), Jt f e.node.toNat, I0 f e.node.toNat, (f.nodes.getD e.node.toNat .zero).time⟩
def Gn (f : Fs) : Nat → Nat → List Str → Tr → Tr
  | 0, i, ns, t => t
  | d + 1, i, ns, t => ((H4 f i).getD []).foldl (Ja (Gn f d) f ns) t
def Fy (f : Fs) : Tr := if Iu f then Gn f 5 0 [] [] else []
theorem B1m {n : Nd} (h : Hy n = true) : 0 ≤ n.size ∧ n.size ≤ 80 := by
  unfold Hy at h
  split at h
  · simp at h; rw [h.1.2]; decide
  · simp only [Bool.and_eq_true, inB, decide_eq_true_eq] at h
    omega
theorem Vd {α : Type} {l : List α} {p : α → Bool} {a : α} (h : a ∈ l) (e : p a = false) : l.all p = false := by
  rw [List.all_eq_false]
  exact ⟨a, h, by rw [e]; decide⟩
def Va (n d : Int) : Fs := if inB n 2 10 && inB d 1 36 then ⟨⟨2, 0, 0, 0, []⟩ :: List.replicate (n.toNat - 1) Nd.zero, List.replicate d.toNat []⟩ else ⟨[], []⟩
def isN (f : Fs) (i : Int) : Bool := E3 f && inB i 0 ((f.nodes.length : Int) - 1) && (f.nodes.getD i.toNat .zero).kind != 0
end Go.GH


