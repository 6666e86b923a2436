import Derived.Test.YtpbpaijjpglmlaaGreatGE
import Derived.Shelf.Strings.OnBuilder
import Derived.Test.YtpbpaijjpglmlaaGreatChecked
import Derived.Shelf.Strings.Builder1
import Derived.Shelf.Strings.Builder2
import Derived.Shelf.Small.Bits
import Derived.Shelf.Small.Strs
import Derived.Shelf.Strings.BuilderF
import Derived.Shelf.Strings.BuilderK
import Derived.Shelf.Strings.Builder2Cap
import Derived.Shelf.Strconv.Itoa0
import Derived.Shelf.Strings.Prefix
import Derived.Shelf.Bits.Mul64
import Derived.Shelf.Strings.Repeat
import Derived.Lib.ItoaNum
import Derived.Lib.Repeat
import Derived.Lib.AtoiAll
import Derived.Lib.Bytealg
import Derived.Test.YtpbpaijjpglmlaaGreatRows
import Derived.WalkKit
import Derived.ProofKit
import Derived.OpenShut
import Derived.ChangeOld
import Derived.Below
import Derived.SizedLaws
set_option linter.unusedVariables false
set_option linter.unusedSimpArgs false
namespace Go.GH
open Go
abbrev Str := List UInt8
def mC : Lf := .rd [none]
def mS (k : Nat) : Lf := .rd [some k]
def con (ms : List Lf) (sc : Bool) (α : Type) (enc : α → List AV) (pre : α → Prop) (res : α → AV) : Bi := ⟨ms, sc, false, α, enc, pre, res, fun _ => [], fun _ => True, false⟩
def A9 (gw : World → Prop) (ms : List Lf) (sc : Bool) (α : Type) (enc : α → List AV) (pre : α → Prop) (res : α → AV) : Bi := ⟨ms, sc, false, α, enc, pre, res, fun _ => [], gw, false⟩
def A8 (sh : Bool) (ms : List Lf) (α : Type) (enc : α → List AV) (pre : α → Prop) (res : α → AV) (out : α → List AV) : Bi := ⟨ms, false, sh, α, enc, pre, res, out, fun _ => True, false⟩
def Ad (ms : List Lf) (α : Type) (enc : α → List AV) (pre : α → Prop) (res : α → AV) : Bi := ⟨ms, false, true, α, enc, pre, res, fun _ => [], fun _ => True, true⟩
def A6 (s : Str) : List AV := [.str s]
def inB (x lo hi : Int) : Bool := decide (x ≥ lo) && decide (x ≤ hi)
def An (c : UInt8) : Str → List Str
  | [] => [[]]
  | x :: r => if x = c then [] :: An c r else match An c r with
    | h :: t => (x :: h) :: t
    | [] => [[x]]
theorem Kb (c : UInt8) : ∀ s, An c s ≠ []
  | [] => by simp [An]
  | x :: r => by
    unfold An
    split
    · simp
    · split <;> simp
theorem Ro {c : UInt8} : ∀ {a : Str}, (∀ x, x ∈ a → x ≠ c) → An c a = [a]
  | [], _ => rfl
  | x :: r, h => by
    rw [An, if_neg (h x (by simp)), Ro (a := r) fun y hy => h y (by simp [hy])]
theorem Rt {c : UInt8} {b : Str} : ∀ {a : Str}, (∀ x, x ∈ a → x ≠ c) → An c (a ++ c :: b) = a :: An c b
  | [], _ => by simp [An]
  | x :: r, h => by
    rw [List.cons_append, An, if_neg (h x (by simp)), Rt (a := r) fun y hy => h y (by simp [hy])]
theorem Pk {c : UInt8} : ∀ (s : Str), (An c s).length ≤ s.length + 1
  | [] => by simp [An]
  | x :: r => by
    have := Pk (c := c) r
    unfold An
    split
    · simp; omega
    · split
      · rename_i h t heq; rw [heq] at this; simp at this ⊢; omega
      · simp
theorem Nh {c : UInt8} : ∀ (s : Str) (p : Str), p ∈ An c s → p.length ≤ s.length
  | [], p, h => by simp [An] at h; subst h; simp
  | x :: r, p, h => by
    unfold An at h
    split at h
    · rcases List.mem_cons.1 h with rfl | h
      · simp
      · have := Nh r p h; simp; omega
    · split at h
      · rename_i h' t heq
        rcases List.mem_cons.1 h with rfl | h
        · have := Nh (c := c) r h' (by rw [heq]; simp)
          simp; omega
        · have := Nh (c := c) r p (by rw [heq]; simp [h])
          simp; omega
      · simp at h; subst h; simp
def A1z (b : UInt8) : Bool := (decide ((b.toNat : Int) ≥ 97) && decide ((b.toNat : Int) ≤ 122)) || (decide ((b.toNat : Int) ≥ 48) && decide ((b.toNat : Int) ≤ 57))
theorem C2q (b : UInt8) : ((decide ((b.toNat : Int) < 97) || decide ((b.toNat : Int) > 122)) && (decide ((b.toNat : Int) < 48) || decide ((b.toNat : Int) > 57))) = !A1z b := by
  unfold A1z
  by_cases h1 : (b.toNat : Int) < 97 <;> by_cases h2 : (b.toNat : Int) > 122 <;> by_cases h3 : (b.toNat : Int) < 48 <;> by_cases h4 : (b.toNat : Int) > 57 <;> simp [h1, h2, h3, h4, Int.not_le.2, Int.not_lt.1] <;> omega
def Do (s : Str) : Bool := inB s.length 1 6 && s.all A1z
theorem Bs {α : Type} {l : List α} {i : Nat} {x : α} (h : l[i]? = some x) : l.take (i + 1) = l.take i ++ [x] := by
  rw [List.take_add_one, h]; rfl
@[simp] theorem take_map_len {α β : Type} (f : α → β) (l : List α) : (l.map f).take l.length = l.map f := by
  rw [List.take_of_length_le (by simp)]
theorem Ql {α : Type} {a b : List α} : (a ++ b).take (a.length + b.length) = a ++ b := by
  rw [List.take_of_length_le (by simp)]
@[simp] theorem take_rest {α : Type} {l : List α} {k : Nat} : (l.drop k).take (l.length - k) = l.drop k := by
  rw [List.take_of_length_le (by simp)]
theorem B8 {α : Type} {l : List α} {i : Nat} (h : i < l.length) : ∃ x, l[i]? = some x := ⟨l[i], List.getElem?_eq_getElem h⟩
theorem F5 {α : Type} {l : List α} {i : Nat} {x : α} (h : l[i]? = some x) : i < l.length := by
  rcases Nat.lt_or_ge i l.length with hl | hl
  · exact hl
  · rw [List.getElem?_eq_none hl] at h; cases h
theorem Am {α β : Type} {l : List α} {f : α → β} {i : Nat} {x : α} (h : l[i]? = some x) : (l.map f)[i]? = some (f x) := by simp [h]
theorem A5 {α : Type} {f : α → List AV} {l : List α} : Ab (l.map f) ↔ ∀ a, a ∈ l → A7 (f a) := by
  induction l with
  | nil => simp [Ab]
  | cons a l ih => simp [Ab, ih]
theorem Jb {α : Type} {f : α → List AV} (h : ∀ a, Ht (f a) = f a) (l : List α) : Cr (l.map f) = l.map f := by
  induction l with
  | nil => rfl
  | cons a l ih => simp [Cr, ih, h]
theorem rdS (l : List Str) : Cr (l.map A6) = l.map A6 := Jb (fun _ => rfl) l
theorem B9p (l : List Str) (a b : Nat) : Cr (((l.map A6).drop a).take b) = ((l.drop a).take b).map A6 := by
  rw [← List.map_drop, ← List.map_take, rdS]
theorem eqB {a b : Bool} (h : a = b) : Ud (.bool a) (.bool b) := by subst h; rfl
theorem Nr {k : IntKind} {a b : Int} (h : a = b) : Ud (.int k a) (.int k b) := by subst h; rfl
theorem eqS {a b : Str} (h : a = b) : Ud (.str a) (.str b) := by subst h; rfl
theorem Vl {rows : List (List AV)} (h : (rows.all fun r => r.all fun c => !c.isOwn) = true) : ∀ (r : List AV), r ∈ rows → ∀ c, c ∈ r → c.isOwn = false := by
  intro r hr c hc
  have := List.all_eq_true.1 (List.all_eq_true.1 h r hr) c hc
  simpa using this
theorem lns : (∀ {α : Type} (n : Nat) (l : List α), (l.take n).length = min n l.length) ∧ (∀ {α : Type} (n : Nat) (l : List α), (l.drop n).length = l.length - n) ∧ (∀ {α β : Type} (f : α → β) (l : List α), (l.map f).length = l.length) ∧ (∀ {α : Type} (a b : List α), (a ++ b).length = a.length + b.length) ∧
    (∀ {α : Type} (a : α) (l : List α), (a :: l).length = l.length + 1) ∧ (∀ {α : Type}, ([] : List α).length = 0) ∧ (∀ {α : Type} (n : Nat) (a : α), (List.replicate n a).length = n) :=
  ⟨fun _ _ => List.length_take, fun _ _ => List.length_drop, fun _ _ => List.length_map _, fun _ _ => List.length_append, fun _ _ => List.length_cons, List.length_nil, fun _ _ => List.length_replicate⟩
theorem bb {p : Prop} (h : p := by (show (_ : Prop)); first | omega | ((try dsimp only at *); (try simp only [lns] at *); omega)) : p := h
theorem B9t {s : Nat} {b : List (List AV)} (h : b = []) : Ud .nils (.own s b) := by subst h; rfl
theorem Qm {s : Nat} {a b : List (List AV)} (h : a = b) : Ud (.own s a) (.own s b) := by subst h; exact ⟨rfl, rfl⟩
end Go.GH


set_option linter.unusedVariables false
namespace Go.GH
open Go
structure G5 (c : UInt8) (s : Str) (i fr : Nat) (out : List Str) : Prop where
  le : fr ≤ i
  il : i ≤ s.length
  no : ∀ x, x ∈ (s.drop fr).take (i - fr) → x ≠ c
  eq : An c s = out ++ An c (s.drop fr)
  len : out.length ≤ fr
theorem A34 {α : Type} {s : List α} {fr i : Nat} {b : α} (h : fr ≤ i) (hb : s[i]? = some b) : s.drop fr = (s.drop fr).take (i - fr) ++ b :: s.drop (i + 1) := by
  have hi := F5 hb
  rw [← List.take_append_drop (i - fr) (s.drop fr)]
  congr 1
  · rw [List.take_append_drop]
  · rw [List.drop_drop, show fr + (i - fr) = i by omega, ← List.getElem_cons_drop hi]
    congr 1
    rw [List.getElem?_eq_getElem hi] at hb
    exact Option.some.inj hb
theorem G5.zero (c : UInt8) (s : Str) : G5 c s 0 0 [] := ⟨by omega, by omega, by simp, rfl, by simp⟩
theorem G5.pass {c : UInt8} {s : Str} {i fr : Nat} {out : List Str} (h : G5 c s i fr out) {b : UInt8} (hb : s[i]? = some b) (hc : b ≠ c) : G5 c s (i + 1) fr out := by
  have hi := F5 hb
  have hle := h.le
  refine ⟨by omega, by omega, fun x hx => ?_, h.eq, h.len⟩
  rw [show i + 1 - fr = (i - fr) + 1 by omega, List.take_add_one, List.mem_append] at hx
  rcases hx with hx | hx
  · exact h.no x hx
  · rw [List.getElem?_drop, show fr + (i - fr) = i by omega, hb] at hx
    simp at hx
    exact hx ▸ hc
theorem G5.hit {c : UInt8} {s : Str} {i fr : Nat} {out : List Str} (h : G5 c s i fr out) {b : UInt8} (hb : s[i]? = some b) (hc : b = c) : G5 c s (i + 1) (i + 1) (out ++ [(s.drop fr).take (i - fr)]) := by
  have hi := F5 hb
  have hle := h.le
  have hlen := h.len
  subst hc
  refine ⟨by omega, by omega, by simp, ?_, by simp; omega⟩
  rw [h.eq, A34 hle hb, Rt h.no]
  have e : ((s.drop fr).take (i - fr) ++ b :: s.drop (i + 1)).take (i - fr) = (s.drop fr).take (i - fr) := by
    rw [← A34 hle hb]
  simp [e]
theorem G5.fin {c : UInt8} {s : Str} {fr : Nat} {out : List Str} (h : G5 c s s.length fr out) : An c s = out ++ [(s.drop fr).take (s.length - fr)] := by
  have e : (s.drop fr).take (s.length - fr) = s.drop fr := by rw [List.take_of_length_le (by simp)]
  have hn := h.no
  rw [e] at hn
  rw [h.eq, e, Ro hn]
theorem G5.fin' {c : UInt8} {s : Str} {fr : Nat} {out : List Str} (h : G5 c s s.length fr out) : An c s = out ++ [s.drop fr] := by
  rw [h.fin, List.take_of_length_le (by simp)]
theorem B6c {a b : UInt8} : (((a.toNat : Int) == (b.toNat : Int)) = true) ↔ a = b := by
  rw [beq_iff_eq]
  constructor
  · intro h
    have h : a.toNat = b.toNat := by omega
    exact UInt8.toNat_inj.1 h
  · rintro rfl; rfl
def sml (n : Nat) : Prop := n ≤ 4194304
end Go.GH


set_option linter.unusedVariables false
set_option linter.unusedSimpArgs false
namespace Go.GH
open Go
def sl : Str := [47]
def Bh (p : Str) : Bool := (p == sl) || (inB (An 47 p).length 2 5 && ((An 47 p).headD [] == []) && ((An 47 p).drop 1).all Do)
def names (p : Str) : List Str := if Bh p && !(p == sl) then (An 47 p).drop 1 else []
def cat : List Str → Str
  | [] => []
  | a :: r => 47 :: (a ++ cat r)
def K5 (l : List Str) : Str := match l with
  | [] => sl
  | l => cat l
def E8 (l : List Str) : Str := if decide (l.length ≤ 4) && l.all Do then K5 l else []
def E4 (p : Str) : Str := if Bh p then E8 ((names p).take ((names p).length - 1)) else []
theorem Wi : ∀ (a b : List Str), cat (a ++ b) = cat a ++ cat b
  | [], b => rfl
  | x :: a, b => by simp [cat, Wi a b]
theorem B8k {s : Str} (h : Do s = true) : ∀ x, x ∈ s → x ≠ 47 := by
  simp only [Do, Bool.and_eq_true, List.all_eq_true] at h
  rintro x hx rfl
  have := h.2 _ hx
  revert this; decide
theorem A07 {c : UInt8} : ∀ (a b : Str), ∃ x, An c (a ++ c :: b) = An c a ++ x :: ((An c b).drop 1) ∧ x = (An c b).headD []
  | [], b => by
    have := Kb c b
    cases h : An c b with
    | nil => exact absurd h this
    | cons y r => exact ⟨y, by simp [An, h], rfl⟩
  | y :: a, b => by
    obtain ⟨x, h1, h2⟩ := A07 (c := c) a b
    refine ⟨x, ?_, h2⟩
    simp only [List.cons_append, An]
    split
    · rw [h1]; rfl
    · rw [h1]
      have := Kb c a
      cases h : An c a with
      | nil => exact absurd h this
      | cons z r => rfl
theorem B6a {c : UInt8} (a b : Str) : An c (a ++ c :: b) = An c a ++ An c b := by
  obtain ⟨x, h1, h2⟩ := A07 (c := c) a b
  rw [h1, h2]
  have := Kb c b
  cases h : An c b with
  | nil => exact absurd h this
  | cons y r => rfl
theorem A87 : ∀ (l : List Str), (An 47 (cat l)).length = 1 + (l.map fun a => (An 47 a).length).sum ∨ l = [] := by
  intro l
  induction l with
  | nil => exact .inr rfl
  | cons a r ih =>
    left
    simp only [cat, An, if_pos, List.length_cons, List.map_cons, List.sum_cons]
    rcases ih with ih | rfl
    · cases r with
      | nil => simp [cat]; omega
      | cons b r =>
        simp only [cat] at ih ⊢
        rw [B6a, List.length_append]
        simp only [An, if_pos, List.length_cons] at ih
        simp only [List.map_cons, List.sum_cons] at ih ⊢
        omega
    · simp [cat]; omega
theorem A9z {l : List Str} (h : ∀ a, a ∈ l → ∀ x, x ∈ a → x ≠ 47) (hl : l ≠ []) : An 47 (cat l) = [] :: l := by
  induction l with
  | nil => exact absurd rfl hl
  | cons a r ih =>
    simp only [cat, An, if_pos]
    congr 1
    cases r with
    | nil => simp only [cat, List.append_nil]; exact Ro (h a (by simp))
    | cons b r =>
      have := ih (fun x hx => h x (by simp [hx])) (by simp)
      simp only [cat] at this ⊢
      rw [Rt (h a (by simp))]
      simp only [An, if_pos, List.cons.injEq, true_and] at this
      rw [this]
theorem Qr (c : UInt8) (s : Str) : 1 ≤ (An c s).length := by
  have := Kb c s
  cases h : An c s with
  | nil => exact absurd h this
  | cons => simp
theorem A8m {c : UInt8} : ∀ {s : Str}, (An c s).length = 1 → ∀ x, x ∈ s → x ≠ c
  | [], _, x, hx => by cases hx
  | y :: r, h, x, hx => by
    unfold An at h
    split at h
    · have := Qr c r; simp only [List.length_cons] at h; omega
    · rename_i hy
      have hr : (An c r).length = 1 := by
        split at h
        · rename_i heq; rw [heq]; simpa using h
        · rename_i heq; exact absurd heq (Kb c r)
      rcases List.mem_cons.1 hx with rfl | hx
      · exact hy
      · exact A8m hr x hx
theorem B4g : ∀ {l : List Str} {f : Str → Nat}, (∀ a, 1 ≤ f a) → (l.map f).sum = l.length → ∀ a, a ∈ l → f a = 1
  | [], _, _, _, a, ha => by cases ha
  | b :: r, f, hf, h, a, ha => by
    have hge : ∀ (r : List Str), r.length ≤ (r.map f).sum := by
      intro r
      induction r with
      | nil => simp
      | cons x r ih => have := hf x; simp; omega
    have h1 := hge r
    have h2 := hf b
    simp only [List.map_cons, List.sum_cons, List.length_cons] at h
    rcases List.mem_cons.1 ha with rfl | ha
    · omega
    · exact B4g hf (by omega) a ha
theorem B4v (l : List Str) : E8 l = if Bh (K5 l) && decide ((names (K5 l)).length = l.length) then K5 l else [] := by
  cases l with
  | nil => rfl
  | cons a r =>
    show E8 (a :: r) = if Bh (cat (a :: r)) && decide ((names (cat (a :: r))).length = (a :: r).length) then cat (a :: r) else []
    have hlen := A87 (a :: r)
    generalize hl : a :: r = l at *
    have hne : l ≠ [] := by rw [← hl]; simp
    have hlen : (An 47 (cat l)).length = 1 + (l.map fun a => (An 47 a).length).sum := hlen.resolve_right hne
    have hc : K5 l = cat l := by subst hl; rfl
    by_cases hg : (decide (l.length ≤ 4) && l.all Do) = true
    · rw [E8, if_pos hg, hc]
      simp only [Bool.and_eq_true, decide_eq_true_eq, List.all_eq_true] at hg
      have hs := A9z (fun a ha => B8k (hg.2 a ha)) hne
      have hne' : (cat l == sl) = false := by
        subst hl
        rw [beq_eq_false_iff_ne]
        intro e
        have ha := hg.2 a (by simp)
        have : 1 ≤ a.length := by
          simp only [Do, inB, Bool.and_eq_true, decide_eq_true_eq] at ha
          omega
        have e2 := congrArg List.length e
        simp only [cat, sl, List.length_cons, List.length_append, List.length_nil] at e2
        omega
      have hl1 : 1 ≤ l.length := by subst hl; simp
      have hp : Bh (cat l) = true := by
        simp only [Bh, hne', hs, Bool.false_or, Bool.and_eq_true, inB, decide_eq_true_eq]
        refine ⟨⟨⟨by simp; omega, by simp; omega⟩, rfl⟩, by simpa using hg.2⟩
      rw [if_pos]
      simp [hp, names, hne', hs]
    · rw [E8, if_neg hg, if_neg]
      intro h
      apply hg
      simp only [Bool.and_eq_true, decide_eq_true_eq] at h
      obtain ⟨h1, h2⟩ := h
      simp only [names, h1, Bool.true_and] at h2
      have hl1 : 1 ≤ l.length := by subst hl; simp
      by_cases he : (cat l == sl) = true
      · simp [he] at h2; omega
      · have he : (cat l == sl) = false := by simpa using he
        rw [he] at h2
        simp only [Bool.not_false, if_true, List.length_drop] at h2
        have hsum : (l.map fun a => (An 47 a).length).sum = l.length := by omega
        have hno : ∀ a, a ∈ l → ∀ x, x ∈ a → x ≠ 47 := fun a ha => A8m (B4g (fun a => Qr 47 a) hsum a ha)
        have hs := A9z hno hne
        simp only [Bh, he, hs, Bool.false_or, Bool.and_eq_true, inB, decide_eq_true_eq] at h1
        simp only [Bool.and_eq_true, decide_eq_true_eq]
        refine ⟨?_, by simpa using h1.2⟩
        have := h1.1.1.2
        simp at this
        omega
theorem B0t : ∀ (l : List Str), (cat l).length = l.length + (l.map List.length).sum
  | [] => rfl
  | a :: r => by simp [cat, B0t r]; omega
theorem A3f (l : List Str) : (K5 l).length ≤ l.length + (l.map List.length).sum + 1 := by
  cases l with
  | nil => simp [K5, sl]
  | cons a r => simp only [K5]; rw [B0t]; omega
theorem W5 (l : List Str) : (E8 l).length ≤ l.length + (l.map List.length).sum + 1 := by
  unfold E8
  split
  · exact A3f l
  · simp
theorem R8 {p : Str} : (names p).all Do = true := by
  unfold names
  split
  · rename_i h
    simp only [Bool.and_eq_true, Bh, Bool.or_eq_true, Bool.not_eq_true'] at h
    rcases h.1 with h1 | h1
    · rw [h.2] at h1; cases h1
    · exact h1.2
  · rfl
theorem I1 {p : Str} : (names p).length ≤ 4 := by
  unfold names
  split
  · rename_i h
    simp only [Bool.and_eq_true, Bh, Bool.or_eq_true, Bool.not_eq_true', inB, decide_eq_true_eq] at h
    rcases h.1 with h1 | h1
    · rw [h.2] at h1; cases h1
    · have := h1.1.1.2
      simp; omega
  · simp
theorem Rq {s : Str} (h : Do s = true) : s.length ≤ 6 := by
  simp only [Do, inB, Bool.and_eq_true, decide_eq_true_eq] at h
  omega
theorem B7o {l : List Str} {k : Nat} (h : ∀ a, a ∈ l → a.length ≤ k) : (l.map List.length).sum ≤ l.length * k := by
  induction l with
  | nil => simp
  | cons a r ih =>
    have := ih fun x hx => h x (by simp [hx])
    have := h a (by simp)
    simp only [List.map_cons, List.sum_cons, List.length_cons, Nat.add_mul]
    omega
theorem A9u {p : Str} : ((names p).map List.length).sum ≤ 24 := by
  have h := B7o (l := names p) (k := 6) fun a ha => Rq (List.all_eq_true.1 R8 a ha)
  have := I1 (p := p)
  omega
theorem A2t (l : List Str) (k : Nat) : ((l.take k).map List.length).sum ≤ (l.map List.length).sum := by
  induction l generalizing k with
  | nil => simp
  | cons a r ih =>
    cases k with
    | zero => simp
    | succ k => have := ih k; simp only [List.take_succ_cons, List.map_cons, List.sum_cons]; omega
theorem B5y {α : Type} {l : List α} {i : Nat} {x : α} (h1 : 1 ≤ i) (h : l[i]? = some x) : (l.take (i + 1)).drop 1 = (l.take i).drop 1 ++ [x] := by
  rw [Bs h, List.drop_append_of_le_length]
  have := F5 h
  simp; omega
end Go.GH


set_option linter.unusedVariables false
set_option linter.unusedSimpArgs false
namespace Go.GH
open Go
structure It where
  path : Str
  kind : Int
  data : Str
  time : Int
def It.none : It := ⟨[], 0, [], 0⟩
def It.top : It := ⟨sl, 2, [], 0⟩
abbrev Tr := List It
def Ac (x : It) : List AV := [.str x.path, .int .i64 x.kind, .str x.data, .int .i64 x.time]
def rdT (t : Tr) : AV := .agg [.rd 4 (t.map Ac)]
theorem rdI (l : List It) : Cr (l.map Ac) = l.map Ac := Jb (fun _ => rfl) l
def Al (t : Tr) (p : Str) : Option It := if p == sl then some It.top else t.find? fun x => x.path == p
def M9 (o : Option It) : AV := .tup [.agg (Ac (o.getD It.none)), .bool o.isSome]
def Jr (x : It) : Bool := Bh x.path && !(x.path == sl) && inB x.kind 1 3 && (if x.kind == 2 then x.data == [] && x.time == 0 else decide ((x.data.length : Int) ≤ 80) && inB x.time 0 100000)
def Nw (t : Tr) (p : Str) : Bool := (Al t p).isSome && ((Al t p).getD It.none).kind == 2
def chk (t : Tr) (i : Nat) : Bool := match t[i]? with
  | some x => Jr x && (i == 0 || Co ((t.getD (i - 1) It.none).path) x.path) && Nw t (E4 x.path)
  | none => true
def Bj (t : Tr) : Bool := decide (t.length ≤ 40) && (List.range t.length).all (chk t)
def smT (t : Tr) : Prop := t.length ≤ 4194304 ∧ ∀ x, x ∈ t → x.path.length ≤ 4194304 ∧ x.data.length ≤ 4194304
theorem Jd : ∀ a, Co a a = false
  | [] => rfl
  | x :: a => by simp [Co, Jd a]
theorem Pv : ∀ a b, Co a b = true ∨ a = b ∨ Co b a = true
  | [], [] => .inr (.inl rfl)
  | [], _ :: _ => .inl rfl
  | _ :: _, [] => .inr (.inr rfl)
  | x :: a, y :: b => by
    simp only [Co]
    have tri : x < y ∨ x = y ∨ y < x := by
      rcases Nat.lt_trichotomy x.toNat y.toNat with h | h | h
      · exact .inl h
      · exact .inr (.inl (UInt8.toNat_inj.1 h))
      · exact .inr (.inr h)
    rcases tri with h | rfl | h
    · left; simp [h]
    · rcases Pv a b with h | rfl | h
      · left; simp [h]
      · right; left; rfl
      · right; right; simp [h]
    · right; right; simp [h]
theorem Nj : ∀ a b, Co a b = true → Co b a = false
  | [], [], h => by cases h
  | [], _ :: _, _ => rfl
  | _ :: _, [], h => by cases h
  | x :: a, y :: b, h => by
    simp only [Co, Bool.or_eq_true, Bool.and_eq_true, decide_eq_true_eq, beq_iff_eq] at h
    simp only [Co, Bool.or_eq_false_iff, Bool.and_eq_false_iff, decide_eq_false_iff_not, beq_eq_false_iff_ne]
    rcases h with h | ⟨rfl, h⟩
    · exact ⟨UInt8.not_lt.2 (UInt8.le_of_lt h), .inl fun e => by subst e; exact UInt8.lt_irrefl _ h⟩
    · exact ⟨UInt8.lt_irrefl _, .inr (Nj a b h)⟩
theorem B98 (a b : Str) : (Co b a || b == a) = !Co a b := by
  rcases Pv a b with h | rfl | h
  · rw [h, Nj _ _ h]
    have : (b == a) = false := by
      rw [beq_eq_false_iff_ne]; rintro rfl; rw [Jd] at h; cases h
    rw [this]; rfl
  · simp [Jd]
  · rw [h, Nj _ _ h]; rfl
theorem A4u {α : Type} {p : α → Bool} {l : List α} {i : Nat} {x : α} (h : (l.take i).find? p = none) (hx : l[i]? = some x) (hp : p x = true) : l.find? p = some x := by
  rw [← List.take_append_drop i l, List.find?_append, h]
  have hi := F5 hx
  rw [← List.getElem_cons_drop hi, List.find?_cons]
  rw [List.getElem?_eq_getElem hi] at hx
  rw [Option.some.inj hx, hp]; rfl
theorem A22 {α : Type} {p : α → Bool} {l : List α} {i : Nat} {x : α} (h : (l.take i).find? p = none) (hx : l[i]? = some x) (hp : p x = false) : (l.take (i + 1)).find? p = none := by
  rw [Bs hx, List.find?_append, h]
  simp [hp]
theorem B74 {t : Tr} {f : Nat → Bool} {n : Nat} : (List.range n).all f = true ↔ ∀ j, j < n → f j = true := by simp
theorem A55 {t : Tr} {i : Nat} (hi : i < t.length) (h : chk t i = false) : Bj t = false := by
  have : (List.range t.length).all (chk t) = false := by
    rw [List.all_eq_false]; exact ⟨i, List.mem_range.2 hi, by simp [h]⟩
  rw [Bj, this, Bool.and_false]
theorem A0e {t : Tr} (h : t.length ≤ 40) (h2 : ∀ j, j < t.length → chk t j = true) : Bj t = true := by
  rw [Bj, Bool.and_eq_true]
  exact ⟨by simpa using h, B74 (t := t).2 h2⟩
end Go.GH
namespace Go.GH
open Go
section
variable {t : Tr} {i : Nat} {b pv : It}
def C08 (i : Nat) (b pv : It) : Bool := !Bh b.path || b.path == sl || (decide ((i : Int) > 0) && (Co b.path pv.path || b.path == pv.path)) || !inB b.kind 1 3 || decide ((b.data.length : Int) > 80) || !inB b.time 0 100000
def C09 (b : It) : Bool := (b.kind == 2) && (!(b.data == []) || b.time != 0)
theorem We (hb : t[i]? = some b) (hp : t.getD (i - 1) It.none = pv) : chk t i = (Jr b && (i == 0 || Co pv.path b.path) && Nw t (E4 b.path)) := by
  unfold chk; rw [hb]; simp only [hp]
theorem A4p : (Jr b && (i == 0 || Co pv.path b.path)) = (!C08 i b pv && !C09 b) := by
  unfold C08 C09 Jr
  rw [B98]
  have e1 : decide ((i : Int) > 0) = !(i == 0) := by
    rw [Bool.eq_iff_iff]
    simp
    omega
  have e2 : (b.data == []) = true → decide ((b.data.length : Int) > 80) = false := by
    intro h
    have : b.data = [] := by simpa using h
    rw [this]; rfl
  have e3 : (b.time == 0) = true → inB b.time 0 100000 = true := by
    intro h
    have : b.time = 0 := by simpa using h
    rw [this]; rfl
  have e4 : decide ((b.data.length : Int) ≤ 80) = !decide ((b.data.length : Int) > 80) := by
    rw [Bool.eq_iff_iff]
    simp
  have e5 : (b.time != 0) = !(b.time == 0) := rfl
  rw [e1, e4, e5]
  revert e2 e3
  generalize Bh b.path = P; generalize (b.path == sl) = S; generalize (i == 0) = I; generalize Co pv.path b.path = O; generalize inB b.kind 1 3 = K
  generalize (b.kind == 2) = D; generalize (b.data == []) = E; generalize (b.time == 0) = Z; generalize decide ((b.data.length : Int) > 80) = L; generalize inB b.time 0 100000 = T
  revert P S I O K D E Z L T
  decide
theorem B9f (hb : t[i]? = some b) (hp : t.getD (i - 1) It.none = pv) (h : C08 i b pv = true) : chk t i = false := by
  rw [We hb hp, A4p, h]; rfl
theorem C0x (hb : t[i]? = some b) (h : C09 b = true) : chk t i = false := by
  rw [We hb rfl, A4p, h]; simp
theorem B3f (hb : t[i]? = some b) (h : Nw t (E4 b.path) = false) : chk t i = false := by
  rw [We hb rfl, h]; simp
theorem C1a (hb : t[i]? = some b) (hp : t.getD (i - 1) It.none = pv) (h1 : C08 i b pv = false) (h2 : C09 b = false) (h3 : Nw t (E4 b.path) = true) : chk t i = true := by
  rw [We hb hp, A4p, h1, h2, h3]; rfl
end
end Go.GH
namespace Go.GH
open Go
theorem Wd {α β : Type} {f : β → α → β} {l : List α} {i : Nat} {x : α} {b : β} (h : l[i]? = some x) : (l.take (i + 1)).foldl f b = f ((l.take i).foldl f b) x := by
  rw [Bs h, List.foldl_append]; rfl
end Go.GH


set_option linter.unusedVariables false
set_option linter.unusedSimpArgs false
namespace Go.GH
open Go
def fnd {α : Type} (p : α → Bool) (l : List α) : Int := if l.any p then (l.findIdx p : Int) else -1
theorem A1m {α : Type} {p : α → Bool} {l : List α} {i : Nat} {x : α} (h : (l.take i).any p = false) (hx : l[i]? = some x) (px : p x = true) : fnd p l = i := by
  have hi := F5 hx
  have ha : l.any p = true := List.any_eq_true.2 ⟨x, List.mem_of_getElem? hx, px⟩
  rw [fnd, if_pos ha]
  congr 1
  have e : l = l.take i ++ x :: l.drop (i + 1) := by
    have := A34 (fr := 0) (Nat.zero_le i) hx
    simpa using this
  have h2 : (l.take i).findIdx p = i := by
    rw [List.findIdx_eq_length_of_false]
    · simp; omega
    · intro y hy
      have := List.any_eq_false.1 h y hy
      simpa using this
  conv => lhs; rw [e]
  rw [List.findIdx_append, h2]
  simp [List.findIdx_cons, px]
  omega
theorem Qk {α : Type} {p : α → Bool} {l : List α} (h : l.any p = false) : fnd p l = -1 := by
  rw [fnd, if_neg]; simp [h]
theorem N3 {α : Type} {p : α → Bool} {l : List α} {i : Nat} {x : α} (h : (l.take i).any p = false) (hx : l[i]? = some x) (px : p x = false) : (l.take (i + 1)).any p = false := by
  rw [Bs hx, List.any_append, h]
  simp [px]
theorem V5 {α : Type} {p : α → Bool} {l : List α} : (decide (fnd p l ≥ 0)) = l.any p := by
  rw [fnd]
  split
  · rename_i h; rw [h]; simp
  · rename_i h
    have : l.any p = false := by simpa using h
    rw [this]; rfl
theorem C3g {α : Type} {p : α → Bool} {l : List α} : -1 ≤ fnd p l ∧ fnd p l ≤ l.length := by
  rw [fnd]
  split
  · have := List.findIdx_le_length (p := p) (xs := l)
    omega
  · omega
theorem B1i {α : Type} {p : α → Bool} {l : List α} (h : l.any p = true) : ∃ x, l[(fnd p l).toNat]? = some x ∧ l.find? p = some x := by
  rw [fnd, if_pos h]
  have hl : l.findIdx p < l.length := List.findIdx_lt_length_of_exists (by simpa using h)
  refine ⟨l[l.findIdx p], by simp [hl], ?_⟩
  rw [List.find?_eq_some_iff_getElem]
  refine ⟨List.findIdx_getElem (w := hl), l.findIdx p, hl, rfl, fun j hj => ?_⟩
  have := List.not_of_lt_findIdx hj
  simpa using this
theorem B3w {α : Type} {p : α → Bool} {l : List α} (h : l.any p = false) : l.find? p = none := by
  rw [List.find?_eq_none]
  intro x hx
  exact List.any_eq_false.1 h x hx
end Go.GH
namespace Go.GH
def smL (l : List Str) : Prop := l.length ≤ 4194304 ∧ ∀ s, s ∈ l → s.length ≤ 4194304
end Go.GH


set_option linter.unusedVariables false
set_option linter.unusedSimpArgs false
namespace Go.GH
open Go Go.Proofs
def toB (s : Str) : ByteArray := ⟨⟨s⟩⟩
theorem C1s {y : Ctx} {w : World} {h : Ah} {n : Nat → Prop} {ρ : Option Nat → Aj} {l : List Str} {v : Value} (hs : Ay y w h n ρ (.rd 1 (l.map A6)) v) (hw : y.wr = w) :
    ∃ a cap, v = .slice a l.length cap ∧ l.length ≤ cap ∧ (l ≠ [] → ∃ b o, a = some ⟨b, o, none⟩ ∧ y.R b ∧ ∀ (j : Nat) s, l[j]? = some s → w.cell? ⟨b, o + j, none⟩ = some (E6 s)) := by
  cases hs with
  | cell hr =>
    cases hr with
    | rd u hcap hrow hc hr =>
      rename_i a cap
      refine ⟨a, cap, by simp, by simpa using hcap, fun hne => ?_⟩
      have at_ : ∀ (j : Nat) s, l[j]? = some s → Aq (l.map A6) j 0 = some (.str s) := by
        intro j s hj
        simp [Aq, hj, A6]
      obtain ⟨x, hx⟩ : ∃ x, l[0]? = some x := B8 (List.length_pos_iff.2 hne)
      obtain ⟨b, o, ha, hR, _, _⟩ := hc 0 0 _ (at_ 0 x hx)
      refine ⟨b, o, ha, hR, fun j s hj => ?_⟩
      obtain ⟨b', o', ha', _, _, hcell⟩ := hc j 0 _ (at_ j s hj)
      have hrep := hr j 0 _ (at_ j s hj)
      rw [ha] at ha'
      simp only [Option.some.injEq, Addr.mk.injEq, and_true] at ha'
      obtain ⟨rfl, rfl⟩ := ha'
      have hu : u j 0 = E6 s := Jg (h := h) (n := n) (ρ := ρ) (.cell hrep)
      rw [hw, hu] at hcell
      simpa using hcell
theorem C0i : ∀ {l : List Str} {s : Str}, s ∈ l → s.length ≤ (l.map List.length).sum
  | a :: r, s, h => by
    rcases List.mem_cons.1 h with rfl | h
    · simp
    · have := C0i h; simp; omega
theorem C0l (l : List Str) : sl ++ Lib.join l sl = K5 l := by
  cases l with
  | nil => rfl
  | cons a r =>
    have : ∀ (r : List Str), Lib.joinTail sl r = cat r := by
      intro r
      induction r with
      | nil => rfl
      | cons b r ih =>
        rw [cat, ← ih]
        simp [Lib.joinTail, sl]
    rw [Lib.join_cons, this]
    simp [K5, cat, sl]
end Go.GH


set_option linter.unusedVariables false
set_option linter.unusedSimpArgs false
namespace Go.GH
open Go
theorem C29 {s : Nat} {x x' : List (List AV)} (h1 : x = x') : [AV.agg [AV.rd s x]] = [AV.agg [AV.rd s x']] := by rw [h1]
def B8w (a b : It) : Bool := a.path == b.path && a.kind == b.kind && a.data == b.data && a.time == b.time
theorem B8c (a : It) : B8w a a = true := by simp [B8w]
end Go.GH


set_option linter.unusedVariables false
namespace Go.GH
open Go Go.Proofs
def Ba : List (Nat × Ty) := [
 (2, ⟨.int .i64, 1, 8, [.int .i64 0], [none]⟩),
 (3, ⟨.int .i64, 1, 8, [.int .i64 0], [none]⟩),
 (4, ⟨.bool, 1, 1, [.bool false], [none]⟩),
 (5, ⟨.int .u8, 1, 1, [.int .u8 0], [none]⟩),
 (6, ⟨.int .u8, 1, 1, [.int .u8 0], [none]⟩),
 (7, ⟨.struct [(0, 2), (1, 3), (2, 4), (3, 6)], 4, 24, [.int .i64 0, .int .i64 0, .bool false, .int .u8 0], [none, none, none, none]⟩),
 (8, ⟨.struct [(0, 2), (1, 3), (2, 4), (3, 6)], 4, 24, [.int .i64 0, .int .i64 0, .bool false, .int .u8 0], [none, none, none, none]⟩),
 (9, ⟨.str, 1, 16, [.str []], [none]⟩),
 (10, ⟨.str, 1, 16, [.str []], [none]⟩),
 (11, ⟨.str, 1, 16, [.str []], [none]⟩),
 (12, ⟨.int .u64, 1, 8, [.int .u64 0], [none]⟩),
 (15, ⟨.ptr 229, 1, 8, [.undef], [none]⟩),
 (16, ⟨.ptr 232, 1, 8, [.undef], [none]⟩),
 (17, ⟨.ptr 239, 1, 8, [.undef], [none]⟩),
 (20, ⟨.iface, 1, 16, [.nilI], [none]⟩),
 (21, ⟨.int .i32, 1, 4, [.int .i32 0], [none]⟩),
 (22, ⟨.slice 5, 1, 24, [.own 1 []], [some 1]⟩),
 (24, ⟨.slice 32, 1, 24, [.own 4 []], [some 4]⟩),
 (25, ⟨.struct [(0, 24)], 1, 24, [.own 4 []], [some 4]⟩),
 (26, ⟨.struct [(0, 24)], 1, 24, [.own 4 []], [some 4]⟩),
 (31, ⟨.struct [(0, 9), (1, 3), (2, 9), (3, 3)], 4, 48, [.str [], .int .i64 0, .str [], .int .i64 0], [none, none, none, none]⟩),
 (32, ⟨.struct [(0, 9), (1, 3), (2, 9), (3, 3)], 4, 48, [.str [], .int .i64 0, .str [], .int .i64 0], [none, none, none, none]⟩),
 (36, ⟨.slice 9, 1, 24, [.own 1 []], [some 1]⟩),
 (39, ⟨.slice 116, 1, 24, [.own 4 []], [some 4]⟩),
 (40, ⟨.struct [(0, 39)], 1, 24, [.own 4 []], [some 4]⟩),
 (41, ⟨.struct [(0, 39)], 1, 24, [.own 4 []], [some 4]⟩),
 (42, ⟨.slice 80, 1, 24, [.own 6 []], [some 6]⟩),
 (45, ⟨.slice 3, 1, 24, [.own 1 []], [some 1]⟩),
 (49, ⟨.slice 84, 1, 24, [.own 6 []], [some 6]⟩),
 (65, ⟨.ptr 100, 1, 8, [.undef], [none]⟩),
 (79, ⟨.struct [(0, 3), (1, 9), (2, 9), (3, 3), (4, 9), (5, 3)], 6, 72, [.int .i64 0, .str [], .str [], .int .i64 0, .str [], .int .i64 0], [none, none, none, none, none, none]⟩),
 (80, ⟨.struct [(0, 3), (1, 9), (2, 9), (3, 3), (4, 9), (5, 3)], 6, 72, [.int .i64 0, .str [], .str [], .int .i64 0, .str [], .int .i64 0], [none, none, none, none, none, none]⟩),
 (84, ⟨.struct [(0, 3), (1, 9), (2, 9), (3, 3), (4, 9), (5, 3)], 6, 72, [.int .i64 0, .str [], .str [], .int .i64 0, .str [], .int .i64 0], [none, none, none, none, none, none]⟩),
 (99, ⟨.struct [(0, 22), (1, 3), (2, 3)], 3, 40, [.own 1 [], .int .i64 0, .int .i64 0], [some 1, none, none]⟩),
 (100, ⟨.struct [(0, 22), (1, 3), (2, 3)], 3, 40, [.own 1 [], .int .i64 0, .int .i64 0], [some 1, none, none]⟩),
 (102, ⟨.slice 171, 1, 24, [.own 5 []], [some 5]⟩),
 (103, ⟨.struct [(0, 102), (1, 36)], 2, 48, [.own 5 [], .own 1 []], [some 5, some 1]⟩),
 (104, ⟨.struct [(0, 102), (1, 36)], 2, 48, [.own 5 [], .own 1 []], [some 5, some 1]⟩),
 (116, ⟨.struct [(0, 9), (1, 3), (2, 9), (3, 3)], 4, 48, [.str [], .int .i64 0, .str [], .int .i64 0], [none, none, none, none]⟩),
 (124, ⟨.int .u64, 1, 8, [.int .u64 0], [none]⟩),
 (138, ⟨.ptr 140, 1, 8, [.undef], [none]⟩),
 (139, ⟨.struct [(0, 138), (1, 22)], 2, 32, [.undef, .own 1 []], [none, some 1]⟩),
 (140, ⟨.struct [(0, 138), (1, 22)], 2, 32, [.undef, .own 1 []], [none, some 1]⟩),
 (142, ⟨.iface, 1, 16, [.nilI], [none]⟩),
 (143, ⟨.iface, 1, 16, [.nilI], [none]⟩),
 (150, ⟨.ptr 32, 1, 8, [.undef], [none]⟩),
 (157, ⟨.int .i64, 1, 8, [.int .i64 0], [none]⟩),
 (165, ⟨.int .u32, 1, 4, [.int .u32 0], [none]⟩),
 (167, ⟨.int .u64, 1, 8, [.int .u64 0], [none]⟩),
 (170, ⟨.struct [(0, 3), (1, 3), (2, 3), (3, 3), (4, 45)], 5, 56, [.int .i64 0, .int .i64 0, .int .i64 0, .int .i64 0, .own 1 []], [none, none, none, none, some 1]⟩),
 (171, ⟨.struct [(0, 3), (1, 3), (2, 3), (3, 3), (4, 45)], 5, 56, [.int .i64 0, .int .i64 0, .int .i64 0, .int .i64 0, .own 1 []], [none, none, none, none, some 1]⟩),
 (172, ⟨.slice 176, 1, 24, [.own 2 []], [some 2]⟩),
 (175, ⟨.struct [(0, 9), (1, 3)], 2, 24, [.str [], .int .i64 0], [none, none]⟩),
 (176, ⟨.struct [(0, 9), (1, 3)], 2, 24, [.str [], .int .i64 0], [none, none]⟩),
 (189, ⟨.ptr 5, 1, 8, [.undef], [none]⟩),
 (190, ⟨.int .u64, 1, 8, [.int .u64 0], [none]⟩),
 (194, ⟨.ptr 3, 1, 8, [.undef], [none]⟩),
 (213, ⟨.ptr 190, 1, 8, [.undef], [none]⟩),
 (233, ⟨.int .u8, 1, 1, [.int .u8 0], [none]⟩),
 (234, ⟨.int .u8, 1, 1, [.int .u8 0], [none]⟩),
 (236, ⟨.int .i32, 1, 4, [.int .i32 0], [none]⟩),
 (237, ⟨.int .i32, 1, 4, [.int .i32 0], [none]⟩)]
theorem C3b : B7a Tryz.prog Ba = true := by kernel_rfl
theorem Ca (F : Nat → Option Bi) (kp : List Nat) : TOk Tryz.prog ⟨A4 Ba, F, kp⟩ := fun t ty h => B76 C3b t ty h
theorem mixed : Tryz.prog.follows .mixedOrders = true := by kernel_rfl
def Ax (f : Func) : Code := match f.body with
  | some c => c
  | none => .skip
end Go.GH


set_option linter.unusedVariables false
set_option linter.unusedSimpArgs false
namespace Go.GH
open Go Go.Proofs
noncomputable def Ch : Bi := con [mC, mC, mC] true (Int × Int × Int) (fun x => [.int .i64 x.1, .int .i64 x.2.1, .int .i64 x.2.2]) (fun _ => True) (fun x => .bool (inB x.1 x.2.1 x.2.2))
noncomputable def B2r : Env := ⟨A4 Ba, A4 [], [0, 1, 2, 6]⟩
set_option maxRecDepth 100000 in
set_option maxHeartbeats 4000000 in
theorem B4h : Bb B2r (Ax Tryz.f76) Tryz.f76.results.toList Ch := by
  rintro ⟨x, lo, hi⟩ _
  refine ⟨trivial, ?_⟩
  repeat ((conv => whnf); refine ⟨fun h => h, ?_⟩)
  exact ⟨trivial, rfl⟩
theorem Db : Av Tryz.prog 76 Ch := Ao (Ca _ _) FOk.nil mixed Tryz.func76 rfl Tryz.call76 (by decide) (by kernel_rfl) B4h (by intro _ (y : (Int × Int × Int)) _; exact ⟨by simp [Ch, con, A9, A8, AV.noRd, A7, Ab, A5, A6], by simp [Ch, con, A9, A8, AV.noRd, A7, Ab, A5, A6]⟩) (by intro (y : (Int × Int × Int)) _; first | (simp [Ch, con, A9, A8, Ad, AV.free, A2, A3, A1, A6]; done) | (obtain ⟨_, _⟩ := y; simp [Ch, con, A9, A8, Ad, AV.free, A2, A3, A1, A6]; done) | (obtain ⟨_, _, _⟩ := y; simp [Ch, con, A9, A8, Ad, AV.free, A2, A3, A1, A6]; done))
noncomputable def Ez : Bi := con [mC, mC, mC] true (Int × Int × Int) (fun x => [.int .i64 x.1, .int .i64 x.2.1, .int .i64 x.2.2]) (fun _ => True) (fun x => .bool (inB x.1 x.2.1 x.2.2))
noncomputable def A83 : Env := ⟨A4 Ba, A4 [], [0, 1, 2, 6]⟩
set_option maxRecDepth 100000 in
set_option maxHeartbeats 4000000 in
theorem A67 : Bb A83 (Ax Tryz.f91) Tryz.f91.results.toList Ez := by
  rintro ⟨x, lo, hi⟩ _
  refine ⟨trivial, ?_⟩
  repeat ((conv => whnf); refine ⟨fun h => h, ?_⟩)
  exact ⟨trivial, rfl⟩
theorem Lz : Av Tryz.prog 91 Ez := Ao (Ca _ _) FOk.nil mixed Tryz.func91 rfl Tryz.call91 (by decide) (by kernel_rfl) A67 (by intro _ (y : (Int × Int × Int)) _; exact ⟨by simp [Ez, con, A9, A8, AV.noRd, A7, Ab, A5, A6], by simp [Ez, con, A9, A8, AV.noRd, A7, Ab, A5, A6]⟩) (by intro (y : (Int × Int × Int)) _; first | (simp [Ez, con, A9, A8, Ad, AV.free, A2, A3, A1, A6]; done) | (obtain ⟨_, _⟩ := y; simp [Ez, con, A9, A8, Ad, AV.free, A2, A3, A1, A6]; done) | (obtain ⟨_, _, _⟩ := y; simp [Ez, con, A9, A8, Ad, AV.free, A2, A3, A1, A6]; done))
noncomputable def Gg : Bi := con [mC] true Str A6 (fun s => s.length ≤ 4611686018427387904) (fun s => .bool (Do s))
noncomputable def A70 : Env := ⟨A4 Ba, A4 [(76, Ch)], [0, 2, 3, 7, 11, 36]⟩
set_option maxRecDepth 100000 in
set_option maxHeartbeats 4000000 in
theorem A7y : Bb A70 (Ax Tryz.f118) Tryz.f118.results.toList Gg := by
  intro (s : Str) hs
  have hs : s.length ≤ 4611686018427387904 := hs
  refine ⟨trivial, ?_⟩
  conv => whnf
  refine ⟨(s.length, 1, 6), rfl, fun _ => trivial, ?_⟩
  conv => whnf
  refine ⟨fun h => ?_, fun h => ?_⟩
  · conv => whnf
    have h : inB s.length 1 6 = false := by simpa using h
    exact ⟨trivial, eqB (by simp [Do, h])⟩
  have h : inB s.length 1 6 = true := by simpa using h
  conv => whnf
  refine B0 (fun i : Nat => ⟨[(0, ⟨none, .str s⟩), (3, ⟨none, .int .i64 i⟩)], [], 0⟩) (fun i => i ≤ s.length ∧ (s.take i).all A1z = true) (fun i => s.length - i) 0 ?_ ⟨by omega, rfl⟩ ?_
  · exact ⟨⟨rfl, rfl, trivial⟩, trivial, rfl⟩
  rintro i ⟨hi, ha⟩
  conv => whnf
  refine ⟨fun h1 => ?_, fun h1 => ?_⟩
  · have h1 : i < s.length := by simpa using h1
    obtain ⟨b, hb⟩ := B8 h1
    repeat first
      | ((conv => whnf); refine ⟨fun h => h, ?_⟩)
      | ((conv => whnf); refine ⟨b, fun _ => ⟨Int.natCast_nonneg _, hb⟩, ?_⟩)
    refine ⟨fun h2 => ?_, fun h2 => ?_⟩
    · conv => whnf
      have h2 : (!A1z b) = true := h2
      refine ⟨trivial, eqB (Eq.symm ?_)⟩
      have hm : b ∈ s := List.mem_of_getElem? hb
      simp only [Do, Bool.and_eq_false_iff]
      exact .inr (by rw [List.all_eq_false]; exact ⟨b, hm, by simpa using h2⟩)
    · have h2 : A1z b = true := by have : (!A1z b) = false := h2; simpa using this
      conv => whnf
      refine ⟨_, w64 (by omega), ?_⟩
      conv => whnf
      refine C2 (i + 1) ?_ ⟨by omega, ?_⟩ (by omega)
      · exact ⟨⟨rfl, rfl, trivial⟩, trivial, rfl⟩
      · rw [Bs hb]; simp [ha, h2]
  · have h1 : i = s.length := by have : ¬ (i < s.length) := by simpa using h1
                                 omega
    subst h1
    conv => whnf
    rw [List.take_length] at ha
    exact ⟨trivial, eqB (by simp [Do, h, ha])⟩
theorem Tl : Av Tryz.prog 118 Gg := Ao (Ca _ _) (FOk.cons Db FOk.nil) mixed Tryz.func118 rfl Tryz.call118 (by decide) (by kernel_rfl) A7y (by intro _ (y : Str) _; exact ⟨by simp [Gg, con, A9, A8, AV.noRd, A7, Ab, A5, A6], by simp [Gg, con, A9, A8, AV.noRd, A7, Ab, A5, A6]⟩) (by intro (y : Str) _; first | (simp [Gg, con, A9, A8, Ad, AV.free, A2, A3, A1, A6]; done) | (obtain ⟨_, _⟩ := y; simp [Gg, con, A9, A8, Ad, AV.free, A2, A3, A1, A6]; done) | (obtain ⟨_, _, _⟩ := y; simp [Gg, con, A9, A8, Ad, AV.free, A2, A3, A1, A6]; done))
noncomputable def G9 : Bi := con [mC] true Str A6 (fun s => s.length ≤ 4611686018427387904) (fun s => .bool (Do s))
noncomputable def A5s : Env := ⟨A4 Ba, A4 [(91, Ez)], [0, 2, 3, 7, 9, 10, 11, 34]⟩
set_option maxRecDepth 100000 in
set_option maxHeartbeats 4000000 in
theorem A5y : Bb A5s (Ax Tryz.f94) Tryz.f94.results.toList G9 := by
  intro (s : Str) hs
  have hs : s.length ≤ 4611686018427387904 := hs
  refine ⟨trivial, ?_⟩
  conv => whnf
  refine ⟨(s.length, 1, 6), rfl, fun _ => trivial, ?_⟩
  conv => whnf
  refine ⟨fun h => ?_, fun h => ?_⟩
  · conv => whnf
    have h : inB s.length 1 6 = false := by simpa using h
    exact ⟨trivial, eqB (by simp [Do, h])⟩
  have h : inB s.length 1 6 = true := by simpa using h
  conv => whnf
  refine B0 (fun i : Nat => ⟨[(0, ⟨none, .str s⟩), (9, ⟨none, .int .i64 s.length⟩), (10, ⟨none, .int .i64 i⟩)], [], 0⟩) (fun i => i ≤ s.length ∧ (s.take i).all A1z = true) (fun i => s.length - i) 0 ?_ ⟨by omega, rfl⟩ ?_
  · exact ⟨⟨rfl, rfl, rfl, trivial⟩, trivial, rfl⟩
  rintro i ⟨hi, ha⟩
  conv => whnf
  refine ⟨fun h1 => ?_, fun h1 => ?_⟩
  · have h1 : i < s.length := by simpa using h1
    obtain ⟨b, hb⟩ := B8 h1
    repeat first
      | ((conv => whnf); refine ⟨fun h => h, ?_⟩)
      | ((conv => whnf); refine ⟨b, fun _ => ⟨Int.natCast_nonneg _, hb⟩, ?_⟩)
    refine ⟨fun h2 => ?_, fun h2 => ?_⟩
    · conv => whnf
      have h2 : (!A1z b) = true := (C2q b).symm.trans h2
      refine ⟨trivial, eqB (Eq.symm ?_)⟩
      have hm : b ∈ s := List.mem_of_getElem? hb
      simp only [Do, Bool.and_eq_false_iff]
      exact .inr (by rw [List.all_eq_false]; exact ⟨b, hm, by simpa using h2⟩)
    · have h2 : A1z b = true := by have : (!A1z b) = false := (C2q b).symm.trans h2
                                   simpa using this
      conv => whnf
      refine ⟨_, w64 (by omega), ?_⟩
      conv => whnf
      refine C2 (i + 1) ?_ ⟨by omega, ?_⟩ (by omega)
      · exact ⟨⟨rfl, rfl, rfl, trivial⟩, trivial, rfl⟩
      · rw [Bs hb]; simp [ha, h2]
  · have h1 : i = s.length := by have : ¬ (i < s.length) := by simpa using h1
                                 omega
    subst h1
    conv => whnf
    rw [List.take_length] at ha
    exact ⟨trivial, eqB (by simp [Do, h, ha])⟩
theorem Sx : Av Tryz.prog 94 G9 := Ao (Ca _ _) (FOk.cons Lz FOk.nil) mixed Tryz.func94 rfl Tryz.call94 (by decide) (by kernel_rfl) A5y (by intro _ (y : Str) _; exact ⟨by simp [G9, con, A9, A8, AV.noRd, A7, Ab, A5, A6], by simp [G9, con, A9, A8, AV.noRd, A7, Ab, A5, A6]⟩) (by intro (y : Str) _; first | (simp [G9, con, A9, A8, Ad, AV.free, A2, A3, A1, A6]; done) | (obtain ⟨_, _⟩ := y; simp [G9, con, A9, A8, Ad, AV.free, A2, A3, A1, A6]; done) | (obtain ⟨_, _, _⟩ := y; simp [G9, con, A9, A8, Ad, AV.free, A2, A3, A1, A6]; done))
end Go.GH


set_option linter.unusedVariables false
set_option linter.unusedSimpArgs false
namespace Go.GH
open Go Go.Proofs
noncomputable def Hf : Bi := con [mC, mC] false (Str × UInt8) (fun x => [.str x.1, .int .u8 x.2.toNat]) (fun x => sml x.1.length) (fun x => .own 1 ((An x.2 x.1).map A6))
noncomputable def B09 : Env := ⟨A4 Ba, A4 [], [0, 1, 4, 5, 6, 7, 12, 25]⟩
set_option maxRecDepth 100000 in
set_option maxHeartbeats 4000000 in
theorem B1q : Bb B09 (Ax Tryz.f117) Tryz.f117.results.toList Hf := by
  rintro ⟨s, c⟩ hs
  have hs : s.length ≤ 4194304 := hs
  refine ⟨trivial, ?_⟩
  conv => whnf
  refine B0 (fun ((i, fr, out) : Nat × Nat × List Str) => ⟨[(0, ⟨none, .str s⟩), (1, ⟨none, .int .u8 c.toNat⟩), (5, ⟨none, .view 0 [] 0 (out.map A6).length⟩), (6, ⟨none, .int .i64 fr⟩), (7, ⟨none, .int .i64 i⟩)], [(0, .own 1 (out.map A6))], 1⟩)
    (fun (i, fr, out) => G5 c s i fr out ∨ (i = s.length + 1 ∧ out = An c s)) (fun x => s.length + 2 - x.1) (0, 0, []) ?_ (.inl (G5.zero c s)) ?_
  · (refine ⟨?_, ?_, rfl⟩ <;> repeat' (first | exact rfl | exact trivial | refine ⟨?_, ?_⟩ | fail) <;> (conv => whnf))
  rintro ⟨i, fr, out⟩ hI
  (conv => whnf); refine ⟨fun h1 => ?_, fun h1 => ?_⟩
  · have h1 : i ≤ s.length := by simpa using h1
    have hI : G5 c s i fr out := by
      rcases hI with h | h
      · exact h
      · omega
    have hle := hI.le
    have hlen := hI.len
    repeat ((conv => whnf); refine ⟨fun h => h, ?_⟩)
    conv => whnf
    rcases Nat.lt_or_ge i s.length with hi | hi
    · obtain ⟨b, hb⟩ := B8 hi
      refine ⟨b, fun _ => ⟨Int.natCast_nonneg _, hb⟩, ?_⟩
      repeat ((conv => whnf); refine ⟨fun h => h, ?_⟩)
      (conv => whnf); refine ⟨fun h2 => ?_, fun h2 => ?_⟩
      · have h2 : b = c := by
          have h2 : ((i : Int) == (s.length : Int) || ((b.toNat : Int) == (c.toNat : Int))) = true := h2
          rcases Bool.or_eq_true _ _ ▸ h2 with h | h
          · simp at h; omega
          · exact B6c.1 h
        repeat ((conv => whnf); first | refine ⟨_, w64 (bb), ?_⟩ | refine ⟨fun _ => ⟨bb, bb, bb⟩, ?_⟩ | refine ⟨bb, ?_⟩ | refine ⟨fun (r : List AV) hr c hc => by simp [A6] at hr; (try subst hr); simp at hc; (try subst hc); rfl, ?_⟩)
        refine C2 (i + 1, i + 1, _) ?_ (.inl (hI.hit hb h2)) (by first | omega | (simp; done) | (simp; omega))
        (refine ⟨?_, ?_, rfl⟩ <;> repeat' (first | exact rfl | exact trivial | refine ⟨?_, ?_⟩ | fail) <;> (conv => whnf))
        all_goals simp [A6]
      · have h2 : b ≠ c := by
          have h2 : ((i : Int) == (s.length : Int) || ((b.toNat : Int) == (c.toNat : Int))) = false := h2
          simp at h2
          exact fun e => h2.2 (by rw [e])
        conv => whnf
        refine ⟨_, w64 (by omega), ?_⟩
        conv => whnf
        refine C2 (i + 1, fr, out) ?_ (.inl (hI.pass hb h2)) (by first | omega | (simp; done) | (simp; omega))
        (refine ⟨?_, ?_, rfl⟩ <;> repeat' (first | exact rfl | exact trivial | refine ⟨?_, ?_⟩ | fail) <;> (conv => whnf))
    · have e : i = s.length := by omega
      subst e
      refine ⟨0, fun h => by simp [Cw] at h, ?_⟩
      repeat ((conv => whnf); refine ⟨fun h => h, ?_⟩)
      (conv => whnf); refine ⟨fun h2 => ?_, fun h2 => ?_⟩
      · repeat ((conv => whnf); first | refine ⟨_, w64 (bb), ?_⟩ | refine ⟨fun _ => ⟨bb, bb, bb⟩, ?_⟩ | refine ⟨bb, ?_⟩ | refine ⟨fun (r : List AV) hr c hc => by simp [A6] at hr; (try subst hr); simp at hc; (try subst hc); rfl, ?_⟩)
        refine C2 (s.length + 1, s.length + 1, _) ?_ (.inr ⟨rfl, hI.fin.symm⟩) (by first | omega | (simp; done) | (simp; omega))
        (refine ⟨?_, ?_, rfl⟩ <;> repeat' (first | exact rfl | exact trivial | refine ⟨?_, ?_⟩ | fail) <;> (conv => whnf))
        all_goals simp [A6]
      · simp at h2
  · have h1 : s.length < i := by simpa using h1
    have hI : out = An c s := by
      rcases hI with h | h
      · have := h.il; omega
      · exact h.2
    conv => whnf
    exact ⟨trivial, Qm (by simp [hI])⟩
theorem Vi : Av Tryz.prog 117 Hf := Ao (Ca _ _) FOk.nil mixed Tryz.func117 rfl Tryz.call117 (by decide) (by kernel_rfl) B1q (by intro _ (y : (Str × UInt8)) _; exact ⟨by simp [Hf, con, A9, A8, AV.noRd, A7, Ab, A5, A6], by simp [Hf, con, A9, A8, AV.noRd, A7, Ab, A5, A6]⟩) (by intro (y : (Str × UInt8)) _; first | (simp [Hf, con, A9, A8, Ad, AV.free, A2, A3, A1, A6]; done) | (obtain ⟨_, _⟩ := y; simp [Hf, con, A9, A8, Ad, AV.free, A2, A3, A1, A6]; done) | (obtain ⟨_, _, _⟩ := y; simp [Hf, con, A9, A8, Ad, AV.free, A2, A3, A1, A6]; done))
noncomputable def If : Bi := con [mC, mC] false (Str × UInt8) (fun x => [.str x.1, .int .u8 x.2.toNat]) (fun x => sml x.1.length) (fun x => .own 1 ((An x.2 x.1).map A6))
noncomputable def B06 : Env := ⟨A4 Ba, A4 [], [0, 1, 4, 5, 6, 7, 12, 19]⟩
set_option maxRecDepth 100000 in
set_option maxHeartbeats 4000000 in
theorem B2f : Bb B06 (Ax Tryz.f90) Tryz.f90.results.toList If := by
  rintro ⟨s, c⟩ hs
  have hs : s.length ≤ 4194304 := hs
  refine ⟨trivial, ?_⟩
  conv => whnf
  refine B0 (fun ((i, fr, out) : Nat × Nat × List Str) => ⟨[(0, ⟨none, .str s⟩), (1, ⟨none, .int .u8 c.toNat⟩), (5, ⟨none, .view 0 [] 0 (out.map A6).length⟩), (6, ⟨none, .int .i64 fr⟩), (7, ⟨none, .int .i64 i⟩)], [(0, .own 1 (out.map A6))], 1⟩)
    (fun (i, fr, out) => G5 c s i fr out) (fun x => s.length - x.1) (0, 0, []) ?_ (G5.zero c s) ?_
  · (refine ⟨?_, ?_, rfl⟩ <;> repeat' (first | exact rfl | exact trivial | refine ⟨?_, ?_⟩ | fail) <;> (conv => whnf))
  rintro ⟨i, fr, out⟩ hI
  have hI : G5 c s i fr out := hI
  have hle := hI.le
  have hlen := hI.len
  have hil := hI.il
  (conv => whnf); refine ⟨fun h1 => ?_, fun h1 => ?_⟩
  · have h1 : i < s.length := by simpa using h1
    obtain ⟨b, hb⟩ := B8 h1
    conv => whnf
    refine ⟨b, fun _ => ⟨Int.natCast_nonneg _, hb⟩, ?_⟩
    (conv => whnf); refine ⟨fun h2 => ?_, fun h2 => ?_⟩
    · have h2 : b = c := B6c.1 h2
      repeat ((conv => whnf); first | refine ⟨_, w64 (bb), ?_⟩ | refine ⟨fun _ => ⟨bb, bb, bb⟩, ?_⟩ | refine ⟨bb, ?_⟩ | refine ⟨fun (r : List AV) hr c hc => by simp [A6] at hr; (try subst hr); simp at hc; (try subst hc); rfl, ?_⟩)
      refine C2 (i + 1, i + 1, _) ?_ (hI.hit hb h2) (by first | omega | (simp; done) | (simp; omega))
      (refine ⟨?_, ?_, rfl⟩ <;> repeat' (first | exact rfl | exact trivial | refine ⟨?_, ?_⟩ | fail) <;> (conv => whnf))
      all_goals simp [A6]
    · have h2 : b ≠ c := fun e => by rw [B6c.2 e] at h2; cases h2
      repeat ((conv => whnf); refine ⟨_, w64 (bb), ?_⟩)
      refine C2 (i + 1, fr, out) ?_ (hI.pass hb h2) (by first | omega | (simp; done) | (simp; omega))
      (refine ⟨?_, ?_, rfl⟩ <;> repeat' (first | exact rfl | exact trivial | refine ⟨?_, ?_⟩ | fail) <;> (conv => whnf))
  · have h1 : i = s.length := by
      have : ¬ i < s.length := by simpa using h1
      omega
    subst h1
    repeat ((conv => whnf); first | refine ⟨fun _ => ⟨bb, bb, bb⟩, ?_⟩ | refine ⟨bb, ?_⟩ | refine ⟨fun (r : List AV) hr c hc => by simp [A6] at hr; (try subst hr); simp at hc; (try subst hc); rfl, ?_⟩)
    exact ⟨trivial, Qm (by (try simp only [List.drop_zero, List.take_length, Ql]); simp [hI.fin', A6])⟩
theorem A5e : Av Tryz.prog 90 If := Ao (Ca _ _) FOk.nil mixed Tryz.func90 rfl Tryz.call90 (by decide) (by kernel_rfl) B2f (by intro _ (y : (Str × UInt8)) _; exact ⟨by simp [If, con, A9, A8, AV.noRd, A7, Ab, A5, A6], by simp [If, con, A9, A8, AV.noRd, A7, Ab, A5, A6]⟩) (by intro (y : (Str × UInt8)) _; first | (simp [If, con, A9, A8, Ad, AV.free, A2, A3, A1, A6]; done) | (obtain ⟨_, _⟩ := y; simp [If, con, A9, A8, Ad, AV.free, A2, A3, A1, A6]; done) | (obtain ⟨_, _, _⟩ := y; simp [If, con, A9, A8, Ad, AV.free, A2, A3, A1, A6]; done))
end Go.GH


set_option linter.unusedVariables false
set_option linter.unusedSimpArgs false
namespace Go.GH
open Go Go.Proofs
noncomputable def Cu : Bi := con [mC] true Str A6 (fun s => sml s.length) (fun s => .bool (Bh s))
noncomputable def A66 : Env := ⟨A4 Ba, A4 [(76, Ch), (117, Hf), (118, Gg)], [0, 2, 3, 4, 6, 18, 22, 30]⟩
set_option maxRecDepth 100000 in
set_option maxHeartbeats 4000000 in
theorem A5z : Bb A66 (Ax Tryz.f75) Tryz.f75.results.toList Cu := by
  intro (s : Str) hs
  have hs : s.length ≤ 4194304 := hs
  refine ⟨trivial, ?_⟩
  (conv => whnf); refine ⟨fun h1 => ?_, fun h1 => ?_⟩
  · conv => whnf
    exact ⟨trivial, eqB (by have h1 : (s == sl) = true := h1; simp [Bh, h1])⟩
  have h1 : (s == sl) = false := h1
  conv => whnf
  refine ⟨(s, 47), rfl, fun _ => hs, ?_⟩
  conv => whnf
  have hq := Pk (c := 47) s
  have hp := Qr 47 s
  have hd : Bh s = (inB (An 47 s).length 2 5 && ((An 47 s).headD [] == []) && ((An 47 s).drop 1).all Do) := by simp [Bh, h1]
  refine ⟨((An 47 s).length, 2, 5), by (try simp only [List.length_map]); rfl, fun _ => trivial, ?_⟩
  obtain ⟨a, ha⟩ := B8 hp
  have hh : (An 47 s).headD [] = a := by
    cases hx : An 47 s with
    | nil => rw [hx] at ha; cases ha
    | cons y r => rw [hx] at ha; simpa using ha
  rw [hh] at hd
  repeat ((conv => whnf); first | refine ⟨fun h => h, ?_⟩ | refine ⟨bb, ?_⟩ | refine ⟨A6 a, fun _ => Am ha, ?_⟩)
  (conv => whnf); refine ⟨fun h2 => ?_, fun h2 => ?_⟩
  · conv => whnf
    exact ⟨trivial, eqB (by
      have h2 : ((!inB (An 47 s).length 2 5) || !(a == [])) = true := h2
      rw [hd]
      revert h2
      cases inB (An 47 s).length 2 5 <;> cases (a == []) <;> simp)⟩
  have h2 : inB (An 47 s).length 2 5 = true ∧ (a == []) = true := by
    have h2 : ((!inB (An 47 s).length 2 5) || !(a == [])) = false := h2
    revert h2
    cases inB (An 47 s).length 2 5 <;> cases (a == []) <;> simp
  rw [h2.1, h2.2, Bool.true_and, Bool.true_and] at hd
  conv => whnf
  refine B0 (fun i : Nat => ⟨[(3, ⟨none, .view 0 [] 0 ((An 47 s).map A6).length⟩), (4, ⟨none, .int .i64 i⟩)], [(0, .own 1 ((An 47 s).map A6))], 1⟩)
    (fun i => 1 ≤ i ∧ i ≤ (An 47 s).length ∧ (((An 47 s).take i).drop 1).all Do = true) (fun i => (An 47 s).length - i) 1 ?_ ⟨by omega, hp, by
      have : ((An 47 s).take 1).drop 1 = [] := by rw [List.drop_eq_nil_iff]; simp; omega
      rw [this]; rfl⟩ ?_
  · (refine ⟨?_, ?_, rfl⟩ <;> repeat' (first | exact rfl | exact trivial | refine ⟨?_, ?_⟩ | fail) <;> (conv => whnf))
  rintro i ⟨hi1, hi, hI⟩
  (conv => whnf); refine ⟨fun h3 => ?_, fun h3 => ?_⟩
  · have h3 : i < (An 47 s).length := by simpa using h3
    obtain ⟨b, hb⟩ := B8 h3
    repeat ((conv => whnf); first | refine ⟨bb, ?_⟩ | refine ⟨A6 b, fun _ => by simp [hb], ?_⟩)
    conv => whnf
    refine ⟨b, rfl, fun _ => ?_, ?_⟩
    · have := Nh s b (List.mem_of_getElem? hb)
      show b.length ≤ 4611686018427387904
      omega
    (conv => whnf); refine ⟨fun h4 => ?_, fun h4 => ?_⟩
    · conv => whnf
      exact ⟨trivial, eqB (by
        have h4 : (!Do b) = true := h4
        rw [hd]
        refine (List.all_eq_false.2 ⟨b, ?_, by simpa using h4⟩).symm
        have : ((An 47 s).drop 1)[i - 1]? = some b := by rw [List.getElem?_drop, show 1 + (i - 1) = i by omega, hb]
        exact List.mem_of_getElem? this)⟩
    · repeat ((conv => whnf); refine ⟨_, w64 (bb), ?_⟩)
      refine C2 (i + 1) ?_ ⟨by omega, h3, ?_⟩ (by first | omega | (simp; done) | (simp; omega))
      · (refine ⟨?_, ?_, rfl⟩ <;> repeat' (first | exact rfl | exact trivial | refine ⟨?_, ?_⟩ | fail) <;> (conv => whnf))
      · have h4 : (!Do b) = false := h4
        rw [B5y hi1 hb, List.all_append, hI]; simpa using h4
  · have h3 : i = (An 47 s).length := by
      have : ¬ i < (An 47 s).length := by simpa using h3
      omega
    subst h3
    rw [List.take_length] at hI
    conv => whnf
    exact ⟨trivial, eqB (by rw [hd, hI])⟩
theorem Fn : Av Tryz.prog 75 Cu := Ao (Ca _ _) (FOk.cons Db (FOk.cons Vi (FOk.cons Tl FOk.nil))) mixed Tryz.func75 rfl Tryz.call75 (by decide) (by kernel_rfl) A5z (by intro _ (y : Str) _; exact ⟨by simp [Cu, con, A9, A8, AV.noRd, A7, Ab, A5, A6], by simp [Cu, con, A9, A8, AV.noRd, A7, Ab, A5, A6]⟩) (by intro (y : Str) _; first | (simp [Cu, con, A9, A8, Ad, AV.free, A2, A3, A1, A6]; done) | (obtain ⟨_, _⟩ := y; simp [Cu, con, A9, A8, Ad, AV.free, A2, A3, A1, A6]; done) | (obtain ⟨_, _, _⟩ := y; simp [Cu, con, A9, A8, Ad, AV.free, A2, A3, A1, A6]; done))
noncomputable def F9 : Bi := con [mS 1] false (List Str) (fun l => [.rd 1 (l.map A6)]) (fun l => sml l.length) (fun l => .own 1 (l.map A6))
noncomputable def A65 : Env := ⟨A4 Ba, A4 [], [0, 2]⟩
set_option maxRecDepth 100000 in
set_option maxHeartbeats 4000000 in
theorem A7e : Bb A65 (Ax Tryz.f130) Tryz.f130.results.toList F9 := by
  intro (l : List Str) hs
  have hs : l.length ≤ 4194304 := hs
  refine ⟨trivial, ?_⟩
  repeat ((conv => whnf); refine ⟨bb, ?_⟩)
  exact ⟨trivial, Qm (by (try simp only [List.drop_zero, List.take_length, Ql]); simp)⟩
theorem Of : Av Tryz.prog 130 F9 := Ao (Ca _ _) FOk.nil mixed Tryz.func130 rfl Tryz.call130 (by decide) (by kernel_rfl) A7e (by intro _ (y : (List Str)) _; exact ⟨by simp [F9, con, A9, A8, AV.noRd, A7, Ab, A5, A6], by simp [F9, con, A9, A8, AV.noRd, A7, Ab, A5, A6]⟩) (by intro (y : (List Str)) _; first | (simp [F9, con, A9, A8, Ad, AV.free, A2, A3, A1, A6]; done) | (obtain ⟨_, _⟩ := y; simp [F9, con, A9, A8, Ad, AV.free, A2, A3, A1, A6]; done) | (obtain ⟨_, _, _⟩ := y; simp [F9, con, A9, A8, Ad, AV.free, A2, A3, A1, A6]; done))
noncomputable def E2 : Bi := con [mC] false Str A6 (fun l => sml l.length) (fun l => .own 1 ((names l).map A6))
noncomputable def B05 : Env := ⟨A4 Ba, A4 [(75, Cu), (117, Hf), (130, F9)], [0, 2, 9]⟩
set_option maxRecDepth 100000 in
set_option maxHeartbeats 4000000 in
theorem B0w : Bb B05 (Ax Tryz.f85) Tryz.f85.results.toList E2 := by
  intro (s : Str) hs
  have hs : s.length ≤ 4194304 := hs
  refine ⟨trivial, ?_⟩
  conv => whnf
  refine ⟨s, rfl, fun _ => hs, ?_⟩
  repeat ((conv => whnf); refine ⟨fun h => h, ?_⟩)
  (conv => whnf); refine ⟨fun h1 => ?_, fun h1 => ?_⟩
  · conv => whnf
    exact ⟨trivial, Qm (by
      have h1 : ((!Bh s) || (s == sl)) = true := h1
      have : names s = [] := by
        rw [names, if_neg]
        revert h1
        cases Bh s <;> cases (s == sl) <;> simp
      rw [this]; rfl)⟩
  have h1 : ((!Bh s) || (s == sl)) = false := h1
  have hd : names s = (An 47 s).drop 1 := by
    rw [names, if_pos]
    revert h1
    cases Bh s <;> cases (s == sl) <;> simp
  have hq := Pk (c := 47) s
  have hp := Qr 47 s
  conv => whnf
  refine ⟨(s, 47), rfl, fun _ => hs, ?_⟩
  repeat ((conv => whnf); refine ⟨fun _ => ⟨bb, bb, bb⟩, ?_⟩)
  refine ⟨(An 47 s).drop 1, by refine congrArg (fun x => [AV.rd 1 x]) ?_; rw [B9p, List.take_of_length_le (by simp)]; rfl, fun _ => by show _ ≤ _; simp; omega, ?_⟩
  conv => whnf
  exact ⟨trivial, Qm (by rw [hd]; (try simp only [List.drop_zero, List.take_length, Ql]))⟩
theorem Jm : Av Tryz.prog 85 E2 := Ao (Ca _ _) (FOk.cons Fn (FOk.cons Vi (FOk.cons Of FOk.nil))) mixed Tryz.func85 rfl Tryz.call85 (by decide) (by kernel_rfl) B0w (by intro _ (y : Str) _; exact ⟨by simp [E2, con, A9, A8, AV.noRd, A7, Ab, A5, A6], by simp [E2, con, A9, A8, AV.noRd, A7, Ab, A5, A6]⟩) (by intro (y : Str) _; first | (simp [E2, con, A9, A8, Ad, AV.free, A2, A3, A1, A6]; done) | (obtain ⟨_, _⟩ := y; simp [E2, con, A9, A8, Ad, AV.free, A2, A3, A1, A6]; done) | (obtain ⟨_, _, _⟩ := y; simp [E2, con, A9, A8, Ad, AV.free, A2, A3, A1, A6]; done))
noncomputable def Ff : Bi := con [mS 1] true (List Str) (fun l => [.rd 1 (l.map A6)]) (fun l => l.length + (l.map List.length).sum < 4194304) (fun l => .str (E8 l))
noncomputable def A64 : Env := ⟨A4 Ba, A4 [(75, Cu), (85, E2)], [0, 2, 3, 4, 8, 20, 31]⟩
set_option maxRecDepth 100000 in
set_option maxHeartbeats 4000000 in
theorem A6i : Bb A64 (Ax Tryz.f119) Tryz.f119.results.toList Ff := by
  intro (l : List Str) hs
  have hs : l.length + (l.map List.length).sum < 4194304 := hs
  refine ⟨trivial, ?_⟩
  skip
  refine B0 (fun i : Nat => ⟨[(0, ⟨none, .rd 1 (l.map A6)⟩), (3, ⟨none, .str (cat (l.take i))⟩), (4, ⟨none, .int .i64 i⟩)], [], 0⟩) (fun i => i ≤ l.length) (fun i => l.length - i) 0 ?_ (by omega) ?_
  · (refine ⟨?_, ?_, rfl⟩ <;> repeat' (first | exact rfl | exact trivial | refine ⟨?_, ?_⟩ | fail) <;> (conv => whnf))
  intro i hi
  (conv => whnf); refine ⟨fun h1 => ?_, fun h1 => ?_⟩
  · have h1 : i < l.length := by simpa using h1
    obtain ⟨b, hb⟩ := B8 h1
    have hl : (cat (l.take i)).length + b.length + 1 ≤ 4194304 := by
      have h2 := A2t l (i + 1)
      rw [Bs hb] at h2
      rw [B0t]
      simp at h2 ⊢
      omega
    repeat ((conv => whnf); first | refine ⟨_, w64 (bb), ?_⟩ | refine ⟨bb, ?_⟩ | refine ⟨A6 b, fun _ => ⟨by omega, by simp [hb]⟩, ?_⟩)
    refine C2 (i + 1) ?_ h1 (by first | omega | (simp; done) | (simp; omega))
    · (refine ⟨?_, ?_, rfl⟩ <;> repeat' (first | exact rfl | exact trivial | refine ⟨?_, ?_⟩ | fail) <;> (conv => whnf))
      rw [Bs hb, Wi]
      simp [cat]
  · have h1 : i = l.length := by
      have hi : i ≤ l.length := hi
      have : ¬ i < l.length := by simpa using h1
      omega
    subst h1
    rw [List.take_length]
    have hl := A3f l
    have e : K5 l = if (l.length == 0) = true then sl else cat l := by cases l <;> rfl
    have hps := B4v l
    have hpl : (K5 l).length ≤ 4194304 := by omega
    (conv => whnf); refine ⟨fun h2 => ?_, fun h2 => ?_⟩
    · have h2 : l = [] := by simpa using h2
      have hc : sl = K5 l := by subst h2; rfl
      conv => whnf
      refine ⟨K5 l, by rw [← hc]; rfl, fun _ => hpl, ?_⟩
      (conv => whnf); refine ⟨fun h3 => ?_, fun h3 => ?_⟩
      · have h3 : Bh (K5 l) = true := by
          have h3 : (!!Bh (K5 l)) = true := h3
          simpa using h3
        repeat ((conv => whnf); refine ⟨fun (h : Cw _) => by first | assumption | exact absurd (Eq.trans (Eq.symm h) (by assumption) : true = false) Bool.noConfusion, ?_⟩)
        refine ⟨K5 l, by rw [← hc]; rfl, fun _ => hpl, ?_⟩
        repeat ((conv => whnf); refine ⟨fun h => h, ?_⟩)
        (conv => whnf); refine ⟨fun h4 => ?_, fun h4 => ?_⟩
        · conv => whnf
          exact ⟨trivial, eqS (by
            have h4 : ((!Bh (K5 l)) || !((((names (K5 l)).map A6).length : Int) == ((l.map A6).length : Int))) = true := h4
            rw [hps, if_neg]
            rw [h3] at h4 ⊢
            simp at h4 ⊢; omega)⟩
        · conv => whnf
          exact ⟨trivial, eqS (by
            have h4 : ((!Bh (K5 l)) || !((((names (K5 l)).map A6).length : Int) == ((l.map A6).length : Int))) = false := h4
            rw [hps, if_pos]
            · exact hc
            rw [h3] at h4 ⊢
            simp at h4 ⊢; omega)⟩
      · have h3 : Bh (K5 l) = false := by
          have h3 : (!!Bh (K5 l)) = false := h3
          simpa using h3
        repeat ((conv => whnf); first | refine ⟨fun h => h, ?_⟩ | refine ⟨fun (h : Cw _) => by first | assumption | exact absurd (Eq.trans (Eq.symm h) (by assumption) : true = false) Bool.noConfusion, ?_⟩ | refine ⟨fun h => (absurd (Eq.trans (Eq.symm h) (by assumption) : true = false) Bool.noConfusion : False), ?_⟩)
        (conv => whnf); refine ⟨fun h4 => ?_, fun h4 => ?_⟩
        · conv => whnf
          exact ⟨trivial, eqS (by rw [hps, if_neg]; simp [h3])⟩
        · cases h4
    · have h2 : l ≠ [] := by simpa using h2
      have hc : cat l = K5 l := by rw [e, if_neg]; simpa using h2
      conv => whnf
      refine ⟨K5 l, by rw [← hc]; rfl, fun _ => hpl, ?_⟩
      (conv => whnf); refine ⟨fun h3 => ?_, fun h3 => ?_⟩
      · have h3 : Bh (K5 l) = true := by
          have h3 : (!!Bh (K5 l)) = true := h3
          simpa using h3
        repeat ((conv => whnf); refine ⟨fun (h : Cw _) => by first | assumption | exact absurd (Eq.trans (Eq.symm h) (by assumption) : true = false) Bool.noConfusion, ?_⟩)
        refine ⟨K5 l, by rw [← hc]; rfl, fun _ => hpl, ?_⟩
        repeat ((conv => whnf); refine ⟨fun h => h, ?_⟩)
        (conv => whnf); refine ⟨fun h4 => ?_, fun h4 => ?_⟩
        · conv => whnf
          exact ⟨trivial, eqS (by
            have h4 : ((!Bh (K5 l)) || !((((names (K5 l)).map A6).length : Int) == ((l.map A6).length : Int))) = true := h4
            rw [hps, if_neg]
            rw [h3] at h4 ⊢
            simp at h4 ⊢; omega)⟩
        · conv => whnf
          exact ⟨trivial, eqS (by
            have h4 : ((!Bh (K5 l)) || !((((names (K5 l)).map A6).length : Int) == ((l.map A6).length : Int))) = false := h4
            rw [hps, if_pos]
            · exact hc
            rw [h3] at h4 ⊢
            simp at h4 ⊢; omega)⟩
      · have h3 : Bh (K5 l) = false := by
          have h3 : (!!Bh (K5 l)) = false := h3
          simpa using h3
        repeat ((conv => whnf); first | refine ⟨fun h => h, ?_⟩ | refine ⟨fun (h : Cw _) => by first | assumption | exact absurd (Eq.trans (Eq.symm h) (by assumption) : true = false) Bool.noConfusion, ?_⟩ | refine ⟨fun h => (absurd (Eq.trans (Eq.symm h) (by assumption) : true = false) Bool.noConfusion : False), ?_⟩)
        (conv => whnf); refine ⟨fun h4 => ?_, fun h4 => ?_⟩
        · conv => whnf
          exact ⟨trivial, eqS (by rw [hps, if_neg]; simp [h3])⟩
        · cases h4
theorem Od : Av Tryz.prog 119 Ff := Ao (Ca _ _) (FOk.cons Fn (FOk.cons Jm FOk.nil)) mixed Tryz.func119 rfl Tryz.call119 (by decide) (by kernel_rfl) A6i (by intro _ (y : (List Str)) _; exact ⟨by simp [Ff, con, A9, A8, AV.noRd, A7, Ab, A5, A6], by simp [Ff, con, A9, A8, AV.noRd, A7, Ab, A5, A6]⟩) (by intro (y : (List Str)) _; first | (simp [Ff, con, A9, A8, Ad, AV.free, A2, A3, A1, A6]; done) | (obtain ⟨_, _⟩ := y; simp [Ff, con, A9, A8, Ad, AV.free, A2, A3, A1, A6]; done) | (obtain ⟨_, _, _⟩ := y; simp [Ff, con, A9, A8, Ad, AV.free, A2, A3, A1, A6]; done))
noncomputable def Ft : Bi := con [mC] true Str A6 (fun l => sml l.length) (fun l => .str (E4 l))
noncomputable def B1w : Env := ⟨A4 Ba, A4 [(75, Cu), (85, E2), (119, Ff)], [0, 2, 3, 8, 11]⟩
set_option maxRecDepth 100000 in
set_option maxHeartbeats 4000000 in
theorem B21 : Bb B1w (Ax Tryz.f77) Tryz.f77.results.toList Ft := by
  intro (s : Str) hs
  have hs : s.length ≤ 4194304 := hs
  refine ⟨trivial, ?_⟩
  conv => whnf
  refine ⟨s, rfl, fun _ => hs, ?_⟩
  conv => whnf
  refine ⟨s, rfl, fun _ => hs, ?_⟩
  (conv => whnf); refine ⟨fun h1 => ?_, fun h1 => ?_⟩
  · have h1 : Bh s = false := by
      have h1 : (!Bh s) = true := h1
      simpa using h1
    conv => whnf
    exact ⟨trivial, eqS (by simp [E4, h1])⟩
  have h1 : Bh s = true := by
    have h1 : (!Bh s) = false := h1
    simpa using h1
  have hd : E4 s = E8 ((names s).take ((names s).length - 1)) := by simp [E4, h1]
  (conv => whnf); refine ⟨fun h2 => ?_, fun h2 => ?_⟩
  · have h2 : names s = [] := by simpa using h2
    conv => whnf
    exact ⟨trivial, eqS (by rw [hd, h2]; rfl)⟩
  have h2 : 0 < (names s).length := by
    have : names s ≠ [] := by simpa using h2
    exact List.length_pos_iff.2 this
  have hnl := I1 (p := s)
  have hns := A9u (p := s)
  repeat ((conv => whnf); first | refine ⟨_, w64 (bb), ?_⟩ | refine ⟨fun _ => ⟨bb, bb, bb⟩, ?_⟩)
  refine ⟨(names s).take ((names s).length - 1), by
    refine congrArg (fun x => [AV.rd 1 x]) ?_
    rw [B9p]
    simp only [Int.toNat_natCast, List.drop_zero, List.length_map]
    congr 2
    omega, fun _ => ?_, ?_⟩
  · have := A2t (names s) ((names s).length - 1)
    show _ < _
    rw [List.length_take]
    omega
  conv => whnf
  exact ⟨trivial, eqS hd.symm⟩
theorem My : Av Tryz.prog 77 Ft := Ao (Ca _ _) (FOk.cons Fn (FOk.cons Jm (FOk.cons Od FOk.nil))) mixed Tryz.func77 rfl Tryz.call77 (by decide) (by kernel_rfl) B21 (by intro _ (y : Str) _; exact ⟨by simp [Ft, con, A9, A8, AV.noRd, A7, Ab, A5, A6], by simp [Ft, con, A9, A8, AV.noRd, A7, Ab, A5, A6]⟩) (by intro (y : Str) _; first | (simp [Ft, con, A9, A8, Ad, AV.free, A2, A3, A1, A6]; done) | (obtain ⟨_, _⟩ := y; simp [Ft, con, A9, A8, Ad, AV.free, A2, A3, A1, A6]; done) | (obtain ⟨_, _, _⟩ := y; simp [Ft, con, A9, A8, Ad, AV.free, A2, A3, A1, A6]; done))
end Go.GH


set_option linter.unusedVariables false
set_option linter.unusedSimpArgs false
namespace Go.GH
open Go Go.Proofs
noncomputable def Ck : Bi := con [mS 4, mC] true (Tr × Str) (fun x => [rdT x.1, .str x.2]) (fun x => smT x.1) (fun x => M9 (Al x.1 x.2))
noncomputable def A3o : Env := ⟨A4 Ba, A4 [], [0, 1, 2, 4, 5, 6, 8, 14, 24]⟩
set_option maxRecDepth 100000 in
set_option maxHeartbeats 4000000 in
theorem A38 : Bb A3o (Ax Tryz.f45) Tryz.f45.results.toList Ck := by
  rintro ⟨t, p⟩ hs
  obtain ⟨hs1, hs2⟩ : smT t := hs
  refine ⟨trivial, ?_⟩
  (conv => whnf); refine ⟨fun h1 => ?_, fun h1 => ?_⟩
  · have h1 : (p == sl) = true := h1
    conv => whnf
    rw [show Ck.res (t, p) = .tup [.agg (Ac It.top), .bool true] by show M9 (Al t p) = _; simp [Al, h1]; rfl]; exact ⟨trivial, ⟨rfl, rfl, rfl, rfl, trivial⟩, rfl, trivial⟩
  have h1 : (p == sl) = false := h1
  skip
  refine B0 (fun i : Nat => ⟨[(1, ⟨none, .str p⟩), (2, ⟨none, .bx 0 0⟩), (4, ⟨none, .bx 1 0⟩), (6, ⟨none, .int .i64 i⟩)], [(1, .own 4 [Ac It.none]), (0, .own 1 [[.rd 4 (t.map Ac)]])], 2⟩)
    (fun i => i ≤ t.length ∧ (t.take i).find? (fun x => x.path == p) = none) (fun i => t.length - i) 0 ?_ ⟨by omega, rfl⟩ ?_
  · (refine ⟨?_, ?_, rfl⟩ <;> repeat' (first | exact rfl | exact trivial | refine ⟨?_, ?_⟩ | fail) <;> (conv => whnf))
  rintro i ⟨hi, hI⟩
  (conv => whnf); refine ⟨fun h2 => ?_, fun h2 => ?_⟩
  · have h2 : i < t.length := by simpa using h2
    obtain ⟨b, hb⟩ := B8 h2
    repeat ((conv => whnf); refine ⟨Ac b, fun _ => ⟨by omega, by simp [hb]⟩, ?_⟩)
    (conv => whnf); refine ⟨fun h3 => ?_, fun h3 => ?_⟩
    · have h3 : (b.path == p) = true := h3
      repeat ((conv => whnf); refine ⟨Ac b, fun _ => ⟨by omega, by simp [hb]⟩, ?_⟩)
      rw [show Ck.res (t, p) = .tup [.agg (Ac b), .bool true] by show M9 (Al t p) = _; simp [Al, h1, A4u hI hb h3, M9]]; exact ⟨trivial, ⟨rfl, rfl, rfl, rfl, trivial⟩, rfl, trivial⟩
    · have h3 : (b.path == p) = false := h3
      repeat ((conv => whnf); refine ⟨_, w64 (bb), ?_⟩)
      refine C2 (i + 1) ?_ ⟨h2, A22 hI hb h3⟩ (by first | omega | (simp; done) | (simp; omega))
      (refine ⟨?_, ?_, rfl⟩ <;> repeat' (first | exact rfl | exact trivial | refine ⟨?_, ?_⟩ | fail) <;> (conv => whnf))
  · have h2 : i = t.length := by
      have : ¬ i < t.length := by simpa using h2
      omega
    subst h2
    rw [List.take_length] at hI
    skip
    rw [show Ck.res (t, p) = .tup [.agg (Ac It.none), .bool false] by show M9 (Al t p) = _; simp [Al, h1, hI, M9]]; exact ⟨trivial, ⟨rfl, rfl, rfl, rfl, trivial⟩, rfl, trivial⟩
theorem Fz : Av Tryz.prog 45 Ck := Ao (Ca _ _) FOk.nil mixed Tryz.func45 rfl Tryz.call45 (by decide) (by kernel_rfl) A38 (by intro _ (y : Tr × Str) _; refine ⟨?_, trivial⟩; show AV.noRd (M9 (Al y.1 y.2)); simp [M9, AV.noRd, A7, Ac]) (by intro (y : (Tr × Str)) _; first | (simp [Ck, con, A9, A8, Ad, AV.free, A2, A3, A1, A6, rdT, Ac]; done) | (obtain ⟨_, _⟩ := y; simp [Ck, con, A9, A8, Ad, AV.free, A2, A3, A1, A6, rdT, Ac]; done) | (obtain ⟨_, _, _⟩ := y; simp [Ck, con, A9, A8, Ad, AV.free, A2, A3, A1, A6, rdT, Ac]; done))
noncomputable def Fa : Bi := con [mS 4] true Tr (fun t => [rdT t]) smT (fun t => .bool (Bj t))
noncomputable def A6y : Env := ⟨A4 Ba, A4 [(45, Ck), (75, Cu), (76, Ch), (77, Ft)], [0, 1, 2, 3, 4, 5, 6, 10, 15, 65, 78, 93]⟩
set_option maxRecDepth 100000 in
set_option maxHeartbeats 4000000 in
theorem A7p : Bb A6y (Ax Tryz.f38) Tryz.f38.results.toList Fa := by
  intro (t : Tr) hs
  obtain ⟨hs1, hs2⟩ : smT t := hs
  refine ⟨trivial, ?_⟩
  (conv => whnf); refine ⟨fun h1 => ?_, fun h1 => ?_⟩
  · conv => whnf
    exact ⟨trivial, eqB (by have h1 : ¬ t.length ≤ 40 := by simp at h1; omega
                            simp [Bj, h1])⟩
  have h1 : t.length ≤ 40 := by simp at h1; omega
  skip
  refine B0 (fun i : Nat => ⟨[(1, ⟨none, .bx 0 0⟩), (3, ⟨none, .int .i64 i⟩)], [(0, .own 1 [[.rd 4 (t.map Ac)]])], 1⟩)
    (fun i => i ≤ t.length ∧ ∀ j, j < i → chk t j = true) (fun i => t.length - i) 0 ?_ ⟨by omega, fun j hj => by omega⟩ ?_
  · (refine ⟨?_, ?_, rfl⟩ <;> repeat' (first | exact rfl | exact trivial | refine ⟨?_, ?_⟩ | fail) <;> (conv => whnf))
  rintro i ⟨hi, hI⟩
  (conv => whnf); refine ⟨fun h2 => ?_, fun h2 => ?_⟩
  · have h2 : i < t.length := by simpa using h2
    obtain ⟨b, hb⟩ := B8 h2
    have hbs := hs2 b (List.mem_of_getElem? hb)
    have hbad : ∀ {q : Bool}, chk t i = q → q = false → Bj t = false := fun h e => A55 h2 (h.trans e)
    repeat ((conv => whnf); refine ⟨Ac b, fun _ => ⟨by omega, by simp [hb]⟩, ?_⟩)
    conv => whnf
    refine ⟨b.path, rfl, fun _ => hbs.1, ?_⟩
    generalize hpv : t.getD (i - 1) It.none = pv
    have hprev : 0 < i → t[i - 1]? = some pv := fun h => by
      rw [← hpv, List.getD_eq_getElem?_getD, List.getElem?_eq_getElem (by omega)]; rfl
    have hix : ∀ {A : Bool}, Cw (some (A && decide ((i : Int) > 0))) → (0 : Int) ≤ (i : Int) - 1 ∧ (t.map Ac)[((i : Int) - 1).toNat]? = some (Ac pv) := by
      intro A h
      have hi0 : 0 < i := by simp [Cw] at h; omega
      exact ⟨by omega, by rw [show ((i : Int) - 1).toNat = i - 1 by omega]; exact Am (hprev hi0)⟩
    repeat ((conv => whnf); first | refine ⟨fun h => h, ?_⟩ | refine ⟨(by kernel_rfl : Bw _ _ = true), ?_⟩ | refine ⟨_, w64 (bb), ?_⟩ | refine ⟨Ac pv, fun h => hix h, ?_⟩ | refine ⟨(_, _, _), rfl, fun _ => trivial, ?_⟩)
    (conv => whnf); refine ⟨fun h3 => ?_, fun h3 => ?_⟩
    · conv => whnf
      exact ⟨trivial, eqB (hbad (B9f hb hpv h3) rfl).symm⟩
    have h3 : C08 i b pv = false := h3
    repeat ((conv => whnf); refine ⟨fun h => h, ?_⟩)
    (conv => whnf); refine ⟨fun h4 => ?_, fun h4 => ?_⟩
    · conv => whnf
      exact ⟨trivial, eqB (hbad (C0x hb h4) rfl).symm⟩
    have h4 : C09 b = false := h4
    conv => whnf
    refine ⟨b.path, rfl, fun _ => hbs.1, ?_⟩
    conv => whnf
    refine ⟨(t, E4 b.path), rfl, fun _ => ⟨hs1, hs2⟩, ?_⟩
    repeat ((conv => whnf); first | refine ⟨fun h => h, ?_⟩ | refine ⟨(by kernel_rfl : Bw _ _ = true), ?_⟩)
    (conv => whnf); refine ⟨fun h5 => ?_, fun h5 => ?_⟩
    · conv => whnf
      exact ⟨trivial, eqB (hbad (B3f hb (by
        have h5 : (!(Al t (E4 b.path)).isSome || ((Al t (E4 b.path)).getD It.none).kind != 2) = true := h5
        unfold Nw
        revert h5
        cases (Al t (E4 b.path)).isSome <;> simp)) rfl).symm⟩
    have h5 : Nw t (E4 b.path) = true := by
      have h5 : (!(Al t (E4 b.path)).isSome || ((Al t (E4 b.path)).getD It.none).kind != 2) = false := h5
      unfold Nw
      revert h5
      cases (Al t (E4 b.path)).isSome <;> simp
    repeat ((conv => whnf); refine ⟨_, w64 (bb), ?_⟩)
    refine C2 (i + 1) ?_ ⟨h2, fun j hj => ?_⟩ (by first | omega | (simp; done) | (simp; omega))
    · (refine ⟨?_, ?_, rfl⟩ <;> repeat' (first | exact rfl | exact trivial | refine ⟨?_, ?_⟩ | fail) <;> (conv => whnf))
    · rcases Nat.lt_or_ge j i with h | h
      · exact hI j h
      · rw [show j = i by omega]; exact C1a hb hpv h3 h4 h5
  · have h2 : i = t.length := by
      have : ¬ i < t.length := by simpa using h2
      omega
    subst h2
    conv => whnf
    exact ⟨trivial, eqB (A0e h1 hI).symm⟩
theorem Ov : Av Tryz.prog 38 Fa := Ao (Ca _ _) (FOk.cons Fz (FOk.cons Fn (FOk.cons Db (FOk.cons My FOk.nil)))) mixed Tryz.func38 rfl Tryz.call38 (by decide) (by kernel_rfl) A7p (by intro _ (y : Tr) _; exact ⟨by simp [Fa, con, A9, A8, AV.noRd, A7, Ab, A5, A6], by simp [Fa, con, A9, A8, AV.noRd, A7, Ab, A5, A6]⟩) (by intro (y : Tr) _; first | (simp [Fa, con, A9, A8, Ad, AV.free, A2, A3, A1, A6, rdT, Ac]; done) | (obtain ⟨_, _⟩ := y; simp [Fa, con, A9, A8, Ad, AV.free, A2, A3, A1, A6, rdT, Ac]; done) | (obtain ⟨_, _, _⟩ := y; simp [Fa, con, A9, A8, Ad, AV.free, A2, A3, A1, A6, rdT, Ac]; done))
end Go.GH


namespace Go.Proofs
open Go.Shelf
def Tryz.lays156_ren : Go.Shelf.Ren := ⟨fun | 156 => 95 | 165 => 132 | 166 => 133 | 169 => 134 | 240 => 172 | 241 => 173 | 276 => 195 | 277 => 196 | n => n, fun | 31 => 36 | 9 => 9 | 3 => 3 | 4 => 4 | 0 => 0 | 20 => 20 | 72 => 140 | 76 => 144 | 70 => 138 | 37 => 22 | 75 => 143 | 127 => 189 | 164 => 207 | 5 => 5 | 80 => 146 | n => n, fun | n => n⟩
theorem Tryz.lays156 : Go.Proofs.Lays.n156 Tryz.prog Tryz.lays156_ren := {
  mixed := by kernel_rfl
  f156 := Tryz.func95.trans (congrArg some (by kernel_rfl))
  f165 := Tryz.func132.trans (congrArg some (by kernel_rfl))
  f166 := Tryz.func133.trans (congrArg some (by kernel_rfl))
  f169 := Tryz.func134.trans (congrArg some (by kernel_rfl))
  f240 := Tryz.func172.trans (congrArg some (by kernel_rfl))
  f241 := Tryz.func173.trans (congrArg some (by kernel_rfl))
  f276 := Tryz.func195.trans (congrArg some (by kernel_rfl))
  f277 := Tryz.func196.trans (congrArg some (by kernel_rfl))
  t0 := Tryz.underlying0
  a0 := Tryz.isAgg0
  z0 := Tryz.sizeOf0
  v0 := Tryz.zeroValue0
  t3 := Tryz.underlying3
  a3 := Tryz.isAgg3
  z3 := Tryz.sizeOf3
  v3 := Tryz.zeroValue3
  t4 := Tryz.underlying4
  a4 := Tryz.isAgg4
  z4 := Tryz.sizeOf4
  v4 := Tryz.zeroValue4
  t9 := Tryz.underlying9
  a9 := Tryz.isAgg9
  z9 := Tryz.sizeOf9
  v9 := Tryz.zeroValue9
  t20 := Tryz.underlying20
  a20 := Tryz.isAgg20
  z20 := Tryz.sizeOf20
  v20 := Tryz.zeroValue20
  t31 := Tryz.underlying36
  a31 := Tryz.isAgg36
  z31 := Tryz.sizeOf36
  v31 := Tryz.zeroValue36
  t37 := Tryz.underlying22
  a37 := Tryz.isAgg22
  z37 := Tryz.sizeOf22
  v37 := Tryz.zeroValue22
  t70 := Tryz.underlying138
  a70 := Tryz.isAgg138
  z70 := Tryz.sizeOf138
  v70 := Tryz.zeroValue138
  t72 := Tryz.underlying140
  a72 := Tryz.isAgg140
  z72 := Tryz.sizeOf140
  v72 := Tryz.zeroValue140
  t75 := Tryz.underlying143
  a75 := Tryz.isAgg143
  z75 := Tryz.sizeOf143
  v75 := Tryz.zeroValue143
  t76 := Tryz.underlying144
  a76 := Tryz.isAgg144
  z76 := Tryz.sizeOf144
  v76 := Tryz.zeroValue144
  t127 := Tryz.underlying189
  a127 := Tryz.isAgg189
  z127 := Tryz.sizeOf189
  v127 := Tryz.zeroValue189
  t164 := Tryz.underlying207
  a164 := Tryz.isAgg207
  z164 := Tryz.sizeOf207
  v164 := Tryz.zeroValue207 }
theorem Tryz.Builder_Extra_156 : Builder.Extra Tryz.prog Tryz.lays156_ren := {
  sizeBuilder := by kernel_rfl
  liesBuilder := by kernel_rfl
  t5 := Tryz.underlying5
  a5 := Tryz.isAgg5
  z5 := Tryz.sizeOf5
  v5 := Tryz.zeroValue5
  infoByte := by kernel_rfl
  cellsByte := by kernel_rfl
  sizeByte := by kernel_rfl
  neB5 := by decide }
open Go.RowKit in
theorem Tryz.strings_Join_none (a : Option Addr) (c : Nat) (sep : ByteArray) (w : World) :
    Calls Tryz.prog 95 #[.slice a 0 c, .string sep] w fun e w' => e = .returned (.string ⟨#[]⟩) ∧ w' = w := Any.strings_Join_none Tryz.lays156 Tryz.Builder_Extra_156 a c sep w
open Go.RowKit in
theorem Tryz.strings_Join (bk o c : Nat) (xs : List ByteArray) (sep : ByteArray) (w : World) (hcells : ∀ (j : Nat) x, xs[j]? = some x → w.cell? ⟨bk, o + j, none⟩ = some (.string x)) (hbk : bk < w.heap.size) (hN : xs.length ≤ 140737488355328) (hcap : xs.length ≤ c) (hlen : (Lib.join (xs.map (·.data.toList)) sep.data.toList).length ≤ 140737488355328) :
    Calls Tryz.prog 95 #[.slice (some ⟨bk, o, none⟩) xs.length c, .string sep] w fun e w' => e = .returned (.string ⟨(Lib.join (xs.map (·.data.toList)) sep.data.toList).toArray⟩) ∧ Below w.heap.size w w' := Any.strings_Join Tryz.lays156 Tryz.Builder_Extra_156 bk o c xs sep w hcells hbk hN hcap hlen
def Tryz.lays106_ren : Go.Shelf.Ren := ⟨fun | 106 => 115 | 213 => 157 | 265 => 183 | n => n, fun | 9 => 9 | 3 => 3 | n => n, fun | n => n⟩
theorem Tryz.lays106 : Go.Proofs.Lays.n106 Tryz.prog Tryz.lays106_ren := {
  mixed := by kernel_rfl
  f106 := Tryz.func115.trans (congrArg some (by kernel_rfl))
  f213 := Tryz.func157.trans (congrArg some (by kernel_rfl))
  f265 := Tryz.func183.trans (congrArg some (by kernel_rfl))
  t3 := Tryz.underlying3
  a3 := Tryz.isAgg3
  z3 := Tryz.sizeOf3
  v3 := Tryz.zeroValue3
  t9 := Tryz.underlying9
  a9 := Tryz.isAgg9
  z9 := Tryz.sizeOf9
  v9 := Tryz.zeroValue9 }
open Go.RowKit in
theorem Tryz.strings_Compare (a b : ByteArray) (w : World) :
    Calls Tryz.prog 115 #[.string a, .string b] w fun e w' => e = .returned (.int .i64 (Lib.compareBytes a.data.toList b.data.toList)) ∧ w' = w := Any.strings_Compare Tryz.lays106 a b w
end Go.Proofs


set_option linter.unusedVariables false
set_option linter.unusedSimpArgs false
namespace Go.GH
open Go Go.Proofs
noncomputable def Dn : Bi := con [mC] true Str A6 (fun s => s.length ≤ 4611686018427387904) (fun s => .bool (!Do s))
noncomputable def Y2 : Env := ⟨A4 Ba, A4 [(94, G9)], [0, 2]⟩
set_option maxRecDepth 100000 in
set_option maxHeartbeats 4000000 in
theorem Xw : Bb Y2 (Ax Tryz.f93) Tryz.f93.results.toList Dn := by
  intro (s : Str) hs
  have hs : s.length ≤ 4611686018427387904 := hs
  refine ⟨trivial, ?_⟩
  conv => whnf
  refine ⟨s, rfl, fun _ => hs, ?_⟩
  conv => whnf
  exact ⟨trivial, rfl⟩
theorem L5 : Av Tryz.prog 93 Dn := Ao (Ca _ _) (FOk.cons Sx FOk.nil) mixed Tryz.func93 rfl Tryz.call93 (by decide) (by kernel_rfl) Xw (by intro _ (y : Str) _; exact ⟨by simp [Dn, con, A9, A8, AV.noRd, A7, Ab, A5, A6], by simp [Dn, con, A9, A8, AV.noRd, A7, Ab, A5, A6]⟩) (by intro (y : Str) _; first | (simp [Dn, con, A9, A8, Ad, AV.free, A2, A3, A1, A6]; done) | (obtain ⟨_, _⟩ := y; simp [Dn, con, A9, A8, Ad, AV.free, A2, A3, A1, A6]; done) | (obtain ⟨_, _, _⟩ := y; simp [Dn, con, A9, A8, Ad, AV.free, A2, A3, A1, A6]; done))
noncomputable def Eg : Bi := con [mC] true Str A6 (fun s => s.length ≤ 4611686018427387904) (fun s => .bool (!Do s))
noncomputable def A1e : Env := ⟨A4 Ba, A4 [(94, G9)], [0, 2]⟩
set_option maxRecDepth 100000 in
set_option maxHeartbeats 4000000 in
theorem A1c : Bb A1e (Ax Tryz.f96) Tryz.f96.results.toList Eg := by
  intro (s : Str) hs
  have hs : s.length ≤ 4611686018427387904 := hs
  refine ⟨trivial, ?_⟩
  conv => whnf
  refine ⟨s, rfl, fun _ => hs, ?_⟩
  conv => whnf
  exact ⟨trivial, rfl⟩
theorem Mi : Av Tryz.prog 96 Eg := Ao (Ca _ _) (FOk.cons Sx FOk.nil) mixed Tryz.func96 rfl Tryz.call96 (by decide) (by kernel_rfl) A1c (by intro _ (y : Str) _; exact ⟨by simp [Eg, con, A9, A8, AV.noRd, A7, Ab, A5, A6], by simp [Eg, con, A9, A8, AV.noRd, A7, Ab, A5, A6]⟩) (by intro (y : Str) _; first | (simp [Eg, con, A9, A8, Ad, AV.free, A2, A3, A1, A6]; done) | (obtain ⟨_, _⟩ := y; simp [Eg, con, A9, A8, Ad, AV.free, A2, A3, A1, A6]; done) | (obtain ⟨_, _, _⟩ := y; simp [Eg, con, A9, A8, Ad, AV.free, A2, A3, A1, A6]; done))
noncomputable def Ci : Bi := con [mS 1, mC] true (List Str × Bool) (fun x => [.rd 1 (x.1.map A6), .fn (bif x.2 then 93 else 96) []]) (fun x => smL x.1) (fun x => .int .i64 (fnd (fun s => !Do s) x.1))
noncomputable def Pa : Env := ⟨A4 Ba, A4 [(93, Dn), (96, Eg)], [0, 1, 4, 5, 7, 8, 9, 16]⟩
set_option maxRecDepth 100000 in
set_option maxHeartbeats 4000000 in
theorem P6 : Bb Pa (Ax Tryz.f131) Tryz.f131.results.toList Ci := by
  rintro ⟨l, q⟩ hs
  obtain ⟨hs1, hs2⟩ : smL l := hs
  cases q with
  | true =>
    refine ⟨trivial, ?_⟩
    conv => whnf
    refine B0 (fun i : Nat => ⟨[(0, ⟨none, .rd 1 (l.map A6)⟩), (1, ⟨none, .fn 93 []⟩), (7, ⟨none, .int .i64 l.length⟩), (8, ⟨none, .int .i64 i⟩)], [], 0⟩)
      (fun i => i ≤ l.length ∧ (l.take i).any (fun s => !Do s) = false) (fun i => l.length - i) 0 ?_ ⟨by omega, rfl⟩ ?_
    · (refine ⟨?_, ?_, rfl⟩ <;> repeat' (first | exact rfl | exact trivial | refine ⟨?_, ?_⟩ | fail) <;> (conv => whnf))
      all_goals simp
    rintro i ⟨hi, hI⟩
    (conv => whnf); refine ⟨fun h1 => ?_, fun h1 => ?_⟩
    · have h1 : i < l.length := by simpa using h1
      obtain ⟨b, hb⟩ := B8 h1
      have hbs := hs2 b (List.mem_of_getElem? hb)
      repeat ((conv => whnf); refine ⟨A6 b, fun _ => ⟨by omega, by simp [hb]⟩, ?_⟩)
      refine ⟨b, rfl, fun _ => by show _ ≤ _; omega, ?_⟩
      (conv => whnf); refine ⟨fun h2 => ?_, fun h2 => ?_⟩
      · have h2 : (!Do b) = true := h2
        conv => whnf
        exact ⟨trivial, Nr (A1m hI hb h2).symm⟩
      · have h2 : (!Do b) = false := h2
        repeat ((conv => whnf); refine ⟨_, w64 (bb), ?_⟩)
        refine C2 (i + 1) ?_ ⟨h1, N3 hI hb h2⟩ (by first | omega | (simp; done) | (simp; omega))
        (refine ⟨?_, ?_, rfl⟩ <;> repeat' (first | exact rfl | exact trivial | refine ⟨?_, ?_⟩ | fail) <;> (conv => whnf))
    · have h1 : i = l.length := by
        have : ¬ i < l.length := by simpa using h1
        omega
      subst h1
      rw [List.take_length] at hI
      conv => whnf
      exact ⟨trivial, Nr (Qk hI).symm⟩
  | false =>
    refine ⟨trivial, ?_⟩
    conv => whnf
    refine B0 (fun i : Nat => ⟨[(0, ⟨none, .rd 1 (l.map A6)⟩), (1, ⟨none, .fn 96 []⟩), (7, ⟨none, .int .i64 l.length⟩), (8, ⟨none, .int .i64 i⟩)], [], 0⟩)
      (fun i => i ≤ l.length ∧ (l.take i).any (fun s => !Do s) = false) (fun i => l.length - i) 0 ?_ ⟨by omega, rfl⟩ ?_
    · (refine ⟨?_, ?_, rfl⟩ <;> repeat' (first | exact rfl | exact trivial | refine ⟨?_, ?_⟩ | fail) <;> (conv => whnf))
      all_goals simp
    rintro i ⟨hi, hI⟩
    (conv => whnf); refine ⟨fun h1 => ?_, fun h1 => ?_⟩
    · have h1 : i < l.length := by simpa using h1
      obtain ⟨b, hb⟩ := B8 h1
      have hbs := hs2 b (List.mem_of_getElem? hb)
      repeat ((conv => whnf); refine ⟨A6 b, fun _ => ⟨by omega, by simp [hb]⟩, ?_⟩)
      refine ⟨b, rfl, fun _ => by show _ ≤ _; omega, ?_⟩
      (conv => whnf); refine ⟨fun h2 => ?_, fun h2 => ?_⟩
      · have h2 : (!Do b) = true := h2
        conv => whnf
        exact ⟨trivial, Nr (A1m hI hb h2).symm⟩
      · have h2 : (!Do b) = false := h2
        repeat ((conv => whnf); refine ⟨_, w64 (bb), ?_⟩)
        refine C2 (i + 1) ?_ ⟨h1, N3 hI hb h2⟩ (by first | omega | (simp; done) | (simp; omega))
        (refine ⟨?_, ?_, rfl⟩ <;> repeat' (first | exact rfl | exact trivial | refine ⟨?_, ?_⟩ | fail) <;> (conv => whnf))
    · have h1 : i = l.length := by
        have : ¬ i < l.length := by simpa using h1
        omega
      subst h1
      rw [List.take_length] at hI
      conv => whnf
      exact ⟨trivial, Nr (Qk hI).symm⟩
theorem Ob : Av Tryz.prog 131 Ci := Ao (Ca _ _) (FOk.cons L5 (FOk.cons Mi FOk.nil)) mixed Tryz.func131 rfl Tryz.call131 (by decide) (by kernel_rfl) P6 (by intro _ (y : (List Str × Bool)) _; exact ⟨by simp [Ci, con, A9, A8, AV.noRd, A7, Ab, A5, A6], by simp [Ci, con, A9, A8, AV.noRd, A7, Ab, A5, A6]⟩) (by intro (y : (List Str × Bool)) _; first | (simp [Ci, con, A9, A8, Ad, AV.free, A2, A3, A1, A6]; done) | (obtain ⟨_, _⟩ := y; simp [Ci, con, A9, A8, Ad, AV.free, A2, A3, A1, A6]; done) | (obtain ⟨_, _, _⟩ := y; simp [Ci, con, A9, A8, Ad, AV.free, A2, A3, A1, A6]; done))
end Go.GH


set_option linter.unusedVariables false
set_option linter.unusedSimpArgs false
namespace Go.GH
open Go Go.Proofs
def Th : Bi := con [mS 1, mC] true (List Str × Str) (fun x => [.rd 1 (x.1.map A6), .str x.2]) (fun x => (Lib.join x.1 x.2).length ≤ 16777216 ∧ x.1.length ≤ 4194304) (fun x => .str (Lib.join x.1 x.2))
theorem A0h : Av Tryz.prog 95 Th := by
  refine B04 rfl (fun _ => rfl) (fun _ => rfl) (fun _ => rfl) (fun x _ => ⟨A1.2 fun _ _ => ⟨trivial, trivial⟩, trivial, trivial⟩) Tryz.call95 ?_
  rintro ⟨l, p⟩ hpre y w args ρ hw hR hsz hs
  obtain ⟨hp1, hp2⟩ : (Lib.join l p).length ≤ 16777216 ∧ l.length ≤ 4194304 := hpre
  have h0 := hs 0 _ rfl
  have h1 := Jg (hs 1 _ rfl)
  obtain ⟨a, cap, e0, hcap, hcell⟩ := C1s h0 hw
  have hsz : args.size = 2 := hsz
  have ha : args = #[.slice a l.length cap, .string (toB p)] := by
    apply Array.ext
    · simp [hsz]
    · intro i hi1 hi2
      have : i = 0 ∨ i = 1 := by omega
      rcases this with rfl | rfl
      · rw [Array.getD_eq_getD_getElem?, Array.getElem?_eq_getElem hi1] at e0; simpa using e0
      · rw [Array.getD_eq_getD_getElem?, Array.getElem?_eq_getElem hi1] at h1; simpa [E6, toB] using h1
  rw [ha]
  cases l with
  | nil =>
    refine (Tryz.strings_Join_none a cap (toB p) w).mono ?_
    rintro e w' ⟨rfl, rfl⟩
    exact ⟨rfl, RowKit.Below.refl _ _⟩
  | cons x r =>
    obtain ⟨b, o, rfl, hb, hc⟩ := hcell (by simp)
    have e : ((x :: r).map toB).map (fun z => z.data.toList) = x :: r := by
      rw [List.map_map]; simp [Function.comp_def, toB]
    have hJ := Tryz.strings_Join b o cap ((x :: r).map toB) (toB p) w (fun j z hz => by
      rw [List.getElem?_map] at hz
      cases hq : (x :: r)[j]? with
      | none => rw [hq] at hz; cases hz
      | some s0 =>
        rw [hq] at hz
        simp only [Option.map_some, Option.some.injEq] at hz
        subst hz
        exact hc j s0 hq) (hR b hb) (by simp at hp2 ⊢; omega) (by simpa using hcap) (by
          rw [e]; simp only [toB]; omega)
    rw [e] at hJ
    rw [List.length_map] at hJ
    exact hJ
noncomputable def Bv : Bi := con [mS 1, mC] true (List Str × Bool) (fun x => [.rd 1 (x.1.map A6), .fn (bif x.2 then 93 else 96) []]) (fun x => smL x.1) (fun x => .bool (x.1.any fun s => !Do s))
noncomputable def Nl : Env := ⟨A4 Ba, A4 [(131, Ci), (93, Dn), (96, Eg)], [0, 1, 4]⟩
set_option maxRecDepth 100000 in
set_option maxHeartbeats 4000000 in
theorem Np : Bb Nl (Ax Tryz.f92) Tryz.f92.results.toList Bv := by
  rintro ⟨l, q⟩ hs
  refine ⟨trivial, ?_⟩
  cases q with
  | true =>
    conv => whnf
    refine ⟨(l, true), rfl, fun _ => hs, ?_⟩
    conv => whnf
    exact ⟨trivial, eqB V5⟩
  | false =>
    conv => whnf
    refine ⟨(l, false), rfl, fun _ => hs, ?_⟩
    conv => whnf
    exact ⟨trivial, eqB V5⟩
theorem J2 : Av Tryz.prog 92 Bv := Ao (Ca _ _) (FOk.cons Ob (FOk.cons L5 (FOk.cons Mi FOk.nil))) mixed Tryz.func92 rfl Tryz.call92 (by decide) (by kernel_rfl) Np (by intro _ (y : (List Str × Bool)) _; exact ⟨by simp [Bv, con, A9, A8, AV.noRd, A7, Ab, A5, A6], by simp [Bv, con, A9, A8, AV.noRd, A7, Ab, A5, A6]⟩) (by intro (y : (List Str × Bool)) _; first | (simp [Bv, con, A9, A8, Ad, AV.free, A2, A3, A1, A6]; done) | (obtain ⟨_, _⟩ := y; simp [Bv, con, A9, A8, Ad, AV.free, A2, A3, A1, A6]; done) | (obtain ⟨_, _, _⟩ := y; simp [Bv, con, A9, A8, Ad, AV.free, A2, A3, A1, A6]; done))
noncomputable def F2 : Bi := con [mC] false Str A6 (fun s => sml s.length) (fun s => .tup [.own 1 ((names s).map A6), .bool (Bh s)])
noncomputable def A10 : Env := ⟨A4 Ba, A4 [(90, If), (91, Ez), (92, Bv), (93, Dn)], [0, 2, 3, 4, 6, 18, 21]⟩
set_option maxRecDepth 100000 in
set_option maxHeartbeats 4000000 in
theorem A0p : Bb A10 (Ax Tryz.f50) Tryz.f50.results.toList F2 := by
  intro (s : Str) hs
  have hs : s.length ≤ 4194304 := hs
  refine ⟨trivial, ?_⟩
  (conv => whnf); refine ⟨fun h1 => ?_, fun h1 => ?_⟩
  · have h1 : (s == sl) = true := h1
    have hp : Bh s = true := by simp [Bh, h1]
    have hn : names s = [] := by simp [names, h1]
    conv => whnf
    exact ⟨trivial, B9t (by rw [hn]; rfl), eqB hp.symm, trivial⟩
  have h1 : (s == sl) = false := h1
  conv => whnf
  refine ⟨(s, 47), rfl, fun _ => hs, ?_⟩
  conv => whnf
  have hq := Pk (c := 47) s
  have hp := Qr 47 s
  have hd : Bh s = (inB (An 47 s).length 2 5 && ((An 47 s).headD [] == []) && ((An 47 s).drop 1).all Do) := by simp [Bh, h1]
  have hn : names s = if Bh s then (An 47 s).drop 1 else [] := by simp [names, h1]
  obtain ⟨a, ha⟩ := B8 hp
  have hh : (An 47 s).headD [] = a := by
    cases hx : An 47 s with
    | nil => rw [hx] at ha; cases ha
    | cons y r => rw [hx] at ha; simpa using ha
  rw [hh] at hd
  repeat ((conv => whnf); first | refine ⟨fun h => h, ?_⟩ | refine ⟨bb, ?_⟩ | refine ⟨A6 a, fun _ => Am ha, ?_⟩)
  refine ⟨((An 47 s).length, 2, 5), by (try simp only [List.length_map]); rfl, fun _ => trivial, ?_⟩
  repeat ((conv => whnf); refine ⟨fun h => h, ?_⟩)
  (conv => whnf); refine ⟨fun h2 => ?_, fun h2 => ?_⟩
  · have hf : Bh s = false := by
      have h2 : (!(a == []) || (!inB (An 47 s).length 2 5)) = true := h2
      rw [hd]
      revert h2
      cases inB (An 47 s).length 2 5 <;> cases (a == []) <;> simp
    rw [hf] at hn
    conv => whnf
    exact ⟨trivial, B9t (by rw [hn]; rfl), eqB hf.symm, trivial⟩
  have h2 : inB (An 47 s).length 2 5 = true ∧ (a == []) = true := by
    have h2 : (!(a == []) || (!inB (An 47 s).length 2 5)) = false := h2
    revert h2
    cases inB (An 47 s).length 2 5 <;> cases (a == []) <;> simp
  rw [h2.1, h2.2, Bool.true_and, Bool.true_and] at hd
  repeat ((conv => whnf); refine ⟨fun _ => ⟨bb, bb, bb⟩, ?_⟩)
  refine ⟨((An 47 s).drop 1, true), ?_, fun _ => ?_, ?_⟩
  · refine congrArg (fun x => [AV.rd 1 x, AV.fn 93 []]) ?_
    rw [B9p, List.take_of_length_le (by simp)]; rfl
  · refine ⟨by simp; omega, fun x hx => ?_⟩
    have := Nh s x (List.mem_of_mem_drop hx)
    omega
  have hany : ((An 47 s).drop 1).any (fun s => !Do s) = !Bh s := by rw [hd, List.not_all_eq_any_not]
  (conv => whnf); refine ⟨fun h3 => ?_, fun h3 => ?_⟩
  · have h3 : ((An 47 s).drop 1).any (fun s => !Do s) = true := h3
    have hf : Bh s = false := by rw [hany] at h3; simpa using h3
    rw [hf] at hn
    conv => whnf
    exact ⟨trivial, B9t (by rw [hn]; rfl), eqB hf.symm, trivial⟩
  · have h3 : ((An 47 s).drop 1).any (fun s => !Do s) = false := h3
    have hf : Bh s = true := by rw [hany] at h3; simpa using h3
    rw [hf, if_pos rfl] at hn
    repeat ((conv => whnf); refine ⟨fun _ => ⟨bb, bb, bb⟩, ?_⟩)
    refine ⟨trivial, ?_, eqB hf.symm, trivial⟩
    refine Qm ?_
    rw [hn]
    simp
    rw [List.take_of_length_le (by simp)]
theorem Qg : Av Tryz.prog 50 F2 := Ao (Ca _ _) (FOk.cons A5e (FOk.cons Lz (FOk.cons J2 (FOk.cons L5 FOk.nil)))) mixed Tryz.func50 rfl Tryz.call50 (by decide) (by kernel_rfl) A0p (by intro _ (y : Str) _; exact ⟨by simp [F2, con, A9, A8, AV.noRd, A7, Ab, A5, A6], by simp [F2, con, A9, A8, AV.noRd, A7, Ab, A5, A6]⟩) (by intro (y : Str) _; first | (simp [F2, con, A9, A8, Ad, AV.free, A2, A3, A1, A6]; done) | (obtain ⟨_, _⟩ := y; simp [F2, con, A9, A8, Ad, AV.free, A2, A3, A1, A6]; done) | (obtain ⟨_, _, _⟩ := y; simp [F2, con, A9, A8, Ad, AV.free, A2, A3, A1, A6]; done))
end Go.GH


set_option linter.unusedVariables false
set_option linter.unusedSimpArgs false
namespace Go.GH
open Go
def Jc (p q : Str) : Bool := Bh p && Bh q && (names q).isPrefixOf (names p)
theorem B0g {p : Str} (h : (An 47 p).headD [] = []) (h2 : 2 ≤ (An 47 p).length) : ∃ r, p = 47 :: r ∧ An 47 r = (An 47 p).drop 1 := by
  cases p with
  | nil => simp [An] at h2
  | cons x r =>
    by_cases hx : x = 47
    · subst hx; exact ⟨r, rfl, by simp [An]⟩
    · simp only [An, if_neg hx] at h
      split at h
      · simp at h
      · simp at h
theorem A9v : ∀ (s : Str), cat (An 47 s) = 47 :: s
  | [] => rfl
  | x :: r => by
    unfold An
    have ih := A9v r
    split
    · rename_i hx; rw [cat, ih, hx]; rfl
    · have := Kb 47 r
      cases h : An 47 r with
      | nil => exact absurd h this
      | cons y t =>
        rw [h] at ih
        simp only [cat, List.cons_append] at ih ⊢
        rw [List.cons.injEq] at ih
        rw [← ih.2]
theorem Zj {p : Str} (h : Bh p = true) (h2 : (p == sl) = false) : p = cat (names p) ∧ names p ≠ [] := by
  have hn : names p = (An 47 p).drop 1 := by simp [names, h, h2]
  simp only [Bh, h2, Bool.false_or, Bool.and_eq_true, inB, decide_eq_true_eq, beq_iff_eq] at h
  obtain ⟨⟨⟨h3, h4⟩, h5⟩, h6⟩ := h
  obtain ⟨r, hr, hs⟩ := B0g h5 (by omega)
  rw [hn, ← hs]
  exact ⟨by rw [A9v, hr], Kb _ _⟩
theorem B9o : names sl = [] := by simp [names]
theorem A6r {a b : List Str} : (decide ((b.length : Int) ≤ a.length) && (a.take b.length == b)) = b.isPrefixOf a := by
  rw [Bool.eq_iff_iff, List.isPrefixOf_iff_prefix, List.prefix_iff_eq_take]
  simp only [Bool.and_eq_true, decide_eq_true_eq, beq_iff_eq]
  constructor
  · rintro ⟨_, h⟩; exact h.symm
  · intro h
    refine ⟨?_, h.symm⟩
    have := congrArg List.length h
    simp at this
    omega
theorem C3j {s s2 : Nat} {x x' y y' : List (List AV)} (h1 : x = x') (h2 : y = y') : [AV.rd s x, AV.rd s2 y] = [AV.rd s x', AV.rd s2 y'] := by rw [h1, h2]
theorem B38 {p : Str} : smL (names p) := by
  refine ⟨by have := I1 (p := p); omega, fun s hs => ?_⟩
  have := Rq (List.all_eq_true.1 (R8 (p := p)) s hs)
  omega
theorem C17 {l : List Str} {k : Nat} (h : smL l) : smL (l.take k) := by
  refine ⟨by have := h.1; simp; omega, fun s hs => h.2 s (List.mem_of_mem_take hs)⟩
end Go.GH


set_option linter.unusedVariables false
set_option linter.unusedSimpArgs false
namespace Go.GH
open Go
structure OpR where
  kind : Int
  path : Str
  «to» : Str
  at_ : Int
  data : Str
  time : Int
def Au (o : OpR) : List AV := [.int .i64 o.kind, .str o.path, .str o.to, .int .i64 o.at_, .str o.data, .int .i64 o.time]
def OpR.zero : OpR := ⟨0, [], [], 0, [], 0⟩
theorem rdO (l : List OpR) : Cr (l.map Au) = l.map Au := Jb (fun _ => rfl) l
theorem N8 : ∀ {a b c : Str}, Co a b = true → Co b c = true → Co a c = true
  | [], [], _, h, _ => by cases h
  | [], _ :: _, [], _, h => by cases h
  | [], _ :: _, _ :: _, _, _ => rfl
  | _ :: _, [], _, h, _ => by cases h
  | _ :: _, _ :: _, [], _, h => by cases h
  | x :: a, y :: b, z :: c, h1, h2 => by
    simp only [Co, Bool.or_eq_true, Bool.and_eq_true, decide_eq_true_eq, beq_iff_eq] at h1 h2 ⊢
    rcases h1 with h1 | ⟨rfl, h1⟩
    · rcases h2 with h2 | ⟨rfl, h2⟩
      · exact .inl (UInt8.lt_trans h1 h2)
      · exact .inl h1
    · rcases h2 with h2 | ⟨rfl, h2⟩
      · exact .inl h2
      · exact .inr ⟨rfl, N8 h1 h2⟩
section
variable {t : Tr}
theorem B5v (h : Bj t = true) {i : Nat} (hi : i < t.length) : chk t i = true := by
  rw [Bj, Bool.and_eq_true] at h
  exact (B74 (t := t)).1 h.2 i hi
theorem L8 (h : Bj t = true) : t.length ≤ 40 := by
  rw [Bj, Bool.and_eq_true] at h
  simpa using h.1
theorem A4a (h : Bj t = true) {i : Nat} {x : It} (hx : t[i]? = some x) : Jr x = true ∧ (i = 0 ∨ Co (t.getD (i - 1) It.none).path x.path = true) ∧ Nw t (E4 x.path) = true := by
  have := B5v h (F5 hx)
  rw [We hx rfl] at this
  simp only [Bool.and_eq_true, Bool.or_eq_true, beq_iff_eq] at this
  exact ⟨this.1.1, this.1.2, this.2⟩
theorem N9 (h : Bj t = true) {x : It} (hx : x ∈ t) : Jr x = true := by
  obtain ⟨i, hi⟩ := List.mem_iff_getElem?.1 hx
  exact (A4a h hi).1
theorem V8 (h : Bj t = true) : ∀ {j i : Nat} {x y : It}, t[i]? = some x → t[j]? = some y → i < j → Co x.path y.path = true
  | 0, i, x, y, hx, hy, hij => by omega
  | j + 1, i, x, y, hx, hy, hij => by
    have hj := F5 hy
    obtain ⟨z, hz⟩ := B8 (l := t) (i := j) (by omega)
    have h1 : Co z.path y.path = true := by
      have := (A4a h hy).2.1
      rcases this with h0 | h0
      · omega
      · rw [Nat.add_sub_cancel, List.getD_eq_getElem?_getD, hz] at h0; exact h0
    rcases Nat.lt_or_ge i j with hi | hi
    · exact N8 (V8 h hx hz hi) h1
    · have : i = j := by omega
      subst this
      rw [hx] at hz
      rw [Option.some.inj hz]
      exact h1
theorem B59 (h : Bj t = true) {x y : It} (hx : x ∈ t) (hy : y ∈ t) (e : x.path = y.path) : x = y := by
  obtain ⟨i, hi⟩ := List.mem_iff_getElem?.1 hx
  obtain ⟨j, hj⟩ := List.mem_iff_getElem?.1 hy
  rcases Nat.lt_trichotomy i j with hij | rfl | hij
  · have := V8 h hi hj hij
    rw [e, Jd] at this; cases this
  · rw [hi] at hj; exact Option.some.inj hj
  · have := V8 h hj hi hij
    rw [e, Jd] at this; cases this
theorem V4 {x : It} (h : Jr x = true) : (x.path == sl) = false := by
  unfold Jr at h
  simp only [Bool.and_eq_true, Bool.not_eq_true'] at h
  exact h.1.1.2
theorem Lg {p : Str} (h : (p == sl) = false) : Al t p = t.find? fun x => x.path == p := by
  rw [Al, if_neg (by simp [h])]
theorem Pp (h : Bj t = true) {x : It} (hx : x ∈ t) : Al t x.path = some x := by
  rw [Lg (V4 (N9 h hx))]
  cases hf : t.find? fun z => z.path == x.path with
  | none =>
    have := List.find?_eq_none.1 hf x hx
    simp at this
  | some y =>
    have h1 := List.find?_some hf
    have h2 := List.mem_of_find?_eq_some hf
    rw [B59 h h2 hx (by simpa using h1)]
end
theorem C20 {a b : Tr} (ob : Bj b = true) {y : It} (hy : y ∈ b) :
    (Al a y.path = none ∧ fnd (fun z => z.path == y.path) a = -1) ∨ ∃ x, Al a y.path = some x ∧ x ∈ a ∧ x.path = y.path ∧ 0 ≤ fnd (fun z => z.path == y.path) a ∧ a[(fnd (fun z => z.path == y.path) a).toNat]? = some x := by
  rw [Lg (V4 (N9 ob hy))]
  cases hq : a.any fun z => z.path == y.path with
  | false => exact .inl ⟨B3w hq, Qk hq⟩
  | true =>
    obtain ⟨x, h1, h2⟩ := B1i hq
    refine .inr ⟨x, h2, List.mem_of_find?_eq_some h2, ?_, ?_, h1⟩
    · have := List.find?_some h2; simpa using this
    · rw [fnd, if_pos hq]; omega
def back (t : Tr) (i : Nat) : Tr := (t.drop i).reverse
end Go.GH


set_option linter.unusedVariables false
set_option linter.unusedSimpArgs false
namespace Go.GH
open Go
def ltP (x y : It) : Prop := Co x.path y.path = true
def srt (l : Tr) : Prop := l.Pairwise ltP
def dst (l : Tr) : Prop := l.Pairwise fun x y => x.path ≠ y.path
def leB (a b : It) : Bool := !Co b.path a.path
def Ld (l : Tr) : Tr := l.mergeSort leB
theorem C3v {x y : It} (h : ltP x y) : x.path ≠ y.path := by
  intro e
  unfold ltP at h
  rw [e, Jd] at h
  cases h
theorem A1p {l : Tr} (h : srt l) : dst l := List.Pairwise.imp (fun hh => C3v hh) h
theorem A3s {l m : Tr} (h : l.Perm m) : dst l ↔ dst m := h.pairwise_iff fun hh => Ne.symm hh
theorem A95 (a b c : It) (h1 : leB a b = true) (h2 : leB b c = true) : leB a c = true := by
  unfold leB at *
  simp only [Bool.not_eq_true'] at *
  cases h : Co c.path a.path with
  | false => rfl
  | true =>
    rcases Pv b.path c.path with h3 | h3 | h3
    · rw [N8 h3 h] at h1; cases h1
    · rw [h3, h] at h1; cases h1
    · rw [h3] at h2; cases h2
theorem B8t (a b : It) : (leB a b || leB b a) = true := by
  unfold leB
  cases h : Co b.path a.path with
  | false => rfl
  | true => rw [Nj _ _ h]; rfl
theorem Rf (l : Tr) : (Ld l).Perm l := List.mergeSort_perm l leB
theorem Ys (l : Tr) : (Ld l).length = l.length := (Rf l).length_eq
theorem C2v {a b : It} (h1 : leB a b = true) (h2 : a.path ≠ b.path) : ltP a b := by
  unfold leB at h1
  rcases Pv a.path b.path with h | h | h
  · exact h
  · exact absurd h h2
  · rw [h] at h1; cases h1
theorem B9g {l : Tr} (h1 : l.Pairwise fun a b => leB a b = true) (h2 : dst l) : srt l := by
  have := h1.and h2
  exact this.imp fun hh => C2v hh.1 hh.2
theorem A94 {l : Tr} (h : dst l) : srt (Ld l) := B9g (List.pairwise_mergeSort A95 B8t l) ((A3s (Rf l)).2 h)
theorem B31 {l m : Tr} (h1 : srt l) (h2 : srt m) (h : l.Perm m) : l = m := by
  refine h.eq_of_pairwise (fun a b _ _ hab hba => ?_) h1 h2
  rw [ltP, Nj _ _ hab] at hba
  cases hba
theorem C05 {l m : Tr} (hd : dst l) (h1 : m.Pairwise fun a b => leB a b = true) (h2 : m.Perm l) : m = Ld l :=
  B31 (B9g h1 ((A3s h2).2 hd)) (A94 hd) (h2.trans (Rf l).symm)
theorem C3o {s : Nat} {x x' : List (List AV)} (h : x = x') : [AV.rd s x] = [AV.rd s x'] := by rw [h]
def D9 (x : It) (s : Tr × Bool) (y : It) : Tr × Bool :=
  let d := !s.2 && Co x.path y.path
  (s.1 ++ (if d then [x] else []) ++ (if !(y.path == x.path) then [y] else []), d || s.2)
def Nx (l : Tr) (x : It) : Tr × Bool := l.foldl (D9 x) ([], false)
def Id (l : Tr) (x : It) : Tr := if (Nx l x).2 then (Nx l x).1 else (Nx l x).1 ++ [x]
theorem B3j {x : It} : ∀ {l out : Tr}, (∀ y, y ∈ l → y.path ≠ x.path) → l.foldl (D9 x) (out, true) = (out ++ l, true)
  | [], out, h => by simp
  | y :: l, out, h => by
    have hy : (y.path == x.path) = false := by simpa using h y (by simp)
    rw [List.foldl_cons]
    have : D9 x (out, true) y = (out ++ [y], true) := by simp [D9, hy]
    rw [this, B3j fun z hz => h z (by simp [hz])]
    simp
theorem B9w {x : It} : ∀ {l out : Tr}, (∀ y, y ∈ l → y.path ≠ x.path) →
    (let s := l.foldl (D9 x) (out, false); if s.2 then s.1 else s.1 ++ [x]) = out ++ (l.takeWhile fun y => !Co x.path y.path) ++ x :: l.dropWhile fun y => !Co x.path y.path
  | [], out, h => by simp
  | y :: l, out, h => by
    have hy : (y.path == x.path) = false := by simpa using h y (by simp)
    rw [List.foldl_cons]
    cases hl : Co x.path y.path with
    | true =>
      have : D9 x (out, false) y = (out ++ [x] ++ [y], true) := by simp [D9, hy, hl]
      rw [this, B3j fun z hz => h z (by simp [hz])]
      simp [hl]
    | false =>
      have : D9 x (out, false) y = (out ++ [y], false) := by simp [D9, hy, hl]
      rw [this, B9w fun z hz => h z (by simp [hz])]
      simp [hl]
theorem C0c {l : Tr} {x : It} (h : ∀ y, y ∈ l → y.path ≠ x.path) : Id l x = (l.takeWhile fun y => !Co x.path y.path) ++ x :: l.dropWhile fun y => !Co x.path y.path := by
  have := B9w (out := []) h
  exact this
theorem B4b {l : Tr} {x : It} (h : ∀ y, y ∈ l → y.path ≠ x.path) : (Id l x).Perm (x :: l) := by
  rw [C0c h]
  refine List.perm_middle.trans ?_
  rw [List.takeWhile_append_dropWhile]
theorem Tq {p : It → Bool} : ∀ {l : Tr} {y : It}, y ∈ l.takeWhile p → p y = true
  | a :: l, y, h => by
    rw [List.takeWhile_cons] at h
    split at h
    · rcases List.mem_cons.1 h with rfl | h
      · assumption
      · exact Tq h
    · cases h
theorem Uo {x : It} : ∀ {l : Tr}, srt l → ∀ y, y ∈ l.dropWhile (fun y => !Co x.path y.path) → ltP x y
  | [], _, y, h => by simp at h
  | a :: l, hs, y, h => by
    rw [List.dropWhile_cons] at h
    have hs' := List.pairwise_cons.1 hs
    split at h
    · exact Uo hs'.2 y h
    · rename_i hp
      have hxa : ltP x a := by simpa [ltP] using hp
      rcases List.mem_cons.1 h with rfl | h
      · exact hxa
      · exact N8 hxa (hs'.1 y h)
theorem C1u {l : Tr} {x : It} (h : ∀ y, y ∈ l → y.path ≠ x.path) (hs : srt l) : srt (Id l x) := by
  rw [C0c h]
  have hsplit : srt ((l.takeWhile fun y => !Co x.path y.path) ++ l.dropWhile fun y => !Co x.path y.path) := by rw [List.takeWhile_append_dropWhile]; exact hs
  obtain ⟨h1, h2, h3⟩ := List.pairwise_append.1 hsplit
  have hx : ∀ y, y ∈ (l.takeWhile fun y => !Co x.path y.path) → ltP y x := fun y hy => by
    have hp := Tq hy
    exact C2v (a := y) (b := x) hp (h y ((List.takeWhile_prefix _).subset hy))
  refine List.pairwise_append.2 ⟨h1, List.pairwise_cons.2 ⟨Uo hs, h2⟩, fun y hy z hz => ?_⟩
  rcases List.mem_cons.1 hz with rfl | hz
  · exact hx y hy
  · exact h3 y hy z hz
def inT (a : Tr) (y : It) : Bool := (Al a y.path).isSome
def D8 (a : Tr) (out : Tr) (y : It) : Tr := if inT a y then out else Id out y
def Rm (a b : Tr) : Tr := b.foldl (D8 a) a
theorem Tm {a : Tr} : ∀ {l out : Tr}, srt out → dst l → (∀ y, y ∈ l → inT a y = false → ∀ z, z ∈ out → z.path ≠ y.path) →
    srt (l.foldl (D8 a) out) ∧ (l.foldl (D8 a) out).Perm (out ++ l.filter fun y => !inT a y)
  | [], out, h1, _, _ => ⟨h1, by simp⟩
  | y :: l, out, h1, h2, h3 => by
    obtain ⟨h4, h5⟩ := List.pairwise_cons.1 h2
    rw [List.foldl_cons]
    cases hy : inT a y with
    | true =>
      rw [show D8 a out y = out by simp [D8, hy], List.filter_cons, if_neg (by simp [hy])]
      exact Tm h1 h5 fun z hz => h3 z (by simp [hz])
    | false =>
      have hne := h3 y (by simp) hy
      rw [show D8 a out y = Id out y by simp [D8, hy], List.filter_cons, if_pos (by simp [hy])]
      obtain ⟨q1, q2⟩ := Tm (l := l) (C1u hne h1) h5 fun z hz hza u hu => by
        rcases List.mem_cons.1 ((B4b hne).mem_iff.1 hu) with rfl | hu
        · exact h4 z hz
        · exact h3 z (by simp [hz]) hza u hu
      refine ⟨q1, q2.trans ?_⟩
      refine ((B4b hne).append_right _).trans ?_
      exact (List.perm_middle (a := y) (l₁ := out) (l₂ := l.filter fun y => !inT a y)).symm
theorem Mq {t : Tr} (h : Bj t = true) : srt t := by
  refine List.pairwise_iff_getElem.2 fun i j hi hj hij => ?_
  exact V8 h (List.getElem?_eq_getElem hi) (List.getElem?_eq_getElem hj) hij
theorem B54 {a b : Tr} (hb : Bj b = true) {y : It} (hy : y ∈ b) (h : inT a y = false) : ∀ z, z ∈ a → z.path ≠ y.path := by
  intro z hz e
  rw [inT, Lg (V4 (N9 hb hy))] at h
  simp only [Option.isSome_eq_false_iff, Option.isNone_iff_eq_none] at h
  have := List.find?_eq_none.1 h z hz
  simp [e] at this
def B70 (a b : Tr) : Tr := a ++ b.filter fun y => !inT a y
theorem B6g {a b : Tr} (ha : Bj a = true) (hb : Bj b = true) : dst (B70 a b) ∧ Rm a b = Ld (B70 a b) := by
  obtain ⟨h1, h2⟩ := Tm (a := a) (l := b) (Mq ha) (A1p (Mq hb)) fun y hy h => B54 hb hy h
  have hd : dst (B70 a b) := (A3s h2).1 (A1p h1)
  exact ⟨hd, B31 h1 (A94 hd) (h2.trans (Rf _).symm)⟩
theorem A2l {a b : Tr} (ha : Bj a = true) (hb : Bj b = true) (sa : smT a) (sb : smT b) (i : Nat) :
    ((b.take i).foldl (D8 a) a).length ≤ 80 ∧ ∀ x, x ∈ (b.take i).foldl (D8 a) a → x.path.length ≤ 4194304 ∧ x.data.length ≤ 4194304 := by
  obtain ⟨h1, h2⟩ := Tm (a := a) (l := b.take i) (Mq ha) ((A1p (Mq hb)).sublist (List.take_sublist i b)) fun y hy h => B54 hb (List.mem_of_mem_take hy) h
  have l1 := L8 ha
  have l2 := L8 hb
  refine ⟨?_, fun x hx => ?_⟩
  · rw [h2.length_eq, List.length_append]
    have := List.length_filter_le (fun y => !inT a y) (b.take i)
    rw [List.length_take] at this
    omega
  · rcases List.mem_append.1 (h2.mem_iff.1 hx) with h | h
    · exact sa.2 x h
    · exact sb.2 x (List.mem_of_mem_take (List.mem_filter.1 h).1)
theorem A54 {s : Nat} {x x' : List (List AV)} {c : List AV} (h : x = x') : [AV.rd s x, .agg c] = [AV.rd s x', .agg c] := by rw [h]
def C8 (a b : Tr) : Tr × Bool := if Bj a && Bj b && Bj (Rm a b) then (Rm a b, true) else ([], false)
theorem B8s {a b : Tr} (sa : smT a) (sb : smT b) : smT (C8 a b).1 := by
  unfold C8
  split
  · rename_i h
    simp only [Bool.and_eq_true] at h
    have h1 := A2l h.1.1 h.1.2 sa sb b.length
    rw [List.take_length] at h1
    exact ⟨by have := h1.1; show (b.foldl (D8 a) a).length ≤ _; omega, h1.2⟩
  · exact ⟨by simp, by simp⟩
theorem B5u {l : Tr} {x y : It} {i : Nat} (h : l[i]? = some y) : Nx (l.take (i + 1)) x = D9 x (Nx (l.take i) x) y := Wd h
theorem A92 {x : It} : ∀ {l out : Tr} {d : Bool}, (l.foldl (D9 x) (out, d)).1.length ≤ out.length + 2 * l.length
  | [], out, d => by simp
  | y :: l, out, d => by
    rw [List.foldl_cons]
    obtain ⟨o', d', h⟩ : ∃ o' d', D9 x (out, d) y = (o', d') := ⟨_, _, rfl⟩
    have h1 : o'.length ≤ out.length + 2 := by
      have : o' = (D9 x (out, d) y).1 := by rw [h]
      rw [this]
      unfold D9
      dsimp only
      split <;> split <;> simp
    rw [h]
    have := A92 (x := x) (l := l) (out := o') (d := d')
    simp only [List.length_cons]
    omega
theorem A23 {l : Tr} {x y : It} (h : y ∈ Id l x) : y = x ∨ y ∈ l := by
  have go : ∀ {l out : Tr} {d : Bool}, y ∈ (l.foldl (D9 x) (out, d)).1 → y = x ∨ y ∈ out ∨ y ∈ l := by
    intro l
    induction l with
    | nil => intro out d h; exact .inr (.inl h)
    | cons z l ih =>
      intro out d h
      rw [List.foldl_cons] at h
      rcases ih (out := (D9 x (out, d) z).1) (d := (D9 x (out, d) z).2) h with h | h | h
      · exact .inl h
      · unfold D9 at h
        simp only [List.mem_append] at h
        rcases h with (h | h) | h
        · exact .inr (.inl h)
        · split at h
          · exact .inl (by simpa using h)
          · cases h
        · split at h
          · exact .inr (.inr (by simp at h; simp [h]))
          · cases h
      · exact .inr (.inr (by simp [h]))
  unfold Id at h
  split at h
  · rcases go h with h | h | h
    · exact .inl h
    · cases h
    · exact .inr h
  · rcases List.mem_append.1 h with h | h
    · rcases go h with h | h | h
      · exact .inl h
      · cases h
      · exact .inr h
    · exact .inl (by simpa using h)
end Go.GH


set_option linter.unusedVariables false
set_option linter.unusedSimpArgs false
namespace Go.GH
open Go
def C3k : Nat → Nat → Str → Str
  | 0, _, out => out
  | f + 1, k, out => if k = 0 then out else C3k f (k / 10) (UInt8.ofNat (48 + k % 10) :: out)
end Go.GH


set_option linter.unusedVariables false
set_option linter.unusedSimpArgs false
namespace Go.GH
open Go
def dig (n : Nat) : Str := if n = 0 then [48] else C3k 64 n []
def C3r : Str := [48, 49, 50, 51, 52, 53, 54, 55, 56, 57, 97, 98, 99, 100, 101, 102]
def hx (n : Nat) : UInt8 := C3r.getD n 0
def C3y (s : Str) : Str := s.flatMap fun b => [hx (b.toNat / 16), hx (b.toNat % 16)]
def Ze (o : OpR) : Bool := inB o.kind 0 8 && inB o.at_ 0 1000 && inB o.time 0 100000
def C2y (s : Str) : Bool := s == [] || Bh s
def C42 (o : OpR) : Bool := Ze o && C2y o.path && C2y o.to && decide (o.data.length ≤ 80)
def C31 (o : OpR) : Str := dig o.kind.toNat ++ [32] ++ o.path ++ [32] ++ o.to ++ [32] ++ dig o.at_.toNat ++ [32] ++ dig o.time.toNat ++ [32]
def C34 (o : OpR) : Str := if C42 o then C31 o ++ C3y o.data else []
theorem V3 {x a b : Int} : inB x a b = true ↔ a ≤ x ∧ x ≤ b := by simp [inB]
def smO (o : OpR) : Prop := o.path.length ≤ 1048576 ∧ o.to.length ≤ 1048576 ∧ o.data.length ≤ 1048576
def B9q (l : List OpR) : Prop := l.length ≤ 1048576 ∧ ∀ o, o ∈ l → smO o
end Go.GH


set_option linter.unusedVariables false
set_option linter.unusedSimpArgs false
namespace Go.GH
open Go
def Rv (t : Tr) (p : Str) : Int := match Al t p with
  | none => 2
  | some x => if x.kind == 2 then 0 else 4
def B4f (o : OpR) : It := if o.kind == 0 then ⟨o.path, 2, [], 0⟩ else ⟨o.path, if o.kind == 2 then 3 else 1, o.data, o.time⟩
def pad (old : Str) (n : Nat) : Str := old ++ List.replicate (n - old.length) 0
def wrote (old : Str) (a : Int) (d : Str) : Str := if inB a 0 100000 then (pad old a.toNat).take a.toNat ++ d ++ (pad old a.toNat).drop (a.toNat + d.length) else old
def A15 (old : Str) (n : Int) : Str := if inB n 0 100000 then (pad old n.toNat).take n.toNat else old
def J9 (old : Str) (o : OpR) : Str × Bool :=
  if o.kind == 3 then (wrote old o.at_ o.data, decide (((wrote old o.at_ o.data).length : Int) ≤ 80)) else if o.kind == 4 then (A15 old o.at_, decide (o.at_ ≤ 80)) else (old, true)
def H8 (t : Tr) (o : OpR) : Tr × Int :=
  if Rv t (E4 o.path) != 0 then (t, Rv t (E4 o.path))
  else if (Al t o.path).isSome then (t, 3)
  else if o.kind != 0 && decide ((o.data.length : Int) > 80) then (t, 9)
  else if (t.length : Int) == 40 then (t, 5)
  else (Id t (B4f o), 0)
def C3n (x : It) (o : OpR) : It := ⟨x.path, x.kind, (J9 x.data o).1, o.time⟩
def Le (t : Tr) (o : OpR) : Tr × Int := match Al t o.path with
  | none => (t, 2)
  | some x => if x.kind == 2 || (x.kind == 3 && o.kind != 5) then (t, 4) else if !(J9 x.data o).2 then (t, 9) else (Id t (C3n x o), 0)
def O3 (p : Str) : Str := (names p).getLastD []
def A0q (t : Tr) (p : Str) : Tr := t.filter fun y => E4 y.path == p
def L9 (t : Tr) (p : Str) : List Str := if Bj t && Nw t p then (A0q t p).map fun y => O3 y.path else []
def J8 (t : Tr) (p : Str) : Tr := t.filter fun y => !(y.path == p)
def Is (t : Tr) (o : OpR) : Tr × Int := match Al t o.path with
  | none => (t, 2)
  | some x => if (x.kind == 2) != (o.kind == 7) then (t, 4) else if decide (((L9 t o.path).length : Int) > 0) then (t, 8) else (J8 t o.path, 0)
def Lw (o : OpR) (x : It) : It := if Jc x.path o.path then ⟨E8 (names o.to ++ (names x.path).drop (names o.path).length), x.kind, x.data, x.time⟩ else x
def stuck (o : OpR) (x : It) : Bool := Jc x.path o.path && (Lw o x).path == []
def Ly (t : Tr) (o : OpR) : Tr × Int :=
  if !(Al t o.path).isSome then (t, 2)
  else if Rv t (E4 o.to) != 0 then (t, Rv t (E4 o.to))
  else if (Al t o.to).isSome then (t, 3)
  else if t.any (stuck o) then (t, 1)
  else ((t.map (Lw o)).foldl Id [], 0)
def Sm (p : Str) : Bool := !Bh p || p == sl
def Cl (t : Tr) (o : OpR) : Tr × Int :=
  if !Bj t || !Ze o then (t, 10)
  else if Sm o.path then (t, 1)
  else if o.kind == 0 || o.kind == 1 || o.kind == 2 then H8 t o
  else if o.kind == 3 || o.kind == 4 || o.kind == 5 then Le t o
  else if o.kind == 6 || o.kind == 7 then Is t o
  else if Sm o.to || Jc o.to o.path then (t, 1)
  else Ly t o
end Go.GH


set_option linter.unusedVariables false
set_option linter.unusedSimpArgs false
namespace Go.GH
open Go
theorem B9a {p q : Str} (hq : (q == sl) = false) (h : Jc p q = true) : ∃ r, names p = names q ++ r ∧ p = q ++ cat r ∧ Bh p = true ∧ Bh q = true ∧ (p == sl) = false := by
  simp only [Jc, Bool.and_eq_true] at h
  obtain ⟨⟨h1, h2⟩, h3⟩ := h
  obtain ⟨r, hr⟩ := List.isPrefixOf_iff_prefix.1 h3
  obtain ⟨cq, nq⟩ := Zj h2 hq
  have hp : (p == sl) = false := by
    rw [beq_eq_false_iff_ne]
    intro e
    rw [e, B9o] at hr
    exact nq (List.append_eq_nil_iff.1 hr).1
  obtain ⟨cp, np⟩ := Zj h1 hp
  refine ⟨r, hr.symm, ?_, h1, h2, hp⟩
  rw [cp, ← hr, Wi, ← cq]
theorem B9b {o : OpR} {x : It} (h : Jc x.path o.path = false) : Lw o x = x ∧ stuck o x = false := by
  unfold stuck Lw
  rw [h]; simp
end Go.GH


set_option linter.unusedVariables false
set_option linter.unusedSimpArgs false
namespace Go.GH
open Go
theorem B0y (old : Str) (n : Nat) : (pad old n).length = max old.length n := by
  unfold pad; simp; omega
theorem C10 {old : Str} {n : Int} (h : inB n 0 100000 = true) : ((A15 old n).length : Int) = n := by
  rw [V3] at h
  unfold A15
  rw [if_pos (by rw [V3]; exact h), List.length_take, B0y]
  omega
theorem C0m {t : Tr} {p : Str} (hp : Sm p = false) : Al t p = t.find? fun x => x.path == p := by
  simp only [Sm, Bool.or_eq_false_iff] at hp
  exact Lg hp.2
theorem C15 {t : Tr} {p : Str} (hp : Sm p = false) {x : It} (h : Al t p = some x) : t[(fnd (fun y => y.path == p) t).toNat]? = some x ∧ 0 ≤ fnd (fun y => y.path == p) t ∧ x.path = p := by
  rw [C0m hp] at h
  have ha : t.any (fun y => y.path == p) = true := List.any_eq_true.2 ⟨x, List.mem_of_find?_eq_some h, List.find?_some (p := fun y : It => y.path == p) h⟩
  obtain ⟨y, h1, h2⟩ := B1i ha
  have := V5 (p := fun y : It => y.path == p) (l := t)
  rw [ha] at this
  rw [h] at h2
  obtain rfl := Option.some.inj h2
  exact ⟨h1, by simpa using this, by simpa using List.find?_some (p := fun y : It => y.path == p) h⟩
end Go.GH


set_option linter.unusedVariables false
set_option linter.unusedSimpArgs false
namespace Go.GH
open Go
theorem C2u {n : Nat} {z : Int} (h : z.toNat = n) : (List.drop 0 (List.replicate z.toNat [AV.int .u8 0])).take z.toNat = (List.replicate n (0 : UInt8)).map fun b => [AV.int .u8 b.toNat] := by
  rw [h]
  simp
theorem B7q {s : Str} {n : Int} (h : inB n 0 100000 = false) : A15 s n = s := by simp [A15, h]
theorem C33 {s : Str} {k : Nat} (h : inB k 0 100000 = true) (hk : k ≤ s.length) : A15 s k = s.take k := by
  simp [A15, h, pad, List.take_append_of_le_length hk]
theorem C39 {s : Str} {k : Nat} (h : inB k 0 100000 = true) (hk : s.length ≤ k) : A15 s k = s ++ List.replicate (k - s.length) 0 := by
  have : (pad s k).length = k := by rw [B0y]; omega
  rw [A15, if_pos h, Int.toNat_natCast, List.take_of_length_le (by omega)]
  rfl
theorem A9a {s d : Str} {n : Int} (h : inB n 0 100000 = false) : wrote s n d = s := by simp [wrote, h]
theorem A3z {s d : Str} {k : Nat} (h : inB k 0 100000 = true) (hk : k ≤ s.length) : wrote s k d = s.take k ++ d ++ s.drop (k + d.length) := by
  have e : pad s k = s := by simp [pad, show k - s.length = 0 by omega]
  rw [wrote, if_pos h, Int.toNat_natCast, e]
theorem B2l {s d : Str} {k : Nat} (h : inB k 0 100000 = true) (hk : s.length ≤ k) : wrote s k d = s ++ List.replicate (k - s.length) 0 ++ d := by
  have e : (pad s k).length = k := by rw [B0y]; omega
  rw [wrote, if_pos h, Int.toNat_natCast, List.take_of_length_le (by omega), List.drop_eq_nil_of_le (by omega), List.append_nil]
  rfl
theorem B97 {s d : Str} {n : Int} : (wrote s n d).length ≤ s.length + d.length + 100000 := by
  cases h : inB n 0 100000 with
  | false => rw [A9a h]; omega
  | true =>
    have := V3.1 h
    obtain ⟨k, rfl⟩ : ∃ k : Nat, n = k := ⟨n.toNat, by omega⟩
    rcases Nat.le_total k s.length with hk | hk
    · rw [A3z h hk]; simp; omega
    · rw [B2l h hk]; simp; omega
end Go.GH


set_option linter.unusedVariables false
set_option linter.unusedSimpArgs false
namespace Go.GH
open Go
theorem B43 {x : It} : ∀ {l out : Tr} {d : Bool}, (l.foldl (D9 x) (out, d)).1.length + (if (l.foldl (D9 x) (out, d)).2 then 0 else 1) ≤ out.length + l.length + (if d then 0 else 1)
  | [], out, d => by exact Nat.le_refl _
  | y :: l, out, d => by
    rw [List.foldl_cons]
    obtain ⟨o', d', h⟩ : ∃ o' d', D9 x (out, d) y = (o', d') := ⟨_, _, rfl⟩
    have h1 : o'.length + (if d' then 0 else 1) ≤ out.length + 1 + (if d then 0 else 1) := by
      have e1 : o' = (D9 x (out, d) y).1 := by rw [h]
      have e2 : d' = (D9 x (out, d) y).2 := by rw [h]
      rw [e1, e2]
      unfold D9
      dsimp only
      cases d <;> cases Co x.path y.path <;> cases (y.path == x.path) <;> simp <;> omega
    rw [h]
    have := B43 (x := x) (l := l) (out := o') (d := d')
    simp only [List.length_cons]
    omega
theorem Qw {x : It} {l : Tr} : (Id l x).length ≤ l.length + 1 := by
  have := B43 (x := x) (l := l) (out := []) (d := false)
  unfold Id
  rw [show Nx l x = l.foldl (D9 x) ([], false) from rfl]
  split
  · rename_i h; simp [h] at this; exact this
  · rename_i h; simp [h] at this; simp; exact this
theorem B4u : ∀ {l out : Tr}, (l.foldl Id out).length ≤ out.length + l.length
  | [], out => by simp
  | x :: l, out => by
    have h1 := B4u (l := l) (out := Id out x)
    have h2 := Qw (x := x) (l := out)
    simp only [List.foldl_cons, List.length_cons]
    omega
theorem B3q {y : It} : ∀ {l out : Tr}, y ∈ l.foldl Id out → y ∈ out ∨ y ∈ l
  | [], out, h => .inl h
  | x :: l, out, h => by
    rcases B3q (l := l) (out := Id out x) h with h | h
    · rcases A23 h with h | h
      · exact .inr (by simp [h])
      · exact .inl h
    · exact .inr (by simp [h])
theorem B6z {a b : Str} {k : Nat} : ((names a ++ (names b).drop k).map List.length).sum ≤ 48 ∧ (names a ++ (names b).drop k).length ≤ 8 := by
  have h1 : (names a ++ (names b).drop k).length ≤ 8 := by
    have := I1 (p := a)
    have := I1 (p := b)
    simp
    omega
  have h2 := B7o (l := names a ++ (names b).drop k) (k := 6) fun s hs => by
    rcases List.mem_append.1 hs with h | h
    · exact Rq (List.all_eq_true.1 R8 s h)
    · exact Rq (List.all_eq_true.1 R8 s (List.mem_of_mem_drop h))
  exact ⟨by omega, h1⟩
theorem B8x {o : OpR} {x : It} (h : x.path.length ≤ 4194304) : (Lw o x).path.length ≤ 4194304 := by
  unfold Lw
  split
  · have h1 := B6z (a := o.to) (b := x.path) (k := (names o.path).length)
    have h2 := W5 (names o.to ++ (names x.path).drop (names o.path).length)
    show (E8 _).length ≤ _
    omega
  · exact h
theorem B65 {o : OpR} {x : It} : (Lw o x).data = x.data := by
  unfold Lw
  split <;> rfl
theorem C1d {t : Tr} {o : OpR} (hs : smT t) (i : Nat) : smT (((t.take i).map (Lw o)).foldl Id []) := by
  refine ⟨?_, fun y hy => ?_⟩
  · have h1 := B4u (l := (t.take i).map (Lw o)) (out := [])
    have h2 := hs.1
    have h3 : ((t.take i).map (Lw o)).length ≤ t.length := by simp; omega
    simp only [List.length_nil] at h1
    omega
  · rcases B3q hy with h | h
    · cases h
    · obtain ⟨x, hx, rfl⟩ := List.mem_map.1 h
      have := hs.2 x (List.mem_of_mem_take hx)
      exact ⟨B8x this.1, by rw [B65]; exact this.2⟩
theorem C2c (A B C : List Str) (h : C.length ≤ B.length) : Cr
      (List.take
        ((List.take (List.map A6 A).length (List.drop 0 (List.map A6 A))).length +
          (List.take ((((List.map A6 B).length : Nat) : Int).toNat - (((List.map A6 C).length : Nat) : Int).toNat)
              (List.drop (0 + (((List.map A6 C).length : Nat) : Int).toNat) (List.map A6 B))).length)
        (List.drop 0
          (List.take (List.map A6 A).length (List.drop 0 (List.map A6 A)) ++
            List.take ((((List.map A6 B).length : Nat) : Int).toNat - (((List.map A6 C).length : Nat) : Int).toNat)
              (List.drop (0 + (((List.map A6 C).length : Nat) : Int).toNat) (List.map A6 B))))) =
    List.map A6 (A ++ B.drop C.length) := by
  have e1 : List.take (List.map A6 A).length (List.drop 0 (List.map A6 A)) = A.map A6 := by simp
  have e2 : List.take ((((List.map A6 B).length : Nat) : Int).toNat - (((List.map A6 C).length : Nat) : Int).toNat)
              (List.drop (0 + (((List.map A6 C).length : Nat) : Int).toNat) (List.map A6 B)) = (B.drop C.length).map A6 := by
    rw [Int.toNat_natCast, Int.toNat_natCast, Nat.zero_add, List.length_map, List.length_map, ← List.map_drop]
    rw [List.take_of_length_le (by simp)]
  rw [e1, e2, List.drop_zero, ← List.length_append, List.take_length, ← List.map_append, rdS]
end Go.GH


set_option linter.unusedVariables false
set_option linter.unusedSimpArgs false
namespace Go.GH
open Go
theorem C07 {t : Tr} {x : It} (h : smT t) (hl : t.length ≤ 40) (hx : x.path.length ≤ 4194304 ∧ x.data.length ≤ 4194304) : smT (Id t x) := by
  refine ⟨?_, fun y hy => ?_⟩
  · have := Qw (x := x) (l := t)
    omega
  · rcases A23 hy with rfl | hy
    · exact hx
    · exact h.2 y hy
theorem C1n {t : Tr} (ok : Bj t = true) {x : It} (hx : x ∈ t) : x.data.length ≤ 80 := by
  have h := N9 ok hx
  unfold Jr at h
  simp only [Bool.and_eq_true] at h
  have h := h.2
  split at h
  · simp only [Bool.and_eq_true, beq_iff_eq] at h
    rw [h.1]
    simp
  · simp only [Bool.and_eq_true, decide_eq_true_eq] at h
    omega
theorem B6t {s : Str} {o : OpR} (hs : s.length ≤ 80) (ho : o.data.length ≤ 1048576) : (J9 s o).1.length ≤ 4194304 := by
  unfold J9
  split
  · have := B97 (s := s) (d := o.data) (n := o.at_)
    show (wrote _ _ _).length ≤ _
    omega
  · split
    · show (A15 _ _).length ≤ _
      cases h : inB o.at_ 0 100000 with
      | false => rw [B7q h]; omega
      | true =>
        have h1 := C10 (old := s) h
        have h2 := V3.1 h
        omega
    · show s.length ≤ _
      omega
theorem B58 {t : Tr} {o : OpR} (ht : smT t) (ho : smO o) : smT (Cl t o).1 := by
  unfold Cl
  by_cases hb : (!Bj t || !Ze o) = true
  · rw [if_pos hb]; exact ht
  rw [if_neg hb]
  have ok : Bj t = true := by revert hb; cases Bj t <;> simp
  have hl := L8 ok
  by_cases h1 : Sm o.path = true
  · rw [if_pos h1]; exact ht
  rw [if_neg h1]
  have h1 : Sm o.path = false := by simpa using h1
  obtain ⟨o1, o2, o3⟩ := ho
  split
  · unfold H8
    split
    · exact ht
    split
    · exact ht
    split
    · exact ht
    split
    · exact ht
    refine C07 ht hl ?_
    unfold B4f
    split
    · exact ⟨by show o.path.length ≤ _; omega, by show ([] : Str).length ≤ _; simp⟩
    · exact ⟨by show o.path.length ≤ _; omega, by show o.data.length ≤ _; omega⟩
  split
  · unfold Le
    cases hx : Al t o.path with
    | none => exact ht
    | some x =>
      have hxm := List.mem_of_getElem? (C15 h1 hx).1
      have hd := C1n ok hxm
      dsimp only
      split
      · exact ht
      split
      · exact ht
      exact C07 ht hl ⟨(ht.2 x hxm).1, B6t hd o3⟩
  split
  · unfold Is
    cases hx : Al t o.path with
    | none => exact ht
    | some x =>
      dsimp only
      split
      · exact ht
      split
      · exact ht
      refine ⟨?_, fun y hy => ht.2 y (List.mem_filter.1 hy).1⟩
      have := List.length_filter_le (fun y : It => !(y.path == o.path)) t
      have h2 := ht.1
      show (List.filter _ _).length ≤ _
      omega
  split
  · exact ht
  unfold Ly
  split
  · exact ht
  split
  · exact ht
  split
  · exact ht
  split
  · exact ht
  have := C1d (o := o) ht t.length
  rw [List.take_length] at this
  exact this
def B12 (s : Tr × List Int) (o : OpR) : Tr × List Int := ((Cl s.1 o).1, s.2 ++ [(Cl s.1 o).2])
def K2 (t : Tr) (l : List OpR) : Tr × List Int := l.foldl B12 (t, [])
theorem A4r {t : Tr} {l : List OpR} {i : Nat} {o : OpR} (h : l[i]? = some o) : K2 t (l.take (i + 1)) = B12 (K2 t (l.take i)) o := by
  unfold K2
  rw [Bs h, List.foldl_append]
  rfl
theorem A4g {t : Tr} {l : List OpR} (ht : smT t) (hl : B9q l) : ∀ i, i ≤ l.length → smT (K2 t (l.take i)).1 ∧ (K2 t (l.take i)).2.length = i
  | 0, _ => ⟨ht, rfl⟩
  | i + 1, h => by
    obtain ⟨o, ho⟩ := B8 (l := l) (i := i) (by omega)
    obtain ⟨h1, h2⟩ := A4g ht hl i (by omega)
    rw [A4r ho]
    refine ⟨B58 h1 (hl.2 o (List.mem_of_getElem? ho)), ?_⟩
    simp [B12, h2]
end Go.GH


namespace Go.GH
open Go
def atP : Str ⊕ OpR → It → Bool
  | .inl p, y => y.path == p
  | .inr o, y => E4 y.path == o.path
def atC : Str ⊕ OpR → List AV
  | .inl p => [.str p]
  | .inr o => Au o
theorem Bm (x : Str ⊕ OpR) : A2 (atC x) := by cases x <;> simp [atC, Au, A2, AV.free]
theorem Bk (x : Str ⊕ OpR) : A7 (atC x) := by cases x <;> simp [atC, Au, A7, AV.noRd]
end Go.GH


set_option linter.unusedVariables false
set_option linter.unusedSimpArgs false
namespace Go.GH
open Go Go.Proofs
noncomputable def Hl : Bi := con [mC] true Str A6 (fun s => sml s.length) (fun s => .bool (Bh s))
noncomputable def A7v : Env := ⟨A4 Ba, A4 [(50, F2)], [0, 2, 4]⟩
set_option maxRecDepth 100000 in
set_option maxHeartbeats 4000000 in
theorem A7g : Bb A7v (Ax Tryz.f83) Tryz.f83.results.toList Hl := by
  intro (s : Str) hs
  refine ⟨trivial, ?_⟩
  conv => whnf
  refine ⟨s, rfl, fun _ => hs, ?_⟩
  conv => whnf
  exact ⟨trivial, rfl⟩
theorem A51 : Av Tryz.prog 83 Hl := Ao (Ca _ _) (FOk.cons Qg FOk.nil) mixed Tryz.func83 rfl Tryz.call83 (by decide) (by kernel_rfl) A7g (by intro _ (y : Str) _; exact ⟨by simp [Hl, con, A9, A8, AV.noRd, A7, Ab, A5, A6, Ac, Au, Bm, Bk], by simp [Hl, con, A9, A8, AV.noRd, A7, Ab, A5, A6, Ac, Au, Bm, Bk]⟩) (by intro (y : Str) _; first | (simp [Hl, con, A9, A8, Ad, AV.free, A2, A3, A1, A6, Ac, Au, Bm, Bk]; done) | (obtain ⟨_, _⟩ := y; simp [Hl, con, A9, A8, Ad, AV.free, A2, A3, A1, A6, Ac, Au, Bm, Bk]; done) | (obtain ⟨_, _, _⟩ := y; simp [Hl, con, A9, A8, Ad, AV.free, A2, A3, A1, A6, Ac, Au, Bm, Bk]; done))
noncomputable def Hh : Bi := con [mS 1] true (List Str) (fun l => [.rd 1 (l.map A6)]) (fun l => l.length + (l.map List.length).sum < 4194304) (fun l => .str (E8 l))
noncomputable def A7r : Env := ⟨A4 Ba, A4 [(92, Bv), (95, Th), (96, Eg)], [0, 2, 3, 13]⟩
set_option maxRecDepth 100000 in
set_option maxHeartbeats 4000000 in
theorem A6j : Bb A7r (Ax Tryz.f51) Tryz.f51.results.toList Hh := by
  intro (l : List Str) hs
  have hs : l.length + (l.map List.length).sum < 4194304 := hs
  have hl := A3f l
  have hj := C0l l
  have hjl : (Lib.join l sl).length + 1 = (K5 l).length := by rw [← hj]; simp [sl]
  have hsm : smL l := ⟨by omega, fun s hs => by
    have : s.length ≤ (l.map List.length).sum := C0i hs
    omega⟩
  refine ⟨trivial, ?_⟩
  conv => whnf
  refine ⟨(l, sl), rfl, fun _ => ⟨by show (Lib.join l sl).length ≤ _; omega, by show l.length ≤ _; omega⟩, ?_⟩
  conv => whnf
  refine ⟨by show 1 + (Lib.join l sl).length ≤ _; omega, ?_⟩
  repeat ((conv => whnf); refine ⟨fun h => h, ?_⟩)
  refine ⟨(l, false), rfl, fun _ => hsm, ?_⟩
  repeat ((conv => whnf); refine ⟨fun h => h, ?_⟩)
  have e : (decide (l.length ≤ 4) && l.all Do) = !(decide (((l.map A6).length : Int) > 4) || l.any fun s => !Do s) := by
    rw [List.all_eq_not_any_not, Bool.not_or]
    congr 1
    rw [Bool.eq_iff_iff]
    simp
    omega
  (conv => whnf); refine ⟨fun h1 => ?_, fun h1 => ?_⟩
  · conv => whnf
    exact ⟨trivial, eqS (by
      rw [E8, e, show (_ || _) = true from h1]; rfl)⟩
  · conv => whnf
    exact ⟨trivial, eqS (by
      rw [E8, e, show (_ || _) = false from h1]; exact hj)⟩
theorem A4k : Av Tryz.prog 51 Hh := Ao (Ca _ _) (FOk.cons J2 (FOk.cons A0h (FOk.cons Mi FOk.nil))) mixed Tryz.func51 rfl Tryz.call51 (by decide) (by kernel_rfl) A6j (by intro _ (y : (List Str)) _; exact ⟨by simp [Hh, con, A9, A8, AV.noRd, A7, Ab, A5, A6, Ac, Au, Bm, Bk], by simp [Hh, con, A9, A8, AV.noRd, A7, Ab, A5, A6, Ac, Au, Bm, Bk]⟩) (by intro (y : (List Str)) _; first | (simp [Hh, con, A9, A8, Ad, AV.free, A2, A3, A1, A6, Ac, Au, Bm, Bk]; done) | (obtain ⟨_, _⟩ := y; simp [Hh, con, A9, A8, Ad, AV.free, A2, A3, A1, A6, Ac, Au, Bm, Bk]; done) | (obtain ⟨_, _, _⟩ := y; simp [Hh, con, A9, A8, Ad, AV.free, A2, A3, A1, A6, Ac, Au, Bm, Bk]; done))
noncomputable def H9 : Bi := con [mC] true Str A6 (fun l => sml l.length) (fun l => .str (E4 l))
noncomputable def B1n : Env := ⟨A4 Ba, A4 [(50, F2), (51, Hh)], [0, 2, 3, 4, 11]⟩
set_option maxRecDepth 100000 in
set_option maxHeartbeats 4000000 in
theorem B1e : Bb B1n (Ax Tryz.f48) Tryz.f48.results.toList H9 := by
  intro (s : Str) hs
  have hs : s.length ≤ 4194304 := hs
  refine ⟨trivial, ?_⟩
  conv => whnf
  refine ⟨s, rfl, fun _ => hs, ?_⟩
  (conv => whnf); refine ⟨fun h1 => ?_, fun h1 => ?_⟩
  · have h1 : Bh s = false := by
      have h1 : (!Bh s) = true := h1
      simpa using h1
    conv => whnf
    exact ⟨trivial, eqS (by simp [E4, h1])⟩
  have h1 : Bh s = true := by
    have h1 : (!Bh s) = false := h1
    simpa using h1
  have hd : E4 s = E8 ((names s).take ((names s).length - 1)) := by simp [E4, h1]
  have hnl := I1 (p := s)
  have hns := A9u (p := s)
  repeat ((conv => whnf); refine ⟨_, w64 (bb), ?_⟩)
  conv => whnf
  refine ⟨(((names s).length - 1 : Nat) : Int), by simp only [List.length_map]; split <;> omega, ?_⟩
  repeat ((conv => whnf); refine ⟨fun _ => ⟨bb, bb, bb⟩, ?_⟩)
  refine ⟨(names s).take ((names s).length - 1), by
    refine congrArg (fun x => [AV.rd 1 x]) ?_
    rw [B9p]
    simp only [Int.toNat_natCast, List.drop_zero, List.length_map]
    rfl, fun _ => ?_, ?_⟩
  · have := A2t (names s) ((names s).length - 1)
    show _ < _
    rw [List.length_take]
    omega
  conv => whnf
  exact ⟨trivial, eqS hd.symm⟩
theorem Vk : Av Tryz.prog 48 H9 := Ao (Ca _ _) (FOk.cons Qg (FOk.cons A4k FOk.nil)) mixed Tryz.func48 rfl Tryz.call48 (by decide) (by kernel_rfl) B1e (by intro _ (y : Str) _; exact ⟨by simp [H9, con, A9, A8, AV.noRd, A7, Ab, A5, A6, Ac, Au, Bm, Bk], by simp [H9, con, A9, A8, AV.noRd, A7, Ab, A5, A6, Ac, Au, Bm, Bk]⟩) (by intro (y : Str) _; first | (simp [H9, con, A9, A8, Ad, AV.free, A2, A3, A1, A6, Ac, Au, Bm, Bk]; done) | (obtain ⟨_, _⟩ := y; simp [H9, con, A9, A8, Ad, AV.free, A2, A3, A1, A6, Ac, Au, Bm, Bk]; done) | (obtain ⟨_, _, _⟩ := y; simp [H9, con, A9, A8, Ad, AV.free, A2, A3, A1, A6, Ac, Au, Bm, Bk]; done))
noncomputable def Hm : Bi := con [mC] true Int (fun x => [.int .i64 x]) (fun _ => True) (fun x => .bool (inB x 1 3))
noncomputable def A6a : Env := ⟨A4 Ba, A4 [(91, Ez)], [0, 2]⟩
set_option maxRecDepth 100000 in
set_option maxHeartbeats 4000000 in
theorem A5i : Bb A6a (Ax Tryz.f116) Tryz.f116.results.toList Hm := by
  intro (x : Int) hs
  refine ⟨trivial, ?_⟩
  conv => whnf
  refine ⟨(x, 1, 3), rfl, fun _ => trivial, ?_⟩
  conv => whnf
  exact ⟨trivial, rfl⟩
theorem A45 : Av Tryz.prog 116 Hm := Ao (Ca _ _) (FOk.cons Lz FOk.nil) mixed Tryz.func116 rfl Tryz.call116 (by decide) (by kernel_rfl) A5i (by intro _ (y : Int) _; exact ⟨by simp [Hm, con, A9, A8, AV.noRd, A7, Ab, A5, A6, Ac, Au, Bm, Bk], by simp [Hm, con, A9, A8, AV.noRd, A7, Ab, A5, A6, Ac, Au, Bm, Bk]⟩) (by intro (y : Int) _; first | (simp [Hm, con, A9, A8, Ad, AV.free, A2, A3, A1, A6, Ac, Au, Bm, Bk]; done) | (obtain ⟨_, _⟩ := y; simp [Hm, con, A9, A8, Ad, AV.free, A2, A3, A1, A6, Ac, Au, Bm, Bk]; done) | (obtain ⟨_, _, _⟩ := y; simp [Hm, con, A9, A8, Ad, AV.free, A2, A3, A1, A6, Ac, Au, Bm, Bk]; done))
noncomputable def Hq : Bi := con [.rd [none, none, none, none]] true It (fun x => [.agg (Ac x)]) (fun x => x.path.length ≤ 4194304 ∧ x.data.length ≤ 4194304) (fun x => .bool (Jr x))
noncomputable def A6t : Env := ⟨A4 Ba, A4 [(83, Hl), (91, Ez), (116, Hm)], [0, 1, 2, 17, 20]⟩
set_option maxRecDepth 100000 in
set_option maxHeartbeats 4000000 in
theorem A8c : Bb A6t (Ax Tryz.f69) Tryz.f69.results.toList Hq := by
  intro (x : It) hs
  obtain ⟨hs1, hs2⟩ : x.path.length ≤ 4194304 ∧ x.data.length ≤ 4194304 := hs
  refine ⟨trivial, ?_⟩
  conv => whnf
  refine ⟨x.path, rfl, fun _ => hs1, ?_⟩
  repeat ((conv => whnf); first | refine ⟨fun h => h, ?_⟩ | refine ⟨x.kind, rfl, fun _ => trivial, ?_⟩)
  (conv => whnf); refine ⟨fun h1 => ?_, fun h1 => ?_⟩
  · conv => whnf
    exact ⟨trivial, eqB (by
      have h1 : (!Bh x.path || x.path == sl || !inB x.kind 1 3) = true := h1
      unfold Jr
      revert h1
      cases Bh x.path <;> cases (x.path == sl) <;> cases inB x.kind 1 3 <;> simp)⟩
  have h1 : (Bh x.path && !(x.path == sl) && inB x.kind 1 3) = true := by
    have h1 : (!Bh x.path || x.path == sl || !inB x.kind 1 3) = false := h1
    revert h1
    cases Bh x.path <;> cases (x.path == sl) <;> cases inB x.kind 1 3 <;> simp
  (conv => whnf); refine ⟨fun h2 => ?_, fun h2 => ?_⟩
  · repeat ((conv => whnf); refine ⟨fun h => h, ?_⟩)
    have h2 : (x.kind == 2) = true := h2
    exact ⟨trivial, eqB (by unfold Jr; rw [h1, if_pos h2]; rfl)⟩
  · repeat ((conv => whnf); first | refine ⟨fun h => h, ?_⟩ | refine ⟨(_, _, _), rfl, fun _ => trivial, ?_⟩)
    have h2 : (x.kind == 2) = false := h2
    exact ⟨trivial, eqB (by unfold Jr; rw [h1, if_neg (by rw [h2]; exact Bool.false_ne_true)]; rfl)⟩
theorem A25 : Av Tryz.prog 69 Hq := Ao (Ca _ _) (FOk.cons A51 (FOk.cons Lz (FOk.cons A45 FOk.nil))) mixed Tryz.func69 rfl Tryz.call69 (by decide) (by kernel_rfl) A8c (by intro _ (y : It) _; exact ⟨by simp [Hq, con, A9, A8, AV.noRd, A7, Ab, A5, A6, Ac, Au, Bm, Bk], by simp [Hq, con, A9, A8, AV.noRd, A7, Ab, A5, A6, Ac, Au, Bm, Bk]⟩) (by intro (y : It) _; first | (simp [Hq, con, A9, A8, Ad, AV.free, A2, A3, A1, A6, Ac, Au, Bm, Bk]; done) | (obtain ⟨_, _⟩ := y; simp [Hq, con, A9, A8, Ad, AV.free, A2, A3, A1, A6, Ac, Au, Bm, Bk]; done) | (obtain ⟨_, _, _⟩ := y; simp [Hq, con, A9, A8, Ad, AV.free, A2, A3, A1, A6, Ac, Au, Bm, Bk]; done))
noncomputable def Fx : Bi := con [.rd [none, none, none, none], .rd []] true (It × Str) (fun x => [.agg (Ac x.1), .pin [.str x.2]]) (fun _ => True) (fun x => .bool (x.1.path == x.2))
noncomputable def A1d : Env := ⟨A4 Ba, A4 [], [0, 1, 2, 3]⟩
set_option maxRecDepth 100000 in
set_option maxHeartbeats 4000000 in
theorem A0m : Bb A1d (Ax Tryz.f88) Tryz.f88.results.toList Fx := by
  rintro ⟨x, p⟩ hs
  refine ⟨trivial, ?_⟩
  conv => whnf
  exact ⟨trivial, rfl⟩
theorem Zf : Av Tryz.prog 88 Fx := Ao (Ca _ _) FOk.nil mixed Tryz.func88 rfl Tryz.call88 (by decide) (by kernel_rfl) A0m (by intro _ (y : (It × Str)) _; exact ⟨by simp [Fx, con, A9, A8, AV.noRd, A7, Ab, A5, A6, Ac, Au, Bm, Bk], by simp [Fx, con, A9, A8, AV.noRd, A7, Ab, A5, A6, Ac, Au, Bm, Bk]⟩) (by intro (y : (It × Str)) _; first | (simp [Fx, con, A9, A8, Ad, AV.free, A2, A3, A1, A6, Ac, Au, Bm, Bk]; done) | (obtain ⟨_, _⟩ := y; simp [Fx, con, A9, A8, Ad, AV.free, A2, A3, A1, A6, Ac, Au, Bm, Bk]; done) | (obtain ⟨_, _, _⟩ := y; simp [Fx, con, A9, A8, Ad, AV.free, A2, A3, A1, A6, Ac, Au, Bm, Bk]; done))
noncomputable def Eo : Bi := con [.rd [none, none, none, none], .rd []] true (It × OpR) (fun x => [.agg (Ac x.1), .pin (Au x.2)]) (fun x => x.1.path.length ≤ 4194304) (fun x => .bool (E4 x.1.path == x.2.path))
noncomputable def Y0 : Env := ⟨A4 Ba, A4 [(48, H9)], [0, 1, 2, 3]⟩
set_option maxRecDepth 100000 in
set_option maxHeartbeats 4000000 in
theorem Y1 : Bb Y0 (Ax Tryz.f143) Tryz.f143.results.toList Eo := by
  rintro ⟨x, o⟩ hs
  have hs : x.path.length ≤ 4194304 := hs
  refine ⟨trivial, ?_⟩
  skip
  refine ⟨x.path, rfl, fun _ => hs, ?_⟩
  repeat ((conv => whnf); refine ⟨(by kernel_rfl : Bw _ _ = true), ?_⟩)
  exact ⟨trivial, rfl⟩
theorem Wm : Av Tryz.prog 143 Eo := Ao (Ca _ _) (FOk.cons Vk FOk.nil) mixed Tryz.func143 rfl Tryz.call143 (by decide) (by kernel_rfl) Y1 (by intro _ (y : (It × OpR)) _; exact ⟨by simp [Eo, con, A9, A8, AV.noRd, A7, Ab, A5, A6, Ac, Au, Bm, Bk], by simp [Eo, con, A9, A8, AV.noRd, A7, Ab, A5, A6, Ac, Au, Bm, Bk]⟩) (by intro (y : (It × OpR)) _; first | (simp [Eo, con, A9, A8, Ad, AV.free, A2, A3, A1, A6, Ac, Au, Bm, Bk]; done) | (obtain ⟨_, _⟩ := y; simp [Eo, con, A9, A8, Ad, AV.free, A2, A3, A1, A6, Ac, Au, Bm, Bk]; done) | (obtain ⟨_, _, _⟩ := y; simp [Eo, con, A9, A8, Ad, AV.free, A2, A3, A1, A6, Ac, Au, Bm, Bk]; done))
def atF : Str ⊕ OpR → Nat
  | .inl _ => 88
  | .inr _ => 143
noncomputable def Ct : Bi := con [mS 4, mC] true (Tr × (Str ⊕ OpR)) (fun x => [.rd 4 (x.1.map Ac), .fn (atF x.2) [.pin (atC x.2)]]) (fun x => smT x.1) (fun x => .int .i64 (fnd (atP x.2) x.1))
noncomputable def Qu : Env := ⟨A4 Ba, A4 [(88, Fx), (143, Eo)], [0, 1, 4, 5, 7, 8, 9, 16]⟩
set_option maxRecDepth 100000 in
set_option maxHeartbeats 4000000 in
theorem Qo : Bb Qu (Ax Tryz.f87) Tryz.f87.results.toList Ct := by
  rintro ⟨l, q⟩ hs
  obtain ⟨hs1, hs2⟩ : smT l := hs
  cases q with
  | inl p =>
    refine ⟨trivial, ?_⟩
    conv => whnf
    refine B0 (fun i : Nat => ⟨[(0, ⟨none, .rd 4 (l.map Ac)⟩), (1, ⟨none, .fn 88 [.pin [.str p]]⟩), (7, ⟨none, .int .i64 l.length⟩), (8, ⟨none, .int .i64 i⟩)], [], 0⟩)
      (fun i => i ≤ l.length ∧ (l.take i).any (atP (.inl p)) = false) (fun i => l.length - i) 0 ?_ ⟨by omega, rfl⟩ ?_
    · (refine ⟨?_, ?_, rfl⟩ <;> repeat' (first | exact rfl | exact trivial | refine ⟨?_, ?_⟩ | fail) <;> (conv => whnf))
      all_goals simp
    rintro i ⟨hi, hI⟩
    (conv => whnf); refine ⟨fun h1 => ?_, fun h1 => ?_⟩
    · have h1 : i < l.length := by simpa using h1
      obtain ⟨b, hb⟩ := B8 h1
      have hbl := (hs2 b (List.mem_of_getElem? hb)).1
      repeat ((conv => whnf); refine ⟨Ac b, fun _ => ⟨by omega, by simp [hb]⟩, ?_⟩)
      refine ⟨(b, p), rfl, fun _ => trivial, ?_⟩
      (conv => whnf); refine ⟨fun h2 => ?_, fun h2 => ?_⟩
      · have h2 : atP (.inl p) b = true := h2
        conv => whnf
        exact ⟨trivial, Nr (A1m hI hb h2).symm⟩
      · have h2 : atP (.inl p) b = false := h2
        repeat ((conv => whnf); refine ⟨_, w64 (bb), ?_⟩)
        refine C2 (i + 1) ?_ ⟨h1, N3 hI hb h2⟩ (by first | omega | (simp; done) | (simp; omega))
        (refine ⟨?_, ?_, rfl⟩ <;> repeat' (first | exact rfl | exact trivial | refine ⟨?_, ?_⟩ | fail) <;> (conv => whnf))
    · have h1 : i = l.length := by
        have : ¬ i < l.length := by simpa using h1
        omega
      subst h1
      rw [List.take_length] at hI
      conv => whnf
      exact ⟨trivial, Nr (Qk hI).symm⟩
  | inr o =>
    refine ⟨trivial, ?_⟩
    conv => whnf
    refine B0 (fun i : Nat => ⟨[(0, ⟨none, .rd 4 (l.map Ac)⟩), (1, ⟨none, .fn 143 [.pin (Au o)]⟩), (7, ⟨none, .int .i64 l.length⟩), (8, ⟨none, .int .i64 i⟩)], [], 0⟩)
      (fun i => i ≤ l.length ∧ (l.take i).any (atP (.inr o)) = false) (fun i => l.length - i) 0 ?_ ⟨by omega, rfl⟩ ?_
    · (refine ⟨?_, ?_, rfl⟩ <;> repeat' (first | exact rfl | exact trivial | refine ⟨?_, ?_⟩ | fail) <;> (conv => whnf))
      all_goals simp
    rintro i ⟨hi, hI⟩
    (conv => whnf); refine ⟨fun h1 => ?_, fun h1 => ?_⟩
    · have h1 : i < l.length := by simpa using h1
      obtain ⟨b, hb⟩ := B8 h1
      have hbl := (hs2 b (List.mem_of_getElem? hb)).1
      repeat ((conv => whnf); refine ⟨Ac b, fun _ => ⟨by omega, by simp [hb]⟩, ?_⟩)
      refine ⟨(b, o), rfl, fun _ => hbl, ?_⟩
      (conv => whnf); refine ⟨fun h2 => ?_, fun h2 => ?_⟩
      · have h2 : atP (.inr o) b = true := h2
        conv => whnf
        exact ⟨trivial, Nr (A1m hI hb h2).symm⟩
      · have h2 : atP (.inr o) b = false := h2
        repeat ((conv => whnf); refine ⟨_, w64 (bb), ?_⟩)
        refine C2 (i + 1) ?_ ⟨h1, N3 hI hb h2⟩ (by first | omega | (simp; done) | (simp; omega))
        (refine ⟨?_, ?_, rfl⟩ <;> repeat' (first | exact rfl | exact trivial | refine ⟨?_, ?_⟩ | fail) <;> (conv => whnf))
    · have h1 : i = l.length := by
        have : ¬ i < l.length := by simpa using h1
        omega
      subst h1
      rw [List.take_length] at hI
      conv => whnf
      exact ⟨trivial, Nr (Qk hI).symm⟩
theorem Qe : Av Tryz.prog 87 Ct := Ao (Ca _ _) (FOk.cons Zf (FOk.cons Wm FOk.nil)) mixed Tryz.func87 rfl Tryz.call87 (by decide) (by kernel_rfl) Qo (by intro _ (y : (Tr × (Str ⊕ OpR))) _; exact ⟨by simp [Ct, con, A9, A8, AV.noRd, A7, Ab, A5, A6, Ac, Au, Bm, Bk], by simp [Ct, con, A9, A8, AV.noRd, A7, Ab, A5, A6, Ac, Au, Bm, Bk]⟩) (by intro (y : (Tr × (Str ⊕ OpR))) _; first | (simp [Ct, con, A9, A8, Ad, AV.free, A2, A3, A1, A6, Ac, Au, Bm, Bk]; done) | (obtain ⟨_, _⟩ := y; simp [Ct, con, A9, A8, Ad, AV.free, A2, A3, A1, A6, Ac, Au, Bm, Bk]; done) | (obtain ⟨_, _, _⟩ := y; simp [Ct, con, A9, A8, Ad, AV.free, A2, A3, A1, A6, Ac, Au, Bm, Bk]; done))
noncomputable def Gb : Bi := con [mS 4, mC] true (Tr × Str) (fun x => [rdT x.1, .str x.2]) (fun x => smT x.1) (fun x => .int .i64 (fnd (fun y => y.path == x.2) x.1))
noncomputable def A5o : Env := ⟨A4 Ba, A4 [(87, Ct)], [0, 1, 2, 3, 4]⟩
set_option maxRecDepth 100000 in
set_option maxHeartbeats 4000000 in
theorem A7d : Bb A5o (Ax Tryz.f47) Tryz.f47.results.toList Gb := by
  rintro ⟨l, p⟩ hs
  have hs : smT l := hs
  refine ⟨trivial, ?_⟩
  conv => whnf
  refine ⟨(l, .inl p), rfl, fun _ => hs, ?_⟩
  conv => whnf
  exact ⟨trivial, rfl⟩
theorem U9 : Av Tryz.prog 47 Gb := Ao (Ca _ _) (FOk.cons Qe FOk.nil) mixed Tryz.func47 rfl Tryz.call47 (by decide) (by kernel_rfl) A7d (by intro _ (y : (Tr × Str)) _; exact ⟨by simp [Gb, con, A9, A8, AV.noRd, A7, Ab, A5, A6, Ac, Au, Bm, Bk], by simp [Gb, con, A9, A8, AV.noRd, A7, Ab, A5, A6, Ac, Au, Bm, Bk]⟩) (by intro (y : (Tr × Str)) _; first | (simp [Gb, con, A9, A8, Ad, AV.free, A2, A3, A1, A6, rdT, Ac, Au, Bm, Bk]; done) | (obtain ⟨_, _⟩ := y; simp [Gb, con, A9, A8, Ad, AV.free, A2, A3, A1, A6, rdT, Ac, Au, Bm, Bk]; done) | (obtain ⟨_, _, _⟩ := y; simp [Gb, con, A9, A8, Ad, AV.free, A2, A3, A1, A6, rdT, Ac, Au, Bm, Bk]; done))
noncomputable def Ev : Bi := con [mS 4, mC] true (Tr × Str) (fun x => [rdT x.1, .str x.2]) (fun x => smT x.1) (fun x => M9 (Al x.1 x.2))
noncomputable def A3u : Env := ⟨A4 Ba, A4 [(47, Gb)], [0, 1, 2, 4, 5, 6, 8, 14]⟩
set_option maxRecDepth 100000 in
set_option maxHeartbeats 4000000 in
theorem A3i : Bb A3u (Ax Tryz.f11) Tryz.f11.results.toList Ev := by
  rintro ⟨t, p⟩ hs
  obtain ⟨hs1, hs2⟩ : smT t := hs
  refine ⟨trivial, ?_⟩
  (conv => whnf); refine ⟨fun h1 => ?_, fun h1 => ?_⟩
  · have h1 : (p == sl) = true := h1
    conv => whnf
    rw [show Ev.res (t, p) = .tup [.agg (Ac It.top), .bool true] by show M9 (Al t p) = _; simp [Al, h1]; rfl]
    exact ⟨trivial, ⟨rfl, rfl, rfl, rfl, trivial⟩, rfl, trivial⟩
  have h1 : (p == sl) = false := h1
  have hd : Al t p = t.find? (fun y => y.path == p) := by simp [Al, h1]
  conv => whnf
  refine ⟨(t, p), rfl, fun _ => ⟨hs1, hs2⟩, ?_⟩
  (conv => whnf); refine ⟨fun h2 => ?_, fun h2 => ?_⟩
  · have h2 : t.any (fun y => y.path == p) = false := by
      rw [← V5]; simpa using h2
    conv => whnf
    rw [show Ev.res (t, p) = .tup [.agg (Ac It.none), .bool false] by show M9 (Al t p) = _; rw [hd, B3w h2]; rfl]
    exact ⟨trivial, ⟨rfl, rfl, rfl, rfl, trivial⟩, rfl, trivial⟩
  · have h2 : t.any (fun y => y.path == p) = true := by
      rw [← V5]; simpa using h2
    obtain ⟨b, hb1, hb2⟩ := B1i h2
    have hg := C3g (p := fun y : It => y.path == p) (l := t)
    have hp0 : 0 ≤ fnd (fun y : It => y.path == p) t := by have := V5 (p := fun y : It => y.path == p) (l := t); rw [h2] at this; simpa using this
    repeat ((conv => whnf); refine ⟨Ac b, fun _ => ⟨hp0, Am hb1⟩, ?_⟩)
    rw [show Ev.res (t, p) = .tup [.agg (Ac b), .bool true] by show M9 (Al t p) = _; rw [hd, hb2]; rfl]
    exact ⟨trivial, ⟨rfl, rfl, rfl, rfl, trivial⟩, rfl, trivial⟩
theorem Sg : Av Tryz.prog 11 Ev := Ao (Ca _ _) (FOk.cons U9 FOk.nil) mixed Tryz.func11 rfl Tryz.call11 (by decide) (by kernel_rfl) A3i (by intro _ (y : Tr × Str) _; refine ⟨?_, trivial⟩; show AV.noRd (M9 (Al y.1 y.2)); simp [M9, AV.noRd, A7, Ac]) (by intro (y : (Tr × Str)) _; first | (simp [Ev, con, A9, A8, Ad, AV.free, A2, A3, A1, A6, rdT, Ac, Au, Bm, Bk]; done) | (obtain ⟨_, _⟩ := y; simp [Ev, con, A9, A8, Ad, AV.free, A2, A3, A1, A6, rdT, Ac, Au, Bm, Bk]; done) | (obtain ⟨_, _, _⟩ := y; simp [Ev, con, A9, A8, Ad, AV.free, A2, A3, A1, A6, rdT, Ac, Au, Bm, Bk]; done))
end Go.GH


set_option linter.unusedVariables false
set_option linter.unusedSimpArgs false
namespace Go.GH
open Go Go.Proofs
noncomputable def Gi : Bi := con [mS 4] true Tr (fun t => [rdT t]) smT (fun t => .bool (Bj t))
noncomputable def A6k : Env := ⟨A4 Ba, A4 [(11, Ev), (48, H9), (69, Hq)], [0, 1, 2, 3, 4, 5, 6, 10, 12, 13, 14, 15, 37, 52]⟩
set_option maxRecDepth 100000 in
set_option maxHeartbeats 4000000 in
theorem A84 : Bb A6k (Ax Tryz.f32) Tryz.f32.results.toList Gi := by
  intro (t : Tr) hs
  obtain ⟨hs1, hs2⟩ : smT t := hs
  refine ⟨trivial, ?_⟩
  (conv => whnf); refine ⟨fun h1 => ?_, fun h1 => ?_⟩
  · conv => whnf
    exact ⟨trivial, eqB (by have h1 : ¬ t.length ≤ 40 := by simp at h1; omega
                            simp [Bj, h1])⟩
  have h1 : t.length ≤ 40 := by simp at h1; omega
  skip
  refine B0 (fun i : Nat => ⟨[(1, ⟨none, .bx 0 0⟩), (12, ⟨none, .rd 4 (t.map Ac)⟩), (13, ⟨none, .int .i64 t.length⟩), (14, ⟨none, .int .i64 i⟩)], [(0, .own 1 [[.rd 4 (t.map Ac)]])], 1⟩)
    (fun i => i ≤ t.length ∧ ∀ j, j < i → chk t j = true) (fun i => t.length - i) 0 ?_ ⟨by omega, fun j hj => by omega⟩ ?_
  · (refine ⟨?_, ?_, rfl⟩ <;> repeat' (first | exact rfl | exact trivial | refine ⟨?_, ?_⟩ | fail) <;> (conv => whnf))
    all_goals simp
  rintro i ⟨hi, hI⟩
  (conv => whnf); refine ⟨fun h2 => ?_, fun h2 => ?_⟩
  · have h2 : i < t.length := by simpa using h2
    obtain ⟨b, hb⟩ := B8 h2
    have hbs := hs2 b (List.mem_of_getElem? hb)
    have hbad : ∀ {q : Bool}, chk t i = q → q = false → Bj t = false := fun h e => A55 h2 (h.trans e)
    generalize hpv : t.getD (i - 1) It.none = pv
    have hprev : 0 < i → t[i - 1]? = some pv := fun h => by
      rw [← hpv, List.getD_eq_getElem?_getD, List.getElem?_eq_getElem (by omega)]; rfl
    have hix : ∀ {A : Bool}, Cw (some (A && decide ((i : Int) > 0))) → (0 : Int) ≤ (i : Int) - 1 ∧ (t.map Ac)[((i : Int) - 1).toNat]? = some (Ac pv) := by
      intro A h
      have hi0 : 0 < i := by simp [Cw] at h; omega
      exact ⟨by omega, by rw [show ((i : Int) - 1).toNat = i - 1 by omega]; exact Am (hprev hi0)⟩
    repeat ((conv => whnf); refine ⟨Ac b, fun _ => ⟨by omega, by simp [hb]⟩, ?_⟩)
    refine ⟨b, rfl, fun _ => hbs, ?_⟩
    repeat ((conv => whnf); first | refine ⟨fun h => h, ?_⟩ | refine ⟨(by kernel_rfl : Bw _ _ = true), ?_⟩ | refine ⟨_, w64 (bb), ?_⟩ | refine ⟨Ac pv, fun h => hix h, ?_⟩)
    have e1 : decide ((i : Int) > 0) = !(i == 0) := by
      rw [Bool.eq_iff_iff]
      simp
      omega
    (conv => whnf); refine ⟨fun h3 => ?_, fun h3 => ?_⟩
    · have h3 : (!Jr b || (decide ((i : Int) > 0) && !Co pv.path b.path)) = true := h3
      conv => whnf
      exact ⟨trivial, eqB (hbad (We hb hpv) (by
        rw [e1] at h3
        revert h3
        cases Jr b <;> cases (i == 0) <;> cases Co pv.path b.path <;> simp)).symm⟩
    have h3 : (Jr b && (i == 0 || Co pv.path b.path)) = true := by
      have h3 : (!Jr b || (decide ((i : Int) > 0) && !Co pv.path b.path)) = false := h3
      rw [e1] at h3
      revert h3
      cases Jr b <;> cases (i == 0) <;> cases Co pv.path b.path <;> simp
    conv => whnf
    refine ⟨b.path, rfl, fun _ => hbs.1, ?_⟩
    conv => whnf
    refine ⟨(t, E4 b.path), rfl, fun _ => ⟨hs1, hs2⟩, ?_⟩
    repeat ((conv => whnf); first | refine ⟨fun h => h, ?_⟩ | refine ⟨(by kernel_rfl : Bw _ _ = true), ?_⟩)
    (conv => whnf); refine ⟨fun h5 => ?_, fun h5 => ?_⟩
    · conv => whnf
      exact ⟨trivial, eqB (hbad (B3f hb (by
        have h5 : (!(Al t (E4 b.path)).isSome || ((Al t (E4 b.path)).getD It.none).kind != 2) = true := h5
        unfold Nw
        revert h5
        cases (Al t (E4 b.path)).isSome <;> simp)) rfl).symm⟩
    have h5 : Nw t (E4 b.path) = true := by
      have h5 : (!(Al t (E4 b.path)).isSome || ((Al t (E4 b.path)).getD It.none).kind != 2) = false := h5
      unfold Nw
      revert h5
      cases (Al t (E4 b.path)).isSome <;> simp
    repeat ((conv => whnf); refine ⟨_, w64 (bb), ?_⟩)
    refine C2 (i + 1) ?_ ⟨h2, fun j hj => ?_⟩ (by first | omega | (simp; done) | (simp; omega))
    · (refine ⟨?_, ?_, rfl⟩ <;> repeat' (first | exact rfl | exact trivial | refine ⟨?_, ?_⟩ | fail) <;> (conv => whnf))
    · rcases Nat.lt_or_ge j i with h | h
      · exact hI j h
      · rw [show j = i by omega, We hb hpv, h3, h5]; rfl
  · have h2 : i = t.length := by
      have : ¬ i < t.length := by simpa using h2
      omega
    subst h2
    conv => whnf
    exact ⟨trivial, eqB (A0e h1 hI).symm⟩
theorem U7 : Av Tryz.prog 32 Gi := Ao (Ca _ _) (FOk.cons Sg (FOk.cons Vk (FOk.cons A25 FOk.nil))) mixed Tryz.func32 rfl Tryz.call32 (by decide) (by kernel_rfl) A84 (by intro _ (y : Tr) _; exact ⟨by simp [Gi, con, A9, A8, AV.noRd, A7, Ab, A5, A6], by simp [Gi, con, A9, A8, AV.noRd, A7, Ab, A5, A6]⟩) (by intro (y : Tr) _; first | (simp [Gi, con, A9, A8, Ad, AV.free, A2, A3, A1, A6, rdT, Ac]; done) | (obtain ⟨_, _⟩ := y; simp [Gi, con, A9, A8, Ad, AV.free, A2, A3, A1, A6, rdT, Ac]; done) | (obtain ⟨_, _, _⟩ := y; simp [Gi, con, A9, A8, Ad, AV.free, A2, A3, A1, A6, rdT, Ac]; done))
end Go.GH


set_option linter.unusedVariables false
set_option linter.unusedSimpArgs false
namespace Go.GH
open Go Go.Proofs
end Go.GH


set_option linter.unusedVariables false
set_option linter.unusedSimpArgs false
namespace Go.GH
open Go
def C45 (b : UInt8) : Bool := decide (48 ≤ b.toNat) && decide (b.toNat ≤ 57)
def C43 (a : Nat) (s : Str) : Nat := s.foldl (fun a b => 10 * a + (b.toNat - 48)) a
def C3m (s : Str) : Nat := C43 0 s
def C3t (s : Str) : Bool := decide (1 ≤ s.length) && decide (s.length ≤ 6) && s.all C45 && (dig (C3m s) == s)
def num (s : Str) : Option Nat := if C3t s then some (C3m s) else none
end Go.GH


set_option linter.unusedVariables false
set_option linter.unusedSimpArgs false
namespace Go.GH
open Go
def B8h (c : UInt8) : Int := fnd (fun b => b == c) C3r
def C3p (a b : UInt8) : UInt8 := UInt8.ofNat (16 * (B8h a).toNat + (B8h b).toNat)
def Vp : Str → Option Str
  | [] => some []
  | [_] => none
  | a :: b :: r => if (decide (B8h a < 0) || decide (B8h b < 0)) = true then none else (Vp r).map (C3p a b :: ·)
theorem C1f {s : Str} {i : Nat} {a b : UInt8} (ha : s[i]? = some a) (hb : s[i + 1]? = some b) : s.drop i = a :: b :: s.drop (i + 2) := by
  have h1 := F5 ha
  have h2 := F5 hb
  rw [List.drop_eq_getElem_cons h1, List.drop_eq_getElem_cons h2]
  rw [List.getElem?_eq_getElem h1] at ha
  rw [List.getElem?_eq_getElem h2] at hb
  simp only [Option.some.injEq] at ha hb
  rw [ha, hb]
def Wn (s : Str) (i : Nat) (out : Str) : Prop := i ≤ s.length ∧ i % 2 = 0 ∧ out.length ≤ i ∧ Vp s = (Vp (s.drop i)).map (out ++ ·)
theorem Wn.zero (s : Str) : Wn s 0 [] := ⟨by omega, rfl, by simp, by rw [List.drop_zero]; cases Vp s <;> simp⟩
theorem Wn.next {s : Str} {i : Nat} {out : Str} (h : Wn s i out) {a b : UInt8} (ha : s[i]? = some a) (hb : s[i + 1]? = some b) (hn : (decide (B8h a < 0) || decide (B8h b < 0)) = false) : Wn s (i + 2) (out ++ [C3p a b]) := by
  obtain ⟨h1, h2, h3, h4⟩ := h
  have := F5 hb
  refine ⟨by omega, by omega, by simp; omega, ?_⟩
  rw [h4, C1f ha hb, Vp, if_neg (by simp [hn])]
  cases Vp (s.drop (i + 2)) <;> simp
theorem Wn.fin {s out : Str} (h : Wn s s.length out) : Vp s = some out := by
  rw [h.2.2.2, List.drop_length]; simp [Vp]
def C2p (w : List Str) : OpR := ⟨((num (w.getD 0 [])).getD 0 : Nat), w.getD 1 [], w.getD 2 [], ((num (w.getD 3 [])).getD 0 : Nat), (Vp (w.getD 5 [])).getD [], ((num (w.getD 4 [])).getD 0 : Nat)⟩
def C30 (s : Str) (w : List Str) : Bool := decide (w.length = 6) && (num (w.getD 0 [])).isSome && (num (w.getD 3 [])).isSome && (num (w.getD 4 [])).isSome && (Vp (w.getD 5 [])).isSome && (C34 (C2p w) == s)
def C0v (s : Str) : Option OpR := if C30 s (An 32 s) then some (C2p (An 32 s)) else none
end Go.GH


set_option linter.unusedVariables false
set_option linter.unusedSimpArgs false
namespace Go.GH
open Go
def B5q : List Str → Option (List OpR)
  | [] => some []
  | a :: r => match C0v a with
    | none => none
    | some o => (B5q r).map (o :: ·)
def Wq (ls : List Str) : Option (List OpR) := if ls.getD (ls.length - 1) [] == [] then B5q (ls.take (ls.length - 1)) else none
def Wx (s : Str) : Option (List OpR) := Wq (An 10 s)
def A75 (s : Str) : Str × Str × Bool := if fnd (fun b => b == 10) s ≥ 0 then (s.take (fnd (fun b => b == 10) s).toNat, s.drop ((fnd (fun b => b == 10) s).toNat + 1), true) else (s, [], false)
theorem B90 {p : UInt8 → Bool} {s : Str} (h : 0 ≤ fnd p s) : ∃ x, s[(fnd p s).toNat]? = some x ∧ p x = true ∧ ∀ y, y ∈ s.take (fnd p s).toNat → p y = false := by
  have ha : s.any p = true := by
    rcases Bool.eq_false_or_eq_true (s.any p) with h1 | h1
    · exact h1
    · rw [Qk h1] at h; omega
  have e : (fnd p s).toNat = s.findIdx p := by unfold fnd; rw [if_pos ha]; simp
  rw [e]
  have hlt : s.findIdx p < s.length := List.findIdx_lt_length.2 (List.any_eq_true.1 ha)
  refine ⟨s[s.findIdx p], List.getElem?_eq_getElem hlt, List.findIdx_getElem, fun y hy => ?_⟩
  obtain ⟨j, hj⟩ := List.getElem?_of_mem hy
  have hjl : j < s.findIdx p := by
    have := F5 hj
    rw [List.length_take] at this; omega
  rw [List.getElem?_take_of_lt hjl] at hj
  have h1 := List.not_of_lt_findIdx hjl
  have hjs : j < s.length := by omega
  rw [List.getElem?_eq_getElem hjs] at hj
  simp only [Option.some.injEq] at hj
  rw [← hj]; simpa using h1
theorem B9n {s : Str} (h : (A75 s).2.2 = true) : s = (A75 s).1 ++ 10 :: (A75 s).2.1 ∧ ∀ x, x ∈ (A75 s).1 → x ≠ 10 := by
  unfold A75 at h ⊢
  by_cases hf : fnd (fun b => b == 10) s ≥ 0
  · rw [if_pos hf]
    obtain ⟨x, h1, h2, h3⟩ := B90 hf
    have hx : x = 10 := by simpa using h2
    subst hx
    refine ⟨?_, fun y hy => by simpa using h3 y hy⟩
    have hlt := F5 h1
    have e : s.drop (fnd (fun b => b == 10) s).toNat = 10 :: s.drop ((fnd (fun b => b == 10) s).toNat + 1) := by
      rw [List.drop_eq_getElem_cons hlt]
      rw [List.getElem?_eq_getElem hlt] at h1
      simp only [Option.some.injEq] at h1
      rw [h1]
    show s = s.take _ ++ 10 :: s.drop _
    rw [← e, List.take_append_drop]
  · rw [if_neg hf] at h; cases h
theorem B84 : Wx [] = some [] := rfl
theorem A7x {a : Str} {r : List Str} (hr : r ≠ []) : Wq (a :: r) = match C0v a with
    | none => none
    | some o => (Wq r).map (o :: ·) := by
  have hl : 0 < r.length := List.length_pos_iff.2 hr
  obtain ⟨k, hk⟩ : ∃ k, r.length = k + 1 := ⟨r.length - 1, by omega⟩
  unfold Wq
  rw [List.length_cons, hk]
  simp only [Nat.add_sub_cancel, List.getD_cons_succ, List.take_succ_cons]
  by_cases h : (r.getD k [] == []) = true
  · rw [if_pos h, if_pos h, B5q]
  · rw [if_neg h, if_neg h]
    cases C0v a <;> rfl
theorem B8n {a b : Str} (ha : ∀ x, x ∈ a → x ≠ 10) : Wx (a ++ 10 :: b) = match C0v a with
    | none => none
    | some o => (Wx b).map (o :: ·) := by
  unfold Wx
  rw [Rt ha, A7x (Kb 10 b)]
def Wg (s r : Str) (out : List OpR) : Prop := out.length + r.length ≤ s.length ∧ Wx s = (Wx r).map (out ++ ·)
theorem Wg.zero (s : Str) : Wg s s [] := ⟨by simp, by cases Wx s <;> simp⟩
theorem Wg.fin {s : Str} {out : List OpR} (h : Wg s [] out) : Wx s = some out := by rw [h.2, B84]; simp
theorem Wg.next {s r : Str} {out : List OpR} (h : Wg s r out) (hc : (A75 r).2.2 = true) {o : OpR} (ho : C0v (A75 r).1 = some o) : Wg s (A75 r).2.1 (out ++ [o]) ∧ (A75 r).2.1.length < r.length := by
  obtain ⟨e, hn⟩ := B9n hc
  have hl := congrArg List.length e
  simp at hl
  refine ⟨⟨by have := h.1; simp; omega, ?_⟩, by omega⟩
  rw [h.2]
  conv => lhs; rw [e]
  rw [B8n hn, ho]
  cases Wx (A75 r).2.1 <;> simp
end Go.GH


set_option linter.unusedVariables false
set_option linter.unusedSimpArgs false
namespace Go.GH
open Go
structure Cur where
  b : Str
  i : Nat
  h : Int
def Ag (b : UInt8) : List AV := [.int .u8 b.toNat]
def B4 (c : Cur) : List AV := [.rd 1 (c.b.map Ag), .int .i64 c.i, .int .i64 c.h]
def D5 (c : Cur) : Prop := c.i ≤ c.b.length ∧ c.b.length ≤ 1048576
def B1t (a b : Int) : Int := IntKind.i64.wrap (BitVec.ofInt IntKind.i64.bits a &&& BitVec.ofInt IntKind.i64.bits b).toNat
def C3w (a b : Int) : Int := IntKind.i64.wrap (BitVec.ofInt IntKind.i64.bits a ^^^ BitVec.ofInt IntKind.i64.bits b).toNat
def C2g (a b : Int) : Int := IntKind.i64.wrap (a * b)
def C1e (a b : Int) : Int := IntKind.i64.wrap (a + b)
theorem B7h {a : Int} {m : Nat} (hm : m < 2 ^ 62) : 0 ≤ B1t a m ∧ B1t a m ≤ m := by
  have h : ((BitVec.ofInt 64 a &&& BitVec.ofInt 64 (m : Int)).toNat : Nat) ≤ m := by
    rw [BitVec.toNat_and]
    refine Nat.le_trans Nat.and_le_right ?_
    rw [BitVec.ofInt_natCast, BitVec.toNat_ofNat]
    exact Nat.mod_le _ _
  have e : B1t a m = ((BitVec.ofInt 64 a &&& BitVec.ofInt 64 (m : Int)).toNat : Int) := w64 (a := ((BitVec.ofInt 64 a &&& BitVec.ofInt 64 (m : Int)).toNat : Int)) (by omega)
  rw [e]
  omega
def Oo (h : Int) : Int := C1e (C2g h 6364136223846793005) 1442695040888963407
def x0 (h : Int) : Int := B1t (C3w (h.fdiv (2 ^ min (33 : Int).toNat IntKind.i64.bits)) (h.fdiv (2 ^ min (45 : Int).toNat IntKind.i64.bits))) 255
def Ox (c : Cur) : Int := match c.b[c.i]? with
  | some y => B1t (x0 (Oo c.h) + y.toNat) 255
  | none => x0 (Oo c.h)
def Gt (c : Cur) : Cur := ⟨c.b, if c.i < c.b.length then c.i + 1 else c.i, Oo c.h⟩
theorem C2r (h : Int) : 0 ≤ x0 h ∧ x0 h ≤ 255 := B7h (m := 255) (by decide)
theorem Q5 (c : Cur) : 0 ≤ Ox c ∧ Ox c ≤ 255 := by
  unfold Ox
  split
  · exact B7h (m := 255) (by decide)
  · exact C2r _
theorem Lu {c : Cur} (h : D5 c) : D5 (Gt c) := by
  obtain ⟨h1, h2⟩ := h
  refine ⟨?_, h2⟩
  show (if c.i < c.b.length then c.i + 1 else c.i) ≤ c.b.length
  split <;> omega
def C0 (c : Cur) (n : Int) : Int := if n ≤ 0 then 0 else if n ≤ 256 then (Ox c).tmod n else (Ox c * 16777216 + Ox (Gt c) * 65536 + Ox (Gt (Gt c)) * 256 + Ox (Gt (Gt (Gt c)))).tmod n
def Ak (c : Cur) (n : Int) : Cur := if n ≤ 0 then c else if n ≤ 256 then Gt c else Gt (Gt (Gt (Gt c)))
theorem Pz (c : Cur) (n : Int) : 0 ≤ C0 c n ∧ (0 < n → C0 c n < n) := by
  have c0 := Q5 c
  have c1 := Q5 (Gt c)
  have c2 := Q5 (Gt (Gt c))
  have c3 := Q5 (Gt (Gt (Gt c)))
  unfold C0
  split
  · omega
  · rename_i h
    split
    · exact ⟨Int.tmod_nonneg _ c0.1, fun hn => Int.tmod_lt_of_pos _ hn⟩
    · exact ⟨Int.tmod_nonneg _ (by omega), fun hn => Int.tmod_lt_of_pos _ hn⟩
theorem Be {c : Cur} {n : Int} (h : D5 c) : D5 (Ak c n) := by
  unfold Ak
  split
  · exact h
  · split
    · exact Lu h
    · exact Lu (Lu (Lu (Lu h)))
def C2s (h : Int) (x : UInt8) : Int := B1t (C1e (C1e (C2g h 131) x.toNat) 7) 1073741823
def C3z (s : Str) : Int := (s.take 4000).foldl C2s (26583 + s.length)
def K9 (s : Str) : Cur := ⟨s, 0, C3z s⟩
theorem B7g {s : Str} (h : s.length ≤ 1048576) : D5 (K9 s) := ⟨Nat.zero_le _, h⟩
theorem B6o {α β : Type} {f : β → α → β} {z : β} {l : List α} {i : Nat} {x : α} (h : l[i]? = some x) : (l.take (i + 1)).foldl f z = f ((l.take i).foldl f z) x := by
  rw [Bs h, List.foldl_append]; rfl
end Go.GH


set_option linter.unusedVariables false
set_option linter.unusedSimpArgs false
namespace Go.GH
open Go Go.Proofs
end Go.GH


set_option linter.unusedVariables false
set_option linter.unusedSimpArgs false
namespace Go.GH
open Go Go.Proofs
open Go.ChangeShapes Go.WideShapes Go.ChangeAt Go.RowKit
end Go.GH


set_option linter.unusedVariables false
set_option linter.unusedSimpArgs false
namespace Go.GH
open Go
def G8 (c : Cur) (l : List Int) : Int := l.getD (C0 c l.length).toNat 0
def Hi (c : Cur) (l : List Str) : Str := l.getD (C0 c l.length).toNat []
def Ae (n : Int) : List AV := [.int .i64 n]
theorem B00 {c : Cur} {l : List Int} (h : 0 < l.length) : l[(C0 c l.length).toNat]? = some (G8 c l) := by
  have := Pz c l.length
  have := this.2 (by omega)
  rw [G8, List.getD_eq_getElem?_getD, List.getElem?_eq_getElem (by omega)]; rfl
theorem A9g {c : Cur} {l : List Str} (h : 0 < l.length) : l[(C0 c l.length).toNat]? = some (Hi c l) := by
  have := Pz c l.length
  have := this.2 (by omega)
  rw [Hi, List.getD_eq_getElem?_getD, List.getElem?_eq_getElem (by omega)]; rfl
theorem A93 {c : Cur} {l : List Int} (h : 0 < l.length) : G8 c l ∈ l := List.mem_of_getElem? (B00 h)
theorem B8p {c : Cur} {l : List Str} (h : 0 < l.length) : Hi c l ∈ l := List.mem_of_getElem? (A9g h)
theorem V7 {c : Cur} {l : List Str} (h : 0 < l.length) {k : Nat} (hk : (l.all fun s => decide (s.length ≤ k)) = true) : (Hi c l).length ≤ k := by
  have := List.all_eq_true.1 hk _ (B8p (c := c) h)
  simpa using this
def Sp : List Str := [[], [47], [97], [47, 65], [47, 97, 47], [47, 47], [47, 116, 111, 111, 108, 111, 110, 103], [47, 97, 47, 98, 47, 99, 47, 100, 47, 101], [47, 97, 47, 98, 47, 99, 47, 100], [47, 97, 32, 98], [47, 126, 48], [47, 97, 47, 46, 46]]
def Ce : List Str := [[47, 97], [47, 98], [47, 97, 47, 120], [47, 97, 47, 121], [47, 98, 47, 120], [47, 99], [47, 97, 47, 120, 47, 122], [47, 100], [47, 97, 47, 98], [47, 101, 47, 102]]
def Mf (c : Cur) : Str := if C0 c 12 = 0 then Hi (Ak c 12) Sp else Hi (Ak c 12) Ce
def Nc (c : Cur) : Cur := if C0 c 12 = 0 then Ak (Ak c 12) 12 else Ak (Ak c 12) 10
theorem Zl (c : Cur) : (Mf c).length ≤ 20 := by
  unfold Mf
  split
  · exact V7 (by decide) (by decide)
  · exact V7 (by decide) (by decide)
theorem Ui {c : Cur} (h : D5 c) : D5 (Nc c) := by
  unfold Nc
  split
  · exact Be (Be h)
  · exact Be (Be h)
def Kw : List Int := [0, 1, 5, 15, 16, 17, 33, 64, 80, 81]
def U8 : Nat → Nat → Cur → Str → Str × Cur
  | 0, i, c, s => (s, c)
  | k + 1, i, c, s => U8 k (i + 1) (Ak c 2) (s ++ [UInt8.ofNat (97 + (i + (C0 c 2).toNat) % 26)])
def Va (c : Cur) : Nat := (G8 c Kw).toNat
def Qc (c : Cur) : Str := (U8 (Va c) 0 (Ak c 10) []).1
def Me (c : Cur) : Cur := (U8 (Va c) 0 (Ak c 10) []).2
theorem A9s : ∀ (k i : Nat) (c : Cur) (s : Str), (U8 k i c s).1.length = s.length + k
  | 0, i, c, s => rfl
  | k + 1, i, c, s => by rw [U8, A9s k]; simp; omega
theorem B37 : ∀ (k i : Nat) {c : Cur} (s : Str), D5 c → D5 (U8 k i c s).2
  | 0, i, c, s, h => h
  | k + 1, i, c, s, h => by rw [U8]; exact B37 k _ _ (Be h)
theorem B2o (c : Cur) : 0 ≤ G8 c Kw ∧ G8 c Kw ≤ 81 := by
  have h := A93 (c := c) (l := Kw) (by decide)
  have : (Kw.all fun n => decide (0 ≤ n) && decide (n ≤ 81)) = true := by decide
  have := List.all_eq_true.1 this _ h
  simpa using this
theorem Xo (c : Cur) : (Qc c).length ≤ 81 := by
  have := B2o c
  rw [Qc, A9s, Va]
  simp; omega
theorem Ut {c : Cur} (h : D5 c) : D5 (Me c) := B37 _ _ _ (Be h)
def Lp : List Int := [0, 1, 1, 1, 2, 3, 3, 3, 4, 5, 6, 7, 8, 8]
def C2m : List Int := [0, 1, 10, 16, 40, 79]
def C28 : List Int := [0, 1, 16, 50, 80, 81]
def B4l : List Str := [[], [65], [66, 67, 68], [48, 49, 50, 51, 52, 53, 54, 55, 56, 57, 97, 98, 99, 100, 101, 102, 88, 89]]
def C06 (k : Int) (p : Str) (t : Int) (c : Cur) : OpR :=
  if k = 8 then ⟨k, p, Mf c, 0, [], t⟩ else if k = 3 then ⟨k, p, [], G8 c C2m, Hi (Ak c 6) B4l, t⟩ else if k = 4 then ⟨k, p, [], G8 c C28, [], t⟩ else ⟨k, p, [], 0, Qc c, t⟩
def C0s (k : Int) (c : Cur) : Cur := if k = 8 then Nc c else if k = 3 then Ak (Ak c 6) 4 else if k = 4 then Ak c 6 else Me c
def opC (c : Cur) : Cur := Ak (Nc (Ak c 14)) 9
def opX (c : Cur) : OpR := C06 (G8 c Lp) (Mf (Ak c 14)) (C0 (Nc (Ak c 14)) 9) (opC c)
def opN (c : Cur) : Cur := C0s (G8 c Lp) (opC c)
def smD (o : OpR) : Prop := o.path.length ≤ 100 ∧ o.to.length ≤ 100 ∧ o.data.length ≤ 100
theorem C0y {c : Cur} (h : D5 c) : D5 (opC c) := Be (Ui (Be h))
theorem C3i {c : Cur} (h : D5 c) : D5 (opN c) := by
  have h := C0y h
  unfold opN C0s
  split
  · exact Ui h
  · split
    · exact Be (Be h)
    · split
      · exact Be h
      · exact Ut h
theorem C37 (c : Cur) : smD (opX c) := by
  have h1 := Zl (Ak c 14)
  have h2 := Zl (opC c)
  have h3 := Xo (opC c)
  have h4 : (Hi (Ak (opC c) 6) B4l).length ≤ 100 := V7 (by decide) (by decide)
  unfold opX C06 smD
  split
  · exact ⟨by show (Mf _).length ≤ _; omega, by show (Mf _).length ≤ _; omega, by simp⟩
  · split
    · exact ⟨by show (Mf _).length ≤ _; omega, by simp, h4⟩
    · split
      · exact ⟨by show (Mf _).length ≤ _; omega, by simp, by simp⟩
      · exact ⟨by show (Mf _).length ≤ _; omega, by simp, by show (Qc _).length ≤ _; omega⟩
def Ls : Nat → Cur → List OpR → List OpR × Cur
  | 0, c, l => (l, c)
  | k + 1, c, l => Ls k (opN c) (l ++ [opX c])
theorem A99 : ∀ (k : Nat) (c : Cur) (l : List OpR), (Ls k c l).1.length = l.length + k
  | 0, c, l => rfl
  | k + 1, c, l => by rw [Ls, A99 k]; simp; omega
theorem B4e : ∀ (k : Nat) (c : Cur) {l : List OpR}, (∀ o, o ∈ l → smD o) → ∀ o, o ∈ (Ls k c l).1 → smD o
  | 0, c, l, h => h
  | k + 1, c, l, h => by
    rw [Ls]
    refine B4e k _ fun o ho => ?_
    rcases List.mem_append.1 ho with ho | ho
    · exact h o ho
    · have : o = opX c := by simpa using ho
      rw [this]; exact C37 c
theorem leO {k a m : Int} {p t d : Str} {o : OpR} (h : o = ⟨k, p, t, a, d, m⟩) : Ud (.agg [.int .i64 k, .str p, .str t, .int .i64 a, .str d, .int .i64 m]) (.agg (Au o)) := by
  subst h; exact ⟨rfl, rfl, rfl, rfl, rfl, rfl, trivial⟩
end Go.GH


set_option linter.unusedVariables false
set_option linter.unusedSimpArgs false
namespace Go.GH
open Go
theorem Bu {a a' : AV} {l l' : List AV} (h : a = a') (h2 : l = l') : a :: l = a' :: l' := by rw [h, h2]
theorem Bz {l l' : List AV} (h : l = l') : AV.agg l = .agg l' := by rw [h]
theorem Bq {s : Nat} {x x' : List (List AV)} (h : x = x') : AV.rd s x = .rd s x' := by rw [h]
theorem Bx {s : Nat} {x x' : List (List AV)} (h : x = x') : AV.own s x = .own s x' := by rw [h]
theorem B5e {α : Type} {f : α → List AV} (h : ∀ a, ∀ c, c ∈ f a → c.isOwn = false) {l : List α} {o n : Nat} : ∀ r, r ∈ ((l.map f).drop o).take n → ∀ c, c ∈ r → c.isOwn = false := by
  intro r hr c hc
  obtain ⟨a, _, rfl⟩ := List.mem_map.1 (List.mem_of_mem_drop (List.mem_of_mem_take hr))
  exact h a c hc
theorem rdB (l : Str) : Cr (l.map Ag) = l.map Ag := Jb (fun _ => rfl) l
theorem rdN (l : List Int) : Cr (l.map Ae) = l.map Ae := Jb (fun _ => rfl) l
theorem tkM {α β : Type} {f : α → β} {l : List α} : (l.map f).take l.length = l.map f := by rw [← List.map_take, List.take_length]
def leb : Nat → Nat → Str
  | 0, n => [UInt8.ofNat n]
  | f + 1, n => if n > 127 then UInt8.ofNat (n % 128 + 128) :: leb f (n / 128) else [UInt8.ofNat n]
def Lo (n : Int) : Str := if inB n 0 2147483647 then leb 5 n.toNat else []
theorem B7i : ∀ (f n : Nat), (leb f n).length ≤ f + 1
  | 0, n => by simp [leb]
  | f + 1, n => by
    rw [leb]
    split
    · have := B7i f (n / 128); simp; omega
    · simp
theorem P2 (n : Int) : (Lo n).length ≤ 6 := by
  unfold Lo
  split
  · exact B7i _ _
  · simp
def gN (b : Str) (a : Int) : Nat → Nat → Nat → Option (Nat × Nat)
  | 0, k, n => none
  | f + 1, k, n =>
    if a < 0 ∨ a ≥ (b.length : Int) - k then none
    else if (b.getD (a + k).toNat 0).toNat < 128 then
      if (k > 0 ∧ (b.getD (a + k).toNat 0).toNat = 0) ∨ n ||| ((b.getD (a + k).toNat 0).toNat % 128) <<< (7 * k) > 2147483647 then none
      else some (n ||| ((b.getD (a + k).toNat 0).toNat % 128) <<< (7 * k), (a + k + 1).toNat)
    else gN b a f (k + 1) (n ||| ((b.getD (a + k).toNat 0).toNat % 128) <<< (7 * k))
def Ep (b : Str) (a : Int) : Option (Nat × Nat) := gN b a 5 0 0
theorem C2x {b : Str} {a : Int} : ∀ {f k n : Nat} {r : Nat × Nat}, gN b a f k n = some r → 0 ≤ a ∧ r.1 ≤ 2147483647 ∧ a.toNat < r.2 ∧ r.2 ≤ b.length
  | 0, k, n, r, h => by cases h
  | f + 1, k, n, r, h => by
    rw [gN] at h
    split at h
    · cases h
    rename_i h1
    split at h
    · split at h
      · cases h
      · rename_i h2 h3
        simp only [Option.some.injEq] at h
        subst h
        refine ⟨by omega, by omega, ?_, ?_⟩ <;> dsimp only <;> omega
    · exact C2x h
theorem V9 {b : Str} {a : Int} {n x : Nat} (h : Ep b a = some (n, x)) : 0 ≤ a ∧ n ≤ 2147483647 ∧ a.toNat < x ∧ x ≤ b.length := C2x h
def I0 (b : Str) (a : Int) : Option (Str × Nat) := match Ep b a with
  | none => none
  | some (n, x) => if n > b.length - x then none else some ((b.drop x).take n, x + n)
theorem B5f {b : Str} {a : Int} {s : Str} {x : Nat} (h : I0 b a = some (s, x)) : 0 ≤ a ∧ a.toNat + s.length < x ∧ x ≤ b.length := by
  unfold I0 at h
  split at h
  · cases h
  · rename_i n y hg
    split at h
    · cases h
    · rename_i h2
      simp only [Option.some.injEq, Prod.mk.injEq] at h
      obtain ⟨rfl, rfl⟩ := h
      have := V9 hg
      simp
      omega
def Rs (s : Str) : Str := Lo s.length ++ s
structure En where
  name : Str
  node : Int
def Ai (e : En) : List AV := [.str e.name, .int .i64 e.node]
theorem rdE (l : List En) : Cr (l.map Ai) = l.map Ai := Jb (fun _ => rfl) l
def Ru (e : En) : Str := Rs e.name ++ Lo e.node
def Fr (l : List En) : Str := l.flatMap Ru
def szE (l : List En) : Nat := (l.map fun e => e.name.length + 12).sum
theorem B3m (e : En) : (Ru e).length ≤ e.name.length + 12 := by
  have := P2 e.name.length
  have := P2 e.node
  simp [Ru, Rs]; omega
theorem Pq : ∀ (l : List En), (Fr l).length ≤ szE l
  | [] => by simp [Fr, szE]
  | e :: l => by
    have h1 := B3m e
    have h2 := Pq l
    simp only [Fr, szE, List.flatMap_cons, List.length_append, List.map_cons, List.sum_cons] at *
    omega
theorem U5 (e : En) (l : List En) : szE (e :: l) = e.name.length + 12 + szE l := by simp [szE]
theorem Xx (l m : List En) : szE (l ++ m) = szE l + szE m := by simp [szE]
theorem B79 : ∀ (l : List En), 12 * l.length ≤ szE l
  | [] => by simp
  | e :: l => by have := B79 l; rw [U5]; simp; omega
def hid : Str := [126]
def W3 (s : Str) : Bool := s == hid || Do s
def B72 (i : Nat) (e pv : En) : Bool := !W3 e.name || !inB e.node 1 9 || (decide ((i : Int) > 0) && (Co e.name pv.name || e.name == pv.name))
def Zq (l : List En) (i : Nat) : Bool := match l[i]? with
  | none => false
  | some e => !B72 i e (l.getD (i - 1) e) && !((l.take i).any fun x => x.node == e.node)
def Di (l : List En) : Bool := (List.range l.length).all (Zq l) && decide ((Fr l).length ≤ 80)
def A06 (b : Str) : Nat → Nat → List En → Option (List En)
  | 0, a, out => if a < b.length then none else some out
  | f + 1, a, out => if a < b.length then match I0 b a with
      | none => none
      | some (s, x) => match Ep b x with
        | none => none
        | some (n, y) => A06 b f y (out ++ [⟨s, n⟩])
    else some out
def Ra (s : Str) : Option (List En) := match A06 s s.length 0 [] with
  | none => none
  | some l => if Di l then some l else none
def Fj (l : List En) (s : Str) : Int := match l.find? fun e => e.name == s with
  | none => -1
  | some e => e.node
def Ry (l : List En) (s : Str) : Nat := l.findIdx fun e => Co s e.name
def Lm (l : List En) (e : En) : List En := l.take (Ry l e.name) ++ [e] ++ l.drop (Ry l e.name)
def Ha (l : List En) (e : En) : List En × Bool := if Di l && Di (Lm l e) then (Lm l e, true) else (l, false)
def Hb (l : List En) (s : Str) : List En := l.eraseP fun e => e.name == s
theorem orN {a b : Nat} (ha : a < 2 ^ 62) (hb : b < 2 ^ 62) : IntKind.i64.wrap (BitVec.ofInt IntKind.i64.bits (a : Int) ||| BitVec.ofInt IntKind.i64.bits (b : Int)).toNat = ((a ||| b : Nat) : Int) := by
  have h : ((BitVec.ofInt 64 (a : Int) ||| BitVec.ofInt 64 (b : Int)).toNat : Nat) = a ||| b := by
    rw [BitVec.toNat_or, BitVec.ofInt_natCast, BitVec.ofInt_natCast, BitVec.toNat_ofNat, BitVec.toNat_ofNat, Nat.mod_eq_of_lt (by omega), Nat.mod_eq_of_lt (by omega)]
  have h2 := Nat.or_lt_two_pow ha hb
  show IntKind.i64.wrap ((BitVec.ofInt 64 (a : Int) ||| BitVec.ofInt 64 (b : Int)).toNat : Int) = _
  rw [h]
  exact w64 (by omega)
theorem shN {d k : Nat} (hd : d < 128) (hk : k < 5) : (d <<< (7 * k) : Nat) < 2 ^ (7 * k + 7) ∧ d * 2 ^ (7 * k) = d <<< (7 * k) := by
  rw [Nat.shiftLeft_eq, Nat.pow_add]
  refine ⟨?_, rfl⟩
  rw [Nat.mul_comm]
  exact Nat.mul_lt_mul_of_pos_left (by omega) (Nat.two_pow_pos _)
end Go.GH
namespace Go.GH
theorem A2x (l : List En) (s : Str) : Ry l s ≤ l.length := List.findIdx_le_length
theorem B8y {l : List En} {s : Str} {j : Nat} {e : En} (h : l[j]? = some e) : j + ((l.drop j).findIdx fun e => Co s e.name) = if Co s e.name then j else j + 1 + ((l.drop (j + 1)).findIdx fun e => Co s e.name) := by
  have hj := (List.getElem?_eq_some_iff.1 h).1
  rw [List.drop_eq_getElem_cons hj, List.findIdx_cons, (List.getElem?_eq_some_iff.1 h).2]
  cases Co s e.name
  · simp; omega
  · simp
theorem A96 (l : List En) (e : En) : szE (Lm l e) = szE l + (e.name.length + 12) := by
  have h := Xx (l.take (Ry l e.name)) (l.drop (Ry l e.name))
  rw [List.take_append_drop] at h
  rw [Lm, Xx, Xx, h]
  simp [szE]; omega
theorem A2y (l : List En) (e : En) : (Lm l e).length = l.length + 1 := by
  have := A2x l e.name
  simp [Lm]; omega
theorem A2d {l : List En} {e x : En} (h : x ∈ Lm l e) : x = e ∨ x ∈ l := by
  simp only [Lm, List.mem_append, List.mem_singleton] at h
  rcases h with (h | h) | h
  · exact .inr (List.mem_of_mem_take h)
  · exact .inl h
  · exact .inr (List.mem_of_mem_drop h)
def smE (l : List En) : Prop := l.length ≤ 1048576 ∧ szE l ≤ 1099511627776 ∧ ∀ e, e ∈ l → e.name.length ≤ 1048576
theorem C1i {l : List En} {s : Str} {i : Nat} {e : En} (h : l[i]? = some e) (hn : ((l.take i).any fun e => e.name == s) = false) (he : (e.name == s) = true) : Hb l s = l.take i ++ l.drop (i + 1) := by
  have hj := (List.getElem?_eq_some_iff.1 h).1
  have hs : l = l.take i ++ e :: l.drop (i + 1) := by
    have := List.take_append_drop i l
    rw [List.drop_eq_getElem_cons hj, (List.getElem?_eq_some_iff.1 h).2] at this
    exact this.symm
  have h1 : Hb l s = Hb (l.take i ++ e :: l.drop (i + 1)) s := congrArg (fun x => Hb x s) hs
  rw [h1, Hb, List.eraseP_append_right _ (by
    intro b hb
    have := List.any_eq_false.1 hn b hb
    simpa using this), List.eraseP_cons_of_pos (p := fun e : En => e.name == s) (by simpa using he)]
theorem B9v {l : List En} {s : Str} (hn : (l.any fun e => e.name == s) = false) : Hb l s = l := by
  rw [Hb, List.eraseP_of_forall_not]
  intro a ha
  have := List.any_eq_false.1 hn a ha
  simpa using this
end Go.GH


set_option linter.unusedVariables false
set_option linter.unusedSimpArgs false
namespace Go.GH
open Go Go.Proofs
noncomputable def I7 : Bi := con [mS 1, mC] true (List Int × Int) (fun ⟨l, x⟩ => [.rd 1 (l.map Ae), .int .i64 x]) (fun x => x.1.length ≤ 4611686018427387904) (fun ⟨l, x⟩ => .bool (l.contains x))
noncomputable def B26 : Env := ⟨A4 Ba, A4 [], [0, 1, 4, 5, 9, 17]⟩
set_option maxRecDepth 100000 in
set_option maxHeartbeats 4000000 in
theorem B1z : Bb B26 (Ax Tryz.f200) Tryz.f200.results.toList I7 := by
  rintro ⟨l, x⟩ hl
  have hl : l.length ≤ 4611686018427387904 := hl
  refine ⟨trivial, ?_⟩
  skip
  refine B0 (fun i : Nat => ⟨[(0, ⟨none, .rd 1 (l.map Ae)⟩), (1, ⟨none, .int .i64 x⟩), (5, ⟨none, .int .i64 i⟩)], [], 0⟩) (fun i => i ≤ l.length ∧ (l.take i).contains x = false) (fun i => l.length - i) 0 ?_ ⟨by omega, rfl⟩ ?_
  · (refine ⟨?_, ?_, rfl⟩ <;> repeat' (first | exact rfl | exact trivial | refine ⟨?_, ?_⟩ | fail) <;> (conv => whnf))
  rintro i ⟨hi, hc⟩
  (conv => whnf); refine ⟨fun h1 => ?_, fun h1 => ?_⟩
  · have h1 : i < l.length := by simpa using h1
    obtain ⟨b, hb⟩ := B8 h1
    repeat ((conv => whnf); refine ⟨Ae b, fun _ => ⟨by omega, Am hb⟩, ?_⟩)
    (conv => whnf); refine ⟨fun h2 => ?_, fun h2 => ?_⟩
    · have h2 : (b == x) = true := h2
      have h2 : b = x := by simpa using h2
      skip
      refine ⟨trivial, eqB (Eq.symm ?_)⟩
      have hm : x ∈ l := by rw [← h2]; exact List.mem_of_getElem? hb
      simpa using hm
    · have h2 : (b == x) = false := h2
      repeat ((conv => whnf); refine ⟨_, w64 (bb), ?_⟩)
      refine C2 (i + 1) ?_ ⟨h1, ?_⟩ (by first | omega | (simp; done) | (simp; omega))
      · (refine ⟨?_, ?_, rfl⟩ <;> repeat' (first | exact rfl | exact trivial | refine ⟨?_, ?_⟩ | fail) <;> (conv => whnf))
      · rw [Bs hb]
        simp at h2 hc ⊢
        exact ⟨hc, fun e => h2 e.symm⟩
  · have h1 : i = l.length := by have : ¬ (i < l.length) := by simpa using h1
                                 omega
    subst h1
    rw [List.take_length] at hc
    skip
    exact ⟨trivial, eqB hc.symm⟩
theorem A8d : Av Tryz.prog 200 I7 := Ao (Ca _ _) FOk.nil mixed Tryz.func200 rfl Tryz.call200 (by decide) (by kernel_rfl) B1z (by intro _ (y : (List Int × Int)) _; exact ⟨by simp [I7, con, A9, A8, AV.noRd, A7, Ab, A5, A6, Ae, Ag, Ai], by simp [I7, con, A9, A8, AV.noRd, A7, Ab, A5, A6, Ae, Ag, Ai]⟩) (by intro (y : (List Int × Int)) _; first | (simp [I7, con, A9, A8, Ad, AV.free, A2, A3, A1, A6, Ae, Ag, Ai]; done) | (obtain ⟨_, _⟩ := y; simp [I7, con, A9, A8, Ad, AV.free, A2, A3, A1, A6, Ae, Ag, Ai]; done) | (obtain ⟨_, _, _⟩ := y; simp [I7, con, A9, A8, Ad, AV.free, A2, A3, A1, A6, Ae, Ag, Ai]; done))
noncomputable def I8 : Bi := con [mC, mC] true (Int × Int) (fun ⟨a, b⟩ => [.int .i64 a, .int .i64 b]) (fun _ => True) (fun ⟨a, b⟩ => .int .i64 (if a < b then a else b))
noncomputable def B19 : Env := ⟨A4 Ba, A4 [], [0, 1, 4, 7]⟩
set_option maxRecDepth 100000 in
set_option maxHeartbeats 4000000 in
theorem B0j : Bb B19 (Ax Tryz.f201) Tryz.f201.results.toList I8 := by
  rintro ⟨a, b⟩ _
  refine ⟨trivial, ?_⟩
  (conv => whnf); refine ⟨fun h1 => ?_, fun h1 => ?_⟩
  · have h1 : a < b := by simpa using h1
    skip
    exact ⟨trivial, Nr (by rw [if_pos h1])⟩
  · have h1 : ¬ a < b := by simpa using h1
    skip
    exact ⟨trivial, Nr (by rw [if_neg h1])⟩
theorem A7j : Av Tryz.prog 201 I8 := Ao (Ca _ _) FOk.nil mixed Tryz.func201 rfl Tryz.call201 (by decide) (by kernel_rfl) B0j (by intro _ (y : (Int × Int)) _; exact ⟨by simp [I8, con, A9, A8, AV.noRd, A7, Ab, A5, A6, Ae, Ag, Ai], by simp [I8, con, A9, A8, AV.noRd, A7, Ab, A5, A6, Ae, Ag, Ai]⟩) (by intro (y : (Int × Int)) _; first | (simp [I8, con, A9, A8, Ad, AV.free, A2, A3, A1, A6, Ae, Ag, Ai]; done) | (obtain ⟨_, _⟩ := y; simp [I8, con, A9, A8, Ad, AV.free, A2, A3, A1, A6, Ae, Ag, Ai]; done) | (obtain ⟨_, _, _⟩ := y; simp [I8, con, A9, A8, Ad, AV.free, A2, A3, A1, A6, Ae, Ag, Ai]; done))
noncomputable def Ey : Bi := con [mC] false Int (fun n => [.int .i64 n]) (fun _ => True) (fun n => .own 1 ((Lo n).map Ag))
noncomputable def A6o : Env := ⟨A4 Ba, A4 [(76, Ch)], [0, 2, 3, 7, 10]⟩
set_option maxRecDepth 100000 in
set_option maxHeartbeats 4000000 in
theorem A5b : Bb A6o (Ax Tryz.f208) Tryz.f208.results.toList Ey := by
  intro (n : Int) _
  refine ⟨trivial, ?_⟩
  skip
  refine ⟨(n, 0, 2147483647), rfl, fun _ => trivial, ?_⟩
  (conv => whnf); refine ⟨fun h1 => ?_, fun h1 => ?_⟩
  · have h1 : inB n 0 2147483647 = false := by simpa using h1
    skip
    rw [show Ey.res n = .own 1 [] by show AV.own 1 ((Lo n).map Ag) = _; rw [Lo, if_neg (by rw [h1]; decide)]; rfl]
    exact ⟨trivial, rfl, rfl⟩
  · have h1 : inB n 0 2147483647 = true := by simpa using h1
    have hn : 0 ≤ n ∧ n ≤ 2147483647 := by simpa [inB] using h1
    have hp : Lo n = leb 5 n.toNat := by rw [Lo, if_pos h1]
    refine B0 (fun ((m, o, t) : Nat × Str × Nat) => ⟨[(0, ⟨none, .int .i64 m⟩), (3, ⟨none, .view 0 [] 0 o.length⟩)], [(0, .own 1 (o.map Ag))], 1⟩)
      (fun (m, o, t) => m ≤ 2147483647 ∧ o.length + t = 5 ∧ m < 128 ^ t * 8 ∧ o ++ leb t m = Lo n) (fun x => x.2.2) (n.toNat, [], 5) ?_ ⟨by omega, rfl, by omega, hp.symm⟩ ?_
    · (refine ⟨?_, ?_, rfl⟩ <;> repeat' (first | exact rfl | exact trivial | refine ⟨?_, ?_⟩ | fail) <;> (conv => whnf))
      all_goals first | rfl | (simp; omega)
    rintro ⟨m, o, t⟩ ⟨hm, ho, ht, hI⟩
    (conv => whnf); refine ⟨fun h2 => ?_, fun h2 => ?_⟩
    · have h2 : 127 < m := by have h2 : decide ((m : Int) > 127) = true := h2
                              simp at h2; omega
      obtain ⟨t, rfl⟩ : ∃ u, t = u + 1 := ⟨t - 1, by
        have : t ≠ 0 := fun e => by subst e; simp at ht; omega
        omega⟩
      rw [leb, if_pos h2] at hI
      repeat ((conv => whnf); refine ⟨bb, ?_⟩)
      refine ⟨((m % 128 : Nat) : Int), by show ((m : Int)).tmod 128 = _; rfl, ?_⟩
      repeat ((conv => whnf); refine ⟨_, w64 (bb), ?_⟩)
      refine ⟨((m % 128 + 128 : Nat) : Int), by show Int.ofNat ((m % 128 + 128) % 256) = _; rw [Nat.mod_eq_of_lt (by omega)]; rfl, ?_⟩
      repeat ((conv => whnf); first | refine ⟨bb, ?_⟩ | refine ⟨fun (r : List AV) hr c hc => by simp [A6] at hr; (try subst hr); simp at hc; (try subst hc); rfl, ?_⟩)
      refine ⟨((m / 128 : Nat) : Int), by
        show IntKind.i64.wrap ((m : Int).tdiv 128) = _
        rw [show (m : Int).tdiv 128 = ((m / 128 : Nat) : Int) from rfl]
        exact w64 (by omega), ?_⟩
      skip
      refine C2 (m / 128, o ++ [UInt8.ofNat (m % 128 + 128)], t) ?_ ⟨by omega, by simp; omega, by rw [Nat.pow_succ] at ht; omega, by rw [← hI]; simp⟩ (by first | omega | (simp; done) | (simp; omega))
      (refine ⟨?_, ?_, rfl⟩ <;> repeat' (first | exact rfl | exact trivial | refine ⟨?_, ?_⟩ | fail) <;> (conv => whnf))
      all_goals first | rfl | (simp [Ag]; done) | (simp [Ag, List.take_of_length_le]; omega)
    · have h2 : ¬ 127 < m := by have h2 : decide ((m : Int) > 127) = false := h2
                                simp at h2; omega
      have hl : leb t m = [UInt8.ofNat m] := by
        cases t with
        | zero => rfl
        | succ t => rw [leb, if_neg h2]
      rw [hl] at hI
      refine ⟨(m : Int), by show Int.ofNat (m % 256) = _; rw [Nat.mod_eq_of_lt (by omega)]; rfl, ?_⟩
      repeat ((conv => whnf); first | refine ⟨bb, ?_⟩ | refine ⟨fun (r : List AV) hr c hc => by simp [A6] at hr; (try subst hr); simp at hc; (try subst hc); rfl, ?_⟩)
      rw [show Ey.res n = .own 1 ((o ++ [UInt8.ofNat m]).map Ag) by rw [hI]; rfl]
      refine ⟨trivial, rfl, ?_⟩
      have : m < 256 := by omega
      simp [Ag, List.take_of_length_le]; omega
theorem U3 : Av Tryz.prog 208 Ey := Ao (Ca _ _) (FOk.cons Db FOk.nil) mixed Tryz.func208 rfl Tryz.call208 (by decide) (by kernel_rfl) A5b (by intro _ (y : Int) _; exact ⟨by simp [Ey, con, A9, A8, AV.noRd, A7, Ab, A5, A6, Ae, Ag, Ai], by simp [Ey, con, A9, A8, AV.noRd, A7, Ab, A5, A6, Ae, Ag, Ai]⟩) (by intro (y : Int) _; first | (simp [Ey, con, A9, A8, Ad, AV.free, A2, A3, A1, A6, Ae, Ag, Ai]; done) | (obtain ⟨_, _⟩ := y; simp [Ey, con, A9, A8, Ad, AV.free, A2, A3, A1, A6, Ae, Ag, Ai]; done) | (obtain ⟨_, _, _⟩ := y; simp [Ey, con, A9, A8, Ad, AV.free, A2, A3, A1, A6, Ae, Ag, Ai]; done))
noncomputable def Fb : Bi := con [mS 1, mC] false (Str × Int) (fun ⟨b, a⟩ => [.rd 1 (b.map Ag), .int .i64 a]) (fun x => x.1.length ≤ 4611686018427387904) (fun ⟨b, a⟩ => .tup [.int .i64 (((Ep b a).getD (0, 0)).1 : Nat), .int .i64 (((Ep b a).getD (0, 0)).2 : Nat), .bool (Ep b a).isSome])
noncomputable def A74 : Env := ⟨A4 Ba, A4 [], [0, 1, 4, 5, 6, 7, 8, 9, 11, 23, 39, 49]⟩
set_option maxRecDepth 100000 in
set_option maxHeartbeats 4000000 in
theorem A88 : Bb A74 (Ax Tryz.f203) Tryz.f203.results.toList Fb := by
  rintro ⟨b, a⟩ hb
  have hb : b.length ≤ 4611686018427387904 := hb
  refine ⟨trivial, ?_⟩
  have fin : ∀ {o : Option (Nat × Nat)}, o = Ep b a → Fb.res (b, a) = .tup [.int .i64 ((o.getD (0, 0)).1 : Nat), .int .i64 ((o.getD (0, 0)).2 : Nat), .bool o.isSome] := fun h => by rw [h]; rfl
  skip
  refine B0 (fun ((k, n) : Nat × Nat) => ⟨[(0, ⟨none, .rd 1 (b.map Ag)⟩), (1, ⟨none, .int .i64 a⟩), (7, ⟨none, .int .i64 n⟩), (8, ⟨none, .int .i64 k⟩)], [], 0⟩)
    (fun (k, n) => k ≤ 5 ∧ n < 2 ^ (7 * k) ∧ gN b a (5 - k) k n = Ep b a) (fun x => 5 - x.1) (0, 0) ?_ ⟨by omega, by omega, rfl⟩ ?_
  · (refine ⟨?_, ?_, rfl⟩ <;> repeat' (first | exact rfl | exact trivial | refine ⟨?_, ?_⟩ | fail) <;> (conv => whnf))
  rintro ⟨k, n⟩ ⟨hk, hn, hI⟩
  (conv => whnf); refine ⟨fun h1 => ?_, fun h1 => ?_⟩
  · have h1 : k < 5 := by have h1 : decide ((k : Int) < 5) = true := h1
                          simp at h1; omega
    obtain ⟨f, hf⟩ : ∃ f, 5 - k = f + 1 := ⟨4 - k, by omega⟩
    have hf2 : 5 - (k + 1) = f := by omega
    rw [hf, gN] at hI
    have hn2 : n < 2 ^ 35 := Nat.lt_of_lt_of_le hn (Nat.pow_le_pow_right (by omega) (by omega))
    repeat ((conv => whnf); first | refine ⟨fun h => h, ?_⟩ | refine ⟨_, w64 (bb), ?_⟩)
    (conv => whnf); refine ⟨fun h2 => ?_, fun h2 => ?_⟩
    · have h2 : a < 0 ∨ a ≥ (b.length : Int) - k := by
        have h2 : (decide (a < 0) || decide (a ≥ (((b.map Ag).length : Nat) : Int) - k)) = true := h2
        rw [List.length_map] at h2
        simpa using h2
      rw [if_pos h2] at hI
      skip
      rw [fin hI]
      exact ⟨trivial, rfl, rfl, rfl, trivial⟩
    have h2 : ¬ (a < 0 ∨ a ≥ (b.length : Int) - k) := by
      have h2 : (decide (a < 0) || decide (a ≥ (((b.map Ag).length : Nat) : Int) - k)) = false := h2
      rw [List.length_map] at h2
      simp at h2
      omega
    rw [if_neg h2] at hI
    obtain ⟨x, hx⟩ := B8 (l := b) (i := (a + k).toNat) (by omega)
    have hx1 : b.getD (a + k).toNat 0 = x := by rw [List.getD_eq_getElem?_getD, hx]; rfl
    have hxl := x.toNat_lt
    rw [hx1] at hI
    obtain ⟨s1, s2⟩ := shN (d := x.toNat % 128) (k := k) (by omega) h1
    have s3 : (x.toNat % 128) <<< (7 * k) < 2 ^ 35 := Nat.lt_of_lt_of_le s1 (Nat.pow_le_pow_right (by omega) (by omega))
    have s4 : n ||| (x.toNat % 128) <<< (7 * k) < 2 ^ (7 * k + 7) := Nat.or_lt_two_pow (Nat.lt_of_lt_of_le hn (Nat.pow_le_pow_right (by omega) (by omega))) s1
    repeat ((conv => whnf); first | refine ⟨_, w64 (bb), ?_⟩ | refine ⟨bb, ?_⟩ | refine ⟨Ag x, fun _ => ⟨by omega, Am hx⟩, ?_⟩)
    refine ⟨((x.toNat % 128 : Nat) : Int), rfl, ?_⟩
    repeat ((conv => whnf); first | refine ⟨_, w64 (bb), ?_⟩ | refine ⟨bb, ?_⟩)
    refine ⟨(((x.toNat % 128) <<< (7 * k) : Nat) : Int), by
      show IntKind.i64.wrap (((x.toNat % 128 : Nat) : Int) * 2 ^ min (7 * (k : Int)).toNat 64) = _
      rw [show min (7 * (k : Int)).toNat 64 = 7 * k by omega, ← s2]
      rw [← s2] at s3
      rw [show (((x.toNat % 128 : Nat) : Int) * 2 ^ (7 * k)) = ((x.toNat % 128 * 2 ^ (7 * k) : Nat) : Int) by rw [Int.natCast_mul, Int.natCast_pow]; rfl]
      exact w64 (by omega), ?_⟩
    skip
    refine ⟨((n ||| (x.toNat % 128) <<< (7 * k) : Nat) : Int), orN (by omega) (by omega), ?_⟩
    generalize hm : n ||| (x.toNat % 128) <<< (7 * k) = m at hI s4 ⊢
    skip
    (conv => whnf); refine ⟨fun h3 => ?_, fun h3 => ?_⟩
    · have h3 : x.toNat < 128 := by have h3 : decide ((x.toNat : Int) < 128) = true := h3
                                    simp at h3; omega
      rw [if_pos h3] at hI
      repeat ((conv => whnf); refine ⟨fun h => h, ?_⟩)
      (conv => whnf); refine ⟨fun h4 => ?_, fun h4 => ?_⟩
      · have h4 : (k > 0 ∧ x.toNat = 0) ∨ m > 2147483647 := by
          have h4 : ((decide ((k : Int) > 0) && ((x.toNat : Int) == 0)) || decide ((m : Int) > 2147483647)) = true := h4
          simp at h4
          omega
        rw [if_pos h4] at hI
        skip
        rw [fin hI]
        exact ⟨trivial, rfl, rfl, rfl, trivial⟩
      · have h4 : ¬ ((k > 0 ∧ x.toNat = 0) ∨ m > 2147483647) := by
          have h4 : ((decide ((k : Int) > 0) && ((x.toNat : Int) == 0)) || decide ((m : Int) > 2147483647)) = false := h4
          simp at h4
          omega
        rw [if_neg h4] at hI
        repeat ((conv => whnf); refine ⟨_, w64 (bb), ?_⟩)
        rw [fin hI]
        refine ⟨trivial, rfl, Nr ?_, rfl, trivial⟩
        show _ = (((a + k + 1).toNat : Nat) : Int)
        omega
    · have h3 : ¬ x.toNat < 128 := by have h3 : decide ((x.toNat : Int) < 128) = false := h3
                                      simp at h3; omega
      rw [if_neg h3] at hI
      repeat ((conv => whnf); refine ⟨_, w64 (bb), ?_⟩)
      refine C2 (k + 1, m) ?_ ⟨by omega, by rw [show 7 * (k + 1) = 7 * k + 7 by omega]; exact s4, by rw [hf2]; exact hI⟩ (by show 5 - (k + 1) < 5 - k; omega)
      (refine ⟨?_, ?_, rfl⟩ <;> repeat' (first | exact rfl | exact trivial | refine ⟨?_, ?_⟩ | fail) <;> (conv => whnf))
  · have h1 : k = 5 := by have h1 : decide ((k : Int) < 5) = false := h1
                          simp at h1; omega
    subst h1
    skip
    rw [fin hI]
    exact ⟨trivial, rfl, rfl, rfl, trivial⟩
theorem Ue : Av Tryz.prog 203 Fb := Ao (Ca _ _) FOk.nil mixed Tryz.func203 rfl Tryz.call203 (by decide) (by kernel_rfl) A88 (by intro _ (y : (Str × Int)) _; exact ⟨by simp [Fb, con, A9, A8, AV.noRd, A7, Ab, A5, A6, Ae, Ag, Ai], by simp [Fb, con, A9, A8, AV.noRd, A7, Ab, A5, A6, Ae, Ag, Ai]⟩) (by intro (y : (Str × Int)) _; first | (simp [Fb, con, A9, A8, Ad, AV.free, A2, A3, A1, A6, Ae, Ag, Ai]; done) | (obtain ⟨_, _⟩ := y; simp [Fb, con, A9, A8, Ad, AV.free, A2, A3, A1, A6, Ae, Ag, Ai]; done) | (obtain ⟨_, _, _⟩ := y; simp [Fb, con, A9, A8, Ad, AV.free, A2, A3, A1, A6, Ae, Ag, Ai]; done))
end Go.GH


