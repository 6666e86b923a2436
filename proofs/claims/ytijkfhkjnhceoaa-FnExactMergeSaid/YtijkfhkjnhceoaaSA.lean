import Derived.Test.YtijkfhkjnhceoaaGD
import Derived.Shelf.Strings.OnBuilder
import Derived.Test.YtijkfhkjnhceoaaChecked
import Derived.Shelf.Strings.Builder1
import Derived.Shelf.Strings.Builder2
import Derived.Shelf.Small.Bits
import Derived.Shelf.Small.Strs
import Derived.Shelf.Strings.BuilderF
import Derived.Shelf.Strings.BuilderK
import Derived.Shelf.Strings.Builder2Cap
import Derived.Shelf.Strconv.Itoa0
import Derived.Shelf.Strings.Prefix
set_option linter.unusedVariables false
set_option linter.unusedSimpArgs false
namespace Go.GH
open Go
abbrev Str := List UInt8
def mC : Mode := .rd [none]
def mS (k : Nat) : Mode := .rd [some k]
def con (ms : List Mode) (sc : Bool) (α : Type) (enc : α → List AV) (pre : α → Prop) (res : α → AV) : PCon := ⟨ms, sc, false, α, enc, pre, res, fun _ => []⟩
def encS (s : Str) : List AV := [.str s]
def inB (x lo hi : Int) : Bool := decide (x ≥ lo) && decide (x ≤ hi)
def splitBy (c : UInt8) : Str → List Str
  | [] => [[]]
  | x :: r => if x = c then [] :: splitBy c r else match splitBy c r with
    | h :: t => (x :: h) :: t
    | [] => [[x]]
theorem splitBy_ne (c : UInt8) : ∀ s, splitBy c s ≠ []
  | [] => by simp [splitBy]
  | x :: r => by
    unfold splitBy
    split
    · simp
    · split <;> simp
theorem splitBy_none {c : UInt8} : ∀ {a : Str}, (∀ x, x ∈ a → x ≠ c) → splitBy c a = [a]
  | [], _ => rfl
  | x :: r, h => by
    rw [splitBy, if_neg (h x (by simp)), splitBy_none (a := r) fun y hy => h y (by simp [hy])]
theorem splitBy_at {c : UInt8} {b : Str} : ∀ {a : Str}, (∀ x, x ∈ a → x ≠ c) → splitBy c (a ++ c :: b) = a :: splitBy c b
  | [], _ => by simp [splitBy]
  | x :: r, h => by
    rw [List.cons_append, splitBy, if_neg (h x (by simp)), splitBy_at (a := r) fun y hy => h y (by simp [hy])]
theorem splitBy_len {c : UInt8} : ∀ (s : Str), (splitBy c s).length ≤ s.length + 1
  | [] => by simp [splitBy]
  | x :: r => by
    have := splitBy_len (c := c) r
    unfold splitBy
    split
    · simp; omega
    · split
      · rename_i h t heq; rw [heq] at this; simp at this ⊢; omega
      · simp
theorem splitBy_mem {c : UInt8} : ∀ (s : Str) (p : Str), p ∈ splitBy c s → p.length ≤ s.length
  | [], p, h => by simp [splitBy] at h; subst h; simp
  | x :: r, p, h => by
    unfold splitBy at h
    split at h
    · rcases List.mem_cons.1 h with rfl | h
      · simp
      · have := splitBy_mem r p h; simp; omega
    · split at h
      · rename_i h' t heq
        rcases List.mem_cons.1 h with rfl | h
        · have := splitBy_mem (c := c) r h' (by rw [heq]; simp)
          simp; omega
        · have := splitBy_mem (c := c) r p (by rw [heq]; simp [h])
          simp; omega
      · simp at h; subst h; simp
def isNm (b : UInt8) : Bool := (decide ((b.toNat : Int) ≥ 97) && decide ((b.toNat : Int) ≤ 122)) || (decide ((b.toNat : Int) ≥ 48) && decide ((b.toNat : Int) ≤ 57))
theorem isNm' (b : UInt8) : ((decide ((b.toNat : Int) < 97) || decide ((b.toNat : Int) > 122)) && (decide ((b.toNat : Int) < 48) || decide ((b.toNat : Int) > 57))) = !isNm b := by
  unfold isNm
  by_cases h1 : (b.toNat : Int) < 97 <;> by_cases h2 : (b.toNat : Int) > 122 <;> by_cases h3 : (b.toNat : Int) < 48 <;> by_cases h4 : (b.toNat : Int) > 57 <;> simp [h1, h2, h3, h4, Int.not_le.2, Int.not_lt.1] <;> omega
def nameOk (s : Str) : Bool := inB s.length 1 6 && s.all isNm
theorem take_succ' {α : Type} {l : List α} {i : Nat} {x : α} (h : l[i]? = some x) : l.take (i + 1) = l.take i ++ [x] := by
  rw [List.take_add_one, h]; rfl
@[simp] theorem take_map_len {α β : Type} (f : α → β) (l : List α) : (l.map f).take l.length = l.map f := by
  rw [List.take_of_length_le (by simp)]
theorem take_app {α : Type} {a b : List α} : (a ++ b).take (a.length + b.length) = a ++ b := by
  rw [List.take_of_length_le (by simp)]
@[simp] theorem take_rest {α : Type} {l : List α} {k : Nat} : (l.drop k).take (l.length - k) = l.drop k := by
  rw [List.take_of_length_le (by simp)]
theorem get_lt {α : Type} {l : List α} {i : Nat} (h : i < l.length) : ∃ x, l[i]? = some x := ⟨l[i], List.getElem?_eq_getElem h⟩
theorem lt_of_get {α : Type} {l : List α} {i : Nat} {x : α} (h : l[i]? = some x) : i < l.length := by
  rcases Nat.lt_or_ge i l.length with hl | hl
  · exact hl
  · rw [List.getElem?_eq_none hl] at h; cases h
theorem get_map {α β : Type} {l : List α} {f : α → β} {i : Nat} {x : α} (h : l[i]? = some x) : (l.map f)[i]? = some (f x) := by simp [h]
theorem noRdRows_map {α : Type} {f : α → List AV} (h : ∀ a, noRdCells (f a)) : ∀ (l : List α), noRdRows (l.map f)
  | [] => trivial
  | a :: l => ⟨h a, noRdRows_map h l⟩
theorem noRdRows_map' {α : Type} {f : α → List AV} {l : List α} : noRdRows (l.map f) ↔ ∀ a, a ∈ l → noRdCells (f a) := by
  induction l with
  | nil => simp [noRdRows]
  | cons a l ih => simp [noRdRows, ih]
theorem encS_noRd (s : Str) : noRdCells (encS s) := ⟨trivial, trivial⟩
theorem toRdRows_map {α : Type} {f : α → List AV} (h : ∀ a, toRdCells (f a) = f a) (l : List α) : toRdRows (l.map f) = l.map f := by
  induction l with
  | nil => rfl
  | cons a l ih => simp [toRdRows, ih, h]
theorem rdS (l : List Str) : toRdRows (l.map encS) = l.map encS := toRdRows_map (fun _ => rfl) l
theorem cutS (l : List Str) (a b : Nat) : toRdRows (((l.map encS).drop a).take b) = ((l.drop a).take b).map encS := by
  rw [← List.map_drop, ← List.map_take, rdS]
theorem eqB {a b : Bool} (h : a = b) : leVal (.bool a) (.bool b) := by subst h; rfl
theorem eqN' {k : IntKind} {a b : Int} (h : a = b) : leVal (.int k a) (.int k b) := by subst h; rfl
theorem eqS {a b : Str} (h : a = b) : leVal (.str a) (.str b) := by subst h; rfl
theorem noOwn {rows : List (List AV)} (h : (rows.all fun r => r.all fun c => !c.isOwn) = true) : ∀ (r : List AV), r ∈ rows → ∀ c, c ∈ r → c.isOwn = false := by
  intro r hr c hc
  have := List.all_eq_true.1 (List.all_eq_true.1 h r hr) c hc
  simpa using this
theorem lns : (∀ {α : Type} (n : Nat) (l : List α), (l.take n).length = min n l.length) ∧ (∀ {α : Type} (n : Nat) (l : List α), (l.drop n).length = l.length - n) ∧ (∀ {α β : Type} (f : α → β) (l : List α), (l.map f).length = l.length) ∧ (∀ {α : Type} (a b : List α), (a ++ b).length = a.length + b.length) ∧
    (∀ {α : Type} (a : α) (l : List α), (a :: l).length = l.length + 1) ∧ (∀ {α : Type}, ([] : List α).length = 0) ∧ (∀ {α : Type} (n : Nat) (a : α), (List.replicate n a).length = n) :=
  ⟨fun _ _ => List.length_take, fun _ _ => List.length_drop, fun _ _ => List.length_map _, fun _ _ => List.length_append, fun _ _ => List.length_cons, List.length_nil, fun _ _ => List.length_replicate⟩
theorem fin_tup {vs us : List AV} {res : AV} (h : res = .tup us) (hl : leVals vs us) : match res with
    | .tup us => leVals vs us
    | _ => False := by subst h; exact hl
theorem eqNil {s : Nat} {b : List (List AV)} (h : b = []) : leVal .nils (.own s b) := by subst h; rfl
theorem eqOwn {s : Nat} {a b : List (List AV)} (h : a = b) : leVal (.own s a) (.own s b) := by subst h; exact ⟨rfl, rfl⟩
end Go.GH

set_option linter.unusedVariables false
namespace Go.GH
open Go
structure SplitInv (c : UInt8) (s : Str) (i fr : Nat) (out : List Str) : Prop where
  le : fr ≤ i
  il : i ≤ s.length
  no : ∀ x, x ∈ (s.drop fr).take (i - fr) → x ≠ c
  eq : splitBy c s = out ++ splitBy c (s.drop fr)
  len : out.length ≤ fr
theorem drop_cut {α : Type} {s : List α} {fr i : Nat} {b : α} (h : fr ≤ i) (hb : s[i]? = some b) : s.drop fr = (s.drop fr).take (i - fr) ++ b :: s.drop (i + 1) := by
  have hi := lt_of_get hb
  rw [← List.take_append_drop (i - fr) (s.drop fr)]
  congr 1
  · rw [List.take_append_drop]
  · rw [List.drop_drop, show fr + (i - fr) = i by omega, ← List.getElem_cons_drop hi]
    congr 1
    rw [List.getElem?_eq_getElem hi] at hb
    exact Option.some.inj hb
theorem SplitInv.zero (c : UInt8) (s : Str) : SplitInv c s 0 0 [] := ⟨by omega, by omega, by simp, rfl, by simp⟩
theorem SplitInv.pass {c : UInt8} {s : Str} {i fr : Nat} {out : List Str} (h : SplitInv c s i fr out) {b : UInt8} (hb : s[i]? = some b) (hc : b ≠ c) : SplitInv c s (i + 1) fr out := by
  have hi := lt_of_get hb
  have hle := h.le
  refine ⟨by omega, by omega, fun x hx => ?_, h.eq, h.len⟩
  rw [show i + 1 - fr = (i - fr) + 1 by omega, List.take_add_one, List.mem_append] at hx
  rcases hx with hx | hx
  · exact h.no x hx
  · rw [List.getElem?_drop, show fr + (i - fr) = i by omega, hb] at hx
    simp at hx
    exact hx ▸ hc
theorem SplitInv.hit {c : UInt8} {s : Str} {i fr : Nat} {out : List Str} (h : SplitInv c s i fr out) {b : UInt8} (hb : s[i]? = some b) (hc : b = c) : SplitInv c s (i + 1) (i + 1) (out ++ [(s.drop fr).take (i - fr)]) := by
  have hi := lt_of_get hb
  have hle := h.le
  have hlen := h.len
  subst hc
  refine ⟨by omega, by omega, by simp, ?_, by simp; omega⟩
  rw [h.eq, drop_cut hle hb, splitBy_at h.no]
  have e : ((s.drop fr).take (i - fr) ++ b :: s.drop (i + 1)).take (i - fr) = (s.drop fr).take (i - fr) := by
    rw [← drop_cut hle hb]
  simp [e]
theorem SplitInv.fin {c : UInt8} {s : Str} {fr : Nat} {out : List Str} (h : SplitInv c s s.length fr out) : splitBy c s = out ++ [(s.drop fr).take (s.length - fr)] := by
  have e : (s.drop fr).take (s.length - fr) = s.drop fr := by rw [List.take_of_length_le (by simp)]
  have hn := h.no
  rw [e] at hn
  rw [h.eq, e, splitBy_none hn]
theorem SplitInv.fin' {c : UInt8} {s : Str} {fr : Nat} {out : List Str} (h : SplitInv c s s.length fr out) : splitBy c s = out ++ [s.drop fr] := by
  rw [h.fin, List.take_of_length_le (by simp)]
theorem byteEq {a b : UInt8} : (((a.toNat : Int) == (b.toNat : Int)) = true) ↔ a = b := by
  rw [beq_iff_eq]
  constructor
  · intro h
    have h : a.toNat = b.toNat := by omega
    exact UInt8.toNat_inj.1 h
  · rintro rfl; rfl
def sml (n : Nat) : Prop := n ≤ 4194304
def sml1 (n : Nat) : Prop := n ≤ 4194305
end Go.GH

set_option linter.unusedVariables false
set_option linter.unusedSimpArgs false
namespace Go.GH
open Go
def sl : Str := [47]
def pathOk (p : Str) : Bool := (p == sl) || (inB (splitBy 47 p).length 2 5 && ((splitBy 47 p).headD [] == []) && ((splitBy 47 p).drop 1).all nameOk)
def names (p : Str) : List Str := if pathOk p && !(p == sl) then (splitBy 47 p).drop 1 else []
def cat : List Str → Str
  | [] => []
  | a :: r => 47 :: (a ++ cat r)
def cat1 (l : List Str) : Str := match l with
  | [] => sl
  | l => cat l
def pathOf (l : List Str) : Str := if decide (l.length ≤ 4) && l.all nameOk then cat1 l else []
def above (p : Str) : Str := if pathOk p then pathOf ((names p).take ((names p).length - 1)) else []
theorem cat_append : ∀ (a b : List Str), cat (a ++ b) = cat a ++ cat b
  | [], b => rfl
  | x :: a, b => by simp [cat, cat_append a b]
theorem nameOk_no {s : Str} (h : nameOk s = true) : ∀ x, x ∈ s → x ≠ 47 := by
  simp only [nameOk, Bool.and_eq_true, List.all_eq_true] at h
  rintro x hx rfl
  have := h.2 _ hx
  revert this; decide
theorem split_first {c : UInt8} : ∀ (a b : Str), ∃ x, splitBy c (a ++ c :: b) = splitBy c a ++ x :: ((splitBy c b).drop 1) ∧ x = (splitBy c b).headD []
  | [], b => by
    have := splitBy_ne c b
    cases h : splitBy c b with
    | nil => exact absurd h this
    | cons y r => exact ⟨y, by simp [splitBy, h], rfl⟩
  | y :: a, b => by
    obtain ⟨x, h1, h2⟩ := split_first (c := c) a b
    refine ⟨x, ?_, h2⟩
    simp only [List.cons_append, splitBy]
    split
    · rw [h1]; rfl
    · rw [h1]
      have := splitBy_ne c a
      cases h : splitBy c a with
      | nil => exact absurd h this
      | cons z r => rfl
theorem split_cons {c : UInt8} (a b : Str) : splitBy c (a ++ c :: b) = splitBy c a ++ splitBy c b := by
  obtain ⟨x, h1, h2⟩ := split_first (c := c) a b
  rw [h1, h2]
  have := splitBy_ne c b
  cases h : splitBy c b with
  | nil => exact absurd h this
  | cons y r => rfl
theorem split_cat_len : ∀ (l : List Str), (splitBy 47 (cat l)).length = 1 + (l.map fun a => (splitBy 47 a).length).sum ∨ l = [] := by
  intro l
  induction l with
  | nil => exact .inr rfl
  | cons a r ih =>
    left
    simp only [cat, splitBy, if_pos, List.length_cons, List.map_cons, List.sum_cons]
    rcases ih with ih | rfl
    · cases r with
      | nil => simp [cat]; omega
      | cons b r =>
        simp only [cat] at ih ⊢
        rw [split_cons, List.length_append]
        simp only [splitBy, if_pos, List.length_cons] at ih
        simp only [List.map_cons, List.sum_cons] at ih ⊢
        omega
    · simp [cat]; omega
theorem split_cat {l : List Str} (h : ∀ a, a ∈ l → ∀ x, x ∈ a → x ≠ 47) (hl : l ≠ []) : splitBy 47 (cat l) = [] :: l := by
  induction l with
  | nil => exact absurd rfl hl
  | cons a r ih =>
    simp only [cat, splitBy, if_pos]
    congr 1
    cases r with
    | nil => simp only [cat, List.append_nil]; exact splitBy_none (h a (by simp))
    | cons b r =>
      have := ih (fun x hx => h x (by simp [hx])) (by simp)
      simp only [cat] at this ⊢
      rw [splitBy_at (h a (by simp))]
      simp only [splitBy, if_pos, List.cons.injEq, true_and] at this
      rw [this]
theorem split_pos (c : UInt8) (s : Str) : 1 ≤ (splitBy c s).length := by
  have := splitBy_ne c s
  cases h : splitBy c s with
  | nil => exact absurd h this
  | cons => simp
theorem split_one {c : UInt8} : ∀ {s : Str}, (splitBy c s).length = 1 → ∀ x, x ∈ s → x ≠ c
  | [], _, x, hx => by cases hx
  | y :: r, h, x, hx => by
    unfold splitBy at h
    split at h
    · have := split_pos c r; simp only [List.length_cons] at h; omega
    · rename_i hy
      have hr : (splitBy c r).length = 1 := by
        split at h
        · rename_i heq; rw [heq]; simpa using h
        · rename_i heq; exact absurd heq (splitBy_ne c r)
      rcases List.mem_cons.1 hx with rfl | hx
      · exact hy
      · exact split_one hr x hx
theorem sum_ones : ∀ {l : List Str} {f : Str → Nat}, (∀ a, 1 ≤ f a) → (l.map f).sum = l.length → ∀ a, a ∈ l → f a = 1
  | [], _, _, _, a, ha => by cases ha
  | b :: r, f, hf, h, a, ha => by
    have hge : ∀ (r : List Str), r.length ≤ (r.map f).sum := by
      intro r
      induction r with
      | nil => simp
      | cons x r ih => have := hf x; simp; omega
    have h1 := hge r
    have h2 := hf b
    simp only [List.map_cons, List.sum_cons, List.length_cons] at h
    rcases List.mem_cons.1 ha with rfl | ha
    · omega
    · exact sum_ones hf (by omega) a ha
theorem pathOf_spec (l : List Str) : pathOf l = if pathOk (cat1 l) && decide ((names (cat1 l)).length = l.length) then cat1 l else [] := by
  cases l with
  | nil => rfl
  | cons a r =>
    show pathOf (a :: r) = if pathOk (cat (a :: r)) && decide ((names (cat (a :: r))).length = (a :: r).length) then cat (a :: r) else []
    have hlen := split_cat_len (a :: r)
    generalize hl : a :: r = l at *
    have hne : l ≠ [] := by rw [← hl]; simp
    have hlen : (splitBy 47 (cat l)).length = 1 + (l.map fun a => (splitBy 47 a).length).sum := hlen.resolve_right hne
    have hc : cat1 l = cat l := by subst hl; rfl
    by_cases hg : (decide (l.length ≤ 4) && l.all nameOk) = true
    · rw [pathOf, if_pos hg, hc]
      simp only [Bool.and_eq_true, decide_eq_true_eq, List.all_eq_true] at hg
      have hs := split_cat (fun a ha => nameOk_no (hg.2 a ha)) hne
      have hne' : (cat l == sl) = false := by
        subst hl
        rw [beq_eq_false_iff_ne]
        intro e
        have ha := hg.2 a (by simp)
        have : 1 ≤ a.length := by
          simp only [nameOk, inB, Bool.and_eq_true, decide_eq_true_eq] at ha
          omega
        have e2 := congrArg List.length e
        simp only [cat, sl, List.length_cons, List.length_append, List.length_nil] at e2
        omega
      have hl1 : 1 ≤ l.length := by subst hl; simp
      have hp : pathOk (cat l) = true := by
        simp only [pathOk, hne', hs, Bool.false_or, Bool.and_eq_true, inB, decide_eq_true_eq]
        refine ⟨⟨⟨by simp; omega, by simp; omega⟩, rfl⟩, by simpa using hg.2⟩
      rw [if_pos]
      simp [hp, names, hne', hs]
    · rw [pathOf, if_neg hg, if_neg]
      intro h
      apply hg
      simp only [Bool.and_eq_true, decide_eq_true_eq] at h
      obtain ⟨h1, h2⟩ := h
      simp only [names, h1, Bool.true_and] at h2
      have hl1 : 1 ≤ l.length := by subst hl; simp
      by_cases he : (cat l == sl) = true
      · simp [he] at h2; omega
      · have he : (cat l == sl) = false := by simpa using he
        rw [he] at h2
        simp only [Bool.not_false, if_true, List.length_drop] at h2
        have hsum : (l.map fun a => (splitBy 47 a).length).sum = l.length := by omega
        have hno : ∀ a, a ∈ l → ∀ x, x ∈ a → x ≠ 47 := fun a ha => split_one (sum_ones (fun a => split_pos 47 a) hsum a ha)
        have hs := split_cat hno hne
        simp only [pathOk, he, hs, Bool.false_or, Bool.and_eq_true, inB, decide_eq_true_eq] at h1
        simp only [Bool.and_eq_true, decide_eq_true_eq]
        refine ⟨?_, by simpa using h1.2⟩
        have := h1.1.1.2
        simp at this
        omega
theorem cat_len : ∀ (l : List Str), (cat l).length = l.length + (l.map List.length).sum
  | [] => rfl
  | a :: r => by simp [cat, cat_len r]; omega
theorem cat1_len (l : List Str) : (cat1 l).length ≤ l.length + (l.map List.length).sum + 1 := by
  cases l with
  | nil => simp [cat1, sl]
  | cons a r => simp only [cat1]; rw [cat_len]; omega
theorem pathOf_len (l : List Str) : (pathOf l).length ≤ l.length + (l.map List.length).sum + 1 := by
  unfold pathOf
  split
  · exact cat1_len l
  · simp
theorem names_all {p : Str} : (names p).all nameOk = true := by
  unfold names
  split
  · rename_i h
    simp only [Bool.and_eq_true, pathOk, Bool.or_eq_true, Bool.not_eq_true'] at h
    rcases h.1 with h1 | h1
    · rw [h.2] at h1; cases h1
    · exact h1.2
  · rfl
theorem names_len {p : Str} : (names p).length ≤ 4 := by
  unfold names
  split
  · rename_i h
    simp only [Bool.and_eq_true, pathOk, Bool.or_eq_true, Bool.not_eq_true', inB, decide_eq_true_eq] at h
    rcases h.1 with h1 | h1
    · rw [h.2] at h1; cases h1
    · have := h1.1.1.2
      simp; omega
  · simp
theorem nameOk_len {s : Str} (h : nameOk s = true) : s.length ≤ 6 := by
  simp only [nameOk, inB, Bool.and_eq_true, decide_eq_true_eq] at h
  omega
theorem sum_len {l : List Str} {k : Nat} (h : ∀ a, a ∈ l → a.length ≤ k) : (l.map List.length).sum ≤ l.length * k := by
  induction l with
  | nil => simp
  | cons a r ih =>
    have := ih fun x hx => h x (by simp [hx])
    have := h a (by simp)
    simp only [List.map_cons, List.sum_cons, List.length_cons, Nat.add_mul]
    omega
theorem names_sum {p : Str} : ((names p).map List.length).sum ≤ 24 := by
  have h := sum_len (l := names p) (k := 6) fun a ha => nameOk_len (List.all_eq_true.1 names_all a ha)
  have := names_len (p := p)
  omega
theorem sum_take (l : List Str) (k : Nat) : ((l.take k).map List.length).sum ≤ (l.map List.length).sum := by
  induction l generalizing k with
  | nil => simp
  | cons a r ih =>
    cases k with
    | zero => simp
    | succ k => have := ih k; simp only [List.take_succ_cons, List.map_cons, List.sum_cons]; omega
theorem drop1_snoc {α : Type} {l : List α} {i : Nat} {x : α} (h1 : 1 ≤ i) (h : l[i]? = some x) : (l.take (i + 1)).drop 1 = (l.take i).drop 1 ++ [x] := by
  rw [take_succ' h, List.drop_append_of_le_length]
  have := lt_of_get h
  simp; omega
end Go.GH

set_option linter.unusedVariables false
set_option linter.unusedSimpArgs false
namespace Go.GH
open Go
structure It where
  path : Str
  kind : Int
  data : Str
  time : Int
def It.none : It := ⟨[], 0, [], 0⟩
def It.top : It := ⟨sl, 2, [], 0⟩
abbrev Tr := List It
def encI (x : It) : List AV := [.str x.path, .int .i64 x.kind, .str x.data, .int .i64 x.time]
def rdT (t : Tr) : AV := .agg [.rd 4 (t.map encI)]
theorem rdI (l : List It) : toRdRows (l.map encI) = l.map encI := toRdRows_map (fun _ => rfl) l
def idx (t : Tr) (p : Str) : Option Nat := t.findIdx? fun x => x.path == p
def treeGet (t : Tr) (p : Str) : Option It := if p == sl then some It.top else t.find? fun x => x.path == p
def resGet (o : Option It) : AV := .tup [.agg (encI (o.getD It.none)), .bool o.isSome]
def itemOk (x : It) : Bool := pathOk x.path && !(x.path == sl) && inB x.kind 1 3 && (if x.kind == 2 then x.data == [] && x.time == 0 else decide ((x.data.length : Int) ≤ 80) && inB x.time 0 100000)
def dirAt (t : Tr) (p : Str) : Bool := (treeGet t p).isSome && ((treeGet t p).getD It.none).kind == 2
def chk (t : Tr) (i : Nat) : Bool := match t[i]? with
  | some x => itemOk x && (i == 0 || strLt ((t.getD (i - 1) It.none).path) x.path) && dirAt t (above x.path)
  | none => true
def treeOk (t : Tr) : Bool := decide (t.length ≤ 40) && (List.range t.length).all (chk t)
def smT (t : Tr) : Prop := t.length ≤ 4194304 ∧ ∀ x, x ∈ t → x.path.length ≤ 4194304 ∧ x.data.length ≤ 4194304
theorem strLt_irrefl : ∀ a, strLt a a = false
  | [] => rfl
  | x :: a => by simp [strLt, strLt_irrefl a]
theorem strLt_total : ∀ a b, strLt a b = true ∨ a = b ∨ strLt b a = true
  | [], [] => .inr (.inl rfl)
  | [], _ :: _ => .inl rfl
  | _ :: _, [] => .inr (.inr rfl)
  | x :: a, y :: b => by
    simp only [strLt]
    have tri : x < y ∨ x = y ∨ y < x := by
      rcases Nat.lt_trichotomy x.toNat y.toNat with h | h | h
      · exact .inl h
      · exact .inr (.inl (UInt8.toNat_inj.1 h))
      · exact .inr (.inr h)
    rcases tri with h | rfl | h
    · left; simp [h]
    · rcases strLt_total a b with h | rfl | h
      · left; simp [h]
      · right; left; rfl
      · right; right; simp [h]
    · right; right; simp [h]
theorem strLt_asymm : ∀ a b, strLt a b = true → strLt b a = false
  | [], [], h => by cases h
  | [], _ :: _, _ => rfl
  | _ :: _, [], h => by cases h
  | x :: a, y :: b, h => by
    simp only [strLt, Bool.or_eq_true, Bool.and_eq_true, decide_eq_true_eq, beq_iff_eq] at h
    simp only [strLt, Bool.or_eq_false_iff, Bool.and_eq_false_iff, decide_eq_false_iff_not, beq_eq_false_iff_ne]
    rcases h with h | ⟨rfl, h⟩
    · exact ⟨UInt8.not_lt.2 (UInt8.le_of_lt h), .inl fun e => by subst e; exact UInt8.lt_irrefl _ h⟩
    · exact ⟨UInt8.lt_irrefl _, .inr (strLt_asymm a b h)⟩
theorem strLe_not (a b : Str) : (strLt b a || b == a) = !strLt a b := by
  rcases strLt_total a b with h | rfl | h
  · rw [h, strLt_asymm _ _ h]
    have : (b == a) = false := by
      rw [beq_eq_false_iff_ne]; rintro rfl; rw [strLt_irrefl] at h; cases h
    rw [this]; rfl
  · simp [strLt_irrefl]
  · rw [h, strLt_asymm _ _ h]; rfl
theorem find_take_none {α : Type} {p : α → Bool} {l : List α} {i : Nat} {x : α} (h : (l.take i).find? p = none) (hx : l[i]? = some x) (hp : p x = true) : l.find? p = some x := by
  rw [← List.take_append_drop i l, List.find?_append, h]
  have hi := lt_of_get hx
  rw [← List.getElem_cons_drop hi, List.find?_cons]
  rw [List.getElem?_eq_getElem hi] at hx
  rw [Option.some.inj hx, hp]; rfl
theorem find_take_succ {α : Type} {p : α → Bool} {l : List α} {i : Nat} {x : α} (h : (l.take i).find? p = none) (hx : l[i]? = some x) (hp : p x = false) : (l.take (i + 1)).find? p = none := by
  rw [take_succ' hx, List.find?_append, h]
  simp [hp]
theorem chk_all {t : Tr} {f : Nat → Bool} {n : Nat} : (List.range n).all f = true ↔ ∀ j, j < n → f j = true := by simp
theorem treeOk_bad {t : Tr} {i : Nat} (hi : i < t.length) (h : chk t i = false) : treeOk t = false := by
  have : (List.range t.length).all (chk t) = false := by
    rw [List.all_eq_false]; exact ⟨i, List.mem_range.2 hi, by simp [h]⟩
  rw [treeOk, this, Bool.and_false]
theorem treeOk_good {t : Tr} (h : t.length ≤ 40) (h2 : ∀ j, j < t.length → chk t j = true) : treeOk t = true := by
  rw [treeOk, Bool.and_eq_true]
  exact ⟨by simpa using h, chk_all (t := t).2 h2⟩
end Go.GH
namespace Go.GH
open Go
section
variable {t : Tr} {i : Nat} {b pv : It}
def bad1 (i : Nat) (b pv : It) : Bool := !pathOk b.path || b.path == sl || (decide ((i : Int) > 0) && (strLt b.path pv.path || b.path == pv.path)) || !inB b.kind 1 3 || decide ((b.data.length : Int) > 80) || !inB b.time 0 100000
def bad2 (b : It) : Bool := (b.kind == 2) && (!(b.data == []) || b.time != 0)
theorem chk_eq (hb : t[i]? = some b) (hp : t.getD (i - 1) It.none = pv) : chk t i = (itemOk b && (i == 0 || strLt pv.path b.path) && dirAt t (above b.path)) := by
  unfold chk; rw [hb]; simp only [hp]
theorem item_bad : (itemOk b && (i == 0 || strLt pv.path b.path)) = (!bad1 i b pv && !bad2 b) := by
  unfold bad1 bad2 itemOk
  rw [strLe_not]
  have e1 : decide ((i : Int) > 0) = !(i == 0) := by
    rw [Bool.eq_iff_iff]
    simp
    omega
  have e2 : (b.data == []) = true → decide ((b.data.length : Int) > 80) = false := by
    intro h
    have : b.data = [] := by simpa using h
    rw [this]; rfl
  have e3 : (b.time == 0) = true → inB b.time 0 100000 = true := by
    intro h
    have : b.time = 0 := by simpa using h
    rw [this]; rfl
  have e4 : decide ((b.data.length : Int) ≤ 80) = !decide ((b.data.length : Int) > 80) := by
    rw [Bool.eq_iff_iff]
    simp
  have e5 : (b.time != 0) = !(b.time == 0) := rfl
  rw [e1, e4, e5]
  revert e2 e3
  generalize pathOk b.path = P; generalize (b.path == sl) = S; generalize (i == 0) = I; generalize strLt pv.path b.path = O; generalize inB b.kind 1 3 = K
  generalize (b.kind == 2) = D; generalize (b.data == []) = E; generalize (b.time == 0) = Z; generalize decide ((b.data.length : Int) > 80) = L; generalize inB b.time 0 100000 = T
  revert P S I O K D E Z L T
  decide
theorem chk_bad1 (hb : t[i]? = some b) (hp : t.getD (i - 1) It.none = pv) (h : bad1 i b pv = true) : chk t i = false := by
  rw [chk_eq hb hp, item_bad, h]; rfl
theorem chk_bad2 (hb : t[i]? = some b) (h : bad2 b = true) : chk t i = false := by
  rw [chk_eq hb rfl, item_bad, h]; simp
theorem chk_bad3 (hb : t[i]? = some b) (h : dirAt t (above b.path) = false) : chk t i = false := by
  rw [chk_eq hb rfl, h]; simp
theorem chk_good (hb : t[i]? = some b) (hp : t.getD (i - 1) It.none = pv) (h1 : bad1 i b pv = false) (h2 : bad2 b = false) (h3 : dirAt t (above b.path) = true) : chk t i = true := by
  rw [chk_eq hb hp, item_bad, h1, h2, h3]; rfl
theorem above_len (p : Str) : (above p).length ≤ 4194304 := by
  unfold above
  split
  · have := pathOf_len ((names p).take ((names p).length - 1))
    have h2 := sum_take (names p) ((names p).length - 1)
    have h3 := names_sum (p := p)
    have h4 := names_len (p := p)
    rw [List.length_take] at this
    omega
  · simp
theorem treeGet_none {p : Str} : treeGet t p = none ∨ ∃ x, treeGet t p = some x := by
  cases treeGet t p with
  | none => exact .inl rfl
  | some x => exact .inr ⟨x, rfl⟩
end
end Go.GH
namespace Go.GH
open Go
def heavy (a : Str × Int) (x : It) : Str × Int := if x.kind != 2 && decide ((x.data.length : Int) > a.2) then (x.path, x.data.length) else a
def heaviest (t : Tr) : Str := if treeOk t then (t.foldl heavy ([], -1)).1 else []
theorem foldl_take {α β : Type} {f : β → α → β} {l : List α} {i : Nat} {x : α} {b : β} (h : l[i]? = some x) : (l.take (i + 1)).foldl f b = f ((l.take i).foldl f b) x := by
  rw [take_succ' h, List.foldl_append]; rfl
end Go.GH

set_option linter.unusedVariables false
set_option linter.unusedSimpArgs false
namespace Go.GH
open Go
def fnd {α : Type} (p : α → Bool) (l : List α) : Int := if l.any p then (l.findIdx p : Int) else -1
theorem fnd_hit {α : Type} {p : α → Bool} {l : List α} {i : Nat} {x : α} (h : (l.take i).any p = false) (hx : l[i]? = some x) (px : p x = true) : fnd p l = i := by
  have hi := lt_of_get hx
  have ha : l.any p = true := List.any_eq_true.2 ⟨x, List.mem_of_getElem? hx, px⟩
  rw [fnd, if_pos ha]
  congr 1
  have e : l = l.take i ++ x :: l.drop (i + 1) := by
    have := drop_cut (fr := 0) (Nat.zero_le i) hx
    simpa using this
  have h2 : (l.take i).findIdx p = i := by
    rw [List.findIdx_eq_length_of_false]
    · simp; omega
    · intro y hy
      have := List.any_eq_false.1 h y hy
      simpa using this
  conv => lhs; rw [e]
  rw [List.findIdx_append, h2]
  simp [List.findIdx_cons, px]
  omega
theorem fnd_none {α : Type} {p : α → Bool} {l : List α} (h : l.any p = false) : fnd p l = -1 := by
  rw [fnd, if_neg]; simp [h]
theorem any_take_succ {α : Type} {p : α → Bool} {l : List α} {i : Nat} {x : α} (h : (l.take i).any p = false) (hx : l[i]? = some x) (px : p x = false) : (l.take (i + 1)).any p = false := by
  rw [take_succ' hx, List.any_append, h]
  simp [px]
theorem fnd_pos {α : Type} {p : α → Bool} {l : List α} : (decide (fnd p l ≥ 0)) = l.any p := by
  rw [fnd]
  split
  · rename_i h; rw [h]; simp
  · rename_i h
    have : l.any p = false := by simpa using h
    rw [this]; rfl
theorem fnd_ge {α : Type} {p : α → Bool} {l : List α} : -1 ≤ fnd p l ∧ fnd p l ≤ l.length := by
  rw [fnd]
  split
  · have := List.findIdx_le_length (p := p) (xs := l)
    omega
  · omega
theorem fnd_get {α : Type} {p : α → Bool} {l : List α} (h : l.any p = true) : ∃ x, l[(fnd p l).toNat]? = some x ∧ l.find? p = some x := by
  rw [fnd, if_pos h]
  have hl : l.findIdx p < l.length := List.findIdx_lt_length_of_exists (by simpa using h)
  refine ⟨l[l.findIdx p], by simp [hl], ?_⟩
  rw [List.find?_eq_some_iff_getElem]
  refine ⟨List.findIdx_getElem (w := hl), l.findIdx p, hl, rfl, fun j hj => ?_⟩
  have := List.not_of_lt_findIdx hj
  simpa using this
theorem any_find {α : Type} {p : α → Bool} {l : List α} (h : l.any p = false) : l.find? p = none := by
  rw [List.find?_eq_none]
  intro x hx
  exact List.any_eq_false.1 h x hx
end Go.GH
namespace Go.GH
def smL (l : List Str) : Prop := l.length ≤ 4194304 ∧ ∀ s, s ∈ l → s.length ≤ 4194304
end Go.GH

set_option linter.unusedVariables false
set_option linter.unusedSimpArgs false
namespace Go.GH
open Go Go.Proofs
def toB (s : Str) : ByteArray := ⟨⟨s⟩⟩
theorem rd_strs {y : Ctx} {w : World} {h : Heap} {n : Nat → Prop} {ρ : Option Nat → Place} {l : List Str} {v : Value} (hs : SRep y w h n ρ (.rd 1 (l.map encS)) v) (hw : y.wr = w) :
    ∃ a cap, v = .slice a l.length cap ∧ l.length ≤ cap ∧ (l ≠ [] → ∃ b o, a = some ⟨b, o, none⟩ ∧ y.R b ∧ ∀ (j : Nat) s, l[j]? = some s → w.cell? ⟨b, o + j, none⟩ = some (bytesV s)) := by
  cases hs with
  | cell hr =>
    cases hr with
    | rd u hcap hrow hc hr =>
      rename_i a cap
      refine ⟨a, cap, by simp, by simpa using hcap, fun hne => ?_⟩
      have at_ : ∀ (j : Nat) s, l[j]? = some s → cellAt (l.map encS) j 0 = some (.str s) := by
        intro j s hj
        simp [cellAt, hj, encS]
      obtain ⟨x, hx⟩ : ∃ x, l[0]? = some x := get_lt (List.length_pos_iff.2 hne)
      obtain ⟨b, o, ha, hR, _, _⟩ := hc 0 0 _ (at_ 0 x hx)
      refine ⟨b, o, ha, hR, fun j s hj => ?_⟩
      obtain ⟨b', o', ha', _, _, hcell⟩ := hc j 0 _ (at_ j s hj)
      have hrep := hr j 0 _ (at_ j s hj)
      rw [ha] at ha'
      simp only [Option.some.injEq, Addr.mk.injEq, and_true] at ha'
      obtain ⟨rfl, rfl⟩ := ha'
      have hu : u j 0 = bytesV s := srep_str (h := h) (n := n) (ρ := ρ) (.cell hrep)
      rw [hw, hu] at hcell
      simpa using hcell
theorem le_sum : ∀ {l : List Str} {s : Str}, s ∈ l → s.length ≤ (l.map List.length).sum
  | a :: r, s, h => by
    rcases List.mem_cons.1 h with rfl | h
    · simp
    · have := le_sum h; simp; omega
theorem join_cat (l : List Str) : sl ++ Lib.join l sl = cat1 l := by
  cases l with
  | nil => rfl
  | cons a r =>
    have : ∀ (r : List Str), Lib.joinTail sl r = cat r := by
      intro r
      induction r with
      | nil => rfl
      | cons b r ih =>
        rw [cat, ← ih]
        simp [Lib.joinTail, sl]
    rw [Lib.join_cons, this]
    simp [cat1, cat, sl]
end Go.GH

set_option linter.unusedVariables false
set_option linter.unusedSimpArgs false
namespace Go.GH
open Go
def szR (left : Int) (n : Nat) : Int := if left - n < 0 then -1 else left - n
def szI (x : It) : Nat := x.path.length + x.data.length
def szT (t : Tr) : Nat := t.length + (t.map szI).sum
theorem sum_take' {α : Type} {f : α → Nat} {l : List α} {i : Nat} {x : α} (h : l[i]? = some x) : ((l.take (i + 1)).map f).sum = ((l.take i).map f).sum + f x := by
  rw [take_succ' h]; simp
theorem sum_take_le {α : Type} {f : α → Nat} {l : List α} {i : Nat} : ((l.take i).map f).sum ≤ (l.map f).sum := by
  conv => rhs; rw [← List.take_append_drop i l, List.map_append, List.sum_append]
  omega
theorem szT_sm {t : Tr} {n : Nat} (h : szT t ≤ n) (hn : n ≤ 4194304) : smT t := by
  unfold szT at h
  refine ⟨by omega, fun x hx => ?_⟩
  have h2 : szI x ≤ (t.map szI).sum := by
    obtain ⟨i, hi⟩ := List.mem_iff_getElem?.1 hx
    have h3 := sum_take' (f := szI) hi
    have h4 := sum_take_le (f := szI) (l := t) (i := i + 1)
    omega
  have h5 : szI x = x.path.length + x.data.length := rfl
  omega
theorem szR_ok {left : Int} {n : Nat} (h : ¬ szR left n < 0) : (n : Int) ≤ left := by
  unfold szR at h
  split at h <;> omega
def filled {α : Type} (f : α → List AV) (z : List AV) (l : List α) (i : Nat) : List (List AV) := (l.take i).map f ++ List.replicate (l.length - i) z
theorem filled_len {α : Type} {f : α → List AV} {z : List AV} {l : List α} {i : Nat} (hi : i ≤ l.length) : (filled f z l i).length = l.length := by
  simp [filled]; omega
theorem filled_zero {α : Type} {f : α → List AV} {z : List AV} {l : List α} : filled f z l 0 = List.replicate l.length z := by simp [filled]
theorem filled_all {α : Type} {f : α → List AV} {z : List AV} {l : List α} : filled f z l l.length = l.map f := by simp [filled]
theorem filled_get {α : Type} {f : α → List AV} {z : List AV} {l : List α} {i : Nat} (hi : i < l.length) : (filled f z l i)[i]? = some z := by
  unfold filled
  rw [List.getElem?_append_right (by simp; omega)]
  simp [List.getElem?_replicate]
  omega
theorem filled_set {α : Type} {f : α → List AV} {z : List AV} {l : List α} {i : Nat} {x : α} (hx : l[i]? = some x) : (filled f z l i).set i (f x) = filled f z l (i + 1) := by
  have hi := lt_of_get hx
  unfold filled
  rw [take_succ' hx, List.set_append_right _ _ (by simp; omega)]
  have e : l.length - i = (l.length - (i + 1)) + 1 := by omega
  have e2 : i - ((l.take i).map f).length = 0 := by simp; omega
  rw [e2, e, List.replicate_succ, List.set_cons_zero]
  simp
theorem argT {s : Nat} {x x' : List (List AV)} (h1 : x = x') : [AV.agg [AV.rd s x]] = [AV.agg [AV.rd s x']] := by rw [h1]
theorem argTT {s s2 : Nat} {x x' y y' : List (List AV)} (h1 : x = x') (h2 : y = y') : [AV.agg [AV.rd s x], AV.agg [AV.rd s2 y]] = [AV.agg [AV.rd s x'], AV.agg [AV.rd s2 y']] := by rw [h1, h2]
def itEq (a b : It) : Bool := a.path == b.path && a.kind == b.kind && a.data == b.data && a.time == b.time
theorem itEq_self (a : It) : itEq a a = true := by simp [itEq]
end Go.GH

set_option linter.unusedVariables false
namespace Go.GH
open Go Go.Proofs
def tyTab : List (Nat × Ty) := [
 (2, ⟨.int .i64, 1, 8, [.int .i64 0], [none]⟩),
 (3, ⟨.int .i64, 1, 8, [.int .i64 0], [none]⟩),
 (4, ⟨.bool, 1, 1, [.bool false], [none]⟩),
 (5, ⟨.int .u8, 1, 1, [.int .u8 0], [none]⟩),
 (6, ⟨.int .u8, 1, 1, [.int .u8 0], [none]⟩),
 (7, ⟨.struct [(0, 2), (1, 3), (2, 4), (3, 6)], 4, 24, [.int .i64 0, .int .i64 0, .bool false, .int .u8 0], [none, none, none, none]⟩),
 (8, ⟨.struct [(0, 2), (1, 3), (2, 4), (3, 6)], 4, 24, [.int .i64 0, .int .i64 0, .bool false, .int .u8 0], [none, none, none, none]⟩),
 (9, ⟨.str, 1, 16, [.str []], [none]⟩),
 (10, ⟨.str, 1, 16, [.str []], [none]⟩),
 (11, ⟨.str, 1, 16, [.str []], [none]⟩),
 (12, ⟨.int .u64, 1, 8, [.int .u64 0], [none]⟩),
 (15, ⟨.ptr 136, 1, 8, [.undef], [none]⟩),
 (16, ⟨.ptr 139, 1, 8, [.undef], [none]⟩),
 (17, ⟨.ptr 147, 1, 8, [.undef], [none]⟩),
 (20, ⟨.iface, 1, 16, [.nilI], [none]⟩),
 (21, ⟨.int .i32, 1, 4, [.int .i32 0], [none]⟩),
 (24, ⟨.slice 5, 1, 24, [.own 1 []], [some 1]⟩),
 (27, ⟨.slice 79, 1, 24, [.own 4 []], [some 4]⟩),
 (28, ⟨.struct [(0, 27)], 1, 24, [.own 4 []], [some 4]⟩),
 (29, ⟨.struct [(0, 27)], 1, 24, [.own 4 []], [some 4]⟩),
 (32, ⟨.slice 58, 1, 24, [.own 4 []], [some 4]⟩),
 (33, ⟨.struct [(0, 32)], 1, 24, [.own 4 []], [some 4]⟩),
 (34, ⟨.struct [(0, 32)], 1, 24, [.own 4 []], [some 4]⟩),
 (43, ⟨.slice 66, 1, 24, [.own 6 []], [some 6]⟩),
 (50, ⟨.slice 9, 1, 24, [.own 1 []], [some 1]⟩),
 (53, ⟨.ptr 77, 1, 8, [.undef], [none]⟩),
 (57, ⟨.struct [(0, 9), (1, 3), (2, 9), (3, 3)], 4, 48, [.str [], .int .i64 0, .str [], .int .i64 0], [none, none, none, none]⟩),
 (58, ⟨.struct [(0, 9), (1, 3), (2, 9), (3, 3)], 4, 48, [.str [], .int .i64 0, .str [], .int .i64 0], [none, none, none, none]⟩),
 (65, ⟨.struct [(0, 3), (1, 9), (2, 9), (3, 3), (4, 9), (5, 3)], 6, 72, [.int .i64 0, .str [], .str [], .int .i64 0, .str [], .int .i64 0], [none, none, none, none, none, none]⟩),
 (66, ⟨.struct [(0, 3), (1, 9), (2, 9), (3, 3), (4, 9), (5, 3)], 6, 72, [.int .i64 0, .str [], .str [], .int .i64 0, .str [], .int .i64 0], [none, none, none, none, none, none]⟩),
 (76, ⟨.struct [(0, 24), (1, 3), (2, 3)], 3, 40, [.own 1 [], .int .i64 0, .int .i64 0], [some 1, none, none]⟩),
 (77, ⟨.struct [(0, 24), (1, 3), (2, 3)], 3, 40, [.own 1 [], .int .i64 0, .int .i64 0], [some 1, none, none]⟩),
 (79, ⟨.struct [(0, 9), (1, 3), (2, 9), (3, 3)], 4, 48, [.str [], .int .i64 0, .str [], .int .i64 0], [none, none, none, none]⟩),
 (91, ⟨.int .u64, 1, 8, [.int .u64 0], [none]⟩),
 (99, ⟨.int .i64, 1, 8, [.int .i64 0], [none]⟩),
 (107, ⟨.int .u32, 1, 4, [.int .u32 0], [none]⟩),
 (109, ⟨.int .u64, 1, 8, [.int .u64 0], [none]⟩),
 (112, ⟨.int .u64, 1, 8, [.int .u64 0], [none]⟩),
 (116, ⟨.ptr 3, 1, 8, [.undef], [none]⟩),
 (119, ⟨.ptr 121, 1, 8, [.undef], [none]⟩),
 (120, ⟨.struct [(0, 119), (1, 24)], 2, 32, [.undef, .own 1 []], [none, some 1]⟩),
 (121, ⟨.struct [(0, 119), (1, 24)], 2, 32, [.undef, .own 1 []], [none, some 1]⟩),
 (123, ⟨.iface, 1, 16, [.nilI], [none]⟩),
 (124, ⟨.iface, 1, 16, [.nilI], [none]⟩),
 (128, ⟨.ptr 112, 1, 8, [.undef], [none]⟩),
 (131, ⟨.ptr 5, 1, 8, [.undef], [none]⟩),
 (141, ⟨.int .u8, 1, 1, [.int .u8 0], [none]⟩),
 (142, ⟨.int .u8, 1, 1, [.int .u8 0], [none]⟩),
 (144, ⟨.int .i32, 1, 4, [.int .i32 0], [none]⟩),
 (145, ⟨.int .i32, 1, 4, [.int .i32 0], [none]⟩)]
theorem tab_ok : tabOk Try.prog tyTab = true := by kernel_rfl
theorem tabT (F : Nat → Option PCon) (kp : List Nat) : TOk Try.prog ⟨lookup tyTab, F, kp⟩ := fun t ty h => tabOk_T tab_ok t ty h
theorem mixed : Try.prog.follows .mixedOrders = true := by kernel_rfl
def codeOf (f : Func) : Code := match f.body with
  | some c => c
  | none => .skip
end Go.GH

set_option linter.unusedVariables false
set_option linter.unusedSimpArgs false
namespace Go.GH
open Go Go.Proofs
noncomputable def c_spec_l1In : PCon := con [mC, mC, mC] true (Int × Int × Int) (fun x => [.int .i64 x.1, .int .i64 x.2.1, .int .i64 x.2.2]) (fun _ => True) (fun x => .bool (inB x.1 x.2.1 x.2.2))
noncomputable def E_spec_l1In : Env := ⟨lookup tyTab, lookup [], [0, 1, 2, 6]⟩
set_option maxRecDepth 100000 in
set_option maxHeartbeats 4000000 in
theorem m_spec_l1In : Meets E_spec_l1In (codeOf Try.f32) Try.f32.results.toList c_spec_l1In := by
  rintro ⟨x, lo, hi⟩ _
  refine ⟨trivial, ?_⟩
  repeat ((conv => whnf); refine ⟨fun h => h, ?_⟩)
  exact ⟨trivial, rfl⟩
theorem ok_spec_l1In : ConOk Try.prog 32 c_spec_l1In := meets_ok (tabT _ _) FOk.nil mixed Try.func32 rfl Try.call32 (by decide) (by kernel_rfl) m_spec_l1In (by intro _ (y : (Int × Int × Int)) _; exact ⟨by simp [c_spec_l1In, con, AV.noRd, noRdCells, noRdRows, noRdRows_map', encS], by simp [c_spec_l1In, con, AV.noRd, noRdCells, noRdRows, noRdRows_map', encS]⟩) (by intro (y : (Int × Int × Int)) _; first | (simp [c_spec_l1In, con, AV.free, freeCells, freeRows, freeRows_map, encS]; done) | (obtain ⟨_, _⟩ := y; simp [c_spec_l1In, con, AV.free, freeCells, freeRows, freeRows_map, encS]; done) | (obtain ⟨_, _, _⟩ := y; simp [c_spec_l1In, con, AV.free, freeCells, freeRows, freeRows_map, encS]; done))
noncomputable def c_impl_within : PCon := con [mC, mC, mC] true (Int × Int × Int) (fun x => [.int .i64 x.1, .int .i64 x.2.1, .int .i64 x.2.2]) (fun _ => True) (fun x => .bool (inB x.1 x.2.1 x.2.2))
noncomputable def E_impl_within : Env := ⟨lookup tyTab, lookup [], [0, 1, 2, 6]⟩
set_option maxRecDepth 100000 in
set_option maxHeartbeats 4000000 in
theorem m_impl_within : Meets E_impl_within (codeOf Try.f33) Try.f33.results.toList c_impl_within := by
  rintro ⟨x, lo, hi⟩ _
  refine ⟨trivial, ?_⟩
  repeat ((conv => whnf); refine ⟨fun h => h, ?_⟩)
  exact ⟨trivial, rfl⟩
theorem ok_impl_within : ConOk Try.prog 33 c_impl_within := meets_ok (tabT _ _) FOk.nil mixed Try.func33 rfl Try.call33 (by decide) (by kernel_rfl) m_impl_within (by intro _ (y : (Int × Int × Int)) _; exact ⟨by simp [c_impl_within, con, AV.noRd, noRdCells, noRdRows, noRdRows_map', encS], by simp [c_impl_within, con, AV.noRd, noRdCells, noRdRows, noRdRows_map', encS]⟩) (by intro (y : (Int × Int × Int)) _; first | (simp [c_impl_within, con, AV.free, freeCells, freeRows, freeRows_map, encS]; done) | (obtain ⟨_, _⟩ := y; simp [c_impl_within, con, AV.free, freeCells, freeRows, freeRows_map, encS]; done) | (obtain ⟨_, _, _⟩ := y; simp [c_impl_within, con, AV.free, freeCells, freeRows, freeRows_map, encS]; done))
noncomputable def c_spec_NameOk : PCon := con [mC] true Str encS (fun s => s.length ≤ 4611686018427387904) (fun s => .bool (nameOk s))
noncomputable def E_spec_NameOk : Env := ⟨lookup tyTab, lookup [(32, c_spec_l1In)], [0, 2, 3, 7, 11, 36]⟩
set_option maxRecDepth 100000 in
set_option maxHeartbeats 4000000 in
theorem m_spec_NameOk : Meets E_spec_NameOk (codeOf Try.f78) Try.f78.results.toList c_spec_NameOk := by
  intro (s : Str) hs
  have hs : s.length ≤ 4611686018427387904 := hs
  refine ⟨trivial, ?_⟩
  conv => whnf
  refine ⟨(s.length, 1, 6), rfl, fun _ => trivial, ?_⟩
  conv => whnf
  refine ⟨fun h => ?_, fun h => ?_⟩
  · conv => whnf
    have h : inB s.length 1 6 = false := by simpa using h
    exact ⟨trivial, eqB (by simp [nameOk, h])⟩
  have h : inB s.length 1 6 = true := by simpa using h
  conv => whnf
  refine loop_rule (fun i : Nat => ⟨[(0, ⟨none, .str s⟩), (3, ⟨none, .int .i64 i⟩)], [], 0⟩) (fun i => i ≤ s.length ∧ (s.take i).all isNm = true) (fun i => s.length - i) 0 ?_ ⟨by omega, rfl⟩ ?_
  · exact ⟨⟨rfl, rfl, trivial⟩, trivial, rfl⟩
  rintro i ⟨hi, ha⟩
  conv => whnf
  refine ⟨fun h1 => ?_, fun h1 => ?_⟩
  · have h1 : i < s.length := by simpa using h1
    obtain ⟨b, hb⟩ := get_lt h1
    repeat first
      | ((conv => whnf); refine ⟨fun h => h, ?_⟩)
      | ((conv => whnf); refine ⟨b, fun _ => ⟨Int.natCast_nonneg _, hb⟩, ?_⟩)
    refine ⟨fun h2 => ?_, fun h2 => ?_⟩
    · conv => whnf
      have h2 : (!isNm b) = true := h2
      refine ⟨trivial, eqB (Eq.symm ?_)⟩
      have hm : b ∈ s := List.mem_of_getElem? hb
      simp only [nameOk, Bool.and_eq_false_iff]
      exact .inr (by rw [List.all_eq_false]; exact ⟨b, hm, by simpa using h2⟩)
    · have h2 : isNm b = true := by have : (!isNm b) = false := h2; simpa using this
      conv => whnf
      refine ⟨_, w64 (by omega), ?_⟩
      conv => whnf
      refine again (i + 1) ?_ ⟨by omega, ?_⟩ (by omega)
      · exact ⟨⟨rfl, rfl, trivial⟩, trivial, rfl⟩
      · rw [take_succ' hb]; simp [ha, h2]
  · have h1 : i = s.length := by have : ¬ (i < s.length) := by simpa using h1
                                 omega
    subst h1
    conv => whnf
    rw [List.take_length] at ha
    exact ⟨trivial, eqB (by simp [nameOk, h, ha])⟩
theorem ok_spec_NameOk : ConOk Try.prog 78 c_spec_NameOk := meets_ok (tabT _ _) (FOk.cons ok_spec_l1In FOk.nil) mixed Try.func78 rfl Try.call78 (by decide) (by kernel_rfl) m_spec_NameOk (by intro _ (y : Str) _; exact ⟨by simp [c_spec_NameOk, con, AV.noRd, noRdCells, noRdRows, noRdRows_map', encS], by simp [c_spec_NameOk, con, AV.noRd, noRdCells, noRdRows, noRdRows_map', encS]⟩) (by intro (y : Str) _; first | (simp [c_spec_NameOk, con, AV.free, freeCells, freeRows, freeRows_map, encS]; done) | (obtain ⟨_, _⟩ := y; simp [c_spec_NameOk, con, AV.free, freeCells, freeRows, freeRows_map, encS]; done) | (obtain ⟨_, _, _⟩ := y; simp [c_spec_NameOk, con, AV.free, freeCells, freeRows, freeRows_map, encS]; done))
noncomputable def c_impl_NameOk : PCon := con [mC] true Str encS (fun s => s.length ≤ 4611686018427387904) (fun s => .bool (nameOk s))
noncomputable def E_impl_NameOk : Env := ⟨lookup tyTab, lookup [(33, c_impl_within)], [0, 2, 3, 7, 9, 10, 11, 34]⟩
set_option maxRecDepth 100000 in
set_option maxHeartbeats 4000000 in
theorem m_impl_NameOk : Meets E_impl_NameOk (codeOf Try.f99) Try.f99.results.toList c_impl_NameOk := by
  intro (s : Str) hs
  have hs : s.length ≤ 4611686018427387904 := hs
  refine ⟨trivial, ?_⟩
  conv => whnf
  refine ⟨(s.length, 1, 6), rfl, fun _ => trivial, ?_⟩
  conv => whnf
  refine ⟨fun h => ?_, fun h => ?_⟩
  · conv => whnf
    have h : inB s.length 1 6 = false := by simpa using h
    exact ⟨trivial, eqB (by simp [nameOk, h])⟩
  have h : inB s.length 1 6 = true := by simpa using h
  conv => whnf
  refine loop_rule (fun i : Nat => ⟨[(0, ⟨none, .str s⟩), (9, ⟨none, .int .i64 s.length⟩), (10, ⟨none, .int .i64 i⟩)], [], 0⟩) (fun i => i ≤ s.length ∧ (s.take i).all isNm = true) (fun i => s.length - i) 0 ?_ ⟨by omega, rfl⟩ ?_
  · exact ⟨⟨rfl, rfl, rfl, trivial⟩, trivial, rfl⟩
  rintro i ⟨hi, ha⟩
  conv => whnf
  refine ⟨fun h1 => ?_, fun h1 => ?_⟩
  · have h1 : i < s.length := by simpa using h1
    obtain ⟨b, hb⟩ := get_lt h1
    repeat first
      | ((conv => whnf); refine ⟨fun h => h, ?_⟩)
      | ((conv => whnf); refine ⟨b, fun _ => ⟨Int.natCast_nonneg _, hb⟩, ?_⟩)
    refine ⟨fun h2 => ?_, fun h2 => ?_⟩
    · conv => whnf
      have h2 : (!isNm b) = true := (isNm' b).symm.trans h2
      refine ⟨trivial, eqB (Eq.symm ?_)⟩
      have hm : b ∈ s := List.mem_of_getElem? hb
      simp only [nameOk, Bool.and_eq_false_iff]
      exact .inr (by rw [List.all_eq_false]; exact ⟨b, hm, by simpa using h2⟩)
    · have h2 : isNm b = true := by have : (!isNm b) = false := (isNm' b).symm.trans h2
                                    simpa using this
      conv => whnf
      refine ⟨_, w64 (by omega), ?_⟩
      conv => whnf
      refine again (i + 1) ?_ ⟨by omega, ?_⟩ (by omega)
      · exact ⟨⟨rfl, rfl, rfl, trivial⟩, trivial, rfl⟩
      · rw [take_succ' hb]; simp [ha, h2]
  · have h1 : i = s.length := by have : ¬ (i < s.length) := by simpa using h1
                                 omega
    subst h1
    conv => whnf
    rw [List.take_length] at ha
    exact ⟨trivial, eqB (by simp [nameOk, h, ha])⟩
theorem ok_impl_NameOk : ConOk Try.prog 99 c_impl_NameOk := meets_ok (tabT _ _) (FOk.cons ok_impl_within FOk.nil) mixed Try.func99 rfl Try.call99 (by decide) (by kernel_rfl) m_impl_NameOk (by intro _ (y : Str) _; exact ⟨by simp [c_impl_NameOk, con, AV.noRd, noRdCells, noRdRows, noRdRows_map', encS], by simp [c_impl_NameOk, con, AV.noRd, noRdCells, noRdRows, noRdRows_map', encS]⟩) (by intro (y : Str) _; first | (simp [c_impl_NameOk, con, AV.free, freeCells, freeRows, freeRows_map, encS]; done) | (obtain ⟨_, _⟩ := y; simp [c_impl_NameOk, con, AV.free, freeCells, freeRows, freeRows_map, encS]; done) | (obtain ⟨_, _, _⟩ := y; simp [c_impl_NameOk, con, AV.free, freeCells, freeRows, freeRows_map, encS]; done))
end Go.GH

set_option linter.unusedVariables false
set_option linter.unusedSimpArgs false
namespace Go.GH
open Go Go.Proofs
noncomputable def c_spec_Parts : PCon := con [mC, mC] false (Str × UInt8) (fun x => [.str x.1, .int .u8 x.2.toNat]) (fun x => sml x.1.length) (fun x => .own 1 ((splitBy x.2 x.1).map encS))
noncomputable def E_spec_Parts : Env := ⟨lookup tyTab, lookup [], [0, 1, 4, 5, 6, 7, 12, 25]⟩
set_option maxRecDepth 100000 in
set_option maxHeartbeats 4000000 in
theorem m_spec_Parts : Meets E_spec_Parts (codeOf Try.f77) Try.f77.results.toList c_spec_Parts := by
  rintro ⟨s, c⟩ hs
  have hs : s.length ≤ 4194304 := hs
  refine ⟨trivial, ?_⟩
  conv => whnf
  refine loop_rule (fun ((i, fr, out) : Nat × Nat × List Str) => ⟨[(0, ⟨none, .str s⟩), (1, ⟨none, .int .u8 c.toNat⟩), (5, ⟨none, .view 0 [] 0 (out.map encS).length⟩), (6, ⟨none, .int .i64 fr⟩), (7, ⟨none, .int .i64 i⟩)], [(0, .own 1 (out.map encS))], 1⟩)
    (fun (i, fr, out) => SplitInv c s i fr out ∨ (i = s.length + 1 ∧ out = splitBy c s)) (fun x => s.length + 2 - x.1) (0, 0, []) ?_ (.inl (SplitInv.zero c s)) ?_
  · (refine ⟨?_, ?_, rfl⟩ <;> repeat' (first | exact rfl | exact trivial | refine ⟨?_, ?_⟩ | fail) <;> (conv => whnf))
  rintro ⟨i, fr, out⟩ hI
  (conv => whnf); refine ⟨fun h1 => ?_, fun h1 => ?_⟩
  · have h1 : i ≤ s.length := by simpa using h1
    have hI : SplitInv c s i fr out := by
      rcases hI with h | h
      · exact h
      · omega
    have hle := hI.le
    have hlen := hI.len
    repeat ((conv => whnf); refine ⟨fun h => h, ?_⟩)
    conv => whnf
    rcases Nat.lt_or_ge i s.length with hi | hi
    · obtain ⟨b, hb⟩ := get_lt hi
      refine ⟨b, fun _ => ⟨Int.natCast_nonneg _, hb⟩, ?_⟩
      repeat ((conv => whnf); refine ⟨fun h => h, ?_⟩)
      (conv => whnf); refine ⟨fun h2 => ?_, fun h2 => ?_⟩
      · have h2 : b = c := by
          have h2 : ((i : Int) == (s.length : Int) || ((b.toNat : Int) == (c.toNat : Int))) = true := h2
          rcases Bool.or_eq_true _ _ ▸ h2 with h | h
          · simp at h; omega
          · exact byteEq.1 h
        repeat ((conv => whnf); first | refine ⟨fun h => h, ?_⟩ | refine ⟨(by kernel_rfl : drawOk _ _ = true), ?_⟩ | refine ⟨fun (h : gtrue _) => by first | assumption | exact absurd (Eq.trans (Eq.symm h) (by assumption) : true = false) Bool.noConfusion, ?_⟩ | refine ⟨fun h => (absurd (Eq.trans (Eq.symm h) (by assumption) : true = false) Bool.noConfusion : False), ?_⟩ | refine ⟨_, w64 (by (show (_ : Prop)); first | omega | ((try dsimp only at *); (try simp only [lns] at *); omega)), ?_⟩ | refine ⟨fun _ => ⟨by (show (_ : Prop)); first | omega | ((try dsimp only at *); (try simp only [lns] at *); omega), by (show (_ : Prop)); first | omega | ((try dsimp only at *); (try simp only [lns] at *); omega), by (show (_ : Prop)); first | omega | ((try dsimp only at *); (try simp only [lns] at *); omega)⟩, ?_⟩ | refine ⟨by (show (_ : Prop)); first | omega | ((try dsimp only at *); (try simp only [lns] at *); omega), ?_⟩ | refine ⟨fun h => ⟨by (show (_ : Prop)); first | omega | ((try dsimp only at *); (try simp only [lns] at *); omega), by (show (_ : Prop)); first | omega | ((try dsimp only at *); (try simp only [lns] at *); omega)⟩, ?_⟩ | refine ⟨fun (r : List AV) hr c hc => by simp [encS] at hr; (try subst hr); simp at hc; (try subst hc); rfl, ?_⟩ | refine ⟨noOwn (by rfl), ?_⟩)
        refine again (i + 1, i + 1, _) ?_ (.inl (hI.hit hb h2)) (by first | omega | (simp; done) | (simp; omega))
        (refine ⟨?_, ?_, rfl⟩ <;> repeat' (first | exact rfl | exact trivial | refine ⟨?_, ?_⟩ | fail) <;> (conv => whnf))
        all_goals simp [encS]
      · have h2 : b ≠ c := by
          have h2 : ((i : Int) == (s.length : Int) || ((b.toNat : Int) == (c.toNat : Int))) = false := h2
          simp at h2
          exact fun e => h2.2 (by rw [e])
        conv => whnf
        refine ⟨_, w64 (by omega), ?_⟩
        conv => whnf
        refine again (i + 1, fr, out) ?_ (.inl (hI.pass hb h2)) (by first | omega | (simp; done) | (simp; omega))
        (refine ⟨?_, ?_, rfl⟩ <;> repeat' (first | exact rfl | exact trivial | refine ⟨?_, ?_⟩ | fail) <;> (conv => whnf))
    · have e : i = s.length := by omega
      subst e
      refine ⟨0, fun h => by simp [gtrue] at h, ?_⟩
      repeat ((conv => whnf); refine ⟨fun h => h, ?_⟩)
      (conv => whnf); refine ⟨fun h2 => ?_, fun h2 => ?_⟩
      · repeat ((conv => whnf); first | refine ⟨fun h => h, ?_⟩ | refine ⟨(by kernel_rfl : drawOk _ _ = true), ?_⟩ | refine ⟨fun (h : gtrue _) => by first | assumption | exact absurd (Eq.trans (Eq.symm h) (by assumption) : true = false) Bool.noConfusion, ?_⟩ | refine ⟨fun h => (absurd (Eq.trans (Eq.symm h) (by assumption) : true = false) Bool.noConfusion : False), ?_⟩ | refine ⟨_, w64 (by (show (_ : Prop)); first | omega | ((try dsimp only at *); (try simp only [lns] at *); omega)), ?_⟩ | refine ⟨fun _ => ⟨by (show (_ : Prop)); first | omega | ((try dsimp only at *); (try simp only [lns] at *); omega), by (show (_ : Prop)); first | omega | ((try dsimp only at *); (try simp only [lns] at *); omega), by (show (_ : Prop)); first | omega | ((try dsimp only at *); (try simp only [lns] at *); omega)⟩, ?_⟩ | refine ⟨by (show (_ : Prop)); first | omega | ((try dsimp only at *); (try simp only [lns] at *); omega), ?_⟩ | refine ⟨fun h => ⟨by (show (_ : Prop)); first | omega | ((try dsimp only at *); (try simp only [lns] at *); omega), by (show (_ : Prop)); first | omega | ((try dsimp only at *); (try simp only [lns] at *); omega)⟩, ?_⟩ | refine ⟨fun (r : List AV) hr c hc => by simp [encS] at hr; (try subst hr); simp at hc; (try subst hc); rfl, ?_⟩ | refine ⟨noOwn (by rfl), ?_⟩)
        refine again (s.length + 1, s.length + 1, _) ?_ (.inr ⟨rfl, hI.fin.symm⟩) (by first | omega | (simp; done) | (simp; omega))
        (refine ⟨?_, ?_, rfl⟩ <;> repeat' (first | exact rfl | exact trivial | refine ⟨?_, ?_⟩ | fail) <;> (conv => whnf))
        all_goals simp [encS]
      · simp at h2
  · have h1 : s.length < i := by simpa using h1
    have hI : out = splitBy c s := by
      rcases hI with h | h
      · have := h.il; omega
      · exact h.2
    conv => whnf
    exact ⟨trivial, eqOwn (by simp [hI])⟩
theorem ok_spec_Parts : ConOk Try.prog 77 c_spec_Parts := meets_ok (tabT _ _) FOk.nil mixed Try.func77 rfl Try.call77 (by decide) (by kernel_rfl) m_spec_Parts (by intro _ (y : (Str × UInt8)) _; exact ⟨by simp [c_spec_Parts, con, AV.noRd, noRdCells, noRdRows, noRdRows_map', encS], by simp [c_spec_Parts, con, AV.noRd, noRdCells, noRdRows, noRdRows_map', encS]⟩) (by intro (y : (Str × UInt8)) _; first | (simp [c_spec_Parts, con, AV.free, freeCells, freeRows, freeRows_map, encS]; done) | (obtain ⟨_, _⟩ := y; simp [c_spec_Parts, con, AV.free, freeCells, freeRows, freeRows_map, encS]; done) | (obtain ⟨_, _, _⟩ := y; simp [c_spec_Parts, con, AV.free, freeCells, freeRows, freeRows_map, encS]; done))
noncomputable def c_impl_Parts : PCon := con [mC, mC] false (Str × UInt8) (fun x => [.str x.1, .int .u8 x.2.toNat]) (fun x => sml x.1.length) (fun x => .own 1 ((splitBy x.2 x.1).map encS))
noncomputable def E_impl_Parts : Env := ⟨lookup tyTab, lookup [], [0, 1, 4, 5, 6, 7, 12, 19]⟩
set_option maxRecDepth 100000 in
set_option maxHeartbeats 4000000 in
theorem m_impl_Parts : Meets E_impl_Parts (codeOf Try.f96) Try.f96.results.toList c_impl_Parts := by
  rintro ⟨s, c⟩ hs
  have hs : s.length ≤ 4194304 := hs
  refine ⟨trivial, ?_⟩
  conv => whnf
  refine loop_rule (fun ((i, fr, out) : Nat × Nat × List Str) => ⟨[(0, ⟨none, .str s⟩), (1, ⟨none, .int .u8 c.toNat⟩), (5, ⟨none, .view 0 [] 0 (out.map encS).length⟩), (6, ⟨none, .int .i64 fr⟩), (7, ⟨none, .int .i64 i⟩)], [(0, .own 1 (out.map encS))], 1⟩)
    (fun (i, fr, out) => SplitInv c s i fr out) (fun x => s.length - x.1) (0, 0, []) ?_ (SplitInv.zero c s) ?_
  · (refine ⟨?_, ?_, rfl⟩ <;> repeat' (first | exact rfl | exact trivial | refine ⟨?_, ?_⟩ | fail) <;> (conv => whnf))
  rintro ⟨i, fr, out⟩ hI
  have hI : SplitInv c s i fr out := hI
  have hle := hI.le
  have hlen := hI.len
  have hil := hI.il
  (conv => whnf); refine ⟨fun h1 => ?_, fun h1 => ?_⟩
  · have h1 : i < s.length := by simpa using h1
    obtain ⟨b, hb⟩ := get_lt h1
    conv => whnf
    refine ⟨b, fun _ => ⟨Int.natCast_nonneg _, hb⟩, ?_⟩
    (conv => whnf); refine ⟨fun h2 => ?_, fun h2 => ?_⟩
    · have h2 : b = c := byteEq.1 h2
      repeat ((conv => whnf); first | refine ⟨fun h => h, ?_⟩ | refine ⟨(by kernel_rfl : drawOk _ _ = true), ?_⟩ | refine ⟨fun (h : gtrue _) => by first | assumption | exact absurd (Eq.trans (Eq.symm h) (by assumption) : true = false) Bool.noConfusion, ?_⟩ | refine ⟨fun h => (absurd (Eq.trans (Eq.symm h) (by assumption) : true = false) Bool.noConfusion : False), ?_⟩ | refine ⟨_, w64 (by (show (_ : Prop)); first | omega | ((try dsimp only at *); (try simp only [lns] at *); omega)), ?_⟩ | refine ⟨fun _ => ⟨by (show (_ : Prop)); first | omega | ((try dsimp only at *); (try simp only [lns] at *); omega), by (show (_ : Prop)); first | omega | ((try dsimp only at *); (try simp only [lns] at *); omega), by (show (_ : Prop)); first | omega | ((try dsimp only at *); (try simp only [lns] at *); omega)⟩, ?_⟩ | refine ⟨by (show (_ : Prop)); first | omega | ((try dsimp only at *); (try simp only [lns] at *); omega), ?_⟩ | refine ⟨fun h => ⟨by (show (_ : Prop)); first | omega | ((try dsimp only at *); (try simp only [lns] at *); omega), by (show (_ : Prop)); first | omega | ((try dsimp only at *); (try simp only [lns] at *); omega)⟩, ?_⟩ | refine ⟨fun (r : List AV) hr c hc => by simp [encS] at hr; (try subst hr); simp at hc; (try subst hc); rfl, ?_⟩ | refine ⟨noOwn (by rfl), ?_⟩)
      refine again (i + 1, i + 1, _) ?_ (hI.hit hb h2) (by first | omega | (simp; done) | (simp; omega))
      (refine ⟨?_, ?_, rfl⟩ <;> repeat' (first | exact rfl | exact trivial | refine ⟨?_, ?_⟩ | fail) <;> (conv => whnf))
      all_goals simp [encS]
    · have h2 : b ≠ c := fun e => by rw [byteEq.2 e] at h2; cases h2
      repeat ((conv => whnf); first | refine ⟨fun h => h, ?_⟩ | refine ⟨(by kernel_rfl : drawOk _ _ = true), ?_⟩ | refine ⟨fun (h : gtrue _) => by first | assumption | exact absurd (Eq.trans (Eq.symm h) (by assumption) : true = false) Bool.noConfusion, ?_⟩ | refine ⟨fun h => (absurd (Eq.trans (Eq.symm h) (by assumption) : true = false) Bool.noConfusion : False), ?_⟩ | refine ⟨_, w64 (by (show (_ : Prop)); first | omega | ((try dsimp only at *); (try simp only [lns] at *); omega)), ?_⟩ | refine ⟨fun _ => ⟨by (show (_ : Prop)); first | omega | ((try dsimp only at *); (try simp only [lns] at *); omega), by (show (_ : Prop)); first | omega | ((try dsimp only at *); (try simp only [lns] at *); omega), by (show (_ : Prop)); first | omega | ((try dsimp only at *); (try simp only [lns] at *); omega)⟩, ?_⟩ | refine ⟨by (show (_ : Prop)); first | omega | ((try dsimp only at *); (try simp only [lns] at *); omega), ?_⟩ | refine ⟨fun h => ⟨by (show (_ : Prop)); first | omega | ((try dsimp only at *); (try simp only [lns] at *); omega), by (show (_ : Prop)); first | omega | ((try dsimp only at *); (try simp only [lns] at *); omega)⟩, ?_⟩ | refine ⟨fun (r : List AV) hr c hc => by simp [encS] at hr; (try subst hr); simp at hc; (try subst hc); rfl, ?_⟩ | refine ⟨noOwn (by rfl), ?_⟩)
      refine again (i + 1, fr, out) ?_ (hI.pass hb h2) (by first | omega | (simp; done) | (simp; omega))
      (refine ⟨?_, ?_, rfl⟩ <;> repeat' (first | exact rfl | exact trivial | refine ⟨?_, ?_⟩ | fail) <;> (conv => whnf))
  · have h1 : i = s.length := by
      have : ¬ i < s.length := by simpa using h1
      omega
    subst h1
    repeat ((conv => whnf); first | refine ⟨fun h => h, ?_⟩ | refine ⟨(by kernel_rfl : drawOk _ _ = true), ?_⟩ | refine ⟨fun (h : gtrue _) => by first | assumption | exact absurd (Eq.trans (Eq.symm h) (by assumption) : true = false) Bool.noConfusion, ?_⟩ | refine ⟨fun h => (absurd (Eq.trans (Eq.symm h) (by assumption) : true = false) Bool.noConfusion : False), ?_⟩ | refine ⟨_, w64 (by (show (_ : Prop)); first | omega | ((try dsimp only at *); (try simp only [lns] at *); omega)), ?_⟩ | refine ⟨fun _ => ⟨by (show (_ : Prop)); first | omega | ((try dsimp only at *); (try simp only [lns] at *); omega), by (show (_ : Prop)); first | omega | ((try dsimp only at *); (try simp only [lns] at *); omega), by (show (_ : Prop)); first | omega | ((try dsimp only at *); (try simp only [lns] at *); omega)⟩, ?_⟩ | refine ⟨by (show (_ : Prop)); first | omega | ((try dsimp only at *); (try simp only [lns] at *); omega), ?_⟩ | refine ⟨fun h => ⟨by (show (_ : Prop)); first | omega | ((try dsimp only at *); (try simp only [lns] at *); omega), by (show (_ : Prop)); first | omega | ((try dsimp only at *); (try simp only [lns] at *); omega)⟩, ?_⟩ | refine ⟨fun (r : List AV) hr c hc => by simp [encS] at hr; (try subst hr); simp at hc; (try subst hc); rfl, ?_⟩ | refine ⟨noOwn (by rfl), ?_⟩)
    exact ⟨trivial, eqOwn (by (try simp only [List.drop_zero, List.take_length, take_app]); simp [hI.fin', encS])⟩
theorem ok_impl_Parts : ConOk Try.prog 96 c_impl_Parts := meets_ok (tabT _ _) FOk.nil mixed Try.func96 rfl Try.call96 (by decide) (by kernel_rfl) m_impl_Parts (by intro _ (y : (Str × UInt8)) _; exact ⟨by simp [c_impl_Parts, con, AV.noRd, noRdCells, noRdRows, noRdRows_map', encS], by simp [c_impl_Parts, con, AV.noRd, noRdCells, noRdRows, noRdRows_map', encS]⟩) (by intro (y : (Str × UInt8)) _; first | (simp [c_impl_Parts, con, AV.free, freeCells, freeRows, freeRows_map, encS]; done) | (obtain ⟨_, _⟩ := y; simp [c_impl_Parts, con, AV.free, freeCells, freeRows, freeRows_map, encS]; done) | (obtain ⟨_, _, _⟩ := y; simp [c_impl_Parts, con, AV.free, freeCells, freeRows, freeRows_map, encS]; done))
end Go.GH

set_option linter.unusedVariables false
set_option linter.unusedSimpArgs false
namespace Go.GH
open Go Go.Proofs
noncomputable def c_spec_PathOk : PCon := con [mC] true Str encS (fun s => sml s.length) (fun s => .bool (pathOk s))
noncomputable def E_spec_PathOk : Env := ⟨lookup tyTab, lookup [(32, c_spec_l1In), (77, c_spec_Parts), (78, c_spec_NameOk)], [0, 2, 3, 4, 6, 18, 22, 30]⟩
set_option maxRecDepth 100000 in
set_option maxHeartbeats 4000000 in
theorem m_spec_PathOk : Meets E_spec_PathOk (codeOf Try.f61) Try.f61.results.toList c_spec_PathOk := by
  intro (s : Str) hs
  have hs : s.length ≤ 4194304 := hs
  refine ⟨trivial, ?_⟩
  (conv => whnf); refine ⟨fun h1 => ?_, fun h1 => ?_⟩
  · conv => whnf
    exact ⟨trivial, eqB (by have h1 : (s == sl) = true := h1; simp [pathOk, h1])⟩
  have h1 : (s == sl) = false := h1
  conv => whnf
  refine ⟨(s, 47), rfl, fun _ => hs, ?_⟩
  conv => whnf
  have hq := splitBy_len (c := 47) s
  have hp := split_pos 47 s
  have hd : pathOk s = (inB (splitBy 47 s).length 2 5 && ((splitBy 47 s).headD [] == []) && ((splitBy 47 s).drop 1).all nameOk) := by simp [pathOk, h1]
  refine ⟨((splitBy 47 s).length, 2, 5), by (try simp only [List.length_map]); rfl, fun _ => trivial, ?_⟩
  obtain ⟨a, ha⟩ := get_lt hp
  have hh : (splitBy 47 s).headD [] = a := by
    cases hx : splitBy 47 s with
    | nil => rw [hx] at ha; cases ha
    | cons y r => rw [hx] at ha; simpa using ha
  rw [hh] at hd
  repeat ((conv => whnf); first | refine ⟨fun h => h, ?_⟩ | refine ⟨(by kernel_rfl : drawOk _ _ = true), ?_⟩ | refine ⟨fun (h : gtrue _) => by first | assumption | exact absurd (Eq.trans (Eq.symm h) (by assumption) : true = false) Bool.noConfusion, ?_⟩ | refine ⟨fun h => (absurd (Eq.trans (Eq.symm h) (by assumption) : true = false) Bool.noConfusion : False), ?_⟩ | refine ⟨_, w64 (by (show (_ : Prop)); first | omega | ((try dsimp only at *); (try simp only [lns] at *); omega)), ?_⟩ | refine ⟨fun _ => ⟨by (show (_ : Prop)); first | omega | ((try dsimp only at *); (try simp only [lns] at *); omega), by (show (_ : Prop)); first | omega | ((try dsimp only at *); (try simp only [lns] at *); omega), by (show (_ : Prop)); first | omega | ((try dsimp only at *); (try simp only [lns] at *); omega)⟩, ?_⟩ | refine ⟨by (show (_ : Prop)); first | omega | ((try dsimp only at *); (try simp only [lns] at *); omega), ?_⟩ | refine ⟨fun h => ⟨by (show (_ : Prop)); first | omega | ((try dsimp only at *); (try simp only [lns] at *); omega), by (show (_ : Prop)); first | omega | ((try dsimp only at *); (try simp only [lns] at *); omega)⟩, ?_⟩ | refine ⟨fun (r : List AV) hr c hc => by simp [encS] at hr; (try subst hr); simp at hc; (try subst hc); rfl, ?_⟩ | refine ⟨noOwn (by rfl), ?_⟩ | refine ⟨encS a, fun _ => get_map ha, ?_⟩)
  (conv => whnf); refine ⟨fun h2 => ?_, fun h2 => ?_⟩
  · conv => whnf
    exact ⟨trivial, eqB (by
      have h2 : ((!inB (splitBy 47 s).length 2 5) || !(a == [])) = true := h2
      rw [hd]
      revert h2
      cases inB (splitBy 47 s).length 2 5 <;> cases (a == []) <;> simp)⟩
  have h2 : inB (splitBy 47 s).length 2 5 = true ∧ (a == []) = true := by
    have h2 : ((!inB (splitBy 47 s).length 2 5) || !(a == [])) = false := h2
    revert h2
    cases inB (splitBy 47 s).length 2 5 <;> cases (a == []) <;> simp
  rw [h2.1, h2.2, Bool.true_and, Bool.true_and] at hd
  conv => whnf
  refine loop_rule (fun i : Nat => ⟨[(3, ⟨none, .view 0 [] 0 ((splitBy 47 s).map encS).length⟩), (4, ⟨none, .int .i64 i⟩)], [(0, .own 1 ((splitBy 47 s).map encS))], 1⟩)
    (fun i => 1 ≤ i ∧ i ≤ (splitBy 47 s).length ∧ (((splitBy 47 s).take i).drop 1).all nameOk = true) (fun i => (splitBy 47 s).length - i) 1 ?_ ⟨by omega, hp, by
      have : ((splitBy 47 s).take 1).drop 1 = [] := by rw [List.drop_eq_nil_iff]; simp; omega
      rw [this]; rfl⟩ ?_
  · (refine ⟨?_, ?_, rfl⟩ <;> repeat' (first | exact rfl | exact trivial | refine ⟨?_, ?_⟩ | fail) <;> (conv => whnf))
  rintro i ⟨hi1, hi, hI⟩
  (conv => whnf); refine ⟨fun h3 => ?_, fun h3 => ?_⟩
  · have h3 : i < (splitBy 47 s).length := by simpa using h3
    obtain ⟨b, hb⟩ := get_lt h3
    repeat ((conv => whnf); first | refine ⟨fun h => h, ?_⟩ | refine ⟨(by kernel_rfl : drawOk _ _ = true), ?_⟩ | refine ⟨fun (h : gtrue _) => by first | assumption | exact absurd (Eq.trans (Eq.symm h) (by assumption) : true = false) Bool.noConfusion, ?_⟩ | refine ⟨fun h => (absurd (Eq.trans (Eq.symm h) (by assumption) : true = false) Bool.noConfusion : False), ?_⟩ | refine ⟨_, w64 (by (show (_ : Prop)); first | omega | ((try dsimp only at *); (try simp only [lns] at *); omega)), ?_⟩ | refine ⟨fun _ => ⟨by (show (_ : Prop)); first | omega | ((try dsimp only at *); (try simp only [lns] at *); omega), by (show (_ : Prop)); first | omega | ((try dsimp only at *); (try simp only [lns] at *); omega), by (show (_ : Prop)); first | omega | ((try dsimp only at *); (try simp only [lns] at *); omega)⟩, ?_⟩ | refine ⟨by (show (_ : Prop)); first | omega | ((try dsimp only at *); (try simp only [lns] at *); omega), ?_⟩ | refine ⟨fun h => ⟨by (show (_ : Prop)); first | omega | ((try dsimp only at *); (try simp only [lns] at *); omega), by (show (_ : Prop)); first | omega | ((try dsimp only at *); (try simp only [lns] at *); omega)⟩, ?_⟩ | refine ⟨fun (r : List AV) hr c hc => by simp [encS] at hr; (try subst hr); simp at hc; (try subst hc); rfl, ?_⟩ | refine ⟨noOwn (by rfl), ?_⟩ | refine ⟨encS b, fun _ => by simp [hb], ?_⟩)
    conv => whnf
    refine ⟨b, rfl, fun _ => ?_, ?_⟩
    · have := splitBy_mem s b (List.mem_of_getElem? hb)
      show b.length ≤ 4611686018427387904
      omega
    (conv => whnf); refine ⟨fun h4 => ?_, fun h4 => ?_⟩
    · conv => whnf
      exact ⟨trivial, eqB (by
        have h4 : (!nameOk b) = true := h4
        rw [hd]
        refine (List.all_eq_false.2 ⟨b, ?_, by simpa using h4⟩).symm
        have : ((splitBy 47 s).drop 1)[i - 1]? = some b := by rw [List.getElem?_drop, show 1 + (i - 1) = i by omega, hb]
        exact List.mem_of_getElem? this)⟩
    · repeat ((conv => whnf); first | refine ⟨fun h => h, ?_⟩ | refine ⟨(by kernel_rfl : drawOk _ _ = true), ?_⟩ | refine ⟨fun (h : gtrue _) => by first | assumption | exact absurd (Eq.trans (Eq.symm h) (by assumption) : true = false) Bool.noConfusion, ?_⟩ | refine ⟨fun h => (absurd (Eq.trans (Eq.symm h) (by assumption) : true = false) Bool.noConfusion : False), ?_⟩ | refine ⟨_, w64 (by (show (_ : Prop)); first | omega | ((try dsimp only at *); (try simp only [lns] at *); omega)), ?_⟩ | refine ⟨fun _ => ⟨by (show (_ : Prop)); first | omega | ((try dsimp only at *); (try simp only [lns] at *); omega), by (show (_ : Prop)); first | omega | ((try dsimp only at *); (try simp only [lns] at *); omega), by (show (_ : Prop)); first | omega | ((try dsimp only at *); (try simp only [lns] at *); omega)⟩, ?_⟩ | refine ⟨by (show (_ : Prop)); first | omega | ((try dsimp only at *); (try simp only [lns] at *); omega), ?_⟩ | refine ⟨fun h => ⟨by (show (_ : Prop)); first | omega | ((try dsimp only at *); (try simp only [lns] at *); omega), by (show (_ : Prop)); first | omega | ((try dsimp only at *); (try simp only [lns] at *); omega)⟩, ?_⟩ | refine ⟨fun (r : List AV) hr c hc => by simp [encS] at hr; (try subst hr); simp at hc; (try subst hc); rfl, ?_⟩ | refine ⟨noOwn (by rfl), ?_⟩)
      refine again (i + 1) ?_ ⟨by omega, h3, ?_⟩ (by first | omega | (simp; done) | (simp; omega))
      · (refine ⟨?_, ?_, rfl⟩ <;> repeat' (first | exact rfl | exact trivial | refine ⟨?_, ?_⟩ | fail) <;> (conv => whnf))
      · have h4 : (!nameOk b) = false := h4
        rw [drop1_snoc hi1 hb, List.all_append, hI]; simpa using h4
  · have h3 : i = (splitBy 47 s).length := by
      have : ¬ i < (splitBy 47 s).length := by simpa using h3
      omega
    subst h3
    rw [List.take_length] at hI
    conv => whnf
    exact ⟨trivial, eqB (by rw [hd, hI])⟩
theorem ok_spec_PathOk : ConOk Try.prog 61 c_spec_PathOk := meets_ok (tabT _ _) (FOk.cons ok_spec_l1In (FOk.cons ok_spec_Parts (FOk.cons ok_spec_NameOk FOk.nil))) mixed Try.func61 rfl Try.call61 (by decide) (by kernel_rfl) m_spec_PathOk (by intro _ (y : Str) _; exact ⟨by simp [c_spec_PathOk, con, AV.noRd, noRdCells, noRdRows, noRdRows_map', encS], by simp [c_spec_PathOk, con, AV.noRd, noRdCells, noRdRows, noRdRows_map', encS]⟩) (by intro (y : Str) _; first | (simp [c_spec_PathOk, con, AV.free, freeCells, freeRows, freeRows_map, encS]; done) | (obtain ⟨_, _⟩ := y; simp [c_spec_PathOk, con, AV.free, freeCells, freeRows, freeRows_map, encS]; done) | (obtain ⟨_, _, _⟩ := y; simp [c_spec_PathOk, con, AV.free, freeCells, freeRows, freeRows_map, encS]; done))
noncomputable def c_spec_l1Copy : PCon := con [mS 1] false (List Str) (fun l => [.rd 1 (l.map encS)]) (fun l => sml l.length) (fun l => .own 1 (l.map encS))
noncomputable def E_spec_l1Copy : Env := ⟨lookup tyTab, lookup [], [0, 2]⟩
set_option maxRecDepth 100000 in
set_option maxHeartbeats 4000000 in
theorem m_spec_l1Copy : Meets E_spec_l1Copy (codeOf Try.f83) Try.f83.results.toList c_spec_l1Copy := by
  intro (l : List Str) hs
  have hs : l.length ≤ 4194304 := hs
  refine ⟨trivial, ?_⟩
  repeat ((conv => whnf); first | refine ⟨fun h => h, ?_⟩ | refine ⟨(by kernel_rfl : drawOk _ _ = true), ?_⟩ | refine ⟨fun (h : gtrue _) => by first | assumption | exact absurd (Eq.trans (Eq.symm h) (by assumption) : true = false) Bool.noConfusion, ?_⟩ | refine ⟨fun h => (absurd (Eq.trans (Eq.symm h) (by assumption) : true = false) Bool.noConfusion : False), ?_⟩ | refine ⟨_, w64 (by (show (_ : Prop)); first | omega | ((try dsimp only at *); (try simp only [lns] at *); omega)), ?_⟩ | refine ⟨fun _ => ⟨by (show (_ : Prop)); first | omega | ((try dsimp only at *); (try simp only [lns] at *); omega), by (show (_ : Prop)); first | omega | ((try dsimp only at *); (try simp only [lns] at *); omega), by (show (_ : Prop)); first | omega | ((try dsimp only at *); (try simp only [lns] at *); omega)⟩, ?_⟩ | refine ⟨by (show (_ : Prop)); first | omega | ((try dsimp only at *); (try simp only [lns] at *); omega), ?_⟩ | refine ⟨fun h => ⟨by (show (_ : Prop)); first | omega | ((try dsimp only at *); (try simp only [lns] at *); omega), by (show (_ : Prop)); first | omega | ((try dsimp only at *); (try simp only [lns] at *); omega)⟩, ?_⟩ | refine ⟨fun (r : List AV) hr c hc => by simp [encS] at hr; (try subst hr); simp at hc; (try subst hc); rfl, ?_⟩ | refine ⟨noOwn (by rfl), ?_⟩)
  exact ⟨trivial, eqOwn (by (try simp only [List.drop_zero, List.take_length, take_app]); simp)⟩
theorem ok_spec_l1Copy : ConOk Try.prog 83 c_spec_l1Copy := meets_ok (tabT _ _) FOk.nil mixed Try.func83 rfl Try.call83 (by decide) (by kernel_rfl) m_spec_l1Copy (by intro _ (y : (List Str)) _; exact ⟨by simp [c_spec_l1Copy, con, AV.noRd, noRdCells, noRdRows, noRdRows_map', encS], by simp [c_spec_l1Copy, con, AV.noRd, noRdCells, noRdRows, noRdRows_map', encS]⟩) (by intro (y : (List Str)) _; first | (simp [c_spec_l1Copy, con, AV.free, freeCells, freeRows, freeRows_map, encS]; done) | (obtain ⟨_, _⟩ := y; simp [c_spec_l1Copy, con, AV.free, freeCells, freeRows, freeRows_map, encS]; done) | (obtain ⟨_, _, _⟩ := y; simp [c_spec_l1Copy, con, AV.free, freeCells, freeRows, freeRows_map, encS]; done))
noncomputable def c_spec_Names : PCon := con [mC] false Str encS (fun l => sml l.length) (fun l => .own 1 ((names l).map encS))
noncomputable def E_spec_Names : Env := ⟨lookup tyTab, lookup [(61, c_spec_PathOk), (77, c_spec_Parts), (83, c_spec_l1Copy)], [0, 2, 9]⟩
set_option maxRecDepth 100000 in
set_option maxHeartbeats 4000000 in
theorem m_spec_Names : Meets E_spec_Names (codeOf Try.f67) Try.f67.results.toList c_spec_Names := by
  intro (s : Str) hs
  have hs : s.length ≤ 4194304 := hs
  refine ⟨trivial, ?_⟩
  conv => whnf
  refine ⟨s, rfl, fun _ => hs, ?_⟩
  repeat ((conv => whnf); first | refine ⟨fun h => h, ?_⟩ | refine ⟨(by kernel_rfl : drawOk _ _ = true), ?_⟩ | refine ⟨fun (h : gtrue _) => by first | assumption | exact absurd (Eq.trans (Eq.symm h) (by assumption) : true = false) Bool.noConfusion, ?_⟩ | refine ⟨fun h => (absurd (Eq.trans (Eq.symm h) (by assumption) : true = false) Bool.noConfusion : False), ?_⟩ | refine ⟨_, w64 (by (show (_ : Prop)); first | omega | ((try dsimp only at *); (try simp only [lns] at *); omega)), ?_⟩ | refine ⟨fun _ => ⟨by (show (_ : Prop)); first | omega | ((try dsimp only at *); (try simp only [lns] at *); omega), by (show (_ : Prop)); first | omega | ((try dsimp only at *); (try simp only [lns] at *); omega), by (show (_ : Prop)); first | omega | ((try dsimp only at *); (try simp only [lns] at *); omega)⟩, ?_⟩ | refine ⟨by (show (_ : Prop)); first | omega | ((try dsimp only at *); (try simp only [lns] at *); omega), ?_⟩ | refine ⟨fun h => ⟨by (show (_ : Prop)); first | omega | ((try dsimp only at *); (try simp only [lns] at *); omega), by (show (_ : Prop)); first | omega | ((try dsimp only at *); (try simp only [lns] at *); omega)⟩, ?_⟩ | refine ⟨fun (r : List AV) hr c hc => by simp [encS] at hr; (try subst hr); simp at hc; (try subst hc); rfl, ?_⟩ | refine ⟨noOwn (by rfl), ?_⟩)
  (conv => whnf); refine ⟨fun h1 => ?_, fun h1 => ?_⟩
  · conv => whnf
    exact ⟨trivial, eqOwn (by
      have h1 : ((!pathOk s) || (s == sl)) = true := h1
      have : names s = [] := by
        rw [names, if_neg]
        revert h1
        cases pathOk s <;> cases (s == sl) <;> simp
      rw [this]; rfl)⟩
  have h1 : ((!pathOk s) || (s == sl)) = false := h1
  have hd : names s = (splitBy 47 s).drop 1 := by
    rw [names, if_pos]
    revert h1
    cases pathOk s <;> cases (s == sl) <;> simp
  have hq := splitBy_len (c := 47) s
  have hp := split_pos 47 s
  conv => whnf
  refine ⟨(s, 47), rfl, fun _ => hs, ?_⟩
  repeat ((conv => whnf); first | refine ⟨fun h => h, ?_⟩ | refine ⟨(by kernel_rfl : drawOk _ _ = true), ?_⟩ | refine ⟨fun (h : gtrue _) => by first | assumption | exact absurd (Eq.trans (Eq.symm h) (by assumption) : true = false) Bool.noConfusion, ?_⟩ | refine ⟨fun h => (absurd (Eq.trans (Eq.symm h) (by assumption) : true = false) Bool.noConfusion : False), ?_⟩ | refine ⟨_, w64 (by (show (_ : Prop)); first | omega | ((try dsimp only at *); (try simp only [lns] at *); omega)), ?_⟩ | refine ⟨fun _ => ⟨by (show (_ : Prop)); first | omega | ((try dsimp only at *); (try simp only [lns] at *); omega), by (show (_ : Prop)); first | omega | ((try dsimp only at *); (try simp only [lns] at *); omega), by (show (_ : Prop)); first | omega | ((try dsimp only at *); (try simp only [lns] at *); omega)⟩, ?_⟩ | refine ⟨by (show (_ : Prop)); first | omega | ((try dsimp only at *); (try simp only [lns] at *); omega), ?_⟩ | refine ⟨fun h => ⟨by (show (_ : Prop)); first | omega | ((try dsimp only at *); (try simp only [lns] at *); omega), by (show (_ : Prop)); first | omega | ((try dsimp only at *); (try simp only [lns] at *); omega)⟩, ?_⟩ | refine ⟨fun (r : List AV) hr c hc => by simp [encS] at hr; (try subst hr); simp at hc; (try subst hc); rfl, ?_⟩ | refine ⟨noOwn (by rfl), ?_⟩)
  refine ⟨(splitBy 47 s).drop 1, by refine congrArg (fun x => [AV.rd 1 x]) ?_; rw [cutS, List.take_of_length_le (by simp)]; rfl, fun _ => by show _ ≤ _; simp; omega, ?_⟩
  conv => whnf
  exact ⟨trivial, eqOwn (by rw [hd]; (try simp only [List.drop_zero, List.take_length, take_app]))⟩
theorem ok_spec_Names : ConOk Try.prog 67 c_spec_Names := meets_ok (tabT _ _) (FOk.cons ok_spec_PathOk (FOk.cons ok_spec_Parts (FOk.cons ok_spec_l1Copy FOk.nil))) mixed Try.func67 rfl Try.call67 (by decide) (by kernel_rfl) m_spec_Names (by intro _ (y : Str) _; exact ⟨by simp [c_spec_Names, con, AV.noRd, noRdCells, noRdRows, noRdRows_map', encS], by simp [c_spec_Names, con, AV.noRd, noRdCells, noRdRows, noRdRows_map', encS]⟩) (by intro (y : Str) _; first | (simp [c_spec_Names, con, AV.free, freeCells, freeRows, freeRows_map, encS]; done) | (obtain ⟨_, _⟩ := y; simp [c_spec_Names, con, AV.free, freeCells, freeRows, freeRows_map, encS]; done) | (obtain ⟨_, _, _⟩ := y; simp [c_spec_Names, con, AV.free, freeCells, freeRows, freeRows_map, encS]; done))
noncomputable def c_spec_PathOf : PCon := con [mS 1] true (List Str) (fun l => [.rd 1 (l.map encS)]) (fun l => l.length + (l.map List.length).sum < 4194304) (fun l => .str (pathOf l))
noncomputable def E_spec_PathOf : Env := ⟨lookup tyTab, lookup [(61, c_spec_PathOk), (67, c_spec_Names)], [0, 2, 3, 4, 8, 20, 31]⟩
set_option maxRecDepth 100000 in
set_option maxHeartbeats 4000000 in
theorem m_spec_PathOf : Meets E_spec_PathOf (codeOf Try.f79) Try.f79.results.toList c_spec_PathOf := by
  intro (l : List Str) hs
  have hs : l.length + (l.map List.length).sum < 4194304 := hs
  refine ⟨trivial, ?_⟩
  repeat ((conv => whnf); first | refine ⟨fun h => h, ?_⟩ | refine ⟨(by kernel_rfl : drawOk _ _ = true), ?_⟩ | refine ⟨fun (h : gtrue _) => by first | assumption | exact absurd (Eq.trans (Eq.symm h) (by assumption) : true = false) Bool.noConfusion, ?_⟩ | refine ⟨fun h => (absurd (Eq.trans (Eq.symm h) (by assumption) : true = false) Bool.noConfusion : False), ?_⟩ | refine ⟨_, w64 (by (show (_ : Prop)); first | omega | ((try dsimp only at *); (try simp only [lns] at *); omega)), ?_⟩ | refine ⟨fun _ => ⟨by (show (_ : Prop)); first | omega | ((try dsimp only at *); (try simp only [lns] at *); omega), by (show (_ : Prop)); first | omega | ((try dsimp only at *); (try simp only [lns] at *); omega), by (show (_ : Prop)); first | omega | ((try dsimp only at *); (try simp only [lns] at *); omega)⟩, ?_⟩ | refine ⟨by (show (_ : Prop)); first | omega | ((try dsimp only at *); (try simp only [lns] at *); omega), ?_⟩ | refine ⟨fun h => ⟨by (show (_ : Prop)); first | omega | ((try dsimp only at *); (try simp only [lns] at *); omega), by (show (_ : Prop)); first | omega | ((try dsimp only at *); (try simp only [lns] at *); omega)⟩, ?_⟩ | refine ⟨fun (r : List AV) hr c hc => by simp [encS] at hr; (try subst hr); simp at hc; (try subst hc); rfl, ?_⟩ | refine ⟨noOwn (by rfl), ?_⟩)
  refine loop_rule (fun i : Nat => ⟨[(0, ⟨none, .rd 1 (l.map encS)⟩), (3, ⟨none, .str (cat (l.take i))⟩), (4, ⟨none, .int .i64 i⟩)], [], 0⟩) (fun i => i ≤ l.length) (fun i => l.length - i) 0 ?_ (by omega) ?_
  · (refine ⟨?_, ?_, rfl⟩ <;> repeat' (first | exact rfl | exact trivial | refine ⟨?_, ?_⟩ | fail) <;> (conv => whnf))
  intro i hi
  (conv => whnf); refine ⟨fun h1 => ?_, fun h1 => ?_⟩
  · have h1 : i < l.length := by simpa using h1
    obtain ⟨b, hb⟩ := get_lt h1
    have hl : (cat (l.take i)).length + b.length + 1 ≤ 4194304 := by
      have h2 := sum_take l (i + 1)
      rw [take_succ' hb] at h2
      rw [cat_len]
      simp at h2 ⊢
      omega
    repeat ((conv => whnf); first | refine ⟨fun h => h, ?_⟩ | refine ⟨(by kernel_rfl : drawOk _ _ = true), ?_⟩ | refine ⟨fun (h : gtrue _) => by first | assumption | exact absurd (Eq.trans (Eq.symm h) (by assumption) : true = false) Bool.noConfusion, ?_⟩ | refine ⟨fun h => (absurd (Eq.trans (Eq.symm h) (by assumption) : true = false) Bool.noConfusion : False), ?_⟩ | refine ⟨_, w64 (by (show (_ : Prop)); first | omega | ((try dsimp only at *); (try simp only [lns] at *); omega)), ?_⟩ | refine ⟨fun _ => ⟨by (show (_ : Prop)); first | omega | ((try dsimp only at *); (try simp only [lns] at *); omega), by (show (_ : Prop)); first | omega | ((try dsimp only at *); (try simp only [lns] at *); omega), by (show (_ : Prop)); first | omega | ((try dsimp only at *); (try simp only [lns] at *); omega)⟩, ?_⟩ | refine ⟨by (show (_ : Prop)); first | omega | ((try dsimp only at *); (try simp only [lns] at *); omega), ?_⟩ | refine ⟨fun h => ⟨by (show (_ : Prop)); first | omega | ((try dsimp only at *); (try simp only [lns] at *); omega), by (show (_ : Prop)); first | omega | ((try dsimp only at *); (try simp only [lns] at *); omega)⟩, ?_⟩ | refine ⟨fun (r : List AV) hr c hc => by simp [encS] at hr; (try subst hr); simp at hc; (try subst hc); rfl, ?_⟩ | refine ⟨noOwn (by rfl), ?_⟩ | refine ⟨encS b, fun _ => ⟨by omega, by simp [hb]⟩, ?_⟩ | refine ⟨by simp [encS, sl]; omega, ?_⟩)
    refine again (i + 1) ?_ h1 (by first | omega | (simp; done) | (simp; omega))
    · (refine ⟨?_, ?_, rfl⟩ <;> repeat' (first | exact rfl | exact trivial | refine ⟨?_, ?_⟩ | fail) <;> (conv => whnf))
      rw [take_succ' hb, cat_append]
      simp [cat]
  · have h1 : i = l.length := by
      have hi : i ≤ l.length := hi
      have : ¬ i < l.length := by simpa using h1
      omega
    subst h1
    rw [List.take_length]
    have hl := cat1_len l
    have e : cat1 l = if (l.length == 0) = true then sl else cat l := by cases l <;> rfl
    have hps := pathOf_spec l
    have hpl : (cat1 l).length ≤ 4194304 := by omega
    (conv => whnf); refine ⟨fun h2 => ?_, fun h2 => ?_⟩
    · have h2 : l = [] := by simpa using h2
      have hc : sl = cat1 l := by subst h2; rfl
      conv => whnf
      refine ⟨cat1 l, by rw [← hc]; rfl, fun _ => hpl, ?_⟩
      (conv => whnf); refine ⟨fun h3 => ?_, fun h3 => ?_⟩
      · have h3 : pathOk (cat1 l) = true := by
          have h3 : (!!pathOk (cat1 l)) = true := h3
          simpa using h3
        repeat ((conv => whnf); first | refine ⟨fun h => h, ?_⟩ | refine ⟨(by kernel_rfl : drawOk _ _ = true), ?_⟩ | refine ⟨fun (h : gtrue _) => by first | assumption | exact absurd (Eq.trans (Eq.symm h) (by assumption) : true = false) Bool.noConfusion, ?_⟩ | refine ⟨fun h => (absurd (Eq.trans (Eq.symm h) (by assumption) : true = false) Bool.noConfusion : False), ?_⟩ | refine ⟨_, w64 (by (show (_ : Prop)); first | omega | ((try dsimp only at *); (try simp only [lns] at *); omega)), ?_⟩ | refine ⟨fun _ => ⟨by (show (_ : Prop)); first | omega | ((try dsimp only at *); (try simp only [lns] at *); omega), by (show (_ : Prop)); first | omega | ((try dsimp only at *); (try simp only [lns] at *); omega), by (show (_ : Prop)); first | omega | ((try dsimp only at *); (try simp only [lns] at *); omega)⟩, ?_⟩ | refine ⟨by (show (_ : Prop)); first | omega | ((try dsimp only at *); (try simp only [lns] at *); omega), ?_⟩ | refine ⟨fun h => ⟨by (show (_ : Prop)); first | omega | ((try dsimp only at *); (try simp only [lns] at *); omega), by (show (_ : Prop)); first | omega | ((try dsimp only at *); (try simp only [lns] at *); omega)⟩, ?_⟩ | refine ⟨fun (r : List AV) hr c hc => by simp [encS] at hr; (try subst hr); simp at hc; (try subst hc); rfl, ?_⟩ | refine ⟨noOwn (by rfl), ?_⟩)
        refine ⟨cat1 l, by rw [← hc]; rfl, fun _ => hpl, ?_⟩
        repeat ((conv => whnf); first | refine ⟨fun h => h, ?_⟩ | refine ⟨(by kernel_rfl : drawOk _ _ = true), ?_⟩ | refine ⟨fun (h : gtrue _) => by first | assumption | exact absurd (Eq.trans (Eq.symm h) (by assumption) : true = false) Bool.noConfusion, ?_⟩ | refine ⟨fun h => (absurd (Eq.trans (Eq.symm h) (by assumption) : true = false) Bool.noConfusion : False), ?_⟩ | refine ⟨_, w64 (by (show (_ : Prop)); first | omega | ((try dsimp only at *); (try simp only [lns] at *); omega)), ?_⟩ | refine ⟨fun _ => ⟨by (show (_ : Prop)); first | omega | ((try dsimp only at *); (try simp only [lns] at *); omega), by (show (_ : Prop)); first | omega | ((try dsimp only at *); (try simp only [lns] at *); omega), by (show (_ : Prop)); first | omega | ((try dsimp only at *); (try simp only [lns] at *); omega)⟩, ?_⟩ | refine ⟨by (show (_ : Prop)); first | omega | ((try dsimp only at *); (try simp only [lns] at *); omega), ?_⟩ | refine ⟨fun h => ⟨by (show (_ : Prop)); first | omega | ((try dsimp only at *); (try simp only [lns] at *); omega), by (show (_ : Prop)); first | omega | ((try dsimp only at *); (try simp only [lns] at *); omega)⟩, ?_⟩ | refine ⟨fun (r : List AV) hr c hc => by simp [encS] at hr; (try subst hr); simp at hc; (try subst hc); rfl, ?_⟩ | refine ⟨noOwn (by rfl), ?_⟩)
        (conv => whnf); refine ⟨fun h4 => ?_, fun h4 => ?_⟩
        · conv => whnf
          exact ⟨trivial, eqS (by
            have h4 : ((!pathOk (cat1 l)) || !((((names (cat1 l)).map encS).length : Int) == ((l.map encS).length : Int))) = true := h4
            rw [hps, if_neg]
            rw [h3] at h4 ⊢
            simp at h4 ⊢; omega)⟩
        · conv => whnf
          exact ⟨trivial, eqS (by
            have h4 : ((!pathOk (cat1 l)) || !((((names (cat1 l)).map encS).length : Int) == ((l.map encS).length : Int))) = false := h4
            rw [hps, if_pos]
            · exact hc
            rw [h3] at h4 ⊢
            simp at h4 ⊢; omega)⟩
      · have h3 : pathOk (cat1 l) = false := by
          have h3 : (!!pathOk (cat1 l)) = false := h3
          simpa using h3
        repeat ((conv => whnf); first | refine ⟨fun h => h, ?_⟩ | refine ⟨(by kernel_rfl : drawOk _ _ = true), ?_⟩ | refine ⟨fun (h : gtrue _) => by first | assumption | exact absurd (Eq.trans (Eq.symm h) (by assumption) : true = false) Bool.noConfusion, ?_⟩ | refine ⟨fun h => (absurd (Eq.trans (Eq.symm h) (by assumption) : true = false) Bool.noConfusion : False), ?_⟩ | refine ⟨_, w64 (by (show (_ : Prop)); first | omega | ((try dsimp only at *); (try simp only [lns] at *); omega)), ?_⟩ | refine ⟨fun _ => ⟨by (show (_ : Prop)); first | omega | ((try dsimp only at *); (try simp only [lns] at *); omega), by (show (_ : Prop)); first | omega | ((try dsimp only at *); (try simp only [lns] at *); omega), by (show (_ : Prop)); first | omega | ((try dsimp only at *); (try simp only [lns] at *); omega)⟩, ?_⟩ | refine ⟨by (show (_ : Prop)); first | omega | ((try dsimp only at *); (try simp only [lns] at *); omega), ?_⟩ | refine ⟨fun h => ⟨by (show (_ : Prop)); first | omega | ((try dsimp only at *); (try simp only [lns] at *); omega), by (show (_ : Prop)); first | omega | ((try dsimp only at *); (try simp only [lns] at *); omega)⟩, ?_⟩ | refine ⟨fun (r : List AV) hr c hc => by simp [encS] at hr; (try subst hr); simp at hc; (try subst hc); rfl, ?_⟩ | refine ⟨noOwn (by rfl), ?_⟩)
        (conv => whnf); refine ⟨fun h4 => ?_, fun h4 => ?_⟩
        · conv => whnf
          exact ⟨trivial, eqS (by rw [hps, if_neg]; simp [h3])⟩
        · cases h4
    · have h2 : l ≠ [] := by simpa using h2
      have hc : cat l = cat1 l := by rw [e, if_neg]; simpa using h2
      conv => whnf
      refine ⟨cat1 l, by rw [← hc]; rfl, fun _ => hpl, ?_⟩
      (conv => whnf); refine ⟨fun h3 => ?_, fun h3 => ?_⟩
      · have h3 : pathOk (cat1 l) = true := by
          have h3 : (!!pathOk (cat1 l)) = true := h3
          simpa using h3
        repeat ((conv => whnf); first | refine ⟨fun h => h, ?_⟩ | refine ⟨(by kernel_rfl : drawOk _ _ = true), ?_⟩ | refine ⟨fun (h : gtrue _) => by first | assumption | exact absurd (Eq.trans (Eq.symm h) (by assumption) : true = false) Bool.noConfusion, ?_⟩ | refine ⟨fun h => (absurd (Eq.trans (Eq.symm h) (by assumption) : true = false) Bool.noConfusion : False), ?_⟩ | refine ⟨_, w64 (by (show (_ : Prop)); first | omega | ((try dsimp only at *); (try simp only [lns] at *); omega)), ?_⟩ | refine ⟨fun _ => ⟨by (show (_ : Prop)); first | omega | ((try dsimp only at *); (try simp only [lns] at *); omega), by (show (_ : Prop)); first | omega | ((try dsimp only at *); (try simp only [lns] at *); omega), by (show (_ : Prop)); first | omega | ((try dsimp only at *); (try simp only [lns] at *); omega)⟩, ?_⟩ | refine ⟨by (show (_ : Prop)); first | omega | ((try dsimp only at *); (try simp only [lns] at *); omega), ?_⟩ | refine ⟨fun h => ⟨by (show (_ : Prop)); first | omega | ((try dsimp only at *); (try simp only [lns] at *); omega), by (show (_ : Prop)); first | omega | ((try dsimp only at *); (try simp only [lns] at *); omega)⟩, ?_⟩ | refine ⟨fun (r : List AV) hr c hc => by simp [encS] at hr; (try subst hr); simp at hc; (try subst hc); rfl, ?_⟩ | refine ⟨noOwn (by rfl), ?_⟩)
        refine ⟨cat1 l, by rw [← hc]; rfl, fun _ => hpl, ?_⟩
        repeat ((conv => whnf); first | refine ⟨fun h => h, ?_⟩ | refine ⟨(by kernel_rfl : drawOk _ _ = true), ?_⟩ | refine ⟨fun (h : gtrue _) => by first | assumption | exact absurd (Eq.trans (Eq.symm h) (by assumption) : true = false) Bool.noConfusion, ?_⟩ | refine ⟨fun h => (absurd (Eq.trans (Eq.symm h) (by assumption) : true = false) Bool.noConfusion : False), ?_⟩ | refine ⟨_, w64 (by (show (_ : Prop)); first | omega | ((try dsimp only at *); (try simp only [lns] at *); omega)), ?_⟩ | refine ⟨fun _ => ⟨by (show (_ : Prop)); first | omega | ((try dsimp only at *); (try simp only [lns] at *); omega), by (show (_ : Prop)); first | omega | ((try dsimp only at *); (try simp only [lns] at *); omega), by (show (_ : Prop)); first | omega | ((try dsimp only at *); (try simp only [lns] at *); omega)⟩, ?_⟩ | refine ⟨by (show (_ : Prop)); first | omega | ((try dsimp only at *); (try simp only [lns] at *); omega), ?_⟩ | refine ⟨fun h => ⟨by (show (_ : Prop)); first | omega | ((try dsimp only at *); (try simp only [lns] at *); omega), by (show (_ : Prop)); first | omega | ((try dsimp only at *); (try simp only [lns] at *); omega)⟩, ?_⟩ | refine ⟨fun (r : List AV) hr c hc => by simp [encS] at hr; (try subst hr); simp at hc; (try subst hc); rfl, ?_⟩ | refine ⟨noOwn (by rfl), ?_⟩)
        (conv => whnf); refine ⟨fun h4 => ?_, fun h4 => ?_⟩
        · conv => whnf
          exact ⟨trivial, eqS (by
            have h4 : ((!pathOk (cat1 l)) || !((((names (cat1 l)).map encS).length : Int) == ((l.map encS).length : Int))) = true := h4
            rw [hps, if_neg]
            rw [h3] at h4 ⊢
            simp at h4 ⊢; omega)⟩
        · conv => whnf
          exact ⟨trivial, eqS (by
            have h4 : ((!pathOk (cat1 l)) || !((((names (cat1 l)).map encS).length : Int) == ((l.map encS).length : Int))) = false := h4
            rw [hps, if_pos]
            · exact hc
            rw [h3] at h4 ⊢
            simp at h4 ⊢; omega)⟩
      · have h3 : pathOk (cat1 l) = false := by
          have h3 : (!!pathOk (cat1 l)) = false := h3
          simpa using h3
        repeat ((conv => whnf); first | refine ⟨fun h => h, ?_⟩ | refine ⟨(by kernel_rfl : drawOk _ _ = true), ?_⟩ | refine ⟨fun (h : gtrue _) => by first | assumption | exact absurd (Eq.trans (Eq.symm h) (by assumption) : true = false) Bool.noConfusion, ?_⟩ | refine ⟨fun h => (absurd (Eq.trans (Eq.symm h) (by assumption) : true = false) Bool.noConfusion : False), ?_⟩ | refine ⟨_, w64 (by (show (_ : Prop)); first | omega | ((try dsimp only at *); (try simp only [lns] at *); omega)), ?_⟩ | refine ⟨fun _ => ⟨by (show (_ : Prop)); first | omega | ((try dsimp only at *); (try simp only [lns] at *); omega), by (show (_ : Prop)); first | omega | ((try dsimp only at *); (try simp only [lns] at *); omega), by (show (_ : Prop)); first | omega | ((try dsimp only at *); (try simp only [lns] at *); omega)⟩, ?_⟩ | refine ⟨by (show (_ : Prop)); first | omega | ((try dsimp only at *); (try simp only [lns] at *); omega), ?_⟩ | refine ⟨fun h => ⟨by (show (_ : Prop)); first | omega | ((try dsimp only at *); (try simp only [lns] at *); omega), by (show (_ : Prop)); first | omega | ((try dsimp only at *); (try simp only [lns] at *); omega)⟩, ?_⟩ | refine ⟨fun (r : List AV) hr c hc => by simp [encS] at hr; (try subst hr); simp at hc; (try subst hc); rfl, ?_⟩ | refine ⟨noOwn (by rfl), ?_⟩)
        (conv => whnf); refine ⟨fun h4 => ?_, fun h4 => ?_⟩
        · conv => whnf
          exact ⟨trivial, eqS (by rw [hps, if_neg]; simp [h3])⟩
        · cases h4
theorem ok_spec_PathOf : ConOk Try.prog 79 c_spec_PathOf := meets_ok (tabT _ _) (FOk.cons ok_spec_PathOk (FOk.cons ok_spec_Names FOk.nil)) mixed Try.func79 rfl Try.call79 (by decide) (by kernel_rfl) m_spec_PathOf (by intro _ (y : (List Str)) _; exact ⟨by simp [c_spec_PathOf, con, AV.noRd, noRdCells, noRdRows, noRdRows_map', encS], by simp [c_spec_PathOf, con, AV.noRd, noRdCells, noRdRows, noRdRows_map', encS]⟩) (by intro (y : (List Str)) _; first | (simp [c_spec_PathOf, con, AV.free, freeCells, freeRows, freeRows_map, encS]; done) | (obtain ⟨_, _⟩ := y; simp [c_spec_PathOf, con, AV.free, freeCells, freeRows, freeRows_map, encS]; done) | (obtain ⟨_, _, _⟩ := y; simp [c_spec_PathOf, con, AV.free, freeCells, freeRows, freeRows_map, encS]; done))
noncomputable def c_spec_Above : PCon := con [mC] true Str encS (fun l => sml l.length) (fun l => .str (above l))
noncomputable def E_spec_Above : Env := ⟨lookup tyTab, lookup [(61, c_spec_PathOk), (67, c_spec_Names), (79, c_spec_PathOf)], [0, 2, 3, 8, 11]⟩
set_option maxRecDepth 100000 in
set_option maxHeartbeats 4000000 in
theorem m_spec_Above : Meets E_spec_Above (codeOf Try.f62) Try.f62.results.toList c_spec_Above := by
  intro (s : Str) hs
  have hs : s.length ≤ 4194304 := hs
  refine ⟨trivial, ?_⟩
  conv => whnf
  refine ⟨s, rfl, fun _ => hs, ?_⟩
  conv => whnf
  refine ⟨s, rfl, fun _ => hs, ?_⟩
  (conv => whnf); refine ⟨fun h1 => ?_, fun h1 => ?_⟩
  · have h1 : pathOk s = false := by
      have h1 : (!pathOk s) = true := h1
      simpa using h1
    conv => whnf
    exact ⟨trivial, eqS (by simp [above, h1])⟩
  have h1 : pathOk s = true := by
    have h1 : (!pathOk s) = false := h1
    simpa using h1
  have hd : above s = pathOf ((names s).take ((names s).length - 1)) := by simp [above, h1]
  (conv => whnf); refine ⟨fun h2 => ?_, fun h2 => ?_⟩
  · have h2 : names s = [] := by simpa using h2
    conv => whnf
    exact ⟨trivial, eqS (by rw [hd, h2]; rfl)⟩
  have h2 : 0 < (names s).length := by
    have : names s ≠ [] := by simpa using h2
    exact List.length_pos_iff.2 this
  have hnl := names_len (p := s)
  have hns := names_sum (p := s)
  repeat ((conv => whnf); first | refine ⟨fun h => h, ?_⟩ | refine ⟨(by kernel_rfl : drawOk _ _ = true), ?_⟩ | refine ⟨fun (h : gtrue _) => by first | assumption | exact absurd (Eq.trans (Eq.symm h) (by assumption) : true = false) Bool.noConfusion, ?_⟩ | refine ⟨fun h => (absurd (Eq.trans (Eq.symm h) (by assumption) : true = false) Bool.noConfusion : False), ?_⟩ | refine ⟨_, w64 (by (show (_ : Prop)); first | omega | ((try dsimp only at *); (try simp only [lns] at *); omega)), ?_⟩ | refine ⟨fun _ => ⟨by (show (_ : Prop)); first | omega | ((try dsimp only at *); (try simp only [lns] at *); omega), by (show (_ : Prop)); first | omega | ((try dsimp only at *); (try simp only [lns] at *); omega), by (show (_ : Prop)); first | omega | ((try dsimp only at *); (try simp only [lns] at *); omega)⟩, ?_⟩ | refine ⟨by (show (_ : Prop)); first | omega | ((try dsimp only at *); (try simp only [lns] at *); omega), ?_⟩ | refine ⟨fun h => ⟨by (show (_ : Prop)); first | omega | ((try dsimp only at *); (try simp only [lns] at *); omega), by (show (_ : Prop)); first | omega | ((try dsimp only at *); (try simp only [lns] at *); omega)⟩, ?_⟩ | refine ⟨fun (r : List AV) hr c hc => by simp [encS] at hr; (try subst hr); simp at hc; (try subst hc); rfl, ?_⟩ | refine ⟨noOwn (by rfl), ?_⟩)
  refine ⟨(names s).take ((names s).length - 1), by
    refine congrArg (fun x => [AV.rd 1 x]) ?_
    rw [cutS]
    simp only [Int.toNat_natCast, List.drop_zero, List.length_map]
    congr 2
    omega, fun _ => ?_, ?_⟩
  · have := sum_take (names s) ((names s).length - 1)
    show _ < _
    rw [List.length_take]
    omega
  conv => whnf
  exact ⟨trivial, eqS hd.symm⟩
theorem ok_spec_Above : ConOk Try.prog 62 c_spec_Above := meets_ok (tabT _ _) (FOk.cons ok_spec_PathOk (FOk.cons ok_spec_Names (FOk.cons ok_spec_PathOf FOk.nil))) mixed Try.func62 rfl Try.call62 (by decide) (by kernel_rfl) m_spec_Above (by intro _ (y : Str) _; exact ⟨by simp [c_spec_Above, con, AV.noRd, noRdCells, noRdRows, noRdRows_map', encS], by simp [c_spec_Above, con, AV.noRd, noRdCells, noRdRows, noRdRows_map', encS]⟩) (by intro (y : Str) _; first | (simp [c_spec_Above, con, AV.free, freeCells, freeRows, freeRows_map, encS]; done) | (obtain ⟨_, _⟩ := y; simp [c_spec_Above, con, AV.free, freeCells, freeRows, freeRows_map, encS]; done) | (obtain ⟨_, _, _⟩ := y; simp [c_spec_Above, con, AV.free, freeCells, freeRows, freeRows_map, encS]; done))
end Go.GH

set_option linter.unusedVariables false
set_option linter.unusedSimpArgs false
namespace Go.GH
open Go Go.Proofs
noncomputable def c_spec_TreeGet : PCon := con [mS 4, mC] true (Tr × Str) (fun x => [rdT x.1, .str x.2]) (fun x => smT x.1) (fun x => resGet (treeGet x.1 x.2))
noncomputable def E_spec_TreeGet : Env := ⟨lookup tyTab, lookup [], [0, 1, 2, 4, 5, 6, 8, 14, 24]⟩
set_option maxRecDepth 100000 in
set_option maxHeartbeats 4000000 in
theorem m_spec_TreeGet : Meets E_spec_TreeGet (codeOf Try.f41) Try.f41.results.toList c_spec_TreeGet := by
  rintro ⟨t, p⟩ hs
  obtain ⟨hs1, hs2⟩ : smT t := hs
  refine ⟨trivial, ?_⟩
  (conv => whnf); refine ⟨fun h1 => ?_, fun h1 => ?_⟩
  · have h1 : (p == sl) = true := h1
    conv => whnf
    rw [show c_spec_TreeGet.res (t, p) = .tup [.agg (encI It.top), .bool true] by show resGet (treeGet t p) = _; simp [treeGet, h1]; rfl]; exact ⟨trivial, ⟨rfl, rfl, rfl, rfl, trivial⟩, rfl, trivial⟩
  have h1 : (p == sl) = false := h1
  repeat ((conv => whnf); first | refine ⟨fun h => h, ?_⟩ | refine ⟨(by kernel_rfl : drawOk _ _ = true), ?_⟩ | refine ⟨fun (h : gtrue _) => by first | assumption | exact absurd (Eq.trans (Eq.symm h) (by assumption) : true = false) Bool.noConfusion, ?_⟩ | refine ⟨fun h => (absurd (Eq.trans (Eq.symm h) (by assumption) : true = false) Bool.noConfusion : False), ?_⟩ | refine ⟨_, w64 (by (show (_ : Prop)); first | omega | ((try dsimp only at *); (try simp only [lns] at *); omega)), ?_⟩ | refine ⟨fun _ => ⟨by (show (_ : Prop)); first | omega | ((try dsimp only at *); (try simp only [lns] at *); omega), by (show (_ : Prop)); first | omega | ((try dsimp only at *); (try simp only [lns] at *); omega), by (show (_ : Prop)); first | omega | ((try dsimp only at *); (try simp only [lns] at *); omega)⟩, ?_⟩ | refine ⟨by (show (_ : Prop)); first | omega | ((try dsimp only at *); (try simp only [lns] at *); omega), ?_⟩ | refine ⟨fun h => ⟨by (show (_ : Prop)); first | omega | ((try dsimp only at *); (try simp only [lns] at *); omega), by (show (_ : Prop)); first | omega | ((try dsimp only at *); (try simp only [lns] at *); omega)⟩, ?_⟩ | refine ⟨fun (r : List AV) hr c hc => by simp [encS] at hr; (try subst hr); simp at hc; (try subst hc); rfl, ?_⟩ | refine ⟨noOwn (by rfl), ?_⟩)
  refine loop_rule (fun i : Nat => ⟨[(1, ⟨none, .str p⟩), (2, ⟨none, .bx 0 0⟩), (4, ⟨none, .bx 1 0⟩), (6, ⟨none, .int .i64 i⟩)], [(1, .own 4 [encI It.none]), (0, .own 1 [[.rd 4 (t.map encI)]])], 2⟩)
    (fun i => i ≤ t.length ∧ (t.take i).find? (fun x => x.path == p) = none) (fun i => t.length - i) 0 ?_ ⟨by omega, rfl⟩ ?_
  · (refine ⟨?_, ?_, rfl⟩ <;> repeat' (first | exact rfl | exact trivial | refine ⟨?_, ?_⟩ | fail) <;> (conv => whnf))
  rintro i ⟨hi, hI⟩
  (conv => whnf); refine ⟨fun h2 => ?_, fun h2 => ?_⟩
  · have h2 : i < t.length := by simpa using h2
    obtain ⟨b, hb⟩ := get_lt h2
    repeat ((conv => whnf); first | refine ⟨fun h => h, ?_⟩ | refine ⟨(by kernel_rfl : drawOk _ _ = true), ?_⟩ | refine ⟨fun (h : gtrue _) => by first | assumption | exact absurd (Eq.trans (Eq.symm h) (by assumption) : true = false) Bool.noConfusion, ?_⟩ | refine ⟨fun h => (absurd (Eq.trans (Eq.symm h) (by assumption) : true = false) Bool.noConfusion : False), ?_⟩ | refine ⟨_, w64 (by (show (_ : Prop)); first | omega | ((try dsimp only at *); (try simp only [lns] at *); omega)), ?_⟩ | refine ⟨fun _ => ⟨by (show (_ : Prop)); first | omega | ((try dsimp only at *); (try simp only [lns] at *); omega), by (show (_ : Prop)); first | omega | ((try dsimp only at *); (try simp only [lns] at *); omega), by (show (_ : Prop)); first | omega | ((try dsimp only at *); (try simp only [lns] at *); omega)⟩, ?_⟩ | refine ⟨by (show (_ : Prop)); first | omega | ((try dsimp only at *); (try simp only [lns] at *); omega), ?_⟩ | refine ⟨fun h => ⟨by (show (_ : Prop)); first | omega | ((try dsimp only at *); (try simp only [lns] at *); omega), by (show (_ : Prop)); first | omega | ((try dsimp only at *); (try simp only [lns] at *); omega)⟩, ?_⟩ | refine ⟨fun (r : List AV) hr c hc => by simp [encS] at hr; (try subst hr); simp at hc; (try subst hc); rfl, ?_⟩ | refine ⟨noOwn (by rfl), ?_⟩ | refine ⟨encI b, fun _ => ⟨by omega, by simp [hb]⟩, ?_⟩)
    (conv => whnf); refine ⟨fun h3 => ?_, fun h3 => ?_⟩
    · have h3 : (b.path == p) = true := h3
      repeat ((conv => whnf); first | refine ⟨fun h => h, ?_⟩ | refine ⟨(by kernel_rfl : drawOk _ _ = true), ?_⟩ | refine ⟨fun (h : gtrue _) => by first | assumption | exact absurd (Eq.trans (Eq.symm h) (by assumption) : true = false) Bool.noConfusion, ?_⟩ | refine ⟨fun h => (absurd (Eq.trans (Eq.symm h) (by assumption) : true = false) Bool.noConfusion : False), ?_⟩ | refine ⟨_, w64 (by (show (_ : Prop)); first | omega | ((try dsimp only at *); (try simp only [lns] at *); omega)), ?_⟩ | refine ⟨fun _ => ⟨by (show (_ : Prop)); first | omega | ((try dsimp only at *); (try simp only [lns] at *); omega), by (show (_ : Prop)); first | omega | ((try dsimp only at *); (try simp only [lns] at *); omega), by (show (_ : Prop)); first | omega | ((try dsimp only at *); (try simp only [lns] at *); omega)⟩, ?_⟩ | refine ⟨by (show (_ : Prop)); first | omega | ((try dsimp only at *); (try simp only [lns] at *); omega), ?_⟩ | refine ⟨fun h => ⟨by (show (_ : Prop)); first | omega | ((try dsimp only at *); (try simp only [lns] at *); omega), by (show (_ : Prop)); first | omega | ((try dsimp only at *); (try simp only [lns] at *); omega)⟩, ?_⟩ | refine ⟨fun (r : List AV) hr c hc => by simp [encS] at hr; (try subst hr); simp at hc; (try subst hc); rfl, ?_⟩ | refine ⟨noOwn (by rfl), ?_⟩ | refine ⟨encI b, fun _ => ⟨by omega, by simp [hb]⟩, ?_⟩)
      rw [show c_spec_TreeGet.res (t, p) = .tup [.agg (encI b), .bool true] by show resGet (treeGet t p) = _; simp [treeGet, h1, find_take_none hI hb h3, resGet]]; exact ⟨trivial, ⟨rfl, rfl, rfl, rfl, trivial⟩, rfl, trivial⟩
    · have h3 : (b.path == p) = false := h3
      repeat ((conv => whnf); first | refine ⟨fun h => h, ?_⟩ | refine ⟨(by kernel_rfl : drawOk _ _ = true), ?_⟩ | refine ⟨fun (h : gtrue _) => by first | assumption | exact absurd (Eq.trans (Eq.symm h) (by assumption) : true = false) Bool.noConfusion, ?_⟩ | refine ⟨fun h => (absurd (Eq.trans (Eq.symm h) (by assumption) : true = false) Bool.noConfusion : False), ?_⟩ | refine ⟨_, w64 (by (show (_ : Prop)); first | omega | ((try dsimp only at *); (try simp only [lns] at *); omega)), ?_⟩ | refine ⟨fun _ => ⟨by (show (_ : Prop)); first | omega | ((try dsimp only at *); (try simp only [lns] at *); omega), by (show (_ : Prop)); first | omega | ((try dsimp only at *); (try simp only [lns] at *); omega), by (show (_ : Prop)); first | omega | ((try dsimp only at *); (try simp only [lns] at *); omega)⟩, ?_⟩ | refine ⟨by (show (_ : Prop)); first | omega | ((try dsimp only at *); (try simp only [lns] at *); omega), ?_⟩ | refine ⟨fun h => ⟨by (show (_ : Prop)); first | omega | ((try dsimp only at *); (try simp only [lns] at *); omega), by (show (_ : Prop)); first | omega | ((try dsimp only at *); (try simp only [lns] at *); omega)⟩, ?_⟩ | refine ⟨fun (r : List AV) hr c hc => by simp [encS] at hr; (try subst hr); simp at hc; (try subst hc); rfl, ?_⟩ | refine ⟨noOwn (by rfl), ?_⟩)
      refine again (i + 1) ?_ ⟨h2, find_take_succ hI hb h3⟩ (by first | omega | (simp; done) | (simp; omega))
      (refine ⟨?_, ?_, rfl⟩ <;> repeat' (first | exact rfl | exact trivial | refine ⟨?_, ?_⟩ | fail) <;> (conv => whnf))
  · have h2 : i = t.length := by
      have : ¬ i < t.length := by simpa using h2
      omega
    subst h2
    rw [List.take_length] at hI
    repeat ((conv => whnf); first | refine ⟨fun h => h, ?_⟩ | refine ⟨(by kernel_rfl : drawOk _ _ = true), ?_⟩ | refine ⟨fun (h : gtrue _) => by first | assumption | exact absurd (Eq.trans (Eq.symm h) (by assumption) : true = false) Bool.noConfusion, ?_⟩ | refine ⟨fun h => (absurd (Eq.trans (Eq.symm h) (by assumption) : true = false) Bool.noConfusion : False), ?_⟩ | refine ⟨_, w64 (by (show (_ : Prop)); first | omega | ((try dsimp only at *); (try simp only [lns] at *); omega)), ?_⟩ | refine ⟨fun _ => ⟨by (show (_ : Prop)); first | omega | ((try dsimp only at *); (try simp only [lns] at *); omega), by (show (_ : Prop)); first | omega | ((try dsimp only at *); (try simp only [lns] at *); omega), by (show (_ : Prop)); first | omega | ((try dsimp only at *); (try simp only [lns] at *); omega)⟩, ?_⟩ | refine ⟨by (show (_ : Prop)); first | omega | ((try dsimp only at *); (try simp only [lns] at *); omega), ?_⟩ | refine ⟨fun h => ⟨by (show (_ : Prop)); first | omega | ((try dsimp only at *); (try simp only [lns] at *); omega), by (show (_ : Prop)); first | omega | ((try dsimp only at *); (try simp only [lns] at *); omega)⟩, ?_⟩ | refine ⟨fun (r : List AV) hr c hc => by simp [encS] at hr; (try subst hr); simp at hc; (try subst hc); rfl, ?_⟩ | refine ⟨noOwn (by rfl), ?_⟩)
    rw [show c_spec_TreeGet.res (t, p) = .tup [.agg (encI It.none), .bool false] by show resGet (treeGet t p) = _; simp [treeGet, h1, hI, resGet]]; exact ⟨trivial, ⟨rfl, rfl, rfl, rfl, trivial⟩, rfl, trivial⟩
theorem ok_spec_TreeGet : ConOk Try.prog 41 c_spec_TreeGet := meets_ok (tabT _ _) FOk.nil mixed Try.func41 rfl Try.call41 (by decide) (by kernel_rfl) m_spec_TreeGet (by intro _ (y : Tr × Str) _; refine ⟨?_, trivial⟩; show AV.noRd (resGet (treeGet y.1 y.2)); simp [resGet, AV.noRd, noRdCells, encI]) (by intro (y : (Tr × Str)) _; first | (simp [c_spec_TreeGet, con, AV.free, freeCells, freeRows, freeRows_map, encS, rdT, encI]; done) | (obtain ⟨_, _⟩ := y; simp [c_spec_TreeGet, con, AV.free, freeCells, freeRows, freeRows_map, encS, rdT, encI]; done) | (obtain ⟨_, _, _⟩ := y; simp [c_spec_TreeGet, con, AV.free, freeCells, freeRows, freeRows_map, encS, rdT, encI]; done))
noncomputable def c_spec_TreeOk : PCon := con [mS 4] true Tr (fun t => [rdT t]) smT (fun t => .bool (treeOk t))
noncomputable def E_spec_TreeOk : Env := ⟨lookup tyTab, lookup [(32, c_spec_l1In), (41, c_spec_TreeGet), (61, c_spec_PathOk), (62, c_spec_Above)], [0, 1, 2, 3, 4, 5, 6, 10, 15, 65, 78, 93]⟩
set_option maxRecDepth 100000 in
set_option maxHeartbeats 4000000 in
theorem m_spec_TreeOk : Meets E_spec_TreeOk (codeOf Try.f37) Try.f37.results.toList c_spec_TreeOk := by
  intro (t : Tr) hs
  obtain ⟨hs1, hs2⟩ : smT t := hs
  refine ⟨trivial, ?_⟩
  (conv => whnf); refine ⟨fun h1 => ?_, fun h1 => ?_⟩
  · conv => whnf
    exact ⟨trivial, eqB (by have h1 : ¬ t.length ≤ 40 := by simp at h1; omega
                            simp [treeOk, h1])⟩
  have h1 : t.length ≤ 40 := by simp at h1; omega
  repeat ((conv => whnf); first | refine ⟨fun h => h, ?_⟩ | refine ⟨(by kernel_rfl : drawOk _ _ = true), ?_⟩ | refine ⟨fun (h : gtrue _) => by first | assumption | exact absurd (Eq.trans (Eq.symm h) (by assumption) : true = false) Bool.noConfusion, ?_⟩ | refine ⟨fun h => (absurd (Eq.trans (Eq.symm h) (by assumption) : true = false) Bool.noConfusion : False), ?_⟩ | refine ⟨_, w64 (by (show (_ : Prop)); first | omega | ((try dsimp only at *); (try simp only [lns] at *); omega)), ?_⟩ | refine ⟨fun _ => ⟨by (show (_ : Prop)); first | omega | ((try dsimp only at *); (try simp only [lns] at *); omega), by (show (_ : Prop)); first | omega | ((try dsimp only at *); (try simp only [lns] at *); omega), by (show (_ : Prop)); first | omega | ((try dsimp only at *); (try simp only [lns] at *); omega)⟩, ?_⟩ | refine ⟨by (show (_ : Prop)); first | omega | ((try dsimp only at *); (try simp only [lns] at *); omega), ?_⟩ | refine ⟨fun h => ⟨by (show (_ : Prop)); first | omega | ((try dsimp only at *); (try simp only [lns] at *); omega), by (show (_ : Prop)); first | omega | ((try dsimp only at *); (try simp only [lns] at *); omega)⟩, ?_⟩ | refine ⟨fun (r : List AV) hr c hc => by simp [encS] at hr; (try subst hr); simp at hc; (try subst hc); rfl, ?_⟩ | refine ⟨noOwn (by rfl), ?_⟩)
  refine loop_rule (fun i : Nat => ⟨[(1, ⟨none, .bx 0 0⟩), (3, ⟨none, .int .i64 i⟩)], [(0, .own 1 [[.rd 4 (t.map encI)]])], 1⟩)
    (fun i => i ≤ t.length ∧ ∀ j, j < i → chk t j = true) (fun i => t.length - i) 0 ?_ ⟨by omega, fun j hj => by omega⟩ ?_
  · (refine ⟨?_, ?_, rfl⟩ <;> repeat' (first | exact rfl | exact trivial | refine ⟨?_, ?_⟩ | fail) <;> (conv => whnf))
  rintro i ⟨hi, hI⟩
  (conv => whnf); refine ⟨fun h2 => ?_, fun h2 => ?_⟩
  · have h2 : i < t.length := by simpa using h2
    obtain ⟨b, hb⟩ := get_lt h2
    have hbs := hs2 b (List.mem_of_getElem? hb)
    have hbad : ∀ {q : Bool}, chk t i = q → q = false → treeOk t = false := fun h e => treeOk_bad h2 (h.trans e)
    repeat ((conv => whnf); first | refine ⟨fun h => h, ?_⟩ | refine ⟨(by kernel_rfl : drawOk _ _ = true), ?_⟩ | refine ⟨fun (h : gtrue _) => by first | assumption | exact absurd (Eq.trans (Eq.symm h) (by assumption) : true = false) Bool.noConfusion, ?_⟩ | refine ⟨fun h => (absurd (Eq.trans (Eq.symm h) (by assumption) : true = false) Bool.noConfusion : False), ?_⟩ | refine ⟨_, w64 (by (show (_ : Prop)); first | omega | ((try dsimp only at *); (try simp only [lns] at *); omega)), ?_⟩ | refine ⟨fun _ => ⟨by (show (_ : Prop)); first | omega | ((try dsimp only at *); (try simp only [lns] at *); omega), by (show (_ : Prop)); first | omega | ((try dsimp only at *); (try simp only [lns] at *); omega), by (show (_ : Prop)); first | omega | ((try dsimp only at *); (try simp only [lns] at *); omega)⟩, ?_⟩ | refine ⟨by (show (_ : Prop)); first | omega | ((try dsimp only at *); (try simp only [lns] at *); omega), ?_⟩ | refine ⟨fun h => ⟨by (show (_ : Prop)); first | omega | ((try dsimp only at *); (try simp only [lns] at *); omega), by (show (_ : Prop)); first | omega | ((try dsimp only at *); (try simp only [lns] at *); omega)⟩, ?_⟩ | refine ⟨fun (r : List AV) hr c hc => by simp [encS] at hr; (try subst hr); simp at hc; (try subst hc); rfl, ?_⟩ | refine ⟨noOwn (by rfl), ?_⟩ | refine ⟨encI b, fun _ => ⟨by omega, by simp [hb]⟩, ?_⟩)
    conv => whnf
    refine ⟨b.path, rfl, fun _ => hbs.1, ?_⟩
    generalize hpv : t.getD (i - 1) It.none = pv
    have hprev : 0 < i → t[i - 1]? = some pv := fun h => by
      rw [← hpv, List.getD_eq_getElem?_getD, List.getElem?_eq_getElem (by omega)]; rfl
    have hix : ∀ {A : Bool}, gtrue (some (A && decide ((i : Int) > 0))) → (0 : Int) ≤ (i : Int) - 1 ∧ (t.map encI)[((i : Int) - 1).toNat]? = some (encI pv) := by
      intro A h
      have hi0 : 0 < i := by simp [gtrue] at h; omega
      exact ⟨by omega, by rw [show ((i : Int) - 1).toNat = i - 1 by omega]; exact get_map (hprev hi0)⟩
    repeat ((conv => whnf); first | refine ⟨fun h => h, ?_⟩ | refine ⟨(by kernel_rfl : drawOk _ _ = true), ?_⟩ | refine ⟨fun (h : gtrue _) => by first | assumption | exact absurd (Eq.trans (Eq.symm h) (by assumption) : true = false) Bool.noConfusion, ?_⟩ | refine ⟨fun h => (absurd (Eq.trans (Eq.symm h) (by assumption) : true = false) Bool.noConfusion : False), ?_⟩ | refine ⟨_, w64 (by (show (_ : Prop)); first | omega | ((try dsimp only at *); (try simp only [lns] at *); omega)), ?_⟩ | refine ⟨fun _ => ⟨by (show (_ : Prop)); first | omega | ((try dsimp only at *); (try simp only [lns] at *); omega), by (show (_ : Prop)); first | omega | ((try dsimp only at *); (try simp only [lns] at *); omega), by (show (_ : Prop)); first | omega | ((try dsimp only at *); (try simp only [lns] at *); omega)⟩, ?_⟩ | refine ⟨by (show (_ : Prop)); first | omega | ((try dsimp only at *); (try simp only [lns] at *); omega), ?_⟩ | refine ⟨fun h => ⟨by (show (_ : Prop)); first | omega | ((try dsimp only at *); (try simp only [lns] at *); omega), by (show (_ : Prop)); first | omega | ((try dsimp only at *); (try simp only [lns] at *); omega)⟩, ?_⟩ | refine ⟨fun (r : List AV) hr c hc => by simp [encS] at hr; (try subst hr); simp at hc; (try subst hc); rfl, ?_⟩ | refine ⟨noOwn (by rfl), ?_⟩ | refine ⟨encI pv, fun h => hix h, ?_⟩ | refine ⟨(_, _, _), rfl, fun _ => trivial, ?_⟩)
    (conv => whnf); refine ⟨fun h3 => ?_, fun h3 => ?_⟩
    · conv => whnf
      exact ⟨trivial, eqB (hbad (chk_bad1 hb hpv h3) rfl).symm⟩
    have h3 : bad1 i b pv = false := h3
    repeat ((conv => whnf); first | refine ⟨fun h => h, ?_⟩ | refine ⟨(by kernel_rfl : drawOk _ _ = true), ?_⟩ | refine ⟨fun (h : gtrue _) => by first | assumption | exact absurd (Eq.trans (Eq.symm h) (by assumption) : true = false) Bool.noConfusion, ?_⟩ | refine ⟨fun h => (absurd (Eq.trans (Eq.symm h) (by assumption) : true = false) Bool.noConfusion : False), ?_⟩ | refine ⟨_, w64 (by (show (_ : Prop)); first | omega | ((try dsimp only at *); (try simp only [lns] at *); omega)), ?_⟩ | refine ⟨fun _ => ⟨by (show (_ : Prop)); first | omega | ((try dsimp only at *); (try simp only [lns] at *); omega), by (show (_ : Prop)); first | omega | ((try dsimp only at *); (try simp only [lns] at *); omega), by (show (_ : Prop)); first | omega | ((try dsimp only at *); (try simp only [lns] at *); omega)⟩, ?_⟩ | refine ⟨by (show (_ : Prop)); first | omega | ((try dsimp only at *); (try simp only [lns] at *); omega), ?_⟩ | refine ⟨fun h => ⟨by (show (_ : Prop)); first | omega | ((try dsimp only at *); (try simp only [lns] at *); omega), by (show (_ : Prop)); first | omega | ((try dsimp only at *); (try simp only [lns] at *); omega)⟩, ?_⟩ | refine ⟨fun (r : List AV) hr c hc => by simp [encS] at hr; (try subst hr); simp at hc; (try subst hc); rfl, ?_⟩ | refine ⟨noOwn (by rfl), ?_⟩)
    (conv => whnf); refine ⟨fun h4 => ?_, fun h4 => ?_⟩
    · conv => whnf
      exact ⟨trivial, eqB (hbad (chk_bad2 hb h4) rfl).symm⟩
    have h4 : bad2 b = false := h4
    conv => whnf
    refine ⟨b.path, rfl, fun _ => hbs.1, ?_⟩
    conv => whnf
    refine ⟨(t, above b.path), rfl, fun _ => ⟨hs1, hs2⟩, ?_⟩
    repeat ((conv => whnf); first | refine ⟨fun h => h, ?_⟩ | refine ⟨(by kernel_rfl : drawOk _ _ = true), ?_⟩ | refine ⟨fun (h : gtrue _) => by first | assumption | exact absurd (Eq.trans (Eq.symm h) (by assumption) : true = false) Bool.noConfusion, ?_⟩ | refine ⟨fun h => (absurd (Eq.trans (Eq.symm h) (by assumption) : true = false) Bool.noConfusion : False), ?_⟩ | refine ⟨_, w64 (by (show (_ : Prop)); first | omega | ((try dsimp only at *); (try simp only [lns] at *); omega)), ?_⟩ | refine ⟨fun _ => ⟨by (show (_ : Prop)); first | omega | ((try dsimp only at *); (try simp only [lns] at *); omega), by (show (_ : Prop)); first | omega | ((try dsimp only at *); (try simp only [lns] at *); omega), by (show (_ : Prop)); first | omega | ((try dsimp only at *); (try simp only [lns] at *); omega)⟩, ?_⟩ | refine ⟨by (show (_ : Prop)); first | omega | ((try dsimp only at *); (try simp only [lns] at *); omega), ?_⟩ | refine ⟨fun h => ⟨by (show (_ : Prop)); first | omega | ((try dsimp only at *); (try simp only [lns] at *); omega), by (show (_ : Prop)); first | omega | ((try dsimp only at *); (try simp only [lns] at *); omega)⟩, ?_⟩ | refine ⟨fun (r : List AV) hr c hc => by simp [encS] at hr; (try subst hr); simp at hc; (try subst hc); rfl, ?_⟩ | refine ⟨noOwn (by rfl), ?_⟩)
    (conv => whnf); refine ⟨fun h5 => ?_, fun h5 => ?_⟩
    · conv => whnf
      exact ⟨trivial, eqB (hbad (chk_bad3 hb (by
        have h5 : (!(treeGet t (above b.path)).isSome || ((treeGet t (above b.path)).getD It.none).kind != 2) = true := h5
        unfold dirAt
        revert h5
        cases (treeGet t (above b.path)).isSome <;> simp)) rfl).symm⟩
    have h5 : dirAt t (above b.path) = true := by
      have h5 : (!(treeGet t (above b.path)).isSome || ((treeGet t (above b.path)).getD It.none).kind != 2) = false := h5
      unfold dirAt
      revert h5
      cases (treeGet t (above b.path)).isSome <;> simp
    repeat ((conv => whnf); first | refine ⟨fun h => h, ?_⟩ | refine ⟨(by kernel_rfl : drawOk _ _ = true), ?_⟩ | refine ⟨fun (h : gtrue _) => by first | assumption | exact absurd (Eq.trans (Eq.symm h) (by assumption) : true = false) Bool.noConfusion, ?_⟩ | refine ⟨fun h => (absurd (Eq.trans (Eq.symm h) (by assumption) : true = false) Bool.noConfusion : False), ?_⟩ | refine ⟨_, w64 (by (show (_ : Prop)); first | omega | ((try dsimp only at *); (try simp only [lns] at *); omega)), ?_⟩ | refine ⟨fun _ => ⟨by (show (_ : Prop)); first | omega | ((try dsimp only at *); (try simp only [lns] at *); omega), by (show (_ : Prop)); first | omega | ((try dsimp only at *); (try simp only [lns] at *); omega), by (show (_ : Prop)); first | omega | ((try dsimp only at *); (try simp only [lns] at *); omega)⟩, ?_⟩ | refine ⟨by (show (_ : Prop)); first | omega | ((try dsimp only at *); (try simp only [lns] at *); omega), ?_⟩ | refine ⟨fun h => ⟨by (show (_ : Prop)); first | omega | ((try dsimp only at *); (try simp only [lns] at *); omega), by (show (_ : Prop)); first | omega | ((try dsimp only at *); (try simp only [lns] at *); omega)⟩, ?_⟩ | refine ⟨fun (r : List AV) hr c hc => by simp [encS] at hr; (try subst hr); simp at hc; (try subst hc); rfl, ?_⟩ | refine ⟨noOwn (by rfl), ?_⟩)
    refine again (i + 1) ?_ ⟨h2, fun j hj => ?_⟩ (by first | omega | (simp; done) | (simp; omega))
    · (refine ⟨?_, ?_, rfl⟩ <;> repeat' (first | exact rfl | exact trivial | refine ⟨?_, ?_⟩ | fail) <;> (conv => whnf))
    · rcases Nat.lt_or_ge j i with h | h
      · exact hI j h
      · rw [show j = i by omega]; exact chk_good hb hpv h3 h4 h5
  · have h2 : i = t.length := by
      have : ¬ i < t.length := by simpa using h2
      omega
    subst h2
    conv => whnf
    exact ⟨trivial, eqB (treeOk_good h1 hI).symm⟩
theorem ok_spec_TreeOk : ConOk Try.prog 37 c_spec_TreeOk := meets_ok (tabT _ _) (FOk.cons ok_spec_l1In (FOk.cons ok_spec_TreeGet (FOk.cons ok_spec_PathOk (FOk.cons ok_spec_Above FOk.nil)))) mixed Try.func37 rfl Try.call37 (by decide) (by kernel_rfl) m_spec_TreeOk (by intro _ (y : Tr) _; exact ⟨by simp [c_spec_TreeOk, con, AV.noRd, noRdCells, noRdRows, noRdRows_map', encS], by simp [c_spec_TreeOk, con, AV.noRd, noRdCells, noRdRows, noRdRows_map', encS]⟩) (by intro (y : Tr) _; first | (simp [c_spec_TreeOk, con, AV.free, freeCells, freeRows, freeRows_map, encS, rdT, encI]; done) | (obtain ⟨_, _⟩ := y; simp [c_spec_TreeOk, con, AV.free, freeCells, freeRows, freeRows_map, encS, rdT, encI]; done) | (obtain ⟨_, _, _⟩ := y; simp [c_spec_TreeOk, con, AV.free, freeCells, freeRows, freeRows_map, encS, rdT, encI]; done))
noncomputable def c_spec_Heaviest : PCon := con [mS 4] true Tr (fun t => [rdT t]) smT (fun t => .str (heaviest t))
noncomputable def E_spec_Heaviest : Env := ⟨lookup tyTab, lookup [(37, c_spec_TreeOk)], [0, 1, 2, 3, 4, 5, 8, 14, 34]⟩
set_option maxRecDepth 100000 in
set_option maxHeartbeats 4000000 in
theorem m_spec_Heaviest : Meets E_spec_Heaviest (codeOf Try.f15) Try.f15.results.toList c_spec_Heaviest := by
  intro (t : Tr) hs
  obtain ⟨hs1, hs2⟩ : smT t := hs
  refine ⟨trivial, ?_⟩
  conv => whnf
  refine ⟨t, rfl, fun _ => ⟨hs1, hs2⟩, ?_⟩
  (conv => whnf); refine ⟨fun h1 => ?_, fun h1 => ?_⟩
  · have h1 : treeOk t = false := by
      have h1 : (!treeOk t) = true := h1
      simpa using h1
    conv => whnf
    exact ⟨trivial, eqS (by simp [heaviest, h1])⟩
  have h1 : treeOk t = true := by
    have h1 : (!treeOk t) = false := h1
    simpa using h1
  have hd : heaviest t = (t.foldl heavy ([], -1)).1 := by simp [heaviest, h1]
  repeat ((conv => whnf); first | refine ⟨fun h => h, ?_⟩ | refine ⟨(by kernel_rfl : drawOk _ _ = true), ?_⟩ | refine ⟨fun (h : gtrue _) => by first | assumption | exact absurd (Eq.trans (Eq.symm h) (by assumption) : true = false) Bool.noConfusion, ?_⟩ | refine ⟨fun h => (absurd (Eq.trans (Eq.symm h) (by assumption) : true = false) Bool.noConfusion : False), ?_⟩ | refine ⟨_, w64 (by (show (_ : Prop)); first | omega | ((try dsimp only at *); (try simp only [lns] at *); omega)), ?_⟩ | refine ⟨fun _ => ⟨by (show (_ : Prop)); first | omega | ((try dsimp only at *); (try simp only [lns] at *); omega), by (show (_ : Prop)); first | omega | ((try dsimp only at *); (try simp only [lns] at *); omega), by (show (_ : Prop)); first | omega | ((try dsimp only at *); (try simp only [lns] at *); omega)⟩, ?_⟩ | refine ⟨by (show (_ : Prop)); first | omega | ((try dsimp only at *); (try simp only [lns] at *); omega), ?_⟩ | refine ⟨fun h => ⟨by (show (_ : Prop)); first | omega | ((try dsimp only at *); (try simp only [lns] at *); omega), by (show (_ : Prop)); first | omega | ((try dsimp only at *); (try simp only [lns] at *); omega)⟩, ?_⟩ | refine ⟨fun (r : List AV) hr c hc => by simp [encS] at hr; (try subst hr); simp at hc; (try subst hc); rfl, ?_⟩ | refine ⟨noOwn (by rfl), ?_⟩)
  refine loop_rule (fun i : Nat => ⟨[(1, ⟨none, .bx 0 0⟩), (3, ⟨none, .str ((t.take i).foldl heavy ([], -1)).1⟩), (4, ⟨none, .int .i64 ((t.take i).foldl heavy ([], -1)).2⟩), (5, ⟨none, .int .i64 i⟩)], [(0, .own 1 [[.rd 4 (t.map encI)]])], 1⟩)
    (fun i => i ≤ t.length) (fun i => t.length - i) 0 ?_ (by omega) ?_
  · (refine ⟨?_, ?_, rfl⟩ <;> repeat' (first | exact rfl | exact trivial | refine ⟨?_, ?_⟩ | fail) <;> (conv => whnf))
  intro i hi
  have hi : i ≤ t.length := hi
  (conv => whnf); refine ⟨fun h2 => ?_, fun h2 => ?_⟩
  · have h2 : i < t.length := by simpa using h2
    obtain ⟨b, hb⟩ := get_lt h2
    repeat ((conv => whnf); first | refine ⟨fun h => h, ?_⟩ | refine ⟨(by kernel_rfl : drawOk _ _ = true), ?_⟩ | refine ⟨fun (h : gtrue _) => by first | assumption | exact absurd (Eq.trans (Eq.symm h) (by assumption) : true = false) Bool.noConfusion, ?_⟩ | refine ⟨fun h => (absurd (Eq.trans (Eq.symm h) (by assumption) : true = false) Bool.noConfusion : False), ?_⟩ | refine ⟨_, w64 (by (show (_ : Prop)); first | omega | ((try dsimp only at *); (try simp only [lns] at *); omega)), ?_⟩ | refine ⟨fun _ => ⟨by (show (_ : Prop)); first | omega | ((try dsimp only at *); (try simp only [lns] at *); omega), by (show (_ : Prop)); first | omega | ((try dsimp only at *); (try simp only [lns] at *); omega), by (show (_ : Prop)); first | omega | ((try dsimp only at *); (try simp only [lns] at *); omega)⟩, ?_⟩ | refine ⟨by (show (_ : Prop)); first | omega | ((try dsimp only at *); (try simp only [lns] at *); omega), ?_⟩ | refine ⟨fun h => ⟨by (show (_ : Prop)); first | omega | ((try dsimp only at *); (try simp only [lns] at *); omega), by (show (_ : Prop)); first | omega | ((try dsimp only at *); (try simp only [lns] at *); omega)⟩, ?_⟩ | refine ⟨fun (r : List AV) hr c hc => by simp [encS] at hr; (try subst hr); simp at hc; (try subst hc); rfl, ?_⟩ | refine ⟨noOwn (by rfl), ?_⟩ | refine ⟨encI b, fun _ => ⟨by omega, by simp [hb]⟩, ?_⟩)
    (conv => whnf); refine ⟨fun h3 => ?_, fun h3 => ?_⟩
    · repeat ((conv => whnf); first | refine ⟨fun h => h, ?_⟩ | refine ⟨(by kernel_rfl : drawOk _ _ = true), ?_⟩ | refine ⟨fun (h : gtrue _) => by first | assumption | exact absurd (Eq.trans (Eq.symm h) (by assumption) : true = false) Bool.noConfusion, ?_⟩ | refine ⟨fun h => (absurd (Eq.trans (Eq.symm h) (by assumption) : true = false) Bool.noConfusion : False), ?_⟩ | refine ⟨_, w64 (by (show (_ : Prop)); first | omega | ((try dsimp only at *); (try simp only [lns] at *); omega)), ?_⟩ | refine ⟨fun _ => ⟨by (show (_ : Prop)); first | omega | ((try dsimp only at *); (try simp only [lns] at *); omega), by (show (_ : Prop)); first | omega | ((try dsimp only at *); (try simp only [lns] at *); omega), by (show (_ : Prop)); first | omega | ((try dsimp only at *); (try simp only [lns] at *); omega)⟩, ?_⟩ | refine ⟨by (show (_ : Prop)); first | omega | ((try dsimp only at *); (try simp only [lns] at *); omega), ?_⟩ | refine ⟨fun h => ⟨by (show (_ : Prop)); first | omega | ((try dsimp only at *); (try simp only [lns] at *); omega), by (show (_ : Prop)); first | omega | ((try dsimp only at *); (try simp only [lns] at *); omega)⟩, ?_⟩ | refine ⟨fun (r : List AV) hr c hc => by simp [encS] at hr; (try subst hr); simp at hc; (try subst hc); rfl, ?_⟩ | refine ⟨noOwn (by rfl), ?_⟩ | refine ⟨encI b, fun _ => ⟨by omega, by simp [hb]⟩, ?_⟩)
      refine again (i + 1) ?_ h2 (by first | omega | (simp; done) | (simp; omega))
      rw [foldl_take hb, heavy, if_pos h3]
      (refine ⟨?_, ?_, rfl⟩ <;> repeat' (first | exact rfl | exact trivial | refine ⟨?_, ?_⟩ | fail) <;> (conv => whnf))
    · repeat ((conv => whnf); first | refine ⟨fun h => h, ?_⟩ | refine ⟨(by kernel_rfl : drawOk _ _ = true), ?_⟩ | refine ⟨fun (h : gtrue _) => by first | assumption | exact absurd (Eq.trans (Eq.symm h) (by assumption) : true = false) Bool.noConfusion, ?_⟩ | refine ⟨fun h => (absurd (Eq.trans (Eq.symm h) (by assumption) : true = false) Bool.noConfusion : False), ?_⟩ | refine ⟨_, w64 (by (show (_ : Prop)); first | omega | ((try dsimp only at *); (try simp only [lns] at *); omega)), ?_⟩ | refine ⟨fun _ => ⟨by (show (_ : Prop)); first | omega | ((try dsimp only at *); (try simp only [lns] at *); omega), by (show (_ : Prop)); first | omega | ((try dsimp only at *); (try simp only [lns] at *); omega), by (show (_ : Prop)); first | omega | ((try dsimp only at *); (try simp only [lns] at *); omega)⟩, ?_⟩ | refine ⟨by (show (_ : Prop)); first | omega | ((try dsimp only at *); (try simp only [lns] at *); omega), ?_⟩ | refine ⟨fun h => ⟨by (show (_ : Prop)); first | omega | ((try dsimp only at *); (try simp only [lns] at *); omega), by (show (_ : Prop)); first | omega | ((try dsimp only at *); (try simp only [lns] at *); omega)⟩, ?_⟩ | refine ⟨fun (r : List AV) hr c hc => by simp [encS] at hr; (try subst hr); simp at hc; (try subst hc); rfl, ?_⟩ | refine ⟨noOwn (by rfl), ?_⟩)
      refine again (i + 1) ?_ h2 (by first | omega | (simp; done) | (simp; omega))
      rw [foldl_take hb, heavy, if_neg (by rw [show _ = false from h3]; exact Bool.false_ne_true)]
      (refine ⟨?_, ?_, rfl⟩ <;> repeat' (first | exact rfl | exact trivial | refine ⟨?_, ?_⟩ | fail) <;> (conv => whnf))
  · have h2 : i = t.length := by
      have : ¬ i < t.length := by simpa using h2
      omega
    subst h2
    rw [List.take_length]
    conv => whnf
    exact ⟨trivial, eqS hd.symm⟩
theorem ok_spec_Heaviest : ConOk Try.prog 15 c_spec_Heaviest := meets_ok (tabT _ _) (FOk.cons ok_spec_TreeOk FOk.nil) mixed Try.func15 rfl Try.call15 (by decide) (by kernel_rfl) m_spec_Heaviest (by intro _ (y : Tr) _; exact ⟨by simp [c_spec_Heaviest, con, AV.noRd, noRdCells, noRdRows, noRdRows_map', encS], by simp [c_spec_Heaviest, con, AV.noRd, noRdCells, noRdRows, noRdRows_map', encS]⟩) (by intro (y : Tr) _; first | (simp [c_spec_Heaviest, con, AV.free, freeCells, freeRows, freeRows_map, encS, rdT, encI]; done) | (obtain ⟨_, _⟩ := y; simp [c_spec_Heaviest, con, AV.free, freeCells, freeRows, freeRows_map, encS, rdT, encI]; done) | (obtain ⟨_, _, _⟩ := y; simp [c_spec_Heaviest, con, AV.free, freeCells, freeRows, freeRows_map, encS, rdT, encI]; done))
end Go.GH

namespace Go.Proofs
open Go.Shelf
def Try.lays169_ren : Go.Shelf.Ren := ⟨fun | 169 => 111 | n => n, fun | 70 => 119 | 9 => 9 | 0 => 0 | 72 => 121 | 37 => 24 | 127 => 131 | 3 => 3 | 5 => 5 | n => n, fun | n => n⟩
theorem Try.lays169 : Go.Proofs.Lays.n169 Try.prog Try.lays169_ren := {
  mixed := by kernel_rfl
  f169 := Try.func111.trans (congrArg some (by kernel_rfl))
  t0 := Try.underlying0
  a0 := Try.isAgg0
  z0 := Try.sizeOf0
  v0 := Try.zeroValue0
  t3 := Try.underlying3
  a3 := Try.isAgg3
  z3 := Try.sizeOf3
  v3 := Try.zeroValue3
  t9 := Try.underlying9
  a9 := Try.isAgg9
  z9 := Try.sizeOf9
  v9 := Try.zeroValue9
  t37 := Try.underlying24
  a37 := Try.isAgg24
  z37 := Try.sizeOf24
  v37 := Try.zeroValue24
  t70 := Try.underlying119
  a70 := Try.isAgg119
  z70 := Try.sizeOf119
  v70 := Try.zeroValue119
  t72 := Try.underlying121
  a72 := Try.isAgg121
  z72 := Try.sizeOf121
  v72 := Try.zeroValue121
  t127 := Try.underlying131
  a127 := Try.isAgg131
  z127 := Try.sizeOf131
  v127 := Try.zeroValue131 }
theorem Try.Builder_Extra_169 : Builder.Extra Try.prog Try.lays169_ren := {
  sizeBuilder := by kernel_rfl
  liesBuilder := by kernel_rfl
  t5 := Try.underlying5
  a5 := Try.isAgg5
  z5 := Try.sizeOf5
  v5 := Try.zeroValue5
  infoByte := by kernel_rfl
  cellsByte := by kernel_rfl
  sizeByte := by kernel_rfl
  neB5 := by decide }
open Go.RowKit in
theorem Try.Builder_String (B b : Nat) (l : List UInt8) (w : World) (h : Lib.IsBuilder 121 5 B b (Lib.byteCells l) w) (h0 : l ≠ []) :
    Calls Try.prog 111 #[.pointer (some ⟨b, 0, none⟩)] w fun e w' => e = .returned (.string ⟨l.toArray⟩) ∧ Below B w w' := Any.Builder_String Try.lays169 Try.Builder_Extra_169 B b l w h h0
open Go.RowKit in
theorem Try.Builder_String_empty (B b : Nat) (w : World) (h : Lib.IsBuilder 121 5 B b [] w) (hBw : B ≤ w.heap.size) :
    Calls Try.prog 111 #[.pointer (some ⟨b, 0, none⟩)] w fun e w' => e = .returned (.string ⟨#[]⟩) ∧ Below B w w' := Any.Builder_String_empty Try.lays169 Try.Builder_Extra_169 B b w h hBw
open Go.RowKit in
theorem Try.Builder_String_any (B b : Nat) (l : List UInt8) (w : World) (h : Lib.IsBuilder 121 5 B b (Lib.byteCells l) w) (hBw : B ≤ w.heap.size) :
    Calls Try.prog 111 #[.pointer (some ⟨b, 0, none⟩)] w fun e w' => e = .returned (.string ⟨l.toArray⟩) ∧ Below B w w' := Any.Builder_String_any Try.lays169 Try.Builder_Extra_169 B b l w h hBw
def Try.lays241_ren : Go.Shelf.Ren := ⟨fun | 241 => 114 | 277 => 116 | n => n, fun | 70 => 119 | 3 => 3 | 0 => 0 | 72 => 121 | 37 => 24 | 5 => 5 | n => n, fun | n => n⟩
theorem Try.lays241 : Go.Proofs.Lays.n241 Try.prog Try.lays241_ren := {
  mixed := by kernel_rfl
  f241 := Try.func114.trans (congrArg some (by kernel_rfl))
  f277 := Try.func116.trans (congrArg some (by kernel_rfl))
  t0 := Try.underlying0
  a0 := Try.isAgg0
  z0 := Try.sizeOf0
  v0 := Try.zeroValue0
  t3 := Try.underlying3
  a3 := Try.isAgg3
  z3 := Try.sizeOf3
  v3 := Try.zeroValue3
  t37 := Try.underlying24
  a37 := Try.isAgg24
  z37 := Try.sizeOf24
  v37 := Try.zeroValue24
  t70 := Try.underlying119
  a70 := Try.isAgg119
  z70 := Try.sizeOf119
  v70 := Try.zeroValue119
  t72 := Try.underlying121
  a72 := Try.isAgg121
  z72 := Try.sizeOf121
  v72 := Try.zeroValue121 }
theorem Try.Builder_Extra_241 : Builder.Extra Try.prog Try.lays241_ren := {
  sizeBuilder := by kernel_rfl
  liesBuilder := by kernel_rfl
  t5 := Try.underlying5
  a5 := Try.isAgg5
  z5 := Try.sizeOf5
  v5 := Try.zeroValue5
  infoByte := by kernel_rfl
  cellsByte := by kernel_rfl
  sizeByte := by kernel_rfl
  neB5 := by decide }
open Go.RowKit in
theorem Try.Builder_grow_fresh (B b n : Nat) (w : World) (hB : B ≤ b) (hbk : w.heap[b]? = some (.cells #[.pointer (some ⟨b, 0, none⟩), .slice none 0 0] 121 (0, 0))) (hBw : B ≤ w.heap.size) (hn : n ≤ 281474976710656) :
    Calls Try.prog 114 #[.pointer (some ⟨b, 0, none⟩), .int .i64 n] w fun e w' => e = .returned (.tuple #[]) ∧ (Lib.BuilderAt 121 5 B b (.pointer (some ⟨b, 0, none⟩)) [] w' ∧ Below B w w') := Any.Builder_grow_fresh Try.lays241 Try.Builder_Extra_241 B b n w hB hbk hBw hn
def Try.lays165_ren : Go.Shelf.Ren := ⟨fun | 165 => 109 | 240 => 113 | 241 => 114 | 276 => 115 | 277 => 116 | n => n, fun | 70 => 119 | 3 => 3 | 0 => 0 | 4 => 4 | 9 => 9 | 20 => 20 | 72 => 121 | 37 => 24 | 164 => 132 | 5 => 5 | n => n, fun | n => n⟩
theorem Try.lays165 : Go.Proofs.Lays.n165 Try.prog Try.lays165_ren := {
  mixed := by kernel_rfl
  f165 := Try.func109.trans (congrArg some (by kernel_rfl))
  f240 := Try.func113.trans (congrArg some (by kernel_rfl))
  f241 := Try.func114.trans (congrArg some (by kernel_rfl))
  f276 := Try.func115.trans (congrArg some (by kernel_rfl))
  f277 := Try.func116.trans (congrArg some (by kernel_rfl))
  t0 := Try.underlying0
  a0 := Try.isAgg0
  z0 := Try.sizeOf0
  v0 := Try.zeroValue0
  t3 := Try.underlying3
  a3 := Try.isAgg3
  z3 := Try.sizeOf3
  v3 := Try.zeroValue3
  t4 := Try.underlying4
  a4 := Try.isAgg4
  z4 := Try.sizeOf4
  v4 := Try.zeroValue4
  t9 := Try.underlying9
  a9 := Try.isAgg9
  z9 := Try.sizeOf9
  v9 := Try.zeroValue9
  t20 := Try.underlying20
  a20 := Try.isAgg20
  z20 := Try.sizeOf20
  v20 := Try.zeroValue20
  t37 := Try.underlying24
  a37 := Try.isAgg24
  z37 := Try.sizeOf24
  v37 := Try.zeroValue24
  t70 := Try.underlying119
  a70 := Try.isAgg119
  z70 := Try.sizeOf119
  v70 := Try.zeroValue119
  t72 := Try.underlying121
  a72 := Try.isAgg121
  z72 := Try.sizeOf121
  v72 := Try.zeroValue121
  t164 := Try.underlying132
  a164 := Try.isAgg132
  z164 := Try.sizeOf132
  v164 := Try.zeroValue132 }
theorem Try.Builder_Extra_165 : Builder.Extra Try.prog Try.lays165_ren := {
  sizeBuilder := by kernel_rfl
  liesBuilder := by kernel_rfl
  t5 := Try.underlying5
  a5 := Try.isAgg5
  z5 := Try.sizeOf5
  v5 := Try.zeroValue5
  infoByte := by kernel_rfl
  cellsByte := by kernel_rfl
  sizeByte := by kernel_rfl
  neB5 := by decide }
open Go.RowKit in
theorem Try.Builder_Grow_fresh (B b n : Nat) (w : World) (hB : B ≤ b) (hbk : w.heap[b]? = some (.cells #[.pointer none, .slice none 0 0] 121 (0, 0))) (hBw : B ≤ w.heap.size) (hn : n ≤ 281474976710656) :
    Calls Try.prog 109 #[.pointer (some ⟨b, 0, none⟩), .int .i64 n] w fun e w' => e = .returned (.tuple #[]) ∧ (Lib.BuilderAt 121 5 B b (.pointer (some ⟨b, 0, none⟩)) [] w' ∧ Below B w w') := Any.Builder_Grow_fresh Try.lays165 Try.Builder_Extra_165 B b n w hB hbk hBw hn
def Try.lays156_ren : Go.Shelf.Ren := ⟨fun | 156 => 100 | 165 => 109 | 166 => 110 | 169 => 111 | 240 => 113 | 241 => 114 | 276 => 115 | 277 => 116 | n => n, fun | 31 => 50 | 9 => 9 | 3 => 3 | 4 => 4 | 0 => 0 | 20 => 20 | 72 => 121 | 76 => 125 | 70 => 119 | 37 => 24 | 75 => 124 | 127 => 131 | 164 => 132 | 5 => 5 | 80 => 127 | n => n, fun | n => n⟩
theorem Try.lays156 : Go.Proofs.Lays.n156 Try.prog Try.lays156_ren := {
  mixed := by kernel_rfl
  f156 := Try.func100.trans (congrArg some (by kernel_rfl))
  f165 := Try.func109.trans (congrArg some (by kernel_rfl))
  f166 := Try.func110.trans (congrArg some (by kernel_rfl))
  f169 := Try.func111.trans (congrArg some (by kernel_rfl))
  f240 := Try.func113.trans (congrArg some (by kernel_rfl))
  f241 := Try.func114.trans (congrArg some (by kernel_rfl))
  f276 := Try.func115.trans (congrArg some (by kernel_rfl))
  f277 := Try.func116.trans (congrArg some (by kernel_rfl))
  t0 := Try.underlying0
  a0 := Try.isAgg0
  z0 := Try.sizeOf0
  v0 := Try.zeroValue0
  t3 := Try.underlying3
  a3 := Try.isAgg3
  z3 := Try.sizeOf3
  v3 := Try.zeroValue3
  t4 := Try.underlying4
  a4 := Try.isAgg4
  z4 := Try.sizeOf4
  v4 := Try.zeroValue4
  t9 := Try.underlying9
  a9 := Try.isAgg9
  z9 := Try.sizeOf9
  v9 := Try.zeroValue9
  t20 := Try.underlying20
  a20 := Try.isAgg20
  z20 := Try.sizeOf20
  v20 := Try.zeroValue20
  t31 := Try.underlying50
  a31 := Try.isAgg50
  z31 := Try.sizeOf50
  v31 := Try.zeroValue50
  t37 := Try.underlying24
  a37 := Try.isAgg24
  z37 := Try.sizeOf24
  v37 := Try.zeroValue24
  t70 := Try.underlying119
  a70 := Try.isAgg119
  z70 := Try.sizeOf119
  v70 := Try.zeroValue119
  t72 := Try.underlying121
  a72 := Try.isAgg121
  z72 := Try.sizeOf121
  v72 := Try.zeroValue121
  t75 := Try.underlying124
  a75 := Try.isAgg124
  z75 := Try.sizeOf124
  v75 := Try.zeroValue124
  t76 := Try.underlying125
  a76 := Try.isAgg125
  z76 := Try.sizeOf125
  v76 := Try.zeroValue125
  t127 := Try.underlying131
  a127 := Try.isAgg131
  z127 := Try.sizeOf131
  v127 := Try.zeroValue131
  t164 := Try.underlying132
  a164 := Try.isAgg132
  z164 := Try.sizeOf132
  v164 := Try.zeroValue132 }
theorem Try.Builder_Extra_156 : Builder.Extra Try.prog Try.lays156_ren := {
  sizeBuilder := by kernel_rfl
  liesBuilder := by kernel_rfl
  t5 := Try.underlying5
  a5 := Try.isAgg5
  z5 := Try.sizeOf5
  v5 := Try.zeroValue5
  infoByte := by kernel_rfl
  cellsByte := by kernel_rfl
  sizeByte := by kernel_rfl
  neB5 := by decide }
open Go.RowKit in
theorem Try.strings_Join_none (a : Option Addr) (c : Nat) (sep : ByteArray) (w : World) :
    Calls Try.prog 100 #[.slice a 0 c, .string sep] w fun e w' => e = .returned (.string ⟨#[]⟩) ∧ w' = w := Any.strings_Join_none Try.lays156 Try.Builder_Extra_156 a c sep w
open Go.RowKit in
theorem Try.strings_Join (bk o c : Nat) (xs : List ByteArray) (sep : ByteArray) (w : World) (hcells : ∀ (j : Nat) x, xs[j]? = some x → w.cell? ⟨bk, o + j, none⟩ = some (.string x)) (hbk : bk < w.heap.size) (hN : xs.length ≤ 140737488355328) (hcap : xs.length ≤ c) (hlen : (Lib.join (xs.map (·.data.toList)) sep.data.toList).length ≤ 140737488355328) :
    Calls Try.prog 100 #[.slice (some ⟨bk, o, none⟩) xs.length c, .string sep] w fun e w' => e = .returned (.string ⟨(Lib.join (xs.map (·.data.toList)) sep.data.toList).toArray⟩) ∧ Below w.heap.size w w' := Any.strings_Join Try.lays156 Try.Builder_Extra_156 bk o c xs sep w hcells hbk hN hcap hlen
def Try.lays128_ren : Go.Shelf.Ren := ⟨fun | 128 => 93 | n => n, fun | 51 => 107 | 3 => 3 | 4 => 4 | 46 => 91 | 5 => 5 | 9 => 9 | n => n, fun | n => n⟩
theorem Try.lays128 : Go.Proofs.Lays.n128 Try.prog Try.lays128_ren := {
  mixed := by kernel_rfl
  f128 := Try.func93.trans (congrArg some (by kernel_rfl))
  t3 := Try.underlying3
  a3 := Try.isAgg3
  z3 := Try.sizeOf3
  v3 := Try.zeroValue3
  t4 := Try.underlying4
  a4 := Try.isAgg4
  z4 := Try.sizeOf4
  v4 := Try.zeroValue4
  t5 := Try.underlying5
  a5 := Try.isAgg5
  z5 := Try.sizeOf5
  v5 := Try.zeroValue5
  t9 := Try.underlying9
  a9 := Try.isAgg9
  z9 := Try.sizeOf9
  v9 := Try.zeroValue9
  t46 := Try.underlying91
  a46 := Try.isAgg91
  z46 := Try.sizeOf91
  v46 := Try.zeroValue91
  t51 := Try.underlying107
  a51 := Try.isAgg107
  z51 := Try.sizeOf107
  v51 := Try.zeroValue107 }
theorem Try.bits_Len32 (x : Int) (w : World) (h0 : 0 ≤ x) (h1 : x ≤ 4294967295) :
    Calls Try.prog 93 #[.int .u32 x] w fun e w' => e = .returned (.int .i64 (Lib.bitLen x.toNat)) ∧ w' = w := Any.bits_Len32 Try.lays128 x w h0 h1
def Try.lays125_ren : Go.Shelf.Ren := ⟨fun | 125 => 75 | 128 => 93 | 129 => 94 | n => n, fun | 46 => 91 | 3 => 3 | 51 => 107 | 53 => 109 | 4 => 4 | 5 => 5 | 9 => 9 | n => n, fun | n => n⟩
theorem Try.lays125 : Go.Proofs.Lays.n125 Try.prog Try.lays125_ren := {
  mixed := by kernel_rfl
  f125 := Try.func75.trans (congrArg some (by kernel_rfl))
  f128 := Try.func93.trans (congrArg some (by kernel_rfl))
  f129 := Try.func94.trans (congrArg some (by kernel_rfl))
  t3 := Try.underlying3
  a3 := Try.isAgg3
  z3 := Try.sizeOf3
  v3 := Try.zeroValue3
  t4 := Try.underlying4
  a4 := Try.isAgg4
  z4 := Try.sizeOf4
  v4 := Try.zeroValue4
  t5 := Try.underlying5
  a5 := Try.isAgg5
  z5 := Try.sizeOf5
  v5 := Try.zeroValue5
  t9 := Try.underlying9
  a9 := Try.isAgg9
  z9 := Try.sizeOf9
  v9 := Try.zeroValue9
  t46 := Try.underlying91
  a46 := Try.isAgg91
  z46 := Try.sizeOf91
  v46 := Try.zeroValue91
  t51 := Try.underlying107
  a51 := Try.isAgg107
  z51 := Try.sizeOf107
  v51 := Try.zeroValue107
  t53 := Try.underlying109
  a53 := Try.isAgg109
  z53 := Try.sizeOf109
  v53 := Try.zeroValue109 }
theorem Try.bits_Len (x : Int) (w : World) (h0 : 0 ≤ x) (h1 : x ≤ 18446744073709551615) :
    Calls Try.prog 75 #[.int .u64 x] w fun e w' => e = .returned (.int .i64 (Lib.bitLen x.toNat)) ∧ w' = w := Any.bits_Len Try.lays125 x w h0 h1
def Try.lays213_ren : Go.Shelf.Ren := ⟨fun | 213 => 95 | 265 => 107 | n => n, fun | 9 => 9 | 3 => 3 | n => n, fun | n => n⟩
theorem Try.lays213 : Go.Proofs.Lays.n213 Try.prog Try.lays213_ren := {
  mixed := by kernel_rfl
  f213 := Try.func95.trans (congrArg some (by kernel_rfl))
  f265 := Try.func107.trans (congrArg some (by kernel_rfl))
  t3 := Try.underlying3
  a3 := Try.isAgg3
  z3 := Try.sizeOf3
  v3 := Try.zeroValue3
  t9 := Try.underlying9
  a9 := Try.isAgg9
  z9 := Try.sizeOf9
  v9 := Try.zeroValue9 }
open Go.RowKit in
theorem Try.bytealg_CompareString (a b : ByteArray) (w : World) :
    Calls Try.prog 95 #[.string a, .string b] w fun e w' => e = .returned (.int .i64 (Lib.compareBytes a.data.toList b.data.toList)) ∧ w' = w := Any.bytealg_CompareString Try.lays213 a b w
def Try.lays106_ren : Go.Shelf.Ren := ⟨fun | 106 => 76 | 213 => 95 | 265 => 107 | n => n, fun | 9 => 9 | 3 => 3 | n => n, fun | n => n⟩
theorem Try.lays106 : Go.Proofs.Lays.n106 Try.prog Try.lays106_ren := {
  mixed := by kernel_rfl
  f106 := Try.func76.trans (congrArg some (by kernel_rfl))
  f213 := Try.func95.trans (congrArg some (by kernel_rfl))
  f265 := Try.func107.trans (congrArg some (by kernel_rfl))
  t3 := Try.underlying3
  a3 := Try.isAgg3
  z3 := Try.sizeOf3
  v3 := Try.zeroValue3
  t9 := Try.underlying9
  a9 := Try.isAgg9
  z9 := Try.sizeOf9
  v9 := Try.zeroValue9 }
open Go.RowKit in
theorem Try.strings_Compare (a b : ByteArray) (w : World) :
    Calls Try.prog 76 #[.string a, .string b] w fun e w' => e = .returned (.int .i64 (Lib.compareBytes a.data.toList b.data.toList)) ∧ w' = w := Any.strings_Compare Try.lays106 a b w
open Go.RowKit in
theorem Try.Builder_String_f (B b : Nat) (l : List UInt8) (w : World) (h : Lib.IsBuilderF 121 5 B b (Lib.byteCells l) w) (h0 : l ≠ []) :
    Calls Try.prog 111 #[.pointer (some ⟨b, 0, none⟩)] w fun e w' => e = .returned (.string ⟨l.toArray⟩) ∧ (Lib.IsBuilderF 121 5 B b (Lib.byteCells l) w' ∧ Below B w w') := Any.Builder_String_f Try.lays169 Try.Builder_Extra_169 B b l w h h0
open Go.RowKit in
theorem Try.Builder_String_empty_f (B b : Nat) (w : World) (h : Lib.IsBuilderF 121 5 B b [] w) (hBw : B ≤ w.heap.size) :
    Calls Try.prog 111 #[.pointer (some ⟨b, 0, none⟩)] w fun e w' => e = .returned (.string ⟨#[]⟩) ∧ (Lib.IsBuilderF 121 5 B b [] w' ∧ Below B w w') := Any.Builder_String_empty_f Try.lays169 Try.Builder_Extra_169 B b w h hBw
open Go.RowKit in
theorem Try.Builder_String_any_f (B b : Nat) (l : List UInt8) (w : World) (h : Lib.IsBuilderF 121 5 B b (Lib.byteCells l) w) (hBw : B ≤ w.heap.size) :
    Calls Try.prog 111 #[.pointer (some ⟨b, 0, none⟩)] w fun e w' => e = .returned (.string ⟨l.toArray⟩) ∧ (Lib.IsBuilderF 121 5 B b (Lib.byteCells l) w' ∧ Below B w w') := Any.Builder_String_any_f Try.lays169 Try.Builder_Extra_169 B b l w h hBw
open Go.RowKit in
theorem Try.Builder_String_k (B b : Nat) (l : List UInt8) (w : World) (h : Lib.IsBuilderF 121 5 B b (Lib.byteCells l) w) (h0 : l ≠ []) :
    Calls Try.prog 111 #[.pointer (some ⟨b, 0, none⟩)] w fun e w' => e = .returned (.string ⟨l.toArray⟩) ∧ (Lib.IsBuilderF 121 5 B b (Lib.byteCells l) w' ∧ Below B w w' ∧ Lib.OthersKept 5 (some b) w w') := Any.Builder_String_k Try.lays169 Try.Builder_Extra_169 B b l w h h0
open Go.RowKit in
theorem Try.Builder_String_empty_k (B b : Nat) (w : World) (h : Lib.IsBuilderF 121 5 B b [] w) (hBw : B ≤ w.heap.size) :
    Calls Try.prog 111 #[.pointer (some ⟨b, 0, none⟩)] w fun e w' => e = .returned (.string ⟨#[]⟩) ∧ (Lib.IsBuilderF 121 5 B b [] w' ∧ Below B w w' ∧ Lib.OthersKept 5 (some b) w w') := Any.Builder_String_empty_k Try.lays169 Try.Builder_Extra_169 B b w h hBw
open Go.RowKit in
theorem Try.Builder_String_any_k (B b : Nat) (l : List UInt8) (w : World) (h : Lib.IsBuilderF 121 5 B b (Lib.byteCells l) w) (hBw : B ≤ w.heap.size) :
    Calls Try.prog 111 #[.pointer (some ⟨b, 0, none⟩)] w fun e w' => e = .returned (.string ⟨l.toArray⟩) ∧ (Lib.IsBuilderF 121 5 B b (Lib.byteCells l) w' ∧ Below B w w' ∧ Lib.OthersKept 5 (some b) w w') := Any.Builder_String_any_k Try.lays169 Try.Builder_Extra_169 B b l w h hBw
open Go.RowKit in
theorem Try.Builder_grow_fresh_cap (B b n : Nat) (w : World) (hB : B ≤ b) (hbk : w.heap[b]? = some (.cells #[.pointer (some ⟨b, 0, none⟩), .slice none 0 0] 121 (0, 0))) (hBw : B ≤ w.heap.size) (hn : n ≤ 281474976710656) :
    Calls Try.prog 114 #[.pointer (some ⟨b, 0, none⟩), .int .i64 n] w fun e w' => e = .returned (.tuple #[]) ∧ (Lib.BuilderAt 121 5 B b (.pointer (some ⟨b, 0, none⟩)) [] w' ∧ Below B w w') ∧ ∃ p cap, w'.cell? ⟨b, 1, none⟩ = some (.slice p 0 cap) ∧ n ≤ cap := Any.Builder_grow_fresh_cap Try.lays241 Try.Builder_Extra_241 B b n w hB hbk hBw hn
open Go.RowKit in
theorem Try.Builder_Grow_fresh_cap (B b n : Nat) (w : World) (hB : B ≤ b) (hbk : w.heap[b]? = some (.cells #[.pointer none, .slice none 0 0] 121 (0, 0))) (hBw : B ≤ w.heap.size) (hn : n ≤ 281474976710656) :
    Calls Try.prog 109 #[.pointer (some ⟨b, 0, none⟩), .int .i64 n] w fun e w' => e = .returned (.tuple #[]) ∧ (Lib.BuilderAt 121 5 B b (.pointer (some ⟨b, 0, none⟩)) [] w' ∧ Below B w w') ∧ ∃ p cap, w'.cell? ⟨b, 1, none⟩ = some (.slice p 0 cap) ∧ n ≤ cap := Any.Builder_Grow_fresh_cap Try.lays165 Try.Builder_Extra_165 B b n w hB hbk hBw hn
def Try.lays129_ren : Go.Shelf.Ren := ⟨fun | 129 => 94 | n => n, fun | 53 => 109 | 3 => 3 | 4 => 4 | 46 => 91 | 5 => 5 | 9 => 9 | n => n, fun | n => n⟩
theorem Try.lays129 : Go.Proofs.Lays.n129 Try.prog Try.lays129_ren := {
  mixed := by kernel_rfl
  f129 := Try.func94.trans (congrArg some (by kernel_rfl))
  t3 := Try.underlying3
  a3 := Try.isAgg3
  z3 := Try.sizeOf3
  v3 := Try.zeroValue3
  t4 := Try.underlying4
  a4 := Try.isAgg4
  z4 := Try.sizeOf4
  v4 := Try.zeroValue4
  t5 := Try.underlying5
  a5 := Try.isAgg5
  z5 := Try.sizeOf5
  v5 := Try.zeroValue5
  t9 := Try.underlying9
  a9 := Try.isAgg9
  z9 := Try.sizeOf9
  v9 := Try.zeroValue9
  t46 := Try.underlying91
  a46 := Try.isAgg91
  z46 := Try.sizeOf91
  v46 := Try.zeroValue91
  t53 := Try.underlying109
  a53 := Try.isAgg109
  z53 := Try.sizeOf109
  v53 := Try.zeroValue109 }
theorem Try.bits_Len64 (x : Int) (w : World) (h0 : 0 ≤ x) (h1 : x ≤ 18446744073709551615) :
    Calls Try.prog 94 #[.int .u64 x] w fun e w' => e = .returned (.int .i64 (Lib.bitLen x.toNat)) ∧ w' = w := Any.bits_Len64 Try.lays129 x w h0 h1
def Try.lays206_ren : Go.Shelf.Ren := ⟨fun | 206 => 84 | n => n, fun | 9 => 9 | 4 => 4 | 3 => 3 | n => n, fun | n => n⟩
theorem Try.lays206 : Go.Proofs.Lays.n206 Try.prog Try.lays206_ren := {
  mixed := by kernel_rfl
  f206 := Try.func84.trans (congrArg some (by kernel_rfl))
  t3 := Try.underlying3
  a3 := Try.isAgg3
  z3 := Try.sizeOf3
  v3 := Try.zeroValue3
  t4 := Try.underlying4
  a4 := Try.isAgg4
  z4 := Try.sizeOf4
  v4 := Try.zeroValue4
  t9 := Try.underlying9
  a9 := Try.isAgg9
  z9 := Try.sizeOf9
  v9 := Try.zeroValue9 }
open Go.RowKit Go.Lib in
theorem Try.stringslite_HasPrefix (s p : ByteArray) (w : World) :
    Calls Try.prog 84 #[.string s, .string p] w fun e w' => e = .returned (.bool (Lib.hasPrefix s.data.toList p.data.toList)) ∧ w' = w := Any.stringslite_HasPrefix Try.lays206 s p w
def Try.lays99_ren : Go.Shelf.Ren := ⟨fun | 99 => 70 | 206 => 84 | n => n, fun | 9 => 9 | 4 => 4 | 3 => 3 | n => n, fun | n => n⟩
theorem Try.lays99 : Go.Proofs.Lays.n99 Try.prog Try.lays99_ren := {
  mixed := by kernel_rfl
  f99 := Try.func70.trans (congrArg some (by kernel_rfl))
  f206 := Try.func84.trans (congrArg some (by kernel_rfl))
  t3 := Try.underlying3
  a3 := Try.isAgg3
  z3 := Try.sizeOf3
  v3 := Try.zeroValue3
  t4 := Try.underlying4
  a4 := Try.isAgg4
  z4 := Try.sizeOf4
  v4 := Try.zeroValue4
  t9 := Try.underlying9
  a9 := Try.isAgg9
  z9 := Try.sizeOf9
  v9 := Try.zeroValue9 }
open Go.RowKit Go.Lib in
theorem Try.strings_HasPrefix (s p : ByteArray) (w : World) :
    Calls Try.prog 70 #[.string s, .string p] w fun e w' => e = .returned (.bool (Lib.hasPrefix s.data.toList p.data.toList)) ∧ w' = w := Any.strings_HasPrefix Try.lays99 s p w
end Go.Proofs

set_option linter.unusedVariables false
set_option linter.unusedSimpArgs false
namespace Go.GH
open Go Go.Proofs
noncomputable def c_impl_readPath_1 : PCon := con [mC] true Str encS (fun s => s.length ≤ 4611686018427387904) (fun s => .bool (!nameOk s))
noncomputable def E_impl_readPath_1 : Env := ⟨lookup tyTab, lookup [(99, c_impl_NameOk)], [0, 2]⟩
set_option maxRecDepth 100000 in
set_option maxHeartbeats 4000000 in
theorem m_impl_readPath_1 : Meets E_impl_readPath_1 (codeOf Try.f98) Try.f98.results.toList c_impl_readPath_1 := by
  intro (s : Str) hs
  have hs : s.length ≤ 4611686018427387904 := hs
  refine ⟨trivial, ?_⟩
  conv => whnf
  refine ⟨s, rfl, fun _ => hs, ?_⟩
  conv => whnf
  exact ⟨trivial, rfl⟩
theorem ok_impl_readPath_1 : ConOk Try.prog 98 c_impl_readPath_1 := meets_ok (tabT _ _) (FOk.cons ok_impl_NameOk FOk.nil) mixed Try.func98 rfl Try.call98 (by decide) (by kernel_rfl) m_impl_readPath_1 (by intro _ (y : Str) _; exact ⟨by simp [c_impl_readPath_1, con, AV.noRd, noRdCells, noRdRows, noRdRows_map', encS], by simp [c_impl_readPath_1, con, AV.noRd, noRdCells, noRdRows, noRdRows_map', encS]⟩) (by intro (y : Str) _; first | (simp [c_impl_readPath_1, con, AV.free, freeCells, freeRows, freeRows_map, encS]; done) | (obtain ⟨_, _⟩ := y; simp [c_impl_readPath_1, con, AV.free, freeCells, freeRows, freeRows_map, encS]; done) | (obtain ⟨_, _, _⟩ := y; simp [c_impl_readPath_1, con, AV.free, freeCells, freeRows, freeRows_map, encS]; done))
noncomputable def c_impl_PathOf_1 : PCon := con [mC] true Str encS (fun s => s.length ≤ 4611686018427387904) (fun s => .bool (!nameOk s))
noncomputable def E_impl_PathOf_1 : Env := ⟨lookup tyTab, lookup [(99, c_impl_NameOk)], [0, 2]⟩
set_option maxRecDepth 100000 in
set_option maxHeartbeats 4000000 in
theorem m_impl_PathOf_1 : Meets E_impl_PathOf_1 (codeOf Try.f101) Try.f101.results.toList c_impl_PathOf_1 := by
  intro (s : Str) hs
  have hs : s.length ≤ 4611686018427387904 := hs
  refine ⟨trivial, ?_⟩
  conv => whnf
  refine ⟨s, rfl, fun _ => hs, ?_⟩
  conv => whnf
  exact ⟨trivial, rfl⟩
theorem ok_impl_PathOf_1 : ConOk Try.prog 101 c_impl_PathOf_1 := meets_ok (tabT _ _) (FOk.cons ok_impl_NameOk FOk.nil) mixed Try.func101 rfl Try.call101 (by decide) (by kernel_rfl) m_impl_PathOf_1 (by intro _ (y : Str) _; exact ⟨by simp [c_impl_PathOf_1, con, AV.noRd, noRdCells, noRdRows, noRdRows_map', encS], by simp [c_impl_PathOf_1, con, AV.noRd, noRdCells, noRdRows, noRdRows_map', encS]⟩) (by intro (y : Str) _; first | (simp [c_impl_PathOf_1, con, AV.free, freeCells, freeRows, freeRows_map, encS]; done) | (obtain ⟨_, _⟩ := y; simp [c_impl_PathOf_1, con, AV.free, freeCells, freeRows, freeRows_map, encS]; done) | (obtain ⟨_, _, _⟩ := y; simp [c_impl_PathOf_1, con, AV.free, freeCells, freeRows, freeRows_map, encS]; done))
noncomputable def c_slices_IndexFunc_string : PCon := con [mS 1, mC] true (List Str × Bool) (fun x => [.rd 1 (x.1.map encS), .fn (bif x.2 then 98 else 101) []]) (fun x => smL x.1) (fun x => .int .i64 (fnd (fun s => !nameOk s) x.1))
noncomputable def E_slices_IndexFunc_string : Env := ⟨lookup tyTab, lookup [(98, c_impl_readPath_1), (101, c_impl_PathOf_1)], [0, 1, 4, 5, 7, 8, 9, 16]⟩
set_option maxRecDepth 100000 in
set_option maxHeartbeats 4000000 in
theorem m_slices_IndexFunc_string : Meets E_slices_IndexFunc_string (codeOf Try.f108) Try.f108.results.toList c_slices_IndexFunc_string := by
  rintro ⟨l, q⟩ hs
  obtain ⟨hs1, hs2⟩ : smL l := hs
  cases q with
  | true =>
    refine ⟨trivial, ?_⟩
    conv => whnf
    refine loop_rule (fun i : Nat => ⟨[(0, ⟨none, .rd 1 (l.map encS)⟩), (1, ⟨none, .fn 98 []⟩), (7, ⟨none, .int .i64 l.length⟩), (8, ⟨none, .int .i64 i⟩)], [], 0⟩)
      (fun i => i ≤ l.length ∧ (l.take i).any (fun s => !nameOk s) = false) (fun i => l.length - i) 0 ?_ ⟨by omega, rfl⟩ ?_
    · (refine ⟨?_, ?_, rfl⟩ <;> repeat' (first | exact rfl | exact trivial | refine ⟨?_, ?_⟩ | fail) <;> (conv => whnf))
      all_goals simp
    rintro i ⟨hi, hI⟩
    (conv => whnf); refine ⟨fun h1 => ?_, fun h1 => ?_⟩
    · have h1 : i < l.length := by simpa using h1
      obtain ⟨b, hb⟩ := get_lt h1
      have hbs := hs2 b (List.mem_of_getElem? hb)
      repeat ((conv => whnf); first | refine ⟨fun h => h, ?_⟩ | refine ⟨(by kernel_rfl : drawOk _ _ = true), ?_⟩ | refine ⟨fun (h : gtrue _) => by first | assumption | exact absurd (Eq.trans (Eq.symm h) (by assumption) : true = false) Bool.noConfusion, ?_⟩ | refine ⟨fun h => (absurd (Eq.trans (Eq.symm h) (by assumption) : true = false) Bool.noConfusion : False), ?_⟩ | refine ⟨_, w64 (by (show (_ : Prop)); first | omega | ((try dsimp only at *); (try simp only [lns] at *); omega)), ?_⟩ | refine ⟨fun _ => ⟨by (show (_ : Prop)); first | omega | ((try dsimp only at *); (try simp only [lns] at *); omega), by (show (_ : Prop)); first | omega | ((try dsimp only at *); (try simp only [lns] at *); omega), by (show (_ : Prop)); first | omega | ((try dsimp only at *); (try simp only [lns] at *); omega)⟩, ?_⟩ | refine ⟨by (show (_ : Prop)); first | omega | ((try dsimp only at *); (try simp only [lns] at *); omega), ?_⟩ | refine ⟨fun h => ⟨by (show (_ : Prop)); first | omega | ((try dsimp only at *); (try simp only [lns] at *); omega), by (show (_ : Prop)); first | omega | ((try dsimp only at *); (try simp only [lns] at *); omega)⟩, ?_⟩ | refine ⟨fun (r : List AV) hr c hc => by simp [encS] at hr; (try subst hr); simp at hc; (try subst hc); rfl, ?_⟩ | refine ⟨noOwn (by rfl), ?_⟩ | refine ⟨encS b, fun _ => ⟨by omega, by simp [hb]⟩, ?_⟩)
      refine ⟨b, rfl, fun _ => by show _ ≤ _; omega, ?_⟩
      (conv => whnf); refine ⟨fun h2 => ?_, fun h2 => ?_⟩
      · have h2 : (!nameOk b) = true := h2
        conv => whnf
        exact ⟨trivial, eqN' (fnd_hit hI hb h2).symm⟩
      · have h2 : (!nameOk b) = false := h2
        repeat ((conv => whnf); first | refine ⟨fun h => h, ?_⟩ | refine ⟨(by kernel_rfl : drawOk _ _ = true), ?_⟩ | refine ⟨fun (h : gtrue _) => by first | assumption | exact absurd (Eq.trans (Eq.symm h) (by assumption) : true = false) Bool.noConfusion, ?_⟩ | refine ⟨fun h => (absurd (Eq.trans (Eq.symm h) (by assumption) : true = false) Bool.noConfusion : False), ?_⟩ | refine ⟨_, w64 (by (show (_ : Prop)); first | omega | ((try dsimp only at *); (try simp only [lns] at *); omega)), ?_⟩ | refine ⟨fun _ => ⟨by (show (_ : Prop)); first | omega | ((try dsimp only at *); (try simp only [lns] at *); omega), by (show (_ : Prop)); first | omega | ((try dsimp only at *); (try simp only [lns] at *); omega), by (show (_ : Prop)); first | omega | ((try dsimp only at *); (try simp only [lns] at *); omega)⟩, ?_⟩ | refine ⟨by (show (_ : Prop)); first | omega | ((try dsimp only at *); (try simp only [lns] at *); omega), ?_⟩ | refine ⟨fun h => ⟨by (show (_ : Prop)); first | omega | ((try dsimp only at *); (try simp only [lns] at *); omega), by (show (_ : Prop)); first | omega | ((try dsimp only at *); (try simp only [lns] at *); omega)⟩, ?_⟩ | refine ⟨fun (r : List AV) hr c hc => by simp [encS] at hr; (try subst hr); simp at hc; (try subst hc); rfl, ?_⟩ | refine ⟨noOwn (by rfl), ?_⟩)
        refine again (i + 1) ?_ ⟨h1, any_take_succ hI hb h2⟩ (by first | omega | (simp; done) | (simp; omega))
        (refine ⟨?_, ?_, rfl⟩ <;> repeat' (first | exact rfl | exact trivial | refine ⟨?_, ?_⟩ | fail) <;> (conv => whnf))
    · have h1 : i = l.length := by
        have : ¬ i < l.length := by simpa using h1
        omega
      subst h1
      rw [List.take_length] at hI
      conv => whnf
      exact ⟨trivial, eqN' (fnd_none hI).symm⟩
  | false =>
    refine ⟨trivial, ?_⟩
    conv => whnf
    refine loop_rule (fun i : Nat => ⟨[(0, ⟨none, .rd 1 (l.map encS)⟩), (1, ⟨none, .fn 101 []⟩), (7, ⟨none, .int .i64 l.length⟩), (8, ⟨none, .int .i64 i⟩)], [], 0⟩)
      (fun i => i ≤ l.length ∧ (l.take i).any (fun s => !nameOk s) = false) (fun i => l.length - i) 0 ?_ ⟨by omega, rfl⟩ ?_
    · (refine ⟨?_, ?_, rfl⟩ <;> repeat' (first | exact rfl | exact trivial | refine ⟨?_, ?_⟩ | fail) <;> (conv => whnf))
      all_goals simp
    rintro i ⟨hi, hI⟩
    (conv => whnf); refine ⟨fun h1 => ?_, fun h1 => ?_⟩
    · have h1 : i < l.length := by simpa using h1
      obtain ⟨b, hb⟩ := get_lt h1
      have hbs := hs2 b (List.mem_of_getElem? hb)
      repeat ((conv => whnf); first | refine ⟨fun h => h, ?_⟩ | refine ⟨(by kernel_rfl : drawOk _ _ = true), ?_⟩ | refine ⟨fun (h : gtrue _) => by first | assumption | exact absurd (Eq.trans (Eq.symm h) (by assumption) : true = false) Bool.noConfusion, ?_⟩ | refine ⟨fun h => (absurd (Eq.trans (Eq.symm h) (by assumption) : true = false) Bool.noConfusion : False), ?_⟩ | refine ⟨_, w64 (by (show (_ : Prop)); first | omega | ((try dsimp only at *); (try simp only [lns] at *); omega)), ?_⟩ | refine ⟨fun _ => ⟨by (show (_ : Prop)); first | omega | ((try dsimp only at *); (try simp only [lns] at *); omega), by (show (_ : Prop)); first | omega | ((try dsimp only at *); (try simp only [lns] at *); omega), by (show (_ : Prop)); first | omega | ((try dsimp only at *); (try simp only [lns] at *); omega)⟩, ?_⟩ | refine ⟨by (show (_ : Prop)); first | omega | ((try dsimp only at *); (try simp only [lns] at *); omega), ?_⟩ | refine ⟨fun h => ⟨by (show (_ : Prop)); first | omega | ((try dsimp only at *); (try simp only [lns] at *); omega), by (show (_ : Prop)); first | omega | ((try dsimp only at *); (try simp only [lns] at *); omega)⟩, ?_⟩ | refine ⟨fun (r : List AV) hr c hc => by simp [encS] at hr; (try subst hr); simp at hc; (try subst hc); rfl, ?_⟩ | refine ⟨noOwn (by rfl), ?_⟩ | refine ⟨encS b, fun _ => ⟨by omega, by simp [hb]⟩, ?_⟩)
      refine ⟨b, rfl, fun _ => by show _ ≤ _; omega, ?_⟩
      (conv => whnf); refine ⟨fun h2 => ?_, fun h2 => ?_⟩
      · have h2 : (!nameOk b) = true := h2
        conv => whnf
        exact ⟨trivial, eqN' (fnd_hit hI hb h2).symm⟩
      · have h2 : (!nameOk b) = false := h2
        repeat ((conv => whnf); first | refine ⟨fun h => h, ?_⟩ | refine ⟨(by kernel_rfl : drawOk _ _ = true), ?_⟩ | refine ⟨fun (h : gtrue _) => by first | assumption | exact absurd (Eq.trans (Eq.symm h) (by assumption) : true = false) Bool.noConfusion, ?_⟩ | refine ⟨fun h => (absurd (Eq.trans (Eq.symm h) (by assumption) : true = false) Bool.noConfusion : False), ?_⟩ | refine ⟨_, w64 (by (show (_ : Prop)); first | omega | ((try dsimp only at *); (try simp only [lns] at *); omega)), ?_⟩ | refine ⟨fun _ => ⟨by (show (_ : Prop)); first | omega | ((try dsimp only at *); (try simp only [lns] at *); omega), by (show (_ : Prop)); first | omega | ((try dsimp only at *); (try simp only [lns] at *); omega), by (show (_ : Prop)); first | omega | ((try dsimp only at *); (try simp only [lns] at *); omega)⟩, ?_⟩ | refine ⟨by (show (_ : Prop)); first | omega | ((try dsimp only at *); (try simp only [lns] at *); omega), ?_⟩ | refine ⟨fun h => ⟨by (show (_ : Prop)); first | omega | ((try dsimp only at *); (try simp only [lns] at *); omega), by (show (_ : Prop)); first | omega | ((try dsimp only at *); (try simp only [lns] at *); omega)⟩, ?_⟩ | refine ⟨fun (r : List AV) hr c hc => by simp [encS] at hr; (try subst hr); simp at hc; (try subst hc); rfl, ?_⟩ | refine ⟨noOwn (by rfl), ?_⟩)
        refine again (i + 1) ?_ ⟨h1, any_take_succ hI hb h2⟩ (by first | omega | (simp; done) | (simp; omega))
        (refine ⟨?_, ?_, rfl⟩ <;> repeat' (first | exact rfl | exact trivial | refine ⟨?_, ?_⟩ | fail) <;> (conv => whnf))
    · have h1 : i = l.length := by
        have : ¬ i < l.length := by simpa using h1
        omega
      subst h1
      rw [List.take_length] at hI
      conv => whnf
      exact ⟨trivial, eqN' (fnd_none hI).symm⟩
theorem ok_slices_IndexFunc_string : ConOk Try.prog 108 c_slices_IndexFunc_string := meets_ok (tabT _ _) (FOk.cons ok_impl_readPath_1 (FOk.cons ok_impl_PathOf_1 FOk.nil)) mixed Try.func108 rfl Try.call108 (by decide) (by kernel_rfl) m_slices_IndexFunc_string (by intro _ (y : (List Str × Bool)) _; exact ⟨by simp [c_slices_IndexFunc_string, con, AV.noRd, noRdCells, noRdRows, noRdRows_map', encS], by simp [c_slices_IndexFunc_string, con, AV.noRd, noRdCells, noRdRows, noRdRows_map', encS]⟩) (by intro (y : (List Str × Bool)) _; first | (simp [c_slices_IndexFunc_string, con, AV.free, freeCells, freeRows, freeRows_map, encS]; done) | (obtain ⟨_, _⟩ := y; simp [c_slices_IndexFunc_string, con, AV.free, freeCells, freeRows, freeRows_map, encS]; done) | (obtain ⟨_, _, _⟩ := y; simp [c_slices_IndexFunc_string, con, AV.free, freeCells, freeRows, freeRows_map, encS]; done))
end Go.GH

set_option linter.unusedVariables false
set_option linter.unusedSimpArgs false
namespace Go.GH
open Go Go.Proofs
def c_strings_Join : PCon := con [mS 1, mC] true (List Str × Str) (fun x => [.rd 1 (x.1.map encS), .str x.2]) (fun x => (Lib.join x.1 x.2).length ≤ 16777216 ∧ x.1.length ≤ 4194304) (fun x => .str (Lib.join x.1 x.2))
theorem ok_strings_Join : ConOk Try.prog 100 c_strings_Join := by
  refine con_of_calls rfl (fun _ => rfl) (fun _ => rfl) (fun _ => rfl) (fun x _ => ⟨freeRows_map.2 fun _ _ => ⟨trivial, trivial⟩, trivial, trivial⟩) Try.call100 ?_
  rintro ⟨l, p⟩ hpre y w args ρ hw hR hsz hs
  obtain ⟨hp1, hp2⟩ : (Lib.join l p).length ≤ 16777216 ∧ l.length ≤ 4194304 := hpre
  have h0 := hs 0 _ rfl
  have h1 := srep_str (hs 1 _ rfl)
  obtain ⟨a, cap, e0, hcap, hcell⟩ := rd_strs h0 hw
  have hsz : args.size = 2 := hsz
  have ha : args = #[.slice a l.length cap, .string (toB p)] := by
    apply Array.ext
    · simp [hsz]
    · intro i hi1 hi2
      have : i = 0 ∨ i = 1 := by omega
      rcases this with rfl | rfl
      · rw [Array.getD_eq_getD_getElem?, Array.getElem?_eq_getElem hi1] at e0; simpa using e0
      · rw [Array.getD_eq_getD_getElem?, Array.getElem?_eq_getElem hi1] at h1; simpa [bytesV, toB] using h1
  rw [ha]
  cases l with
  | nil =>
    refine (Try.strings_Join_none a cap (toB p) w).mono ?_
    rintro e w' ⟨rfl, rfl⟩
    exact ⟨rfl, RowKit.Below.refl _ _⟩
  | cons x r =>
    obtain ⟨b, o, rfl, hb, hc⟩ := hcell (by simp)
    have e : ((x :: r).map toB).map (fun z => z.data.toList) = x :: r := by
      rw [List.map_map]; simp [Function.comp_def, toB]
    have hJ := Try.strings_Join b o cap ((x :: r).map toB) (toB p) w (fun j z hz => by
      rw [List.getElem?_map] at hz
      cases hq : (x :: r)[j]? with
      | none => rw [hq] at hz; cases hz
      | some s0 =>
        rw [hq] at hz
        simp only [Option.map_some, Option.some.injEq] at hz
        subst hz
        exact hc j s0 hq) (hR b hb) (by simp at hp2 ⊢; omega) (by simpa using hcap) (by
          rw [e]; simp only [toB]; omega)
    rw [e] at hJ
    rw [List.length_map] at hJ
    exact hJ
noncomputable def c_slices_ContainsFunc_string : PCon := con [mS 1, mC] true (List Str × Bool) (fun x => [.rd 1 (x.1.map encS), .fn (bif x.2 then 98 else 101) []]) (fun x => smL x.1) (fun x => .bool (x.1.any fun s => !nameOk s))
noncomputable def E_slices_ContainsFunc_string : Env := ⟨lookup tyTab, lookup [(108, c_slices_IndexFunc_string), (98, c_impl_readPath_1), (101, c_impl_PathOf_1)], [0, 1, 4]⟩
set_option maxRecDepth 100000 in
set_option maxHeartbeats 4000000 in
theorem m_slices_ContainsFunc_string : Meets E_slices_ContainsFunc_string (codeOf Try.f97) Try.f97.results.toList c_slices_ContainsFunc_string := by
  rintro ⟨l, q⟩ hs
  refine ⟨trivial, ?_⟩
  cases q with
  | true =>
    conv => whnf
    refine ⟨(l, true), rfl, fun _ => hs, ?_⟩
    conv => whnf
    exact ⟨trivial, eqB fnd_pos⟩
  | false =>
    conv => whnf
    refine ⟨(l, false), rfl, fun _ => hs, ?_⟩
    conv => whnf
    exact ⟨trivial, eqB fnd_pos⟩
theorem ok_slices_ContainsFunc_string : ConOk Try.prog 97 c_slices_ContainsFunc_string := meets_ok (tabT _ _) (FOk.cons ok_slices_IndexFunc_string (FOk.cons ok_impl_readPath_1 (FOk.cons ok_impl_PathOf_1 FOk.nil))) mixed Try.func97 rfl Try.call97 (by decide) (by kernel_rfl) m_slices_ContainsFunc_string (by intro _ (y : (List Str × Bool)) _; exact ⟨by simp [c_slices_ContainsFunc_string, con, AV.noRd, noRdCells, noRdRows, noRdRows_map', encS], by simp [c_slices_ContainsFunc_string, con, AV.noRd, noRdCells, noRdRows, noRdRows_map', encS]⟩) (by intro (y : (List Str × Bool)) _; first | (simp [c_slices_ContainsFunc_string, con, AV.free, freeCells, freeRows, freeRows_map, encS]; done) | (obtain ⟨_, _⟩ := y; simp [c_slices_ContainsFunc_string, con, AV.free, freeCells, freeRows, freeRows_map, encS]; done) | (obtain ⟨_, _, _⟩ := y; simp [c_slices_ContainsFunc_string, con, AV.free, freeCells, freeRows, freeRows_map, encS]; done))
noncomputable def c_impl_readPath : PCon := con [mC] false Str encS (fun s => sml s.length) (fun s => .tup [.own 1 ((names s).map encS), .bool (pathOk s)])
noncomputable def E_impl_readPath : Env := ⟨lookup tyTab, lookup [(33, c_impl_within), (96, c_impl_Parts), (97, c_slices_ContainsFunc_string), (98, c_impl_readPath_1)], [0, 2, 3, 4, 6, 18, 21]⟩
set_option maxRecDepth 100000 in
set_option maxHeartbeats 4000000 in
theorem m_impl_readPath : Meets E_impl_readPath (codeOf Try.f81) Try.f81.results.toList c_impl_readPath := by
  intro (s : Str) hs
  have hs : s.length ≤ 4194304 := hs
  refine ⟨trivial, ?_⟩
  (conv => whnf); refine ⟨fun h1 => ?_, fun h1 => ?_⟩
  · have h1 : (s == sl) = true := h1
    have hp : pathOk s = true := by simp [pathOk, h1]
    have hn : names s = [] := by simp [names, h1]
    conv => whnf
    exact ⟨trivial, eqNil (by rw [hn]; rfl), eqB hp.symm, trivial⟩
  have h1 : (s == sl) = false := h1
  conv => whnf
  refine ⟨(s, 47), rfl, fun _ => hs, ?_⟩
  conv => whnf
  have hq := splitBy_len (c := 47) s
  have hp := split_pos 47 s
  have hd : pathOk s = (inB (splitBy 47 s).length 2 5 && ((splitBy 47 s).headD [] == []) && ((splitBy 47 s).drop 1).all nameOk) := by simp [pathOk, h1]
  have hn : names s = if pathOk s then (splitBy 47 s).drop 1 else [] := by simp [names, h1]
  obtain ⟨a, ha⟩ := get_lt hp
  have hh : (splitBy 47 s).headD [] = a := by
    cases hx : splitBy 47 s with
    | nil => rw [hx] at ha; cases ha
    | cons y r => rw [hx] at ha; simpa using ha
  rw [hh] at hd
  repeat ((conv => whnf); first | refine ⟨fun h => h, ?_⟩ | refine ⟨(by kernel_rfl : drawOk _ _ = true), ?_⟩ | refine ⟨fun (h : gtrue _) => by first | assumption | exact absurd (Eq.trans (Eq.symm h) (by assumption) : true = false) Bool.noConfusion, ?_⟩ | refine ⟨fun h => (absurd (Eq.trans (Eq.symm h) (by assumption) : true = false) Bool.noConfusion : False), ?_⟩ | refine ⟨_, w64 (by (show (_ : Prop)); first | omega | ((try dsimp only at *); (try simp only [lns] at *); omega)), ?_⟩ | refine ⟨fun _ => ⟨by (show (_ : Prop)); first | omega | ((try dsimp only at *); (try simp only [lns] at *); omega), by (show (_ : Prop)); first | omega | ((try dsimp only at *); (try simp only [lns] at *); omega), by (show (_ : Prop)); first | omega | ((try dsimp only at *); (try simp only [lns] at *); omega)⟩, ?_⟩ | refine ⟨by (show (_ : Prop)); first | omega | ((try dsimp only at *); (try simp only [lns] at *); omega), ?_⟩ | refine ⟨fun h => ⟨by (show (_ : Prop)); first | omega | ((try dsimp only at *); (try simp only [lns] at *); omega), by (show (_ : Prop)); first | omega | ((try dsimp only at *); (try simp only [lns] at *); omega)⟩, ?_⟩ | refine ⟨fun (r : List AV) hr c hc => by simp [encS] at hr; (try subst hr); simp at hc; (try subst hc); rfl, ?_⟩ | refine ⟨noOwn (by rfl), ?_⟩ | refine ⟨encS a, fun _ => get_map ha, ?_⟩)
  refine ⟨((splitBy 47 s).length, 2, 5), by (try simp only [List.length_map]); rfl, fun _ => trivial, ?_⟩
  repeat ((conv => whnf); first | refine ⟨fun h => h, ?_⟩ | refine ⟨(by kernel_rfl : drawOk _ _ = true), ?_⟩ | refine ⟨fun (h : gtrue _) => by first | assumption | exact absurd (Eq.trans (Eq.symm h) (by assumption) : true = false) Bool.noConfusion, ?_⟩ | refine ⟨fun h => (absurd (Eq.trans (Eq.symm h) (by assumption) : true = false) Bool.noConfusion : False), ?_⟩ | refine ⟨_, w64 (by (show (_ : Prop)); first | omega | ((try dsimp only at *); (try simp only [lns] at *); omega)), ?_⟩ | refine ⟨fun _ => ⟨by (show (_ : Prop)); first | omega | ((try dsimp only at *); (try simp only [lns] at *); omega), by (show (_ : Prop)); first | omega | ((try dsimp only at *); (try simp only [lns] at *); omega), by (show (_ : Prop)); first | omega | ((try dsimp only at *); (try simp only [lns] at *); omega)⟩, ?_⟩ | refine ⟨by (show (_ : Prop)); first | omega | ((try dsimp only at *); (try simp only [lns] at *); omega), ?_⟩ | refine ⟨fun h => ⟨by (show (_ : Prop)); first | omega | ((try dsimp only at *); (try simp only [lns] at *); omega), by (show (_ : Prop)); first | omega | ((try dsimp only at *); (try simp only [lns] at *); omega)⟩, ?_⟩ | refine ⟨fun (r : List AV) hr c hc => by simp [encS] at hr; (try subst hr); simp at hc; (try subst hc); rfl, ?_⟩ | refine ⟨noOwn (by rfl), ?_⟩)
  (conv => whnf); refine ⟨fun h2 => ?_, fun h2 => ?_⟩
  · have hf : pathOk s = false := by
      have h2 : (!(a == []) || (!inB (splitBy 47 s).length 2 5)) = true := h2
      rw [hd]
      revert h2
      cases inB (splitBy 47 s).length 2 5 <;> cases (a == []) <;> simp
    rw [hf] at hn
    conv => whnf
    exact ⟨trivial, eqNil (by rw [hn]; rfl), eqB hf.symm, trivial⟩
  have h2 : inB (splitBy 47 s).length 2 5 = true ∧ (a == []) = true := by
    have h2 : (!(a == []) || (!inB (splitBy 47 s).length 2 5)) = false := h2
    revert h2
    cases inB (splitBy 47 s).length 2 5 <;> cases (a == []) <;> simp
  rw [h2.1, h2.2, Bool.true_and, Bool.true_and] at hd
  repeat ((conv => whnf); first | refine ⟨fun h => h, ?_⟩ | refine ⟨(by kernel_rfl : drawOk _ _ = true), ?_⟩ | refine ⟨fun (h : gtrue _) => by first | assumption | exact absurd (Eq.trans (Eq.symm h) (by assumption) : true = false) Bool.noConfusion, ?_⟩ | refine ⟨fun h => (absurd (Eq.trans (Eq.symm h) (by assumption) : true = false) Bool.noConfusion : False), ?_⟩ | refine ⟨_, w64 (by (show (_ : Prop)); first | omega | ((try dsimp only at *); (try simp only [lns] at *); omega)), ?_⟩ | refine ⟨fun _ => ⟨by (show (_ : Prop)); first | omega | ((try dsimp only at *); (try simp only [lns] at *); omega), by (show (_ : Prop)); first | omega | ((try dsimp only at *); (try simp only [lns] at *); omega), by (show (_ : Prop)); first | omega | ((try dsimp only at *); (try simp only [lns] at *); omega)⟩, ?_⟩ | refine ⟨by (show (_ : Prop)); first | omega | ((try dsimp only at *); (try simp only [lns] at *); omega), ?_⟩ | refine ⟨fun h => ⟨by (show (_ : Prop)); first | omega | ((try dsimp only at *); (try simp only [lns] at *); omega), by (show (_ : Prop)); first | omega | ((try dsimp only at *); (try simp only [lns] at *); omega)⟩, ?_⟩ | refine ⟨fun (r : List AV) hr c hc => by simp [encS] at hr; (try subst hr); simp at hc; (try subst hc); rfl, ?_⟩ | refine ⟨noOwn (by rfl), ?_⟩)
  refine ⟨((splitBy 47 s).drop 1, true), ?_, fun _ => ?_, ?_⟩
  · refine congrArg (fun x => [AV.rd 1 x, AV.fn 98 []]) ?_
    rw [cutS, List.take_of_length_le (by simp)]; rfl
  · refine ⟨by simp; omega, fun x hx => ?_⟩
    have := splitBy_mem s x (List.mem_of_mem_drop hx)
    omega
  have hany : ((splitBy 47 s).drop 1).any (fun s => !nameOk s) = !pathOk s := by rw [hd, List.not_all_eq_any_not]
  (conv => whnf); refine ⟨fun h3 => ?_, fun h3 => ?_⟩
  · have h3 : ((splitBy 47 s).drop 1).any (fun s => !nameOk s) = true := h3
    have hf : pathOk s = false := by rw [hany] at h3; simpa using h3
    rw [hf] at hn
    conv => whnf
    exact ⟨trivial, eqNil (by rw [hn]; rfl), eqB hf.symm, trivial⟩
  · have h3 : ((splitBy 47 s).drop 1).any (fun s => !nameOk s) = false := h3
    have hf : pathOk s = true := by rw [hany] at h3; simpa using h3
    rw [hf, if_pos rfl] at hn
    repeat ((conv => whnf); first | refine ⟨fun h => h, ?_⟩ | refine ⟨(by kernel_rfl : drawOk _ _ = true), ?_⟩ | refine ⟨fun (h : gtrue _) => by first | assumption | exact absurd (Eq.trans (Eq.symm h) (by assumption) : true = false) Bool.noConfusion, ?_⟩ | refine ⟨fun h => (absurd (Eq.trans (Eq.symm h) (by assumption) : true = false) Bool.noConfusion : False), ?_⟩ | refine ⟨_, w64 (by (show (_ : Prop)); first | omega | ((try dsimp only at *); (try simp only [lns] at *); omega)), ?_⟩ | refine ⟨fun _ => ⟨by (show (_ : Prop)); first | omega | ((try dsimp only at *); (try simp only [lns] at *); omega), by (show (_ : Prop)); first | omega | ((try dsimp only at *); (try simp only [lns] at *); omega), by (show (_ : Prop)); first | omega | ((try dsimp only at *); (try simp only [lns] at *); omega)⟩, ?_⟩ | refine ⟨by (show (_ : Prop)); first | omega | ((try dsimp only at *); (try simp only [lns] at *); omega), ?_⟩ | refine ⟨fun h => ⟨by (show (_ : Prop)); first | omega | ((try dsimp only at *); (try simp only [lns] at *); omega), by (show (_ : Prop)); first | omega | ((try dsimp only at *); (try simp only [lns] at *); omega)⟩, ?_⟩ | refine ⟨fun (r : List AV) hr c hc => by simp [encS] at hr; (try subst hr); simp at hc; (try subst hc); rfl, ?_⟩ | refine ⟨noOwn (by rfl), ?_⟩)
    refine ⟨trivial, ?_, eqB hf.symm, trivial⟩
    refine eqOwn ?_
    rw [hn]
    simp
    rw [List.take_of_length_le (by simp)]
theorem ok_impl_readPath : ConOk Try.prog 81 c_impl_readPath := meets_ok (tabT _ _) (FOk.cons ok_impl_within (FOk.cons ok_impl_Parts (FOk.cons ok_slices_ContainsFunc_string (FOk.cons ok_impl_readPath_1 FOk.nil)))) mixed Try.func81 rfl Try.call81 (by decide) (by kernel_rfl) m_impl_readPath (by intro _ (y : Str) _; exact ⟨by simp [c_impl_readPath, con, AV.noRd, noRdCells, noRdRows, noRdRows_map', encS], by simp [c_impl_readPath, con, AV.noRd, noRdCells, noRdRows, noRdRows_map', encS]⟩) (by intro (y : Str) _; first | (simp [c_impl_readPath, con, AV.free, freeCells, freeRows, freeRows_map, encS]; done) | (obtain ⟨_, _⟩ := y; simp [c_impl_readPath, con, AV.free, freeCells, freeRows, freeRows_map, encS]; done) | (obtain ⟨_, _, _⟩ := y; simp [c_impl_readPath, con, AV.free, freeCells, freeRows, freeRows_map, encS]; done))
end Go.GH

set_option linter.unusedVariables false
set_option linter.unusedSimpArgs false
namespace Go.GH
open Go Go.Proofs
noncomputable def c_impl_PathOk : PCon := con [mC] true Str encS (fun s => sml s.length) (fun s => .bool (pathOk s))
noncomputable def E_impl_PathOk : Env := ⟨lookup tyTab, lookup [(81, c_impl_readPath)], [0, 2, 4]⟩
set_option maxRecDepth 100000 in
set_option maxHeartbeats 4000000 in
theorem m_impl_PathOk : Meets E_impl_PathOk (codeOf Try.f69) Try.f69.results.toList c_impl_PathOk := by
  intro (s : Str) hs
  refine ⟨trivial, ?_⟩
  conv => whnf
  refine ⟨s, rfl, fun _ => hs, ?_⟩
  conv => whnf
  exact ⟨trivial, rfl⟩
theorem ok_impl_PathOk : ConOk Try.prog 69 c_impl_PathOk := meets_ok (tabT _ _) (FOk.cons ok_impl_readPath FOk.nil) mixed Try.func69 rfl Try.call69 (by decide) (by kernel_rfl) m_impl_PathOk (by intro _ (y : Str) _; exact ⟨by simp [c_impl_PathOk, con, AV.noRd, noRdCells, noRdRows, noRdRows_map', encS], by simp [c_impl_PathOk, con, AV.noRd, noRdCells, noRdRows, noRdRows_map', encS]⟩) (by intro (y : Str) _; first | (simp [c_impl_PathOk, con, AV.free, freeCells, freeRows, freeRows_map, encS]; done) | (obtain ⟨_, _⟩ := y; simp [c_impl_PathOk, con, AV.free, freeCells, freeRows, freeRows_map, encS]; done) | (obtain ⟨_, _, _⟩ := y; simp [c_impl_PathOk, con, AV.free, freeCells, freeRows, freeRows_map, encS]; done))
noncomputable def c_impl_PathOf : PCon := con [mS 1] true (List Str) (fun l => [.rd 1 (l.map encS)]) (fun l => l.length + (l.map List.length).sum < 4194304) (fun l => .str (pathOf l))
noncomputable def E_impl_PathOf : Env := ⟨lookup tyTab, lookup [(97, c_slices_ContainsFunc_string), (100, c_strings_Join), (101, c_impl_PathOf_1)], [0, 2, 3, 13]⟩
set_option maxRecDepth 100000 in
set_option maxHeartbeats 4000000 in
theorem m_impl_PathOf : Meets E_impl_PathOf (codeOf Try.f82) Try.f82.results.toList c_impl_PathOf := by
  intro (l : List Str) hs
  have hs : l.length + (l.map List.length).sum < 4194304 := hs
  have hl := cat1_len l
  have hj := join_cat l
  have hjl : (Lib.join l sl).length + 1 = (cat1 l).length := by rw [← hj]; simp [sl]
  have hsm : smL l := ⟨by omega, fun s hs => by
    have : s.length ≤ (l.map List.length).sum := le_sum hs
    omega⟩
  refine ⟨trivial, ?_⟩
  conv => whnf
  refine ⟨(l, sl), rfl, fun _ => ⟨by show (Lib.join l sl).length ≤ _; omega, by show l.length ≤ _; omega⟩, ?_⟩
  conv => whnf
  refine ⟨by show 1 + (Lib.join l sl).length ≤ _; omega, ?_⟩
  repeat ((conv => whnf); first | refine ⟨fun h => h, ?_⟩ | refine ⟨(by kernel_rfl : drawOk _ _ = true), ?_⟩ | refine ⟨fun (h : gtrue _) => by first | assumption | exact absurd (Eq.trans (Eq.symm h) (by assumption) : true = false) Bool.noConfusion, ?_⟩ | refine ⟨fun h => (absurd (Eq.trans (Eq.symm h) (by assumption) : true = false) Bool.noConfusion : False), ?_⟩ | refine ⟨_, w64 (by (show (_ : Prop)); first | omega | ((try dsimp only at *); (try simp only [lns] at *); omega)), ?_⟩ | refine ⟨fun _ => ⟨by (show (_ : Prop)); first | omega | ((try dsimp only at *); (try simp only [lns] at *); omega), by (show (_ : Prop)); first | omega | ((try dsimp only at *); (try simp only [lns] at *); omega), by (show (_ : Prop)); first | omega | ((try dsimp only at *); (try simp only [lns] at *); omega)⟩, ?_⟩ | refine ⟨by (show (_ : Prop)); first | omega | ((try dsimp only at *); (try simp only [lns] at *); omega), ?_⟩ | refine ⟨fun h => ⟨by (show (_ : Prop)); first | omega | ((try dsimp only at *); (try simp only [lns] at *); omega), by (show (_ : Prop)); first | omega | ((try dsimp only at *); (try simp only [lns] at *); omega)⟩, ?_⟩ | refine ⟨fun (r : List AV) hr c hc => by simp [encS] at hr; (try subst hr); simp at hc; (try subst hc); rfl, ?_⟩ | refine ⟨noOwn (by rfl), ?_⟩)
  refine ⟨(l, false), rfl, fun _ => hsm, ?_⟩
  repeat ((conv => whnf); first | refine ⟨fun h => h, ?_⟩ | refine ⟨(by kernel_rfl : drawOk _ _ = true), ?_⟩ | refine ⟨fun (h : gtrue _) => by first | assumption | exact absurd (Eq.trans (Eq.symm h) (by assumption) : true = false) Bool.noConfusion, ?_⟩ | refine ⟨fun h => (absurd (Eq.trans (Eq.symm h) (by assumption) : true = false) Bool.noConfusion : False), ?_⟩ | refine ⟨_, w64 (by (show (_ : Prop)); first | omega | ((try dsimp only at *); (try simp only [lns] at *); omega)), ?_⟩ | refine ⟨fun _ => ⟨by (show (_ : Prop)); first | omega | ((try dsimp only at *); (try simp only [lns] at *); omega), by (show (_ : Prop)); first | omega | ((try dsimp only at *); (try simp only [lns] at *); omega), by (show (_ : Prop)); first | omega | ((try dsimp only at *); (try simp only [lns] at *); omega)⟩, ?_⟩ | refine ⟨by (show (_ : Prop)); first | omega | ((try dsimp only at *); (try simp only [lns] at *); omega), ?_⟩ | refine ⟨fun h => ⟨by (show (_ : Prop)); first | omega | ((try dsimp only at *); (try simp only [lns] at *); omega), by (show (_ : Prop)); first | omega | ((try dsimp only at *); (try simp only [lns] at *); omega)⟩, ?_⟩ | refine ⟨fun (r : List AV) hr c hc => by simp [encS] at hr; (try subst hr); simp at hc; (try subst hc); rfl, ?_⟩ | refine ⟨noOwn (by rfl), ?_⟩)
  have e : (decide (l.length ≤ 4) && l.all nameOk) = !(decide (((l.map encS).length : Int) > 4) || l.any fun s => !nameOk s) := by
    rw [List.all_eq_not_any_not, Bool.not_or]
    congr 1
    rw [Bool.eq_iff_iff]
    simp
    omega
  (conv => whnf); refine ⟨fun h1 => ?_, fun h1 => ?_⟩
  · conv => whnf
    exact ⟨trivial, eqS (by
      rw [pathOf, e, show (_ || _) = true from h1]; rfl)⟩
  · conv => whnf
    exact ⟨trivial, eqS (by
      rw [pathOf, e, show (_ || _) = false from h1]; exact hj)⟩
theorem ok_impl_PathOf : ConOk Try.prog 82 c_impl_PathOf := meets_ok (tabT _ _) (FOk.cons ok_slices_ContainsFunc_string (FOk.cons ok_strings_Join (FOk.cons ok_impl_PathOf_1 FOk.nil))) mixed Try.func82 rfl Try.call82 (by decide) (by kernel_rfl) m_impl_PathOf (by intro _ (y : (List Str)) _; exact ⟨by simp [c_impl_PathOf, con, AV.noRd, noRdCells, noRdRows, noRdRows_map', encS], by simp [c_impl_PathOf, con, AV.noRd, noRdCells, noRdRows, noRdRows_map', encS]⟩) (by intro (y : (List Str)) _; first | (simp [c_impl_PathOf, con, AV.free, freeCells, freeRows, freeRows_map, encS]; done) | (obtain ⟨_, _⟩ := y; simp [c_impl_PathOf, con, AV.free, freeCells, freeRows, freeRows_map, encS]; done) | (obtain ⟨_, _, _⟩ := y; simp [c_impl_PathOf, con, AV.free, freeCells, freeRows, freeRows_map, encS]; done))
noncomputable def c_impl_Above : PCon := con [mC] true Str encS (fun l => sml l.length) (fun l => .str (above l))
noncomputable def E_impl_Above : Env := ⟨lookup tyTab, lookup [(81, c_impl_readPath), (82, c_impl_PathOf)], [0, 2, 3, 4, 11]⟩
set_option maxRecDepth 100000 in
set_option maxHeartbeats 4000000 in
theorem m_impl_Above : Meets E_impl_Above (codeOf Try.f65) Try.f65.results.toList c_impl_Above := by
  intro (s : Str) hs
  have hs : s.length ≤ 4194304 := hs
  refine ⟨trivial, ?_⟩
  conv => whnf
  refine ⟨s, rfl, fun _ => hs, ?_⟩
  (conv => whnf); refine ⟨fun h1 => ?_, fun h1 => ?_⟩
  · have h1 : pathOk s = false := by
      have h1 : (!pathOk s) = true := h1
      simpa using h1
    conv => whnf
    exact ⟨trivial, eqS (by simp [above, h1])⟩
  have h1 : pathOk s = true := by
    have h1 : (!pathOk s) = false := h1
    simpa using h1
  have hd : above s = pathOf ((names s).take ((names s).length - 1)) := by simp [above, h1]
  have hnl := names_len (p := s)
  have hns := names_sum (p := s)
  repeat ((conv => whnf); first | refine ⟨fun h => h, ?_⟩ | refine ⟨(by kernel_rfl : drawOk _ _ = true), ?_⟩ | refine ⟨fun (h : gtrue _) => by first | assumption | exact absurd (Eq.trans (Eq.symm h) (by assumption) : true = false) Bool.noConfusion, ?_⟩ | refine ⟨fun h => (absurd (Eq.trans (Eq.symm h) (by assumption) : true = false) Bool.noConfusion : False), ?_⟩ | refine ⟨_, w64 (by (show (_ : Prop)); first | omega | ((try dsimp only at *); (try simp only [lns] at *); omega)), ?_⟩ | refine ⟨fun _ => ⟨by (show (_ : Prop)); first | omega | ((try dsimp only at *); (try simp only [lns] at *); omega), by (show (_ : Prop)); first | omega | ((try dsimp only at *); (try simp only [lns] at *); omega), by (show (_ : Prop)); first | omega | ((try dsimp only at *); (try simp only [lns] at *); omega)⟩, ?_⟩ | refine ⟨by (show (_ : Prop)); first | omega | ((try dsimp only at *); (try simp only [lns] at *); omega), ?_⟩ | refine ⟨fun h => ⟨by (show (_ : Prop)); first | omega | ((try dsimp only at *); (try simp only [lns] at *); omega), by (show (_ : Prop)); first | omega | ((try dsimp only at *); (try simp only [lns] at *); omega)⟩, ?_⟩ | refine ⟨fun (r : List AV) hr c hc => by simp [encS] at hr; (try subst hr); simp at hc; (try subst hc); rfl, ?_⟩ | refine ⟨noOwn (by rfl), ?_⟩)
  conv => whnf
  refine ⟨(((names s).length - 1 : Nat) : Int), by simp only [List.length_map]; split <;> omega, ?_⟩
  repeat ((conv => whnf); first | refine ⟨fun h => h, ?_⟩ | refine ⟨(by kernel_rfl : drawOk _ _ = true), ?_⟩ | refine ⟨fun (h : gtrue _) => by first | assumption | exact absurd (Eq.trans (Eq.symm h) (by assumption) : true = false) Bool.noConfusion, ?_⟩ | refine ⟨fun h => (absurd (Eq.trans (Eq.symm h) (by assumption) : true = false) Bool.noConfusion : False), ?_⟩ | refine ⟨_, w64 (by (show (_ : Prop)); first | omega | ((try dsimp only at *); (try simp only [lns] at *); omega)), ?_⟩ | refine ⟨fun _ => ⟨by (show (_ : Prop)); first | omega | ((try dsimp only at *); (try simp only [lns] at *); omega), by (show (_ : Prop)); first | omega | ((try dsimp only at *); (try simp only [lns] at *); omega), by (show (_ : Prop)); first | omega | ((try dsimp only at *); (try simp only [lns] at *); omega)⟩, ?_⟩ | refine ⟨by (show (_ : Prop)); first | omega | ((try dsimp only at *); (try simp only [lns] at *); omega), ?_⟩ | refine ⟨fun h => ⟨by (show (_ : Prop)); first | omega | ((try dsimp only at *); (try simp only [lns] at *); omega), by (show (_ : Prop)); first | omega | ((try dsimp only at *); (try simp only [lns] at *); omega)⟩, ?_⟩ | refine ⟨fun (r : List AV) hr c hc => by simp [encS] at hr; (try subst hr); simp at hc; (try subst hc); rfl, ?_⟩ | refine ⟨noOwn (by rfl), ?_⟩)
  refine ⟨(names s).take ((names s).length - 1), by
    refine congrArg (fun x => [AV.rd 1 x]) ?_
    rw [cutS]
    simp only [Int.toNat_natCast, List.drop_zero, List.length_map]
    rfl, fun _ => ?_, ?_⟩
  · have := sum_take (names s) ((names s).length - 1)
    show _ < _
    rw [List.length_take]
    omega
  conv => whnf
  exact ⟨trivial, eqS hd.symm⟩
theorem ok_impl_Above : ConOk Try.prog 65 c_impl_Above := meets_ok (tabT _ _) (FOk.cons ok_impl_readPath (FOk.cons ok_impl_PathOf FOk.nil)) mixed Try.func65 rfl Try.call65 (by decide) (by kernel_rfl) m_impl_Above (by intro _ (y : Str) _; exact ⟨by simp [c_impl_Above, con, AV.noRd, noRdCells, noRdRows, noRdRows_map', encS], by simp [c_impl_Above, con, AV.noRd, noRdCells, noRdRows, noRdRows_map', encS]⟩) (by intro (y : Str) _; first | (simp [c_impl_Above, con, AV.free, freeCells, freeRows, freeRows_map, encS]; done) | (obtain ⟨_, _⟩ := y; simp [c_impl_Above, con, AV.free, freeCells, freeRows, freeRows_map, encS]; done) | (obtain ⟨_, _, _⟩ := y; simp [c_impl_Above, con, AV.free, freeCells, freeRows, freeRows_map, encS]; done))
noncomputable def c_impl_isKind : PCon := con [mC] true Int (fun x => [.int .i64 x]) (fun _ => True) (fun x => .bool (inB x 1 3))
noncomputable def E_impl_isKind : Env := ⟨lookup tyTab, lookup [(33, c_impl_within)], [0, 2]⟩
set_option maxRecDepth 100000 in
set_option maxHeartbeats 4000000 in
theorem m_impl_isKind : Meets E_impl_isKind (codeOf Try.f80) Try.f80.results.toList c_impl_isKind := by
  intro (x : Int) hs
  refine ⟨trivial, ?_⟩
  conv => whnf
  refine ⟨(x, 1, 3), rfl, fun _ => trivial, ?_⟩
  conv => whnf
  exact ⟨trivial, rfl⟩
theorem ok_impl_isKind : ConOk Try.prog 80 c_impl_isKind := meets_ok (tabT _ _) (FOk.cons ok_impl_within FOk.nil) mixed Try.func80 rfl Try.call80 (by decide) (by kernel_rfl) m_impl_isKind (by intro _ (y : Int) _; exact ⟨by simp [c_impl_isKind, con, AV.noRd, noRdCells, noRdRows, noRdRows_map', encS], by simp [c_impl_isKind, con, AV.noRd, noRdCells, noRdRows, noRdRows_map', encS]⟩) (by intro (y : Int) _; first | (simp [c_impl_isKind, con, AV.free, freeCells, freeRows, freeRows_map, encS]; done) | (obtain ⟨_, _⟩ := y; simp [c_impl_isKind, con, AV.free, freeCells, freeRows, freeRows_map, encS]; done) | (obtain ⟨_, _, _⟩ := y; simp [c_impl_isKind, con, AV.free, freeCells, freeRows, freeRows_map, encS]; done))
noncomputable def c_impl_itemOk : PCon := con [.rd [none, none, none, none]] true It (fun x => [.agg (encI x)]) (fun x => x.path.length ≤ 4194304 ∧ x.data.length ≤ 4194304) (fun x => .bool (itemOk x))
noncomputable def E_impl_itemOk : Env := ⟨lookup tyTab, lookup [(33, c_impl_within), (69, c_impl_PathOk), (80, c_impl_isKind)], [0, 1, 2, 17, 20]⟩
set_option maxRecDepth 100000 in
set_option maxHeartbeats 4000000 in
theorem m_impl_itemOk : Meets E_impl_itemOk (codeOf Try.f64) Try.f64.results.toList c_impl_itemOk := by
  intro (x : It) hs
  obtain ⟨hs1, hs2⟩ : x.path.length ≤ 4194304 ∧ x.data.length ≤ 4194304 := hs
  refine ⟨trivial, ?_⟩
  conv => whnf
  refine ⟨x.path, rfl, fun _ => hs1, ?_⟩
  repeat ((conv => whnf); first | refine ⟨fun h => h, ?_⟩ | refine ⟨(by kernel_rfl : drawOk _ _ = true), ?_⟩ | refine ⟨fun (h : gtrue _) => by first | assumption | exact absurd (Eq.trans (Eq.symm h) (by assumption) : true = false) Bool.noConfusion, ?_⟩ | refine ⟨fun h => (absurd (Eq.trans (Eq.symm h) (by assumption) : true = false) Bool.noConfusion : False), ?_⟩ | refine ⟨_, w64 (by (show (_ : Prop)); first | omega | ((try dsimp only at *); (try simp only [lns] at *); omega)), ?_⟩ | refine ⟨fun _ => ⟨by (show (_ : Prop)); first | omega | ((try dsimp only at *); (try simp only [lns] at *); omega), by (show (_ : Prop)); first | omega | ((try dsimp only at *); (try simp only [lns] at *); omega), by (show (_ : Prop)); first | omega | ((try dsimp only at *); (try simp only [lns] at *); omega)⟩, ?_⟩ | refine ⟨by (show (_ : Prop)); first | omega | ((try dsimp only at *); (try simp only [lns] at *); omega), ?_⟩ | refine ⟨fun h => ⟨by (show (_ : Prop)); first | omega | ((try dsimp only at *); (try simp only [lns] at *); omega), by (show (_ : Prop)); first | omega | ((try dsimp only at *); (try simp only [lns] at *); omega)⟩, ?_⟩ | refine ⟨fun (r : List AV) hr c hc => by simp [encS] at hr; (try subst hr); simp at hc; (try subst hc); rfl, ?_⟩ | refine ⟨noOwn (by rfl), ?_⟩ | refine ⟨x.kind, rfl, fun _ => trivial, ?_⟩)
  (conv => whnf); refine ⟨fun h1 => ?_, fun h1 => ?_⟩
  · conv => whnf
    exact ⟨trivial, eqB (by
      have h1 : (!pathOk x.path || x.path == sl || !inB x.kind 1 3) = true := h1
      unfold itemOk
      revert h1
      cases pathOk x.path <;> cases (x.path == sl) <;> cases inB x.kind 1 3 <;> simp)⟩
  have h1 : (pathOk x.path && !(x.path == sl) && inB x.kind 1 3) = true := by
    have h1 : (!pathOk x.path || x.path == sl || !inB x.kind 1 3) = false := h1
    revert h1
    cases pathOk x.path <;> cases (x.path == sl) <;> cases inB x.kind 1 3 <;> simp
  (conv => whnf); refine ⟨fun h2 => ?_, fun h2 => ?_⟩
  · repeat ((conv => whnf); first | refine ⟨fun h => h, ?_⟩ | refine ⟨(by kernel_rfl : drawOk _ _ = true), ?_⟩ | refine ⟨fun (h : gtrue _) => by first | assumption | exact absurd (Eq.trans (Eq.symm h) (by assumption) : true = false) Bool.noConfusion, ?_⟩ | refine ⟨fun h => (absurd (Eq.trans (Eq.symm h) (by assumption) : true = false) Bool.noConfusion : False), ?_⟩ | refine ⟨_, w64 (by (show (_ : Prop)); first | omega | ((try dsimp only at *); (try simp only [lns] at *); omega)), ?_⟩ | refine ⟨fun _ => ⟨by (show (_ : Prop)); first | omega | ((try dsimp only at *); (try simp only [lns] at *); omega), by (show (_ : Prop)); first | omega | ((try dsimp only at *); (try simp only [lns] at *); omega), by (show (_ : Prop)); first | omega | ((try dsimp only at *); (try simp only [lns] at *); omega)⟩, ?_⟩ | refine ⟨by (show (_ : Prop)); first | omega | ((try dsimp only at *); (try simp only [lns] at *); omega), ?_⟩ | refine ⟨fun h => ⟨by (show (_ : Prop)); first | omega | ((try dsimp only at *); (try simp only [lns] at *); omega), by (show (_ : Prop)); first | omega | ((try dsimp only at *); (try simp only [lns] at *); omega)⟩, ?_⟩ | refine ⟨fun (r : List AV) hr c hc => by simp [encS] at hr; (try subst hr); simp at hc; (try subst hc); rfl, ?_⟩ | refine ⟨noOwn (by rfl), ?_⟩)
    have h2 : (x.kind == 2) = true := h2
    exact ⟨trivial, eqB (by unfold itemOk; rw [h1, if_pos h2]; rfl)⟩
  · repeat ((conv => whnf); first | refine ⟨fun h => h, ?_⟩ | refine ⟨(by kernel_rfl : drawOk _ _ = true), ?_⟩ | refine ⟨fun (h : gtrue _) => by first | assumption | exact absurd (Eq.trans (Eq.symm h) (by assumption) : true = false) Bool.noConfusion, ?_⟩ | refine ⟨fun h => (absurd (Eq.trans (Eq.symm h) (by assumption) : true = false) Bool.noConfusion : False), ?_⟩ | refine ⟨_, w64 (by (show (_ : Prop)); first | omega | ((try dsimp only at *); (try simp only [lns] at *); omega)), ?_⟩ | refine ⟨fun _ => ⟨by (show (_ : Prop)); first | omega | ((try dsimp only at *); (try simp only [lns] at *); omega), by (show (_ : Prop)); first | omega | ((try dsimp only at *); (try simp only [lns] at *); omega), by (show (_ : Prop)); first | omega | ((try dsimp only at *); (try simp only [lns] at *); omega)⟩, ?_⟩ | refine ⟨by (show (_ : Prop)); first | omega | ((try dsimp only at *); (try simp only [lns] at *); omega), ?_⟩ | refine ⟨fun h => ⟨by (show (_ : Prop)); first | omega | ((try dsimp only at *); (try simp only [lns] at *); omega), by (show (_ : Prop)); first | omega | ((try dsimp only at *); (try simp only [lns] at *); omega)⟩, ?_⟩ | refine ⟨fun (r : List AV) hr c hc => by simp [encS] at hr; (try subst hr); simp at hc; (try subst hc); rfl, ?_⟩ | refine ⟨noOwn (by rfl), ?_⟩ | refine ⟨(_, _, _), rfl, fun _ => trivial, ?_⟩)
    have h2 : (x.kind == 2) = false := h2
    exact ⟨trivial, eqB (by unfold itemOk; rw [h1, if_neg (by rw [h2]; exact Bool.false_ne_true)]; rfl)⟩
theorem ok_impl_itemOk : ConOk Try.prog 64 c_impl_itemOk := meets_ok (tabT _ _) (FOk.cons ok_impl_within (FOk.cons ok_impl_PathOk (FOk.cons ok_impl_isKind FOk.nil))) mixed Try.func64 rfl Try.call64 (by decide) (by kernel_rfl) m_impl_itemOk (by intro _ (y : It) _; exact ⟨by simp [c_impl_itemOk, con, AV.noRd, noRdCells, noRdRows, noRdRows_map', encS], by simp [c_impl_itemOk, con, AV.noRd, noRdCells, noRdRows, noRdRows_map', encS]⟩) (by intro (y : It) _; first | (simp [c_impl_itemOk, con, AV.free, freeCells, freeRows, freeRows_map, encS, encI]; done) | (obtain ⟨_, _⟩ := y; simp [c_impl_itemOk, con, AV.free, freeCells, freeRows, freeRows_map, encS, encI]; done) | (obtain ⟨_, _, _⟩ := y; simp [c_impl_itemOk, con, AV.free, freeCells, freeRows, freeRows_map, encS, encI]; done))
noncomputable def c_impl_itemAt_1 : PCon := con [.rd [none, none, none, none], .rd []] true (It × Str) (fun x => [.agg (encI x.1), .pin [.str x.2]]) (fun _ => True) (fun x => .bool (x.1.path == x.2))
noncomputable def E_impl_itemAt_1 : Env := ⟨lookup tyTab, lookup [], [0, 1, 2, 3]⟩
set_option maxRecDepth 100000 in
set_option maxHeartbeats 4000000 in
theorem m_impl_itemAt_1 : Meets E_impl_itemAt_1 (codeOf Try.f72) Try.f72.results.toList c_impl_itemAt_1 := by
  rintro ⟨x, p⟩ hs
  refine ⟨trivial, ?_⟩
  conv => whnf
  exact ⟨trivial, rfl⟩
theorem ok_impl_itemAt_1 : ConOk Try.prog 72 c_impl_itemAt_1 := meets_ok (tabT _ _) FOk.nil mixed Try.func72 rfl Try.call72 (by decide) (by kernel_rfl) m_impl_itemAt_1 (by intro _ (y : (It × Str)) _; exact ⟨by simp [c_impl_itemAt_1, con, AV.noRd, noRdCells, noRdRows, noRdRows_map', encS], by simp [c_impl_itemAt_1, con, AV.noRd, noRdCells, noRdRows, noRdRows_map', encS]⟩) (by intro (y : (It × Str)) _; first | (simp [c_impl_itemAt_1, con, AV.free, freeCells, freeRows, freeRows_map, encS, encI]; done) | (obtain ⟨_, _⟩ := y; simp [c_impl_itemAt_1, con, AV.free, freeCells, freeRows, freeRows_map, encS, encI]; done) | (obtain ⟨_, _, _⟩ := y; simp [c_impl_itemAt_1, con, AV.free, freeCells, freeRows, freeRows_map, encS, encI]; done))
noncomputable def c_slices_IndexFunc_Item : PCon := con [mS 4, mC] true (Tr × Str) (fun x => [.rd 4 (x.1.map encI), .fn 72 [.pin [.str x.2]]]) (fun x => x.1.length ≤ 4194304) (fun x => .int .i64 (fnd (fun y => y.path == x.2) x.1))
noncomputable def E_slices_IndexFunc_Item : Env := ⟨lookup tyTab, lookup [(72, c_impl_itemAt_1)], [0, 1, 4, 5, 7, 8, 9, 16]⟩
set_option maxRecDepth 100000 in
set_option maxHeartbeats 4000000 in
theorem m_slices_IndexFunc_Item : Meets E_slices_IndexFunc_Item (codeOf Try.f71) Try.f71.results.toList c_slices_IndexFunc_Item := by
  rintro ⟨l, p⟩ hs
  have hs1 : l.length ≤ 4194304 := hs
  refine ⟨trivial, ?_⟩
  conv => whnf
  refine loop_rule (fun i : Nat => ⟨[(0, ⟨none, .rd 4 (l.map encI)⟩), (1, ⟨none, .fn 72 [.pin [.str p]]⟩), (7, ⟨none, .int .i64 l.length⟩), (8, ⟨none, .int .i64 i⟩)], [], 0⟩)
    (fun i => i ≤ l.length ∧ (l.take i).any (fun y => y.path == p) = false) (fun i => l.length - i) 0 ?_ ⟨by omega, rfl⟩ ?_
  · (refine ⟨?_, ?_, rfl⟩ <;> repeat' (first | exact rfl | exact trivial | refine ⟨?_, ?_⟩ | fail) <;> (conv => whnf))
    all_goals simp
  rintro i ⟨hi, hI⟩
  (conv => whnf); refine ⟨fun h1 => ?_, fun h1 => ?_⟩
  · have h1 : i < l.length := by simpa using h1
    obtain ⟨b, hb⟩ := get_lt h1
    repeat ((conv => whnf); first | refine ⟨fun h => h, ?_⟩ | refine ⟨(by kernel_rfl : drawOk _ _ = true), ?_⟩ | refine ⟨fun (h : gtrue _) => by first | assumption | exact absurd (Eq.trans (Eq.symm h) (by assumption) : true = false) Bool.noConfusion, ?_⟩ | refine ⟨fun h => (absurd (Eq.trans (Eq.symm h) (by assumption) : true = false) Bool.noConfusion : False), ?_⟩ | refine ⟨_, w64 (by (show (_ : Prop)); first | omega | ((try dsimp only at *); (try simp only [lns] at *); omega)), ?_⟩ | refine ⟨fun _ => ⟨by (show (_ : Prop)); first | omega | ((try dsimp only at *); (try simp only [lns] at *); omega), by (show (_ : Prop)); first | omega | ((try dsimp only at *); (try simp only [lns] at *); omega), by (show (_ : Prop)); first | omega | ((try dsimp only at *); (try simp only [lns] at *); omega)⟩, ?_⟩ | refine ⟨by (show (_ : Prop)); first | omega | ((try dsimp only at *); (try simp only [lns] at *); omega), ?_⟩ | refine ⟨fun h => ⟨by (show (_ : Prop)); first | omega | ((try dsimp only at *); (try simp only [lns] at *); omega), by (show (_ : Prop)); first | omega | ((try dsimp only at *); (try simp only [lns] at *); omega)⟩, ?_⟩ | refine ⟨fun (r : List AV) hr c hc => by simp [encS] at hr; (try subst hr); simp at hc; (try subst hc); rfl, ?_⟩ | refine ⟨noOwn (by rfl), ?_⟩ | refine ⟨encI b, fun _ => ⟨by omega, by simp [hb]⟩, ?_⟩)
    refine ⟨(b, p), rfl, fun _ => trivial, ?_⟩
    (conv => whnf); refine ⟨fun h2 => ?_, fun h2 => ?_⟩
    · have h2 : (b.path == p) = true := h2
      conv => whnf
      exact ⟨trivial, eqN' (fnd_hit hI hb h2).symm⟩
    · have h2 : (b.path == p) = false := h2
      repeat ((conv => whnf); first | refine ⟨fun h => h, ?_⟩ | refine ⟨(by kernel_rfl : drawOk _ _ = true), ?_⟩ | refine ⟨fun (h : gtrue _) => by first | assumption | exact absurd (Eq.trans (Eq.symm h) (by assumption) : true = false) Bool.noConfusion, ?_⟩ | refine ⟨fun h => (absurd (Eq.trans (Eq.symm h) (by assumption) : true = false) Bool.noConfusion : False), ?_⟩ | refine ⟨_, w64 (by (show (_ : Prop)); first | omega | ((try dsimp only at *); (try simp only [lns] at *); omega)), ?_⟩ | refine ⟨fun _ => ⟨by (show (_ : Prop)); first | omega | ((try dsimp only at *); (try simp only [lns] at *); omega), by (show (_ : Prop)); first | omega | ((try dsimp only at *); (try simp only [lns] at *); omega), by (show (_ : Prop)); first | omega | ((try dsimp only at *); (try simp only [lns] at *); omega)⟩, ?_⟩ | refine ⟨by (show (_ : Prop)); first | omega | ((try dsimp only at *); (try simp only [lns] at *); omega), ?_⟩ | refine ⟨fun h => ⟨by (show (_ : Prop)); first | omega | ((try dsimp only at *); (try simp only [lns] at *); omega), by (show (_ : Prop)); first | omega | ((try dsimp only at *); (try simp only [lns] at *); omega)⟩, ?_⟩ | refine ⟨fun (r : List AV) hr c hc => by simp [encS] at hr; (try subst hr); simp at hc; (try subst hc); rfl, ?_⟩ | refine ⟨noOwn (by rfl), ?_⟩)
      refine again (i + 1) ?_ ⟨h1, any_take_succ hI hb h2⟩ (by first | omega | (simp; done) | (simp; omega))
      (refine ⟨?_, ?_, rfl⟩ <;> repeat' (first | exact rfl | exact trivial | refine ⟨?_, ?_⟩ | fail) <;> (conv => whnf))
  · have h1 : i = l.length := by
      have : ¬ i < l.length := by simpa using h1
      omega
    subst h1
    rw [List.take_length] at hI
    conv => whnf
    exact ⟨trivial, eqN' (fnd_none hI).symm⟩
theorem ok_slices_IndexFunc_Item : ConOk Try.prog 71 c_slices_IndexFunc_Item := meets_ok (tabT _ _) (FOk.cons ok_impl_itemAt_1 FOk.nil) mixed Try.func71 rfl Try.call71 (by decide) (by kernel_rfl) m_slices_IndexFunc_Item (by intro _ (y : (Tr × Str)) _; exact ⟨by simp [c_slices_IndexFunc_Item, con, AV.noRd, noRdCells, noRdRows, noRdRows_map', encS], by simp [c_slices_IndexFunc_Item, con, AV.noRd, noRdCells, noRdRows, noRdRows_map', encS]⟩) (by intro (y : (Tr × Str)) _; first | (simp [c_slices_IndexFunc_Item, con, AV.free, freeCells, freeRows, freeRows_map, encS, encI]; done) | (obtain ⟨_, _⟩ := y; simp [c_slices_IndexFunc_Item, con, AV.free, freeCells, freeRows, freeRows_map, encS, encI]; done) | (obtain ⟨_, _, _⟩ := y; simp [c_slices_IndexFunc_Item, con, AV.free, freeCells, freeRows, freeRows_map, encS, encI]; done))
noncomputable def c_impl_itemAt : PCon := con [mS 4, mC] true (Tr × Str) (fun x => [rdT x.1, .str x.2]) (fun x => x.1.length ≤ 4194304) (fun x => .int .i64 (fnd (fun y => y.path == x.2) x.1))
noncomputable def E_impl_itemAt : Env := ⟨lookup tyTab, lookup [(71, c_slices_IndexFunc_Item)], [0, 1, 2, 3, 4]⟩
set_option maxRecDepth 100000 in
set_option maxHeartbeats 4000000 in
theorem m_impl_itemAt : Meets E_impl_itemAt (codeOf Try.f48) Try.f48.results.toList c_impl_itemAt := by
  rintro ⟨l, p⟩ hs
  refine ⟨trivial, ?_⟩
  conv => whnf
  refine ⟨(l, p), rfl, fun _ => hs, ?_⟩
  conv => whnf
  exact ⟨trivial, rfl⟩
theorem ok_impl_itemAt : ConOk Try.prog 48 c_impl_itemAt := meets_ok (tabT _ _) (FOk.cons ok_slices_IndexFunc_Item FOk.nil) mixed Try.func48 rfl Try.call48 (by decide) (by kernel_rfl) m_impl_itemAt (by intro _ (y : (Tr × Str)) _; exact ⟨by simp [c_impl_itemAt, con, AV.noRd, noRdCells, noRdRows, noRdRows_map', encS], by simp [c_impl_itemAt, con, AV.noRd, noRdCells, noRdRows, noRdRows_map', encS]⟩) (by intro (y : (Tr × Str)) _; first | (simp [c_impl_itemAt, con, AV.free, freeCells, freeRows, freeRows_map, encS, rdT, encI]; done) | (obtain ⟨_, _⟩ := y; simp [c_impl_itemAt, con, AV.free, freeCells, freeRows, freeRows_map, encS, rdT, encI]; done) | (obtain ⟨_, _, _⟩ := y; simp [c_impl_itemAt, con, AV.free, freeCells, freeRows, freeRows_map, encS, rdT, encI]; done))
noncomputable def c_impl_TreeGet : PCon := con [mS 4, mC] true (Tr × Str) (fun x => [rdT x.1, .str x.2]) (fun x => smT x.1) (fun x => resGet (treeGet x.1 x.2))
noncomputable def E_impl_TreeGet : Env := ⟨lookup tyTab, lookup [(48, c_impl_itemAt)], [0, 1, 2, 4, 5, 6, 8, 14]⟩
set_option maxRecDepth 100000 in
set_option maxHeartbeats 4000000 in
theorem m_impl_TreeGet : Meets E_impl_TreeGet (codeOf Try.f43) Try.f43.results.toList c_impl_TreeGet := by
  rintro ⟨t, p⟩ hs
  obtain ⟨hs1, hs2⟩ : smT t := hs
  refine ⟨trivial, ?_⟩
  (conv => whnf); refine ⟨fun h1 => ?_, fun h1 => ?_⟩
  · have h1 : (p == sl) = true := h1
    conv => whnf
    rw [show c_impl_TreeGet.res (t, p) = .tup [.agg (encI It.top), .bool true] by show resGet (treeGet t p) = _; simp [treeGet, h1]; rfl]
    exact ⟨trivial, ⟨rfl, rfl, rfl, rfl, trivial⟩, rfl, trivial⟩
  have h1 : (p == sl) = false := h1
  have hd : treeGet t p = t.find? (fun y => y.path == p) := by simp [treeGet, h1]
  conv => whnf
  refine ⟨(t, p), rfl, fun _ => hs1, ?_⟩
  (conv => whnf); refine ⟨fun h2 => ?_, fun h2 => ?_⟩
  · have h2 : t.any (fun y => y.path == p) = false := by
      rw [← fnd_pos]; simpa using h2
    conv => whnf
    rw [show c_impl_TreeGet.res (t, p) = .tup [.agg (encI It.none), .bool false] by show resGet (treeGet t p) = _; rw [hd, any_find h2]; rfl]
    exact ⟨trivial, ⟨rfl, rfl, rfl, rfl, trivial⟩, rfl, trivial⟩
  · have h2 : t.any (fun y => y.path == p) = true := by
      rw [← fnd_pos]; simpa using h2
    obtain ⟨b, hb1, hb2⟩ := fnd_get h2
    have hg := fnd_ge (p := fun y : It => y.path == p) (l := t)
    have hp0 : 0 ≤ fnd (fun y : It => y.path == p) t := by have := fnd_pos (p := fun y : It => y.path == p) (l := t); rw [h2] at this; simpa using this
    repeat ((conv => whnf); first | refine ⟨fun h => h, ?_⟩ | refine ⟨(by kernel_rfl : drawOk _ _ = true), ?_⟩ | refine ⟨fun (h : gtrue _) => by first | assumption | exact absurd (Eq.trans (Eq.symm h) (by assumption) : true = false) Bool.noConfusion, ?_⟩ | refine ⟨fun h => (absurd (Eq.trans (Eq.symm h) (by assumption) : true = false) Bool.noConfusion : False), ?_⟩ | refine ⟨_, w64 (by (show (_ : Prop)); first | omega | ((try dsimp only at *); (try simp only [lns] at *); omega)), ?_⟩ | refine ⟨fun _ => ⟨by (show (_ : Prop)); first | omega | ((try dsimp only at *); (try simp only [lns] at *); omega), by (show (_ : Prop)); first | omega | ((try dsimp only at *); (try simp only [lns] at *); omega), by (show (_ : Prop)); first | omega | ((try dsimp only at *); (try simp only [lns] at *); omega)⟩, ?_⟩ | refine ⟨by (show (_ : Prop)); first | omega | ((try dsimp only at *); (try simp only [lns] at *); omega), ?_⟩ | refine ⟨fun h => ⟨by (show (_ : Prop)); first | omega | ((try dsimp only at *); (try simp only [lns] at *); omega), by (show (_ : Prop)); first | omega | ((try dsimp only at *); (try simp only [lns] at *); omega)⟩, ?_⟩ | refine ⟨fun (r : List AV) hr c hc => by simp [encS] at hr; (try subst hr); simp at hc; (try subst hc); rfl, ?_⟩ | refine ⟨noOwn (by rfl), ?_⟩ | refine ⟨encI b, fun _ => ⟨hp0, get_map hb1⟩, ?_⟩)
    rw [show c_impl_TreeGet.res (t, p) = .tup [.agg (encI b), .bool true] by show resGet (treeGet t p) = _; rw [hd, hb2]; rfl]
    exact ⟨trivial, ⟨rfl, rfl, rfl, rfl, trivial⟩, rfl, trivial⟩
theorem ok_impl_TreeGet : ConOk Try.prog 43 c_impl_TreeGet := meets_ok (tabT _ _) (FOk.cons ok_impl_itemAt FOk.nil) mixed Try.func43 rfl Try.call43 (by decide) (by kernel_rfl) m_impl_TreeGet (by intro _ (y : Tr × Str) _; refine ⟨?_, trivial⟩; show AV.noRd (resGet (treeGet y.1 y.2)); simp [resGet, AV.noRd, noRdCells, encI]) (by intro (y : (Tr × Str)) _; first | (simp [c_impl_TreeGet, con, AV.free, freeCells, freeRows, freeRows_map, encS, rdT, encI]; done) | (obtain ⟨_, _⟩ := y; simp [c_impl_TreeGet, con, AV.free, freeCells, freeRows, freeRows_map, encS, rdT, encI]; done) | (obtain ⟨_, _, _⟩ := y; simp [c_impl_TreeGet, con, AV.free, freeCells, freeRows, freeRows_map, encS, rdT, encI]; done))
end Go.GH

set_option linter.unusedVariables false
set_option linter.unusedSimpArgs false
namespace Go.GH
open Go Go.Proofs
noncomputable def c_impl_TreeOk : PCon := con [mS 4] true Tr (fun t => [rdT t]) smT (fun t => .bool (treeOk t))
noncomputable def E_impl_TreeOk : Env := ⟨lookup tyTab, lookup [(43, c_impl_TreeGet), (64, c_impl_itemOk), (65, c_impl_Above)], [0, 1, 2, 3, 4, 5, 6, 10, 12, 13, 14, 15, 37, 52]⟩
set_option maxRecDepth 100000 in
set_option maxHeartbeats 4000000 in
theorem m_impl_TreeOk : Meets E_impl_TreeOk (codeOf Try.f39) Try.f39.results.toList c_impl_TreeOk := by
  intro (t : Tr) hs
  obtain ⟨hs1, hs2⟩ : smT t := hs
  refine ⟨trivial, ?_⟩
  (conv => whnf); refine ⟨fun h1 => ?_, fun h1 => ?_⟩
  · conv => whnf
    exact ⟨trivial, eqB (by have h1 : ¬ t.length ≤ 40 := by simp at h1; omega
                            simp [treeOk, h1])⟩
  have h1 : t.length ≤ 40 := by simp at h1; omega
  repeat ((conv => whnf); first | refine ⟨fun h => h, ?_⟩ | refine ⟨(by kernel_rfl : drawOk _ _ = true), ?_⟩ | refine ⟨fun (h : gtrue _) => by first | assumption | exact absurd (Eq.trans (Eq.symm h) (by assumption) : true = false) Bool.noConfusion, ?_⟩ | refine ⟨fun h => (absurd (Eq.trans (Eq.symm h) (by assumption) : true = false) Bool.noConfusion : False), ?_⟩ | refine ⟨_, w64 (by (show (_ : Prop)); first | omega | ((try dsimp only at *); (try simp only [lns] at *); omega)), ?_⟩ | refine ⟨fun _ => ⟨by (show (_ : Prop)); first | omega | ((try dsimp only at *); (try simp only [lns] at *); omega), by (show (_ : Prop)); first | omega | ((try dsimp only at *); (try simp only [lns] at *); omega), by (show (_ : Prop)); first | omega | ((try dsimp only at *); (try simp only [lns] at *); omega)⟩, ?_⟩ | refine ⟨by (show (_ : Prop)); first | omega | ((try dsimp only at *); (try simp only [lns] at *); omega), ?_⟩ | refine ⟨fun h => ⟨by (show (_ : Prop)); first | omega | ((try dsimp only at *); (try simp only [lns] at *); omega), by (show (_ : Prop)); first | omega | ((try dsimp only at *); (try simp only [lns] at *); omega)⟩, ?_⟩ | refine ⟨fun (r : List AV) hr c hc => by simp [encS] at hr; (try subst hr); simp at hc; (try subst hc); rfl, ?_⟩ | refine ⟨noOwn (by rfl), ?_⟩)
  refine loop_rule (fun i : Nat => ⟨[(1, ⟨none, .bx 0 0⟩), (12, ⟨none, .rd 4 (t.map encI)⟩), (13, ⟨none, .int .i64 t.length⟩), (14, ⟨none, .int .i64 i⟩)], [(0, .own 1 [[.rd 4 (t.map encI)]])], 1⟩)
    (fun i => i ≤ t.length ∧ ∀ j, j < i → chk t j = true) (fun i => t.length - i) 0 ?_ ⟨by omega, fun j hj => by omega⟩ ?_
  · (refine ⟨?_, ?_, rfl⟩ <;> repeat' (first | exact rfl | exact trivial | refine ⟨?_, ?_⟩ | fail) <;> (conv => whnf))
    all_goals simp
  rintro i ⟨hi, hI⟩
  (conv => whnf); refine ⟨fun h2 => ?_, fun h2 => ?_⟩
  · have h2 : i < t.length := by simpa using h2
    obtain ⟨b, hb⟩ := get_lt h2
    have hbs := hs2 b (List.mem_of_getElem? hb)
    have hbad : ∀ {q : Bool}, chk t i = q → q = false → treeOk t = false := fun h e => treeOk_bad h2 (h.trans e)
    generalize hpv : t.getD (i - 1) It.none = pv
    have hprev : 0 < i → t[i - 1]? = some pv := fun h => by
      rw [← hpv, List.getD_eq_getElem?_getD, List.getElem?_eq_getElem (by omega)]; rfl
    have hix : ∀ {A : Bool}, gtrue (some (A && decide ((i : Int) > 0))) → (0 : Int) ≤ (i : Int) - 1 ∧ (t.map encI)[((i : Int) - 1).toNat]? = some (encI pv) := by
      intro A h
      have hi0 : 0 < i := by simp [gtrue] at h; omega
      exact ⟨by omega, by rw [show ((i : Int) - 1).toNat = i - 1 by omega]; exact get_map (hprev hi0)⟩
    repeat ((conv => whnf); first | refine ⟨fun h => h, ?_⟩ | refine ⟨(by kernel_rfl : drawOk _ _ = true), ?_⟩ | refine ⟨fun (h : gtrue _) => by first | assumption | exact absurd (Eq.trans (Eq.symm h) (by assumption) : true = false) Bool.noConfusion, ?_⟩ | refine ⟨fun h => (absurd (Eq.trans (Eq.symm h) (by assumption) : true = false) Bool.noConfusion : False), ?_⟩ | refine ⟨_, w64 (by (show (_ : Prop)); first | omega | ((try dsimp only at *); (try simp only [lns] at *); omega)), ?_⟩ | refine ⟨fun _ => ⟨by (show (_ : Prop)); first | omega | ((try dsimp only at *); (try simp only [lns] at *); omega), by (show (_ : Prop)); first | omega | ((try dsimp only at *); (try simp only [lns] at *); omega), by (show (_ : Prop)); first | omega | ((try dsimp only at *); (try simp only [lns] at *); omega)⟩, ?_⟩ | refine ⟨by (show (_ : Prop)); first | omega | ((try dsimp only at *); (try simp only [lns] at *); omega), ?_⟩ | refine ⟨fun h => ⟨by (show (_ : Prop)); first | omega | ((try dsimp only at *); (try simp only [lns] at *); omega), by (show (_ : Prop)); first | omega | ((try dsimp only at *); (try simp only [lns] at *); omega)⟩, ?_⟩ | refine ⟨fun (r : List AV) hr c hc => by simp [encS] at hr; (try subst hr); simp at hc; (try subst hc); rfl, ?_⟩ | refine ⟨noOwn (by rfl), ?_⟩ | refine ⟨encI b, fun _ => ⟨by omega, by simp [hb]⟩, ?_⟩)
    refine ⟨b, rfl, fun _ => hbs, ?_⟩
    repeat ((conv => whnf); first | refine ⟨fun h => h, ?_⟩ | refine ⟨(by kernel_rfl : drawOk _ _ = true), ?_⟩ | refine ⟨fun (h : gtrue _) => by first | assumption | exact absurd (Eq.trans (Eq.symm h) (by assumption) : true = false) Bool.noConfusion, ?_⟩ | refine ⟨fun h => (absurd (Eq.trans (Eq.symm h) (by assumption) : true = false) Bool.noConfusion : False), ?_⟩ | refine ⟨_, w64 (by (show (_ : Prop)); first | omega | ((try dsimp only at *); (try simp only [lns] at *); omega)), ?_⟩ | refine ⟨fun _ => ⟨by (show (_ : Prop)); first | omega | ((try dsimp only at *); (try simp only [lns] at *); omega), by (show (_ : Prop)); first | omega | ((try dsimp only at *); (try simp only [lns] at *); omega), by (show (_ : Prop)); first | omega | ((try dsimp only at *); (try simp only [lns] at *); omega)⟩, ?_⟩ | refine ⟨by (show (_ : Prop)); first | omega | ((try dsimp only at *); (try simp only [lns] at *); omega), ?_⟩ | refine ⟨fun h => ⟨by (show (_ : Prop)); first | omega | ((try dsimp only at *); (try simp only [lns] at *); omega), by (show (_ : Prop)); first | omega | ((try dsimp only at *); (try simp only [lns] at *); omega)⟩, ?_⟩ | refine ⟨fun (r : List AV) hr c hc => by simp [encS] at hr; (try subst hr); simp at hc; (try subst hc); rfl, ?_⟩ | refine ⟨noOwn (by rfl), ?_⟩ | refine ⟨encI pv, fun h => hix h, ?_⟩)
    have e1 : decide ((i : Int) > 0) = !(i == 0) := by
      rw [Bool.eq_iff_iff]
      simp
      omega
    (conv => whnf); refine ⟨fun h3 => ?_, fun h3 => ?_⟩
    · have h3 : (!itemOk b || (decide ((i : Int) > 0) && !strLt pv.path b.path)) = true := h3
      conv => whnf
      exact ⟨trivial, eqB (hbad (chk_eq hb hpv) (by
        rw [e1] at h3
        revert h3
        cases itemOk b <;> cases (i == 0) <;> cases strLt pv.path b.path <;> simp)).symm⟩
    have h3 : (itemOk b && (i == 0 || strLt pv.path b.path)) = true := by
      have h3 : (!itemOk b || (decide ((i : Int) > 0) && !strLt pv.path b.path)) = false := h3
      rw [e1] at h3
      revert h3
      cases itemOk b <;> cases (i == 0) <;> cases strLt pv.path b.path <;> simp
    conv => whnf
    refine ⟨b.path, rfl, fun _ => hbs.1, ?_⟩
    conv => whnf
    refine ⟨(t, above b.path), rfl, fun _ => ⟨hs1, hs2⟩, ?_⟩
    repeat ((conv => whnf); first | refine ⟨fun h => h, ?_⟩ | refine ⟨(by kernel_rfl : drawOk _ _ = true), ?_⟩ | refine ⟨fun (h : gtrue _) => by first | assumption | exact absurd (Eq.trans (Eq.symm h) (by assumption) : true = false) Bool.noConfusion, ?_⟩ | refine ⟨fun h => (absurd (Eq.trans (Eq.symm h) (by assumption) : true = false) Bool.noConfusion : False), ?_⟩ | refine ⟨_, w64 (by (show (_ : Prop)); first | omega | ((try dsimp only at *); (try simp only [lns] at *); omega)), ?_⟩ | refine ⟨fun _ => ⟨by (show (_ : Prop)); first | omega | ((try dsimp only at *); (try simp only [lns] at *); omega), by (show (_ : Prop)); first | omega | ((try dsimp only at *); (try simp only [lns] at *); omega), by (show (_ : Prop)); first | omega | ((try dsimp only at *); (try simp only [lns] at *); omega)⟩, ?_⟩ | refine ⟨by (show (_ : Prop)); first | omega | ((try dsimp only at *); (try simp only [lns] at *); omega), ?_⟩ | refine ⟨fun h => ⟨by (show (_ : Prop)); first | omega | ((try dsimp only at *); (try simp only [lns] at *); omega), by (show (_ : Prop)); first | omega | ((try dsimp only at *); (try simp only [lns] at *); omega)⟩, ?_⟩ | refine ⟨fun (r : List AV) hr c hc => by simp [encS] at hr; (try subst hr); simp at hc; (try subst hc); rfl, ?_⟩ | refine ⟨noOwn (by rfl), ?_⟩)
    (conv => whnf); refine ⟨fun h5 => ?_, fun h5 => ?_⟩
    · conv => whnf
      exact ⟨trivial, eqB (hbad (chk_bad3 hb (by
        have h5 : (!(treeGet t (above b.path)).isSome || ((treeGet t (above b.path)).getD It.none).kind != 2) = true := h5
        unfold dirAt
        revert h5
        cases (treeGet t (above b.path)).isSome <;> simp)) rfl).symm⟩
    have h5 : dirAt t (above b.path) = true := by
      have h5 : (!(treeGet t (above b.path)).isSome || ((treeGet t (above b.path)).getD It.none).kind != 2) = false := h5
      unfold dirAt
      revert h5
      cases (treeGet t (above b.path)).isSome <;> simp
    repeat ((conv => whnf); first | refine ⟨fun h => h, ?_⟩ | refine ⟨(by kernel_rfl : drawOk _ _ = true), ?_⟩ | refine ⟨fun (h : gtrue _) => by first | assumption | exact absurd (Eq.trans (Eq.symm h) (by assumption) : true = false) Bool.noConfusion, ?_⟩ | refine ⟨fun h => (absurd (Eq.trans (Eq.symm h) (by assumption) : true = false) Bool.noConfusion : False), ?_⟩ | refine ⟨_, w64 (by (show (_ : Prop)); first | omega | ((try dsimp only at *); (try simp only [lns] at *); omega)), ?_⟩ | refine ⟨fun _ => ⟨by (show (_ : Prop)); first | omega | ((try dsimp only at *); (try simp only [lns] at *); omega), by (show (_ : Prop)); first | omega | ((try dsimp only at *); (try simp only [lns] at *); omega), by (show (_ : Prop)); first | omega | ((try dsimp only at *); (try simp only [lns] at *); omega)⟩, ?_⟩ | refine ⟨by (show (_ : Prop)); first | omega | ((try dsimp only at *); (try simp only [lns] at *); omega), ?_⟩ | refine ⟨fun h => ⟨by (show (_ : Prop)); first | omega | ((try dsimp only at *); (try simp only [lns] at *); omega), by (show (_ : Prop)); first | omega | ((try dsimp only at *); (try simp only [lns] at *); omega)⟩, ?_⟩ | refine ⟨fun (r : List AV) hr c hc => by simp [encS] at hr; (try subst hr); simp at hc; (try subst hc); rfl, ?_⟩ | refine ⟨noOwn (by rfl), ?_⟩)
    refine again (i + 1) ?_ ⟨h2, fun j hj => ?_⟩ (by first | omega | (simp; done) | (simp; omega))
    · (refine ⟨?_, ?_, rfl⟩ <;> repeat' (first | exact rfl | exact trivial | refine ⟨?_, ?_⟩ | fail) <;> (conv => whnf))
    · rcases Nat.lt_or_ge j i with h | h
      · exact hI j h
      · rw [show j = i by omega, chk_eq hb hpv, h3, h5]; rfl
  · have h2 : i = t.length := by
      have : ¬ i < t.length := by simpa using h2
      omega
    subst h2
    conv => whnf
    exact ⟨trivial, eqB (treeOk_good h1 hI).symm⟩
theorem ok_impl_TreeOk : ConOk Try.prog 39 c_impl_TreeOk := meets_ok (tabT _ _) (FOk.cons ok_impl_TreeGet (FOk.cons ok_impl_itemOk (FOk.cons ok_impl_Above FOk.nil))) mixed Try.func39 rfl Try.call39 (by decide) (by kernel_rfl) m_impl_TreeOk (by intro _ (y : Tr) _; exact ⟨by simp [c_impl_TreeOk, con, AV.noRd, noRdCells, noRdRows, noRdRows_map', encS], by simp [c_impl_TreeOk, con, AV.noRd, noRdCells, noRdRows, noRdRows_map', encS]⟩) (by intro (y : Tr) _; first | (simp [c_impl_TreeOk, con, AV.free, freeCells, freeRows, freeRows_map, encS, rdT, encI]; done) | (obtain ⟨_, _⟩ := y; simp [c_impl_TreeOk, con, AV.free, freeCells, freeRows, freeRows_map, encS, rdT, encI]; done) | (obtain ⟨_, _, _⟩ := y; simp [c_impl_TreeOk, con, AV.free, freeCells, freeRows, freeRows_map, encS, rdT, encI]; done))
noncomputable def c_impl_Heaviest : PCon := con [mS 4] true Tr (fun t => [rdT t]) smT (fun t => .str (heaviest t))
noncomputable def E_impl_Heaviest : Env := ⟨lookup tyTab, lookup [(39, c_impl_TreeOk)], [0, 1, 2, 3, 4, 6, 9, 11, 12, 13, 14, 26]⟩
set_option maxRecDepth 100000 in
set_option maxHeartbeats 4000000 in
theorem m_impl_Heaviest : Meets E_impl_Heaviest (codeOf Try.f17) Try.f17.results.toList c_impl_Heaviest := by
  intro (t : Tr) hs
  obtain ⟨hs1, hs2⟩ : smT t := hs
  refine ⟨trivial, ?_⟩
  conv => whnf
  refine ⟨t, rfl, fun _ => ⟨hs1, hs2⟩, ?_⟩
  (conv => whnf); refine ⟨fun h1 => ?_, fun h1 => ?_⟩
  · have h1 : treeOk t = false := by
      have h1 : (!treeOk t) = true := h1
      simpa using h1
    conv => whnf
    exact ⟨trivial, eqS (by simp [heaviest, h1])⟩
  have h1 : treeOk t = true := by
    have h1 : (!treeOk t) = false := h1
    simpa using h1
  have hd : heaviest t = (t.foldl heavy ([], -1)).1 := by simp [heaviest, h1]
  repeat ((conv => whnf); first | refine ⟨fun h => h, ?_⟩ | refine ⟨(by kernel_rfl : drawOk _ _ = true), ?_⟩ | refine ⟨fun (h : gtrue _) => by first | assumption | exact absurd (Eq.trans (Eq.symm h) (by assumption) : true = false) Bool.noConfusion, ?_⟩ | refine ⟨fun h => (absurd (Eq.trans (Eq.symm h) (by assumption) : true = false) Bool.noConfusion : False), ?_⟩ | refine ⟨_, w64 (by (show (_ : Prop)); first | omega | ((try dsimp only at *); (try simp only [lns] at *); omega)), ?_⟩ | refine ⟨fun _ => ⟨by (show (_ : Prop)); first | omega | ((try dsimp only at *); (try simp only [lns] at *); omega), by (show (_ : Prop)); first | omega | ((try dsimp only at *); (try simp only [lns] at *); omega), by (show (_ : Prop)); first | omega | ((try dsimp only at *); (try simp only [lns] at *); omega)⟩, ?_⟩ | refine ⟨by (show (_ : Prop)); first | omega | ((try dsimp only at *); (try simp only [lns] at *); omega), ?_⟩ | refine ⟨fun h => ⟨by (show (_ : Prop)); first | omega | ((try dsimp only at *); (try simp only [lns] at *); omega), by (show (_ : Prop)); first | omega | ((try dsimp only at *); (try simp only [lns] at *); omega)⟩, ?_⟩ | refine ⟨fun (r : List AV) hr c hc => by simp [encS] at hr; (try subst hr); simp at hc; (try subst hc); rfl, ?_⟩ | refine ⟨noOwn (by rfl), ?_⟩)
  refine loop_rule (fun i : Nat => ⟨[(3, ⟨none, .str ((t.take i).foldl heavy ([], -1)).1⟩), (4, ⟨none, .int .i64 ((t.take i).foldl heavy ([], -1)).2⟩), (11, ⟨none, .rd 4 (t.map encI)⟩), (12, ⟨none, .int .i64 t.length⟩), (13, ⟨none, .int .i64 i⟩)], [], 0⟩)
    (fun i => i ≤ t.length) (fun i => t.length - i) 0 ?_ (by omega) ?_
  · (refine ⟨?_, ?_, rfl⟩ <;> repeat' (first | exact rfl | exact trivial | refine ⟨?_, ?_⟩ | fail) <;> (conv => whnf))
    all_goals simp
  intro i hi
  have hi : i ≤ t.length := hi
  (conv => whnf); refine ⟨fun h2 => ?_, fun h2 => ?_⟩
  · have h2 : i < t.length := by simpa using h2
    obtain ⟨b, hb⟩ := get_lt h2
    repeat ((conv => whnf); first | refine ⟨fun h => h, ?_⟩ | refine ⟨(by kernel_rfl : drawOk _ _ = true), ?_⟩ | refine ⟨fun (h : gtrue _) => by first | assumption | exact absurd (Eq.trans (Eq.symm h) (by assumption) : true = false) Bool.noConfusion, ?_⟩ | refine ⟨fun h => (absurd (Eq.trans (Eq.symm h) (by assumption) : true = false) Bool.noConfusion : False), ?_⟩ | refine ⟨_, w64 (by (show (_ : Prop)); first | omega | ((try dsimp only at *); (try simp only [lns] at *); omega)), ?_⟩ | refine ⟨fun _ => ⟨by (show (_ : Prop)); first | omega | ((try dsimp only at *); (try simp only [lns] at *); omega), by (show (_ : Prop)); first | omega | ((try dsimp only at *); (try simp only [lns] at *); omega), by (show (_ : Prop)); first | omega | ((try dsimp only at *); (try simp only [lns] at *); omega)⟩, ?_⟩ | refine ⟨by (show (_ : Prop)); first | omega | ((try dsimp only at *); (try simp only [lns] at *); omega), ?_⟩ | refine ⟨fun h => ⟨by (show (_ : Prop)); first | omega | ((try dsimp only at *); (try simp only [lns] at *); omega), by (show (_ : Prop)); first | omega | ((try dsimp only at *); (try simp only [lns] at *); omega)⟩, ?_⟩ | refine ⟨fun (r : List AV) hr c hc => by simp [encS] at hr; (try subst hr); simp at hc; (try subst hc); rfl, ?_⟩ | refine ⟨noOwn (by rfl), ?_⟩ | refine ⟨encI b, fun _ => ⟨by omega, by simp [hb]⟩, ?_⟩)
    (conv => whnf); refine ⟨fun h3 => ?_, fun h3 => ?_⟩
    · repeat ((conv => whnf); first | refine ⟨fun h => h, ?_⟩ | refine ⟨(by kernel_rfl : drawOk _ _ = true), ?_⟩ | refine ⟨fun (h : gtrue _) => by first | assumption | exact absurd (Eq.trans (Eq.symm h) (by assumption) : true = false) Bool.noConfusion, ?_⟩ | refine ⟨fun h => (absurd (Eq.trans (Eq.symm h) (by assumption) : true = false) Bool.noConfusion : False), ?_⟩ | refine ⟨_, w64 (by (show (_ : Prop)); first | omega | ((try dsimp only at *); (try simp only [lns] at *); omega)), ?_⟩ | refine ⟨fun _ => ⟨by (show (_ : Prop)); first | omega | ((try dsimp only at *); (try simp only [lns] at *); omega), by (show (_ : Prop)); first | omega | ((try dsimp only at *); (try simp only [lns] at *); omega), by (show (_ : Prop)); first | omega | ((try dsimp only at *); (try simp only [lns] at *); omega)⟩, ?_⟩ | refine ⟨by (show (_ : Prop)); first | omega | ((try dsimp only at *); (try simp only [lns] at *); omega), ?_⟩ | refine ⟨fun h => ⟨by (show (_ : Prop)); first | omega | ((try dsimp only at *); (try simp only [lns] at *); omega), by (show (_ : Prop)); first | omega | ((try dsimp only at *); (try simp only [lns] at *); omega)⟩, ?_⟩ | refine ⟨fun (r : List AV) hr c hc => by simp [encS] at hr; (try subst hr); simp at hc; (try subst hc); rfl, ?_⟩ | refine ⟨noOwn (by rfl), ?_⟩)
      refine again (i + 1) ?_ h2 (by first | omega | (simp; done) | (simp; omega))
      rw [foldl_take hb, heavy, if_pos h3]
      (refine ⟨?_, ?_, rfl⟩ <;> repeat' (first | exact rfl | exact trivial | refine ⟨?_, ?_⟩ | fail) <;> (conv => whnf))
    · repeat ((conv => whnf); first | refine ⟨fun h => h, ?_⟩ | refine ⟨(by kernel_rfl : drawOk _ _ = true), ?_⟩ | refine ⟨fun (h : gtrue _) => by first | assumption | exact absurd (Eq.trans (Eq.symm h) (by assumption) : true = false) Bool.noConfusion, ?_⟩ | refine ⟨fun h => (absurd (Eq.trans (Eq.symm h) (by assumption) : true = false) Bool.noConfusion : False), ?_⟩ | refine ⟨_, w64 (by (show (_ : Prop)); first | omega | ((try dsimp only at *); (try simp only [lns] at *); omega)), ?_⟩ | refine ⟨fun _ => ⟨by (show (_ : Prop)); first | omega | ((try dsimp only at *); (try simp only [lns] at *); omega), by (show (_ : Prop)); first | omega | ((try dsimp only at *); (try simp only [lns] at *); omega), by (show (_ : Prop)); first | omega | ((try dsimp only at *); (try simp only [lns] at *); omega)⟩, ?_⟩ | refine ⟨by (show (_ : Prop)); first | omega | ((try dsimp only at *); (try simp only [lns] at *); omega), ?_⟩ | refine ⟨fun h => ⟨by (show (_ : Prop)); first | omega | ((try dsimp only at *); (try simp only [lns] at *); omega), by (show (_ : Prop)); first | omega | ((try dsimp only at *); (try simp only [lns] at *); omega)⟩, ?_⟩ | refine ⟨fun (r : List AV) hr c hc => by simp [encS] at hr; (try subst hr); simp at hc; (try subst hc); rfl, ?_⟩ | refine ⟨noOwn (by rfl), ?_⟩)
      refine again (i + 1) ?_ h2 (by first | omega | (simp; done) | (simp; omega))
      rw [foldl_take hb, heavy, if_neg (by rw [show _ = false from h3]; exact Bool.false_ne_true)]
      (refine ⟨?_, ?_, rfl⟩ <;> repeat' (first | exact rfl | exact trivial | refine ⟨?_, ?_⟩ | fail) <;> (conv => whnf))
  · have h2 : i = t.length := by
      have : ¬ i < t.length := by simpa using h2
      omega
    subst h2
    rw [List.take_length]
    conv => whnf
    exact ⟨trivial, eqS hd.symm⟩
theorem ok_impl_Heaviest : ConOk Try.prog 17 c_impl_Heaviest := meets_ok (tabT _ _) (FOk.cons ok_impl_TreeOk FOk.nil) mixed Try.func17 rfl Try.call17 (by decide) (by kernel_rfl) m_impl_Heaviest (by intro _ (y : Tr) _; exact ⟨by simp [c_impl_Heaviest, con, AV.noRd, noRdCells, noRdRows, noRdRows_map', encS], by simp [c_impl_Heaviest, con, AV.noRd, noRdCells, noRdRows, noRdRows_map', encS]⟩) (by intro (y : Tr) _; first | (simp [c_impl_Heaviest, con, AV.free, freeCells, freeRows, freeRows_map, encS, rdT, encI]; done) | (obtain ⟨_, _⟩ := y; simp [c_impl_Heaviest, con, AV.free, freeCells, freeRows, freeRows_map, encS, rdT, encI]; done) | (obtain ⟨_, _, _⟩ := y; simp [c_impl_Heaviest, con, AV.free, freeCells, freeRows, freeRows_map, encS, rdT, encI]; done))
end Go.GH

