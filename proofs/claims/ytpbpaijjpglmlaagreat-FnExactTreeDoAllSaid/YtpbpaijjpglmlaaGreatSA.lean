import Derived.Test.YtpbpaijjpglmlaaGreatGE
import Derived.Shelf.Strings.OnBuilder
import Derived.Test.YtpbpaijjpglmlaaGreatChecked
import Derived.Shelf.Strings.Builder1
import Derived.Shelf.Strings.Builder2
import Derived.Shelf.Small.Bits
import Derived.Shelf.Small.Strs
import Derived.Shelf.Strings.BuilderF
import Derived.Shelf.Strings.BuilderK
import Derived.Shelf.Strings.Builder2Cap
import Derived.Shelf.Strconv.Itoa0
import Derived.Shelf.Strings.Prefix
import Derived.Shelf.Bits.Mul64
import Derived.Shelf.Strings.Repeat
import Derived.Lib.ItoaNum
import Derived.Lib.Repeat
set_option linter.unusedVariables false
set_option linter.unusedSimpArgs false
namespace Go.GH
open Go
abbrev Str := List UInt8
def mC : Mode := .rd [none]
def mS (k : Nat) : Mode := .rd [some k]
def con (ms : List Mode) (sc : Bool) (α : Type) (enc : α → List AV) (pre : α → Prop) (res : α → AV) : PCon := ⟨ms, sc, false, α, enc, pre, res, fun _ => [], fun _ => True, false⟩
def conG (gw : World → Prop) (ms : List Mode) (sc : Bool) (α : Type) (enc : α → List AV) (pre : α → Prop) (res : α → AV) : PCon := ⟨ms, sc, false, α, enc, pre, res, fun _ => [], gw, false⟩
def conW (sh : Bool) (ms : List Mode) (α : Type) (enc : α → List AV) (pre : α → Prop) (res : α → AV) (out : α → List AV) : PCon := ⟨ms, false, sh, α, enc, pre, res, out, fun _ => True, false⟩
def conP (ms : List Mode) (α : Type) (enc : α → List AV) (pre : α → Prop) (res : α → AV) : PCon := ⟨ms, false, true, α, enc, pre, res, fun _ => [], fun _ => True, true⟩
def encS (s : Str) : List AV := [.str s]
def inB (x lo hi : Int) : Bool := decide (x ≥ lo) && decide (x ≤ hi)
def splitBy (c : UInt8) : Str → List Str
  | [] => [[]]
  | x :: r => if x = c then [] :: splitBy c r else match splitBy c r with
    | h :: t => (x :: h) :: t
    | [] => [[x]]
theorem splitBy_ne (c : UInt8) : ∀ s, splitBy c s ≠ []
  | [] => by simp [splitBy]
  | x :: r => by
    unfold splitBy
    split
    · simp
    · split <;> simp
theorem splitBy_none {c : UInt8} : ∀ {a : Str}, (∀ x, x ∈ a → x ≠ c) → splitBy c a = [a]
  | [], _ => rfl
  | x :: r, h => by
    rw [splitBy, if_neg (h x (by simp)), splitBy_none (a := r) fun y hy => h y (by simp [hy])]
theorem splitBy_at {c : UInt8} {b : Str} : ∀ {a : Str}, (∀ x, x ∈ a → x ≠ c) → splitBy c (a ++ c :: b) = a :: splitBy c b
  | [], _ => by simp [splitBy]
  | x :: r, h => by
    rw [List.cons_append, splitBy, if_neg (h x (by simp)), splitBy_at (a := r) fun y hy => h y (by simp [hy])]
theorem splitBy_len {c : UInt8} : ∀ (s : Str), (splitBy c s).length ≤ s.length + 1
  | [] => by simp [splitBy]
  | x :: r => by
    have := splitBy_len (c := c) r
    unfold splitBy
    split
    · simp; omega
    · split
      · rename_i h t heq; rw [heq] at this; simp at this ⊢; omega
      · simp
theorem splitBy_mem {c : UInt8} : ∀ (s : Str) (p : Str), p ∈ splitBy c s → p.length ≤ s.length
  | [], p, h => by simp [splitBy] at h; subst h; simp
  | x :: r, p, h => by
    unfold splitBy at h
    split at h
    · rcases List.mem_cons.1 h with rfl | h
      · simp
      · have := splitBy_mem r p h; simp; omega
    · split at h
      · rename_i h' t heq
        rcases List.mem_cons.1 h with rfl | h
        · have := splitBy_mem (c := c) r h' (by rw [heq]; simp)
          simp; omega
        · have := splitBy_mem (c := c) r p (by rw [heq]; simp [h])
          simp; omega
      · simp at h; subst h; simp
def isNm (b : UInt8) : Bool := (decide ((b.toNat : Int) ≥ 97) && decide ((b.toNat : Int) ≤ 122)) || (decide ((b.toNat : Int) ≥ 48) && decide ((b.toNat : Int) ≤ 57))
theorem isNm' (b : UInt8) : ((decide ((b.toNat : Int) < 97) || decide ((b.toNat : Int) > 122)) && (decide ((b.toNat : Int) < 48) || decide ((b.toNat : Int) > 57))) = !isNm b := by
  unfold isNm
  by_cases h1 : (b.toNat : Int) < 97 <;> by_cases h2 : (b.toNat : Int) > 122 <;> by_cases h3 : (b.toNat : Int) < 48 <;> by_cases h4 : (b.toNat : Int) > 57 <;> simp [h1, h2, h3, h4, Int.not_le.2, Int.not_lt.1] <;> omega
def nameOk (s : Str) : Bool := inB s.length 1 6 && s.all isNm
theorem take_succ' {α : Type} {l : List α} {i : Nat} {x : α} (h : l[i]? = some x) : l.take (i + 1) = l.take i ++ [x] := by
  rw [List.take_add_one, h]; rfl
@[simp] theorem take_map_len {α β : Type} (f : α → β) (l : List α) : (l.map f).take l.length = l.map f := by
  rw [List.take_of_length_le (by simp)]
theorem take_app {α : Type} {a b : List α} : (a ++ b).take (a.length + b.length) = a ++ b := by
  rw [List.take_of_length_le (by simp)]
@[simp] theorem take_rest {α : Type} {l : List α} {k : Nat} : (l.drop k).take (l.length - k) = l.drop k := by
  rw [List.take_of_length_le (by simp)]
theorem get_lt {α : Type} {l : List α} {i : Nat} (h : i < l.length) : ∃ x, l[i]? = some x := ⟨l[i], List.getElem?_eq_getElem h⟩
theorem lt_of_get {α : Type} {l : List α} {i : Nat} {x : α} (h : l[i]? = some x) : i < l.length := by
  rcases Nat.lt_or_ge i l.length with hl | hl
  · exact hl
  · rw [List.getElem?_eq_none hl] at h; cases h
theorem get_map {α β : Type} {l : List α} {f : α → β} {i : Nat} {x : α} (h : l[i]? = some x) : (l.map f)[i]? = some (f x) := by simp [h]
theorem noRdRows_map {α : Type} {f : α → List AV} (h : ∀ a, noRdCells (f a)) : ∀ (l : List α), noRdRows (l.map f)
  | [] => trivial
  | a :: l => ⟨h a, noRdRows_map h l⟩
theorem noRdRows_map' {α : Type} {f : α → List AV} {l : List α} : noRdRows (l.map f) ↔ ∀ a, a ∈ l → noRdCells (f a) := by
  induction l with
  | nil => simp [noRdRows]
  | cons a l ih => simp [noRdRows, ih]
theorem encS_noRd (s : Str) : noRdCells (encS s) := ⟨trivial, trivial⟩
theorem toRdRows_map {α : Type} {f : α → List AV} (h : ∀ a, toRdCells (f a) = f a) (l : List α) : toRdRows (l.map f) = l.map f := by
  induction l with
  | nil => rfl
  | cons a l ih => simp [toRdRows, ih, h]
theorem rdS (l : List Str) : toRdRows (l.map encS) = l.map encS := toRdRows_map (fun _ => rfl) l
theorem cutS (l : List Str) (a b : Nat) : toRdRows (((l.map encS).drop a).take b) = ((l.drop a).take b).map encS := by
  rw [← List.map_drop, ← List.map_take, rdS]
theorem eqB {a b : Bool} (h : a = b) : leVal (.bool a) (.bool b) := by subst h; rfl
theorem eqN' {k : IntKind} {a b : Int} (h : a = b) : leVal (.int k a) (.int k b) := by subst h; rfl
theorem eqS {a b : Str} (h : a = b) : leVal (.str a) (.str b) := by subst h; rfl
theorem noOwn {rows : List (List AV)} (h : (rows.all fun r => r.all fun c => !c.isOwn) = true) : ∀ (r : List AV), r ∈ rows → ∀ c, c ∈ r → c.isOwn = false := by
  intro r hr c hc
  have := List.all_eq_true.1 (List.all_eq_true.1 h r hr) c hc
  simpa using this
theorem lns : (∀ {α : Type} (n : Nat) (l : List α), (l.take n).length = min n l.length) ∧ (∀ {α : Type} (n : Nat) (l : List α), (l.drop n).length = l.length - n) ∧ (∀ {α β : Type} (f : α → β) (l : List α), (l.map f).length = l.length) ∧ (∀ {α : Type} (a b : List α), (a ++ b).length = a.length + b.length) ∧
    (∀ {α : Type} (a : α) (l : List α), (a :: l).length = l.length + 1) ∧ (∀ {α : Type}, ([] : List α).length = 0) ∧ (∀ {α : Type} (n : Nat) (a : α), (List.replicate n a).length = n) :=
  ⟨fun _ _ => List.length_take, fun _ _ => List.length_drop, fun _ _ => List.length_map _, fun _ _ => List.length_append, fun _ _ => List.length_cons, List.length_nil, fun _ _ => List.length_replicate⟩
theorem fin_tup {vs us : List AV} {res : AV} (h : res = .tup us) (hl : leVals vs us) : match res with
    | .tup us => leVals vs us
    | _ => False := by subst h; exact hl
theorem eqNil {s : Nat} {b : List (List AV)} (h : b = []) : leVal .nils (.own s b) := by subst h; rfl
theorem eqOwn {s : Nat} {a b : List (List AV)} (h : a = b) : leVal (.own s a) (.own s b) := by subst h; exact ⟨rfl, rfl⟩
end Go.GH

set_option linter.unusedVariables false
namespace Go.GH
open Go
structure SplitInv (c : UInt8) (s : Str) (i fr : Nat) (out : List Str) : Prop where
  le : fr ≤ i
  il : i ≤ s.length
  no : ∀ x, x ∈ (s.drop fr).take (i - fr) → x ≠ c
  eq : splitBy c s = out ++ splitBy c (s.drop fr)
  len : out.length ≤ fr
theorem drop_cut {α : Type} {s : List α} {fr i : Nat} {b : α} (h : fr ≤ i) (hb : s[i]? = some b) : s.drop fr = (s.drop fr).take (i - fr) ++ b :: s.drop (i + 1) := by
  have hi := lt_of_get hb
  rw [← List.take_append_drop (i - fr) (s.drop fr)]
  congr 1
  · rw [List.take_append_drop]
  · rw [List.drop_drop, show fr + (i - fr) = i by omega, ← List.getElem_cons_drop hi]
    congr 1
    rw [List.getElem?_eq_getElem hi] at hb
    exact Option.some.inj hb
theorem SplitInv.zero (c : UInt8) (s : Str) : SplitInv c s 0 0 [] := ⟨by omega, by omega, by simp, rfl, by simp⟩
theorem SplitInv.pass {c : UInt8} {s : Str} {i fr : Nat} {out : List Str} (h : SplitInv c s i fr out) {b : UInt8} (hb : s[i]? = some b) (hc : b ≠ c) : SplitInv c s (i + 1) fr out := by
  have hi := lt_of_get hb
  have hle := h.le
  refine ⟨by omega, by omega, fun x hx => ?_, h.eq, h.len⟩
  rw [show i + 1 - fr = (i - fr) + 1 by omega, List.take_add_one, List.mem_append] at hx
  rcases hx with hx | hx
  · exact h.no x hx
  · rw [List.getElem?_drop, show fr + (i - fr) = i by omega, hb] at hx
    simp at hx
    exact hx ▸ hc
theorem SplitInv.hit {c : UInt8} {s : Str} {i fr : Nat} {out : List Str} (h : SplitInv c s i fr out) {b : UInt8} (hb : s[i]? = some b) (hc : b = c) : SplitInv c s (i + 1) (i + 1) (out ++ [(s.drop fr).take (i - fr)]) := by
  have hi := lt_of_get hb
  have hle := h.le
  have hlen := h.len
  subst hc
  refine ⟨by omega, by omega, by simp, ?_, by simp; omega⟩
  rw [h.eq, drop_cut hle hb, splitBy_at h.no]
  have e : ((s.drop fr).take (i - fr) ++ b :: s.drop (i + 1)).take (i - fr) = (s.drop fr).take (i - fr) := by
    rw [← drop_cut hle hb]
  simp [e]
theorem SplitInv.fin {c : UInt8} {s : Str} {fr : Nat} {out : List Str} (h : SplitInv c s s.length fr out) : splitBy c s = out ++ [(s.drop fr).take (s.length - fr)] := by
  have e : (s.drop fr).take (s.length - fr) = s.drop fr := by rw [List.take_of_length_le (by simp)]
  have hn := h.no
  rw [e] at hn
  rw [h.eq, e, splitBy_none hn]
theorem SplitInv.fin' {c : UInt8} {s : Str} {fr : Nat} {out : List Str} (h : SplitInv c s s.length fr out) : splitBy c s = out ++ [s.drop fr] := by
  rw [h.fin, List.take_of_length_le (by simp)]
theorem byteEq {a b : UInt8} : (((a.toNat : Int) == (b.toNat : Int)) = true) ↔ a = b := by
  rw [beq_iff_eq]
  constructor
  · intro h
    have h : a.toNat = b.toNat := by omega
    exact UInt8.toNat_inj.1 h
  · rintro rfl; rfl
def sml (n : Nat) : Prop := n ≤ 4194304
def sml1 (n : Nat) : Prop := n ≤ 4194305
end Go.GH

set_option linter.unusedVariables false
set_option linter.unusedSimpArgs false
namespace Go.GH
open Go
def sl : Str := [47]
def pathOk (p : Str) : Bool := (p == sl) || (inB (splitBy 47 p).length 2 5 && ((splitBy 47 p).headD [] == []) && ((splitBy 47 p).drop 1).all nameOk)
def names (p : Str) : List Str := if pathOk p && !(p == sl) then (splitBy 47 p).drop 1 else []
def cat : List Str → Str
  | [] => []
  | a :: r => 47 :: (a ++ cat r)
def cat1 (l : List Str) : Str := match l with
  | [] => sl
  | l => cat l
def pathOf (l : List Str) : Str := if decide (l.length ≤ 4) && l.all nameOk then cat1 l else []
def above (p : Str) : Str := if pathOk p then pathOf ((names p).take ((names p).length - 1)) else []
theorem cat_append : ∀ (a b : List Str), cat (a ++ b) = cat a ++ cat b
  | [], b => rfl
  | x :: a, b => by simp [cat, cat_append a b]
theorem nameOk_no {s : Str} (h : nameOk s = true) : ∀ x, x ∈ s → x ≠ 47 := by
  simp only [nameOk, Bool.and_eq_true, List.all_eq_true] at h
  rintro x hx rfl
  have := h.2 _ hx
  revert this; decide
theorem split_first {c : UInt8} : ∀ (a b : Str), ∃ x, splitBy c (a ++ c :: b) = splitBy c a ++ x :: ((splitBy c b).drop 1) ∧ x = (splitBy c b).headD []
  | [], b => by
    have := splitBy_ne c b
    cases h : splitBy c b with
    | nil => exact absurd h this
    | cons y r => exact ⟨y, by simp [splitBy, h], rfl⟩
  | y :: a, b => by
    obtain ⟨x, h1, h2⟩ := split_first (c := c) a b
    refine ⟨x, ?_, h2⟩
    simp only [List.cons_append, splitBy]
    split
    · rw [h1]; rfl
    · rw [h1]
      have := splitBy_ne c a
      cases h : splitBy c a with
      | nil => exact absurd h this
      | cons z r => rfl
theorem split_cons {c : UInt8} (a b : Str) : splitBy c (a ++ c :: b) = splitBy c a ++ splitBy c b := by
  obtain ⟨x, h1, h2⟩ := split_first (c := c) a b
  rw [h1, h2]
  have := splitBy_ne c b
  cases h : splitBy c b with
  | nil => exact absurd h this
  | cons y r => rfl
theorem split_cat_len : ∀ (l : List Str), (splitBy 47 (cat l)).length = 1 + (l.map fun a => (splitBy 47 a).length).sum ∨ l = [] := by
  intro l
  induction l with
  | nil => exact .inr rfl
  | cons a r ih =>
    left
    simp only [cat, splitBy, if_pos, List.length_cons, List.map_cons, List.sum_cons]
    rcases ih with ih | rfl
    · cases r with
      | nil => simp [cat]; omega
      | cons b r =>
        simp only [cat] at ih ⊢
        rw [split_cons, List.length_append]
        simp only [splitBy, if_pos, List.length_cons] at ih
        simp only [List.map_cons, List.sum_cons] at ih ⊢
        omega
    · simp [cat]; omega
theorem split_cat {l : List Str} (h : ∀ a, a ∈ l → ∀ x, x ∈ a → x ≠ 47) (hl : l ≠ []) : splitBy 47 (cat l) = [] :: l := by
  induction l with
  | nil => exact absurd rfl hl
  | cons a r ih =>
    simp only [cat, splitBy, if_pos]
    congr 1
    cases r with
    | nil => simp only [cat, List.append_nil]; exact splitBy_none (h a (by simp))
    | cons b r =>
      have := ih (fun x hx => h x (by simp [hx])) (by simp)
      simp only [cat] at this ⊢
      rw [splitBy_at (h a (by simp))]
      simp only [splitBy, if_pos, List.cons.injEq, true_and] at this
      rw [this]
theorem split_pos (c : UInt8) (s : Str) : 1 ≤ (splitBy c s).length := by
  have := splitBy_ne c s
  cases h : splitBy c s with
  | nil => exact absurd h this
  | cons => simp
theorem split_one {c : UInt8} : ∀ {s : Str}, (splitBy c s).length = 1 → ∀ x, x ∈ s → x ≠ c
  | [], _, x, hx => by cases hx
  | y :: r, h, x, hx => by
    unfold splitBy at h
    split at h
    · have := split_pos c r; simp only [List.length_cons] at h; omega
    · rename_i hy
      have hr : (splitBy c r).length = 1 := by
        split at h
        · rename_i heq; rw [heq]; simpa using h
        · rename_i heq; exact absurd heq (splitBy_ne c r)
      rcases List.mem_cons.1 hx with rfl | hx
      · exact hy
      · exact split_one hr x hx
theorem sum_ones : ∀ {l : List Str} {f : Str → Nat}, (∀ a, 1 ≤ f a) → (l.map f).sum = l.length → ∀ a, a ∈ l → f a = 1
  | [], _, _, _, a, ha => by cases ha
  | b :: r, f, hf, h, a, ha => by
    have hge : ∀ (r : List Str), r.length ≤ (r.map f).sum := by
      intro r
      induction r with
      | nil => simp
      | cons x r ih => have := hf x; simp; omega
    have h1 := hge r
    have h2 := hf b
    simp only [List.map_cons, List.sum_cons, List.length_cons] at h
    rcases List.mem_cons.1 ha with rfl | ha
    · omega
    · exact sum_ones hf (by omega) a ha
theorem pathOf_spec (l : List Str) : pathOf l = if pathOk (cat1 l) && decide ((names (cat1 l)).length = l.length) then cat1 l else [] := by
  cases l with
  | nil => rfl
  | cons a r =>
    show pathOf (a :: r) = if pathOk (cat (a :: r)) && decide ((names (cat (a :: r))).length = (a :: r).length) then cat (a :: r) else []
    have hlen := split_cat_len (a :: r)
    generalize hl : a :: r = l at *
    have hne : l ≠ [] := by rw [← hl]; simp
    have hlen : (splitBy 47 (cat l)).length = 1 + (l.map fun a => (splitBy 47 a).length).sum := hlen.resolve_right hne
    have hc : cat1 l = cat l := by subst hl; rfl
    by_cases hg : (decide (l.length ≤ 4) && l.all nameOk) = true
    · rw [pathOf, if_pos hg, hc]
      simp only [Bool.and_eq_true, decide_eq_true_eq, List.all_eq_true] at hg
      have hs := split_cat (fun a ha => nameOk_no (hg.2 a ha)) hne
      have hne' : (cat l == sl) = false := by
        subst hl
        rw [beq_eq_false_iff_ne]
        intro e
        have ha := hg.2 a (by simp)
        have : 1 ≤ a.length := by
          simp only [nameOk, inB, Bool.and_eq_true, decide_eq_true_eq] at ha
          omega
        have e2 := congrArg List.length e
        simp only [cat, sl, List.length_cons, List.length_append, List.length_nil] at e2
        omega
      have hl1 : 1 ≤ l.length := by subst hl; simp
      have hp : pathOk (cat l) = true := by
        simp only [pathOk, hne', hs, Bool.false_or, Bool.and_eq_true, inB, decide_eq_true_eq]
        refine ⟨⟨⟨by simp; omega, by simp; omega⟩, rfl⟩, by simpa using hg.2⟩
      rw [if_pos]
      simp [hp, names, hne', hs]
    · rw [pathOf, if_neg hg, if_neg]
      intro h
      apply hg
      simp only [Bool.and_eq_true, decide_eq_true_eq] at h
      obtain ⟨h1, h2⟩ := h
      simp only [names, h1, Bool.true_and] at h2
      have hl1 : 1 ≤ l.length := by subst hl; simp
      by_cases he : (cat l == sl) = true
      · simp [he] at h2; omega
      · have he : (cat l == sl) = false := by simpa using he
        rw [he] at h2
        simp only [Bool.not_false, if_true, List.length_drop] at h2
        have hsum : (l.map fun a => (splitBy 47 a).length).sum = l.length := by omega
        have hno : ∀ a, a ∈ l → ∀ x, x ∈ a → x ≠ 47 := fun a ha => split_one (sum_ones (fun a => split_pos 47 a) hsum a ha)
        have hs := split_cat hno hne
        simp only [pathOk, he, hs, Bool.false_or, Bool.and_eq_true, inB, decide_eq_true_eq] at h1
        simp only [Bool.and_eq_true, decide_eq_true_eq]
        refine ⟨?_, by simpa using h1.2⟩
        have := h1.1.1.2
        simp at this
        omega
theorem cat_len : ∀ (l : List Str), (cat l).length = l.length + (l.map List.length).sum
  | [] => rfl
  | a :: r => by simp [cat, cat_len r]; omega
theorem cat1_len (l : List Str) : (cat1 l).length ≤ l.length + (l.map List.length).sum + 1 := by
  cases l with
  | nil => simp [cat1, sl]
  | cons a r => simp only [cat1]; rw [cat_len]; omega
theorem pathOf_len (l : List Str) : (pathOf l).length ≤ l.length + (l.map List.length).sum + 1 := by
  unfold pathOf
  split
  · exact cat1_len l
  · simp
theorem names_all {p : Str} : (names p).all nameOk = true := by
  unfold names
  split
  · rename_i h
    simp only [Bool.and_eq_true, pathOk, Bool.or_eq_true, Bool.not_eq_true'] at h
    rcases h.1 with h1 | h1
    · rw [h.2] at h1; cases h1
    · exact h1.2
  · rfl
theorem names_len {p : Str} : (names p).length ≤ 4 := by
  unfold names
  split
  · rename_i h
    simp only [Bool.and_eq_true, pathOk, Bool.or_eq_true, Bool.not_eq_true', inB, decide_eq_true_eq] at h
    rcases h.1 with h1 | h1
    · rw [h.2] at h1; cases h1
    · have := h1.1.1.2
      simp; omega
  · simp
theorem nameOk_len {s : Str} (h : nameOk s = true) : s.length ≤ 6 := by
  simp only [nameOk, inB, Bool.and_eq_true, decide_eq_true_eq] at h
  omega
theorem sum_len {l : List Str} {k : Nat} (h : ∀ a, a ∈ l → a.length ≤ k) : (l.map List.length).sum ≤ l.length * k := by
  induction l with
  | nil => simp
  | cons a r ih =>
    have := ih fun x hx => h x (by simp [hx])
    have := h a (by simp)
    simp only [List.map_cons, List.sum_cons, List.length_cons, Nat.add_mul]
    omega
theorem names_sum {p : Str} : ((names p).map List.length).sum ≤ 24 := by
  have h := sum_len (l := names p) (k := 6) fun a ha => nameOk_len (List.all_eq_true.1 names_all a ha)
  have := names_len (p := p)
  omega
theorem sum_take (l : List Str) (k : Nat) : ((l.take k).map List.length).sum ≤ (l.map List.length).sum := by
  induction l generalizing k with
  | nil => simp
  | cons a r ih =>
    cases k with
    | zero => simp
    | succ k => have := ih k; simp only [List.take_succ_cons, List.map_cons, List.sum_cons]; omega
theorem drop1_snoc {α : Type} {l : List α} {i : Nat} {x : α} (h1 : 1 ≤ i) (h : l[i]? = some x) : (l.take (i + 1)).drop 1 = (l.take i).drop 1 ++ [x] := by
  rw [take_succ' h, List.drop_append_of_le_length]
  have := lt_of_get h
  simp; omega
end Go.GH

set_option linter.unusedVariables false
set_option linter.unusedSimpArgs false
namespace Go.GH
open Go
structure It where
  path : Str
  kind : Int
  data : Str
  time : Int
def It.none : It := ⟨[], 0, [], 0⟩
def It.top : It := ⟨sl, 2, [], 0⟩
abbrev Tr := List It
def encI (x : It) : List AV := [.str x.path, .int .i64 x.kind, .str x.data, .int .i64 x.time]
def rdT (t : Tr) : AV := .agg [.rd 4 (t.map encI)]
theorem rdI (l : List It) : toRdRows (l.map encI) = l.map encI := toRdRows_map (fun _ => rfl) l
def idx (t : Tr) (p : Str) : Option Nat := t.findIdx? fun x => x.path == p
def treeGet (t : Tr) (p : Str) : Option It := if p == sl then some It.top else t.find? fun x => x.path == p
def resGet (o : Option It) : AV := .tup [.agg (encI (o.getD It.none)), .bool o.isSome]
def itemOk (x : It) : Bool := pathOk x.path && !(x.path == sl) && inB x.kind 1 3 && (if x.kind == 2 then x.data == [] && x.time == 0 else decide ((x.data.length : Int) ≤ 80) && inB x.time 0 100000)
def dirAt (t : Tr) (p : Str) : Bool := (treeGet t p).isSome && ((treeGet t p).getD It.none).kind == 2
def chk (t : Tr) (i : Nat) : Bool := match t[i]? with
  | some x => itemOk x && (i == 0 || strLt ((t.getD (i - 1) It.none).path) x.path) && dirAt t (above x.path)
  | none => true
def treeOk (t : Tr) : Bool := decide (t.length ≤ 40) && (List.range t.length).all (chk t)
def smT (t : Tr) : Prop := t.length ≤ 4194304 ∧ ∀ x, x ∈ t → x.path.length ≤ 4194304 ∧ x.data.length ≤ 4194304
theorem strLt_irrefl : ∀ a, strLt a a = false
  | [] => rfl
  | x :: a => by simp [strLt, strLt_irrefl a]
theorem strLt_total : ∀ a b, strLt a b = true ∨ a = b ∨ strLt b a = true
  | [], [] => .inr (.inl rfl)
  | [], _ :: _ => .inl rfl
  | _ :: _, [] => .inr (.inr rfl)
  | x :: a, y :: b => by
    simp only [strLt]
    have tri : x < y ∨ x = y ∨ y < x := by
      rcases Nat.lt_trichotomy x.toNat y.toNat with h | h | h
      · exact .inl h
      · exact .inr (.inl (UInt8.toNat_inj.1 h))
      · exact .inr (.inr h)
    rcases tri with h | rfl | h
    · left; simp [h]
    · rcases strLt_total a b with h | rfl | h
      · left; simp [h]
      · right; left; rfl
      · right; right; simp [h]
    · right; right; simp [h]
theorem strLt_asymm : ∀ a b, strLt a b = true → strLt b a = false
  | [], [], h => by cases h
  | [], _ :: _, _ => rfl
  | _ :: _, [], h => by cases h
  | x :: a, y :: b, h => by
    simp only [strLt, Bool.or_eq_true, Bool.and_eq_true, decide_eq_true_eq, beq_iff_eq] at h
    simp only [strLt, Bool.or_eq_false_iff, Bool.and_eq_false_iff, decide_eq_false_iff_not, beq_eq_false_iff_ne]
    rcases h with h | ⟨rfl, h⟩
    · exact ⟨UInt8.not_lt.2 (UInt8.le_of_lt h), .inl fun e => by subst e; exact UInt8.lt_irrefl _ h⟩
    · exact ⟨UInt8.lt_irrefl _, .inr (strLt_asymm a b h)⟩
theorem strLe_not (a b : Str) : (strLt b a || b == a) = !strLt a b := by
  rcases strLt_total a b with h | rfl | h
  · rw [h, strLt_asymm _ _ h]
    have : (b == a) = false := by
      rw [beq_eq_false_iff_ne]; rintro rfl; rw [strLt_irrefl] at h; cases h
    rw [this]; rfl
  · simp [strLt_irrefl]
  · rw [h, strLt_asymm _ _ h]; rfl
theorem find_take_none {α : Type} {p : α → Bool} {l : List α} {i : Nat} {x : α} (h : (l.take i).find? p = none) (hx : l[i]? = some x) (hp : p x = true) : l.find? p = some x := by
  rw [← List.take_append_drop i l, List.find?_append, h]
  have hi := lt_of_get hx
  rw [← List.getElem_cons_drop hi, List.find?_cons]
  rw [List.getElem?_eq_getElem hi] at hx
  rw [Option.some.inj hx, hp]; rfl
theorem find_take_succ {α : Type} {p : α → Bool} {l : List α} {i : Nat} {x : α} (h : (l.take i).find? p = none) (hx : l[i]? = some x) (hp : p x = false) : (l.take (i + 1)).find? p = none := by
  rw [take_succ' hx, List.find?_append, h]
  simp [hp]
theorem chk_all {t : Tr} {f : Nat → Bool} {n : Nat} : (List.range n).all f = true ↔ ∀ j, j < n → f j = true := by simp
theorem treeOk_bad {t : Tr} {i : Nat} (hi : i < t.length) (h : chk t i = false) : treeOk t = false := by
  have : (List.range t.length).all (chk t) = false := by
    rw [List.all_eq_false]; exact ⟨i, List.mem_range.2 hi, by simp [h]⟩
  rw [treeOk, this, Bool.and_false]
theorem treeOk_good {t : Tr} (h : t.length ≤ 40) (h2 : ∀ j, j < t.length → chk t j = true) : treeOk t = true := by
  rw [treeOk, Bool.and_eq_true]
  exact ⟨by simpa using h, chk_all (t := t).2 h2⟩
end Go.GH
namespace Go.GH
open Go
section
variable {t : Tr} {i : Nat} {b pv : It}
def bad1 (i : Nat) (b pv : It) : Bool := !pathOk b.path || b.path == sl || (decide ((i : Int) > 0) && (strLt b.path pv.path || b.path == pv.path)) || !inB b.kind 1 3 || decide ((b.data.length : Int) > 80) || !inB b.time 0 100000
def bad2 (b : It) : Bool := (b.kind == 2) && (!(b.data == []) || b.time != 0)
theorem chk_eq (hb : t[i]? = some b) (hp : t.getD (i - 1) It.none = pv) : chk t i = (itemOk b && (i == 0 || strLt pv.path b.path) && dirAt t (above b.path)) := by
  unfold chk; rw [hb]; simp only [hp]
theorem item_bad : (itemOk b && (i == 0 || strLt pv.path b.path)) = (!bad1 i b pv && !bad2 b) := by
  unfold bad1 bad2 itemOk
  rw [strLe_not]
  have e1 : decide ((i : Int) > 0) = !(i == 0) := by
    rw [Bool.eq_iff_iff]
    simp
    omega
  have e2 : (b.data == []) = true → decide ((b.data.length : Int) > 80) = false := by
    intro h
    have : b.data = [] := by simpa using h
    rw [this]; rfl
  have e3 : (b.time == 0) = true → inB b.time 0 100000 = true := by
    intro h
    have : b.time = 0 := by simpa using h
    rw [this]; rfl
  have e4 : decide ((b.data.length : Int) ≤ 80) = !decide ((b.data.length : Int) > 80) := by
    rw [Bool.eq_iff_iff]
    simp
  have e5 : (b.time != 0) = !(b.time == 0) := rfl
  rw [e1, e4, e5]
  revert e2 e3
  generalize pathOk b.path = P; generalize (b.path == sl) = S; generalize (i == 0) = I; generalize strLt pv.path b.path = O; generalize inB b.kind 1 3 = K
  generalize (b.kind == 2) = D; generalize (b.data == []) = E; generalize (b.time == 0) = Z; generalize decide ((b.data.length : Int) > 80) = L; generalize inB b.time 0 100000 = T
  revert P S I O K D E Z L T
  decide
theorem chk_bad1 (hb : t[i]? = some b) (hp : t.getD (i - 1) It.none = pv) (h : bad1 i b pv = true) : chk t i = false := by
  rw [chk_eq hb hp, item_bad, h]; rfl
theorem chk_bad2 (hb : t[i]? = some b) (h : bad2 b = true) : chk t i = false := by
  rw [chk_eq hb rfl, item_bad, h]; simp
theorem chk_bad3 (hb : t[i]? = some b) (h : dirAt t (above b.path) = false) : chk t i = false := by
  rw [chk_eq hb rfl, h]; simp
theorem chk_good (hb : t[i]? = some b) (hp : t.getD (i - 1) It.none = pv) (h1 : bad1 i b pv = false) (h2 : bad2 b = false) (h3 : dirAt t (above b.path) = true) : chk t i = true := by
  rw [chk_eq hb hp, item_bad, h1, h2, h3]; rfl
theorem above_len (p : Str) : (above p).length ≤ 4194304 := by
  unfold above
  split
  · have := pathOf_len ((names p).take ((names p).length - 1))
    have h2 := sum_take (names p) ((names p).length - 1)
    have h3 := names_sum (p := p)
    have h4 := names_len (p := p)
    rw [List.length_take] at this
    omega
  · simp
theorem treeGet_none {p : Str} : treeGet t p = none ∨ ∃ x, treeGet t p = some x := by
  cases treeGet t p with
  | none => exact .inl rfl
  | some x => exact .inr ⟨x, rfl⟩
end
end Go.GH
namespace Go.GH
open Go
def heavy (a : Str × Int) (x : It) : Str × Int := if x.kind != 2 && decide ((x.data.length : Int) > a.2) then (x.path, x.data.length) else a
def heaviest (t : Tr) : Str := if treeOk t then (t.foldl heavy ([], -1)).1 else []
theorem foldl_take {α β : Type} {f : β → α → β} {l : List α} {i : Nat} {x : α} {b : β} (h : l[i]? = some x) : (l.take (i + 1)).foldl f b = f ((l.take i).foldl f b) x := by
  rw [take_succ' h, List.foldl_append]; rfl
end Go.GH

set_option linter.unusedVariables false
set_option linter.unusedSimpArgs false
namespace Go.GH
open Go
def fnd {α : Type} (p : α → Bool) (l : List α) : Int := if l.any p then (l.findIdx p : Int) else -1
theorem fnd_hit {α : Type} {p : α → Bool} {l : List α} {i : Nat} {x : α} (h : (l.take i).any p = false) (hx : l[i]? = some x) (px : p x = true) : fnd p l = i := by
  have hi := lt_of_get hx
  have ha : l.any p = true := List.any_eq_true.2 ⟨x, List.mem_of_getElem? hx, px⟩
  rw [fnd, if_pos ha]
  congr 1
  have e : l = l.take i ++ x :: l.drop (i + 1) := by
    have := drop_cut (fr := 0) (Nat.zero_le i) hx
    simpa using this
  have h2 : (l.take i).findIdx p = i := by
    rw [List.findIdx_eq_length_of_false]
    · simp; omega
    · intro y hy
      have := List.any_eq_false.1 h y hy
      simpa using this
  conv => lhs; rw [e]
  rw [List.findIdx_append, h2]
  simp [List.findIdx_cons, px]
  omega
theorem fnd_none {α : Type} {p : α → Bool} {l : List α} (h : l.any p = false) : fnd p l = -1 := by
  rw [fnd, if_neg]; simp [h]
theorem any_take_succ {α : Type} {p : α → Bool} {l : List α} {i : Nat} {x : α} (h : (l.take i).any p = false) (hx : l[i]? = some x) (px : p x = false) : (l.take (i + 1)).any p = false := by
  rw [take_succ' hx, List.any_append, h]
  simp [px]
theorem fnd_pos {α : Type} {p : α → Bool} {l : List α} : (decide (fnd p l ≥ 0)) = l.any p := by
  rw [fnd]
  split
  · rename_i h; rw [h]; simp
  · rename_i h
    have : l.any p = false := by simpa using h
    rw [this]; rfl
theorem fnd_ge {α : Type} {p : α → Bool} {l : List α} : -1 ≤ fnd p l ∧ fnd p l ≤ l.length := by
  rw [fnd]
  split
  · have := List.findIdx_le_length (p := p) (xs := l)
    omega
  · omega
theorem fnd_get {α : Type} {p : α → Bool} {l : List α} (h : l.any p = true) : ∃ x, l[(fnd p l).toNat]? = some x ∧ l.find? p = some x := by
  rw [fnd, if_pos h]
  have hl : l.findIdx p < l.length := List.findIdx_lt_length_of_exists (by simpa using h)
  refine ⟨l[l.findIdx p], by simp [hl], ?_⟩
  rw [List.find?_eq_some_iff_getElem]
  refine ⟨List.findIdx_getElem (w := hl), l.findIdx p, hl, rfl, fun j hj => ?_⟩
  have := List.not_of_lt_findIdx hj
  simpa using this
theorem any_find {α : Type} {p : α → Bool} {l : List α} (h : l.any p = false) : l.find? p = none := by
  rw [List.find?_eq_none]
  intro x hx
  exact List.any_eq_false.1 h x hx
end Go.GH
namespace Go.GH
def smL (l : List Str) : Prop := l.length ≤ 4194304 ∧ ∀ s, s ∈ l → s.length ≤ 4194304
end Go.GH

set_option linter.unusedVariables false
set_option linter.unusedSimpArgs false
namespace Go.GH
open Go Go.Proofs
def toB (s : Str) : ByteArray := ⟨⟨s⟩⟩
theorem rd_strs {y : Ctx} {w : World} {h : Heap} {n : Nat → Prop} {ρ : Option Nat → Place} {l : List Str} {v : Value} (hs : SRep y w h n ρ (.rd 1 (l.map encS)) v) (hw : y.wr = w) :
    ∃ a cap, v = .slice a l.length cap ∧ l.length ≤ cap ∧ (l ≠ [] → ∃ b o, a = some ⟨b, o, none⟩ ∧ y.R b ∧ ∀ (j : Nat) s, l[j]? = some s → w.cell? ⟨b, o + j, none⟩ = some (bytesV s)) := by
  cases hs with
  | cell hr =>
    cases hr with
    | rd u hcap hrow hc hr =>
      rename_i a cap
      refine ⟨a, cap, by simp, by simpa using hcap, fun hne => ?_⟩
      have at_ : ∀ (j : Nat) s, l[j]? = some s → cellAt (l.map encS) j 0 = some (.str s) := by
        intro j s hj
        simp [cellAt, hj, encS]
      obtain ⟨x, hx⟩ : ∃ x, l[0]? = some x := get_lt (List.length_pos_iff.2 hne)
      obtain ⟨b, o, ha, hR, _, _⟩ := hc 0 0 _ (at_ 0 x hx)
      refine ⟨b, o, ha, hR, fun j s hj => ?_⟩
      obtain ⟨b', o', ha', _, _, hcell⟩ := hc j 0 _ (at_ j s hj)
      have hrep := hr j 0 _ (at_ j s hj)
      rw [ha] at ha'
      simp only [Option.some.injEq, Addr.mk.injEq, and_true] at ha'
      obtain ⟨rfl, rfl⟩ := ha'
      have hu : u j 0 = bytesV s := srep_str (h := h) (n := n) (ρ := ρ) (.cell hrep)
      rw [hw, hu] at hcell
      simpa using hcell
theorem le_sum : ∀ {l : List Str} {s : Str}, s ∈ l → s.length ≤ (l.map List.length).sum
  | a :: r, s, h => by
    rcases List.mem_cons.1 h with rfl | h
    · simp
    · have := le_sum h; simp; omega
theorem join_cat (l : List Str) : sl ++ Lib.join l sl = cat1 l := by
  cases l with
  | nil => rfl
  | cons a r =>
    have : ∀ (r : List Str), Lib.joinTail sl r = cat r := by
      intro r
      induction r with
      | nil => rfl
      | cons b r ih =>
        rw [cat, ← ih]
        simp [Lib.joinTail, sl]
    rw [Lib.join_cons, this]
    simp [cat1, cat, sl]
end Go.GH

set_option linter.unusedVariables false
set_option linter.unusedSimpArgs false
namespace Go.GH
open Go
def szR (left : Int) (n : Nat) : Int := if left - n < 0 then -1 else left - n
def szI (x : It) : Nat := x.path.length + x.data.length
def szT (t : Tr) : Nat := t.length + (t.map szI).sum
theorem sum_take' {α : Type} {f : α → Nat} {l : List α} {i : Nat} {x : α} (h : l[i]? = some x) : ((l.take (i + 1)).map f).sum = ((l.take i).map f).sum + f x := by
  rw [take_succ' h]; simp
theorem sum_take_le {α : Type} {f : α → Nat} {l : List α} {i : Nat} : ((l.take i).map f).sum ≤ (l.map f).sum := by
  conv => rhs; rw [← List.take_append_drop i l, List.map_append, List.sum_append]
  omega
theorem szT_sm {t : Tr} {n : Nat} (h : szT t ≤ n) (hn : n ≤ 4194304) : smT t := by
  unfold szT at h
  refine ⟨by omega, fun x hx => ?_⟩
  have h2 : szI x ≤ (t.map szI).sum := by
    obtain ⟨i, hi⟩ := List.mem_iff_getElem?.1 hx
    have h3 := sum_take' (f := szI) hi
    have h4 := sum_take_le (f := szI) (l := t) (i := i + 1)
    omega
  have h5 : szI x = x.path.length + x.data.length := rfl
  omega
theorem szR_ok {left : Int} {n : Nat} (h : ¬ szR left n < 0) : (n : Int) ≤ left := by
  unfold szR at h
  split at h <;> omega
def filled {α : Type} (f : α → List AV) (z : List AV) (l : List α) (i : Nat) : List (List AV) := (l.take i).map f ++ List.replicate (l.length - i) z
theorem filled_len {α : Type} {f : α → List AV} {z : List AV} {l : List α} {i : Nat} (hi : i ≤ l.length) : (filled f z l i).length = l.length := by
  simp [filled]; omega
theorem filled_zero {α : Type} {f : α → List AV} {z : List AV} {l : List α} : filled f z l 0 = List.replicate l.length z := by simp [filled]
theorem filled_all {α : Type} {f : α → List AV} {z : List AV} {l : List α} : filled f z l l.length = l.map f := by simp [filled]
theorem filled_get {α : Type} {f : α → List AV} {z : List AV} {l : List α} {i : Nat} (hi : i < l.length) : (filled f z l i)[i]? = some z := by
  unfold filled
  rw [List.getElem?_append_right (by simp; omega)]
  simp [List.getElem?_replicate]
  omega
theorem filled_set {α : Type} {f : α → List AV} {z : List AV} {l : List α} {i : Nat} {x : α} (hx : l[i]? = some x) : (filled f z l i).set i (f x) = filled f z l (i + 1) := by
  have hi := lt_of_get hx
  unfold filled
  rw [take_succ' hx, List.set_append_right _ _ (by simp; omega)]
  have e : l.length - i = (l.length - (i + 1)) + 1 := by omega
  have e2 : i - ((l.take i).map f).length = 0 := by simp; omega
  rw [e2, e, List.replicate_succ, List.set_cons_zero]
  simp
theorem argT {s : Nat} {x x' : List (List AV)} (h1 : x = x') : [AV.agg [AV.rd s x]] = [AV.agg [AV.rd s x']] := by rw [h1]
theorem argTT {s s2 : Nat} {x x' y y' : List (List AV)} (h1 : x = x') (h2 : y = y') : [AV.agg [AV.rd s x], AV.agg [AV.rd s2 y]] = [AV.agg [AV.rd s x'], AV.agg [AV.rd s2 y']] := by rw [h1, h2]
def itEq (a b : It) : Bool := a.path == b.path && a.kind == b.kind && a.data == b.data && a.time == b.time
theorem itEq_self (a : It) : itEq a a = true := by simp [itEq]
end Go.GH

set_option linter.unusedVariables false
namespace Go.GH
open Go Go.Proofs
def tyTab : List (Nat × Ty) := [
 (2, ⟨.int .i64, 1, 8, [.int .i64 0], [none]⟩),
 (3, ⟨.int .i64, 1, 8, [.int .i64 0], [none]⟩),
 (4, ⟨.bool, 1, 1, [.bool false], [none]⟩),
 (5, ⟨.int .u8, 1, 1, [.int .u8 0], [none]⟩),
 (6, ⟨.int .u8, 1, 1, [.int .u8 0], [none]⟩),
 (7, ⟨.struct [(0, 2), (1, 3), (2, 4), (3, 6)], 4, 24, [.int .i64 0, .int .i64 0, .bool false, .int .u8 0], [none, none, none, none]⟩),
 (8, ⟨.struct [(0, 2), (1, 3), (2, 4), (3, 6)], 4, 24, [.int .i64 0, .int .i64 0, .bool false, .int .u8 0], [none, none, none, none]⟩),
 (9, ⟨.str, 1, 16, [.str []], [none]⟩),
 (10, ⟨.str, 1, 16, [.str []], [none]⟩),
 (11, ⟨.str, 1, 16, [.str []], [none]⟩),
 (12, ⟨.int .u64, 1, 8, [.int .u64 0], [none]⟩),
 (15, ⟨.ptr 229, 1, 8, [.undef], [none]⟩),
 (16, ⟨.ptr 232, 1, 8, [.undef], [none]⟩),
 (17, ⟨.ptr 239, 1, 8, [.undef], [none]⟩),
 (20, ⟨.iface, 1, 16, [.nilI], [none]⟩),
 (21, ⟨.int .i32, 1, 4, [.int .i32 0], [none]⟩),
 (22, ⟨.slice 5, 1, 24, [.own 1 []], [some 1]⟩),
 (24, ⟨.slice 32, 1, 24, [.own 4 []], [some 4]⟩),
 (25, ⟨.struct [(0, 24)], 1, 24, [.own 4 []], [some 4]⟩),
 (26, ⟨.struct [(0, 24)], 1, 24, [.own 4 []], [some 4]⟩),
 (31, ⟨.struct [(0, 9), (1, 3), (2, 9), (3, 3)], 4, 48, [.str [], .int .i64 0, .str [], .int .i64 0], [none, none, none, none]⟩),
 (32, ⟨.struct [(0, 9), (1, 3), (2, 9), (3, 3)], 4, 48, [.str [], .int .i64 0, .str [], .int .i64 0], [none, none, none, none]⟩),
 (36, ⟨.slice 9, 1, 24, [.own 1 []], [some 1]⟩),
 (39, ⟨.slice 116, 1, 24, [.own 4 []], [some 4]⟩),
 (40, ⟨.struct [(0, 39)], 1, 24, [.own 4 []], [some 4]⟩),
 (41, ⟨.struct [(0, 39)], 1, 24, [.own 4 []], [some 4]⟩),
 (42, ⟨.slice 80, 1, 24, [.own 6 []], [some 6]⟩),
 (45, ⟨.slice 3, 1, 24, [.own 1 []], [some 1]⟩),
 (49, ⟨.slice 84, 1, 24, [.own 6 []], [some 6]⟩),
 (65, ⟨.ptr 100, 1, 8, [.undef], [none]⟩),
 (79, ⟨.struct [(0, 3), (1, 9), (2, 9), (3, 3), (4, 9), (5, 3)], 6, 72, [.int .i64 0, .str [], .str [], .int .i64 0, .str [], .int .i64 0], [none, none, none, none, none, none]⟩),
 (80, ⟨.struct [(0, 3), (1, 9), (2, 9), (3, 3), (4, 9), (5, 3)], 6, 72, [.int .i64 0, .str [], .str [], .int .i64 0, .str [], .int .i64 0], [none, none, none, none, none, none]⟩),
 (84, ⟨.struct [(0, 3), (1, 9), (2, 9), (3, 3), (4, 9), (5, 3)], 6, 72, [.int .i64 0, .str [], .str [], .int .i64 0, .str [], .int .i64 0], [none, none, none, none, none, none]⟩),
 (99, ⟨.struct [(0, 22), (1, 3), (2, 3)], 3, 40, [.own 1 [], .int .i64 0, .int .i64 0], [some 1, none, none]⟩),
 (100, ⟨.struct [(0, 22), (1, 3), (2, 3)], 3, 40, [.own 1 [], .int .i64 0, .int .i64 0], [some 1, none, none]⟩),
 (102, ⟨.slice 171, 1, 24, [.own 5 []], [some 5]⟩),
 (103, ⟨.struct [(0, 102), (1, 36)], 2, 48, [.own 5 [], .own 1 []], [some 5, some 1]⟩),
 (104, ⟨.struct [(0, 102), (1, 36)], 2, 48, [.own 5 [], .own 1 []], [some 5, some 1]⟩),
 (116, ⟨.struct [(0, 9), (1, 3), (2, 9), (3, 3)], 4, 48, [.str [], .int .i64 0, .str [], .int .i64 0], [none, none, none, none]⟩),
 (124, ⟨.int .u64, 1, 8, [.int .u64 0], [none]⟩),
 (138, ⟨.ptr 140, 1, 8, [.undef], [none]⟩),
 (139, ⟨.struct [(0, 138), (1, 22)], 2, 32, [.undef, .own 1 []], [none, some 1]⟩),
 (140, ⟨.struct [(0, 138), (1, 22)], 2, 32, [.undef, .own 1 []], [none, some 1]⟩),
 (142, ⟨.iface, 1, 16, [.nilI], [none]⟩),
 (143, ⟨.iface, 1, 16, [.nilI], [none]⟩),
 (150, ⟨.ptr 32, 1, 8, [.undef], [none]⟩),
 (157, ⟨.int .i64, 1, 8, [.int .i64 0], [none]⟩),
 (165, ⟨.int .u32, 1, 4, [.int .u32 0], [none]⟩),
 (167, ⟨.int .u64, 1, 8, [.int .u64 0], [none]⟩),
 (170, ⟨.struct [(0, 3), (1, 3), (2, 3), (3, 3), (4, 45)], 5, 56, [.int .i64 0, .int .i64 0, .int .i64 0, .int .i64 0, .own 1 []], [none, none, none, none, some 1]⟩),
 (171, ⟨.struct [(0, 3), (1, 3), (2, 3), (3, 3), (4, 45)], 5, 56, [.int .i64 0, .int .i64 0, .int .i64 0, .int .i64 0, .own 1 []], [none, none, none, none, some 1]⟩),
 (172, ⟨.slice 176, 1, 24, [.own 2 []], [some 2]⟩),
 (175, ⟨.struct [(0, 9), (1, 3)], 2, 24, [.str [], .int .i64 0], [none, none]⟩),
 (176, ⟨.struct [(0, 9), (1, 3)], 2, 24, [.str [], .int .i64 0], [none, none]⟩),
 (189, ⟨.ptr 5, 1, 8, [.undef], [none]⟩),
 (190, ⟨.int .u64, 1, 8, [.int .u64 0], [none]⟩),
 (194, ⟨.ptr 3, 1, 8, [.undef], [none]⟩),
 (213, ⟨.ptr 190, 1, 8, [.undef], [none]⟩),
 (233, ⟨.int .u8, 1, 1, [.int .u8 0], [none]⟩),
 (234, ⟨.int .u8, 1, 1, [.int .u8 0], [none]⟩),
 (236, ⟨.int .i32, 1, 4, [.int .i32 0], [none]⟩),
 (237, ⟨.int .i32, 1, 4, [.int .i32 0], [none]⟩)]
theorem tab_ok : tabOk Tryz.prog tyTab = true := by kernel_rfl
theorem tabT (F : Nat → Option PCon) (kp : List Nat) : TOk Tryz.prog ⟨lookup tyTab, F, kp⟩ := fun t ty h => tabOk_T tab_ok t ty h
theorem mixed : Tryz.prog.follows .mixedOrders = true := by kernel_rfl
def codeOf (f : Func) : Code := match f.body with
  | some c => c
  | none => .skip
end Go.GH

set_option linter.unusedVariables false
set_option linter.unusedSimpArgs false
namespace Go.GH
open Go Go.Proofs
noncomputable def c_spec_l1In : PCon := con [mC, mC, mC] true (Int × Int × Int) (fun x => [.int .i64 x.1, .int .i64 x.2.1, .int .i64 x.2.2]) (fun _ => True) (fun x => .bool (inB x.1 x.2.1 x.2.2))
noncomputable def E_spec_l1In : Env := ⟨lookup tyTab, lookup [], [0, 1, 2, 6]⟩
set_option maxRecDepth 100000 in
set_option maxHeartbeats 4000000 in
theorem m_spec_l1In : Meets E_spec_l1In (codeOf Tryz.f76) Tryz.f76.results.toList c_spec_l1In := by
  rintro ⟨x, lo, hi⟩ _
  refine ⟨trivial, ?_⟩
  repeat ((conv => whnf); refine ⟨fun h => h, ?_⟩)
  exact ⟨trivial, rfl⟩
theorem ok_spec_l1In : ConOk Tryz.prog 76 c_spec_l1In := meets_ok (tabT _ _) FOk.nil mixed Tryz.func76 rfl Tryz.call76 (by decide) (by kernel_rfl) m_spec_l1In (by intro _ (y : (Int × Int × Int)) _; exact ⟨by simp [c_spec_l1In, con, conG, conW, AV.noRd, noRdCells, noRdRows, noRdRows_map', encS], by simp [c_spec_l1In, con, conG, conW, AV.noRd, noRdCells, noRdRows, noRdRows_map', encS]⟩) (by intro (y : (Int × Int × Int)) _; first | (simp [c_spec_l1In, con, conG, conW, conP, AV.free, freeCells, freeRows, freeRows_map, encS]; done) | (obtain ⟨_, _⟩ := y; simp [c_spec_l1In, con, conG, conW, conP, AV.free, freeCells, freeRows, freeRows_map, encS]; done) | (obtain ⟨_, _, _⟩ := y; simp [c_spec_l1In, con, conG, conW, conP, AV.free, freeCells, freeRows, freeRows_map, encS]; done))
noncomputable def c_impl_within : PCon := con [mC, mC, mC] true (Int × Int × Int) (fun x => [.int .i64 x.1, .int .i64 x.2.1, .int .i64 x.2.2]) (fun _ => True) (fun x => .bool (inB x.1 x.2.1 x.2.2))
noncomputable def E_impl_within : Env := ⟨lookup tyTab, lookup [], [0, 1, 2, 6]⟩
set_option maxRecDepth 100000 in
set_option maxHeartbeats 4000000 in
theorem m_impl_within : Meets E_impl_within (codeOf Tryz.f91) Tryz.f91.results.toList c_impl_within := by
  rintro ⟨x, lo, hi⟩ _
  refine ⟨trivial, ?_⟩
  repeat ((conv => whnf); refine ⟨fun h => h, ?_⟩)
  exact ⟨trivial, rfl⟩
theorem ok_impl_within : ConOk Tryz.prog 91 c_impl_within := meets_ok (tabT _ _) FOk.nil mixed Tryz.func91 rfl Tryz.call91 (by decide) (by kernel_rfl) m_impl_within (by intro _ (y : (Int × Int × Int)) _; exact ⟨by simp [c_impl_within, con, conG, conW, AV.noRd, noRdCells, noRdRows, noRdRows_map', encS], by simp [c_impl_within, con, conG, conW, AV.noRd, noRdCells, noRdRows, noRdRows_map', encS]⟩) (by intro (y : (Int × Int × Int)) _; first | (simp [c_impl_within, con, conG, conW, conP, AV.free, freeCells, freeRows, freeRows_map, encS]; done) | (obtain ⟨_, _⟩ := y; simp [c_impl_within, con, conG, conW, conP, AV.free, freeCells, freeRows, freeRows_map, encS]; done) | (obtain ⟨_, _, _⟩ := y; simp [c_impl_within, con, conG, conW, conP, AV.free, freeCells, freeRows, freeRows_map, encS]; done))
noncomputable def c_spec_NameOk : PCon := con [mC] true Str encS (fun s => s.length ≤ 4611686018427387904) (fun s => .bool (nameOk s))
noncomputable def E_spec_NameOk : Env := ⟨lookup tyTab, lookup [(76, c_spec_l1In)], [0, 2, 3, 7, 11, 36]⟩
set_option maxRecDepth 100000 in
set_option maxHeartbeats 4000000 in
theorem m_spec_NameOk : Meets E_spec_NameOk (codeOf Tryz.f118) Tryz.f118.results.toList c_spec_NameOk := by
  intro (s : Str) hs
  have hs : s.length ≤ 4611686018427387904 := hs
  refine ⟨trivial, ?_⟩
  conv => whnf
  refine ⟨(s.length, 1, 6), rfl, fun _ => trivial, ?_⟩
  conv => whnf
  refine ⟨fun h => ?_, fun h => ?_⟩
  · conv => whnf
    have h : inB s.length 1 6 = false := by simpa using h
    exact ⟨trivial, eqB (by simp [nameOk, h])⟩
  have h : inB s.length 1 6 = true := by simpa using h
  conv => whnf
  refine loop_rule (fun i : Nat => ⟨[(0, ⟨none, .str s⟩), (3, ⟨none, .int .i64 i⟩)], [], 0⟩) (fun i => i ≤ s.length ∧ (s.take i).all isNm = true) (fun i => s.length - i) 0 ?_ ⟨by omega, rfl⟩ ?_
  · exact ⟨⟨rfl, rfl, trivial⟩, trivial, rfl⟩
  rintro i ⟨hi, ha⟩
  conv => whnf
  refine ⟨fun h1 => ?_, fun h1 => ?_⟩
  · have h1 : i < s.length := by simpa using h1
    obtain ⟨b, hb⟩ := get_lt h1
    repeat first
      | ((conv => whnf); refine ⟨fun h => h, ?_⟩)
      | ((conv => whnf); refine ⟨b, fun _ => ⟨Int.natCast_nonneg _, hb⟩, ?_⟩)
    refine ⟨fun h2 => ?_, fun h2 => ?_⟩
    · conv => whnf
      have h2 : (!isNm b) = true := h2
      refine ⟨trivial, eqB (Eq.symm ?_)⟩
      have hm : b ∈ s := List.mem_of_getElem? hb
      simp only [nameOk, Bool.and_eq_false_iff]
      exact .inr (by rw [List.all_eq_false]; exact ⟨b, hm, by simpa using h2⟩)
    · have h2 : isNm b = true := by have : (!isNm b) = false := h2; simpa using this
      conv => whnf
      refine ⟨_, w64 (by omega), ?_⟩
      conv => whnf
      refine again (i + 1) ?_ ⟨by omega, ?_⟩ (by omega)
      · exact ⟨⟨rfl, rfl, trivial⟩, trivial, rfl⟩
      · rw [take_succ' hb]; simp [ha, h2]
  · have h1 : i = s.length := by have : ¬ (i < s.length) := by simpa using h1
                                 omega
    subst h1
    conv => whnf
    rw [List.take_length] at ha
    exact ⟨trivial, eqB (by simp [nameOk, h, ha])⟩
theorem ok_spec_NameOk : ConOk Tryz.prog 118 c_spec_NameOk := meets_ok (tabT _ _) (FOk.cons ok_spec_l1In FOk.nil) mixed Tryz.func118 rfl Tryz.call118 (by decide) (by kernel_rfl) m_spec_NameOk (by intro _ (y : Str) _; exact ⟨by simp [c_spec_NameOk, con, conG, conW, AV.noRd, noRdCells, noRdRows, noRdRows_map', encS], by simp [c_spec_NameOk, con, conG, conW, AV.noRd, noRdCells, noRdRows, noRdRows_map', encS]⟩) (by intro (y : Str) _; first | (simp [c_spec_NameOk, con, conG, conW, conP, AV.free, freeCells, freeRows, freeRows_map, encS]; done) | (obtain ⟨_, _⟩ := y; simp [c_spec_NameOk, con, conG, conW, conP, AV.free, freeCells, freeRows, freeRows_map, encS]; done) | (obtain ⟨_, _, _⟩ := y; simp [c_spec_NameOk, con, conG, conW, conP, AV.free, freeCells, freeRows, freeRows_map, encS]; done))
noncomputable def c_impl_NameOk : PCon := con [mC] true Str encS (fun s => s.length ≤ 4611686018427387904) (fun s => .bool (nameOk s))
noncomputable def E_impl_NameOk : Env := ⟨lookup tyTab, lookup [(91, c_impl_within)], [0, 2, 3, 7, 9, 10, 11, 34]⟩
set_option maxRecDepth 100000 in
set_option maxHeartbeats 4000000 in
theorem m_impl_NameOk : Meets E_impl_NameOk (codeOf Tryz.f94) Tryz.f94.results.toList c_impl_NameOk := by
  intro (s : Str) hs
  have hs : s.length ≤ 4611686018427387904 := hs
  refine ⟨trivial, ?_⟩
  conv => whnf
  refine ⟨(s.length, 1, 6), rfl, fun _ => trivial, ?_⟩
  conv => whnf
  refine ⟨fun h => ?_, fun h => ?_⟩
  · conv => whnf
    have h : inB s.length 1 6 = false := by simpa using h
    exact ⟨trivial, eqB (by simp [nameOk, h])⟩
  have h : inB s.length 1 6 = true := by simpa using h
  conv => whnf
  refine loop_rule (fun i : Nat => ⟨[(0, ⟨none, .str s⟩), (9, ⟨none, .int .i64 s.length⟩), (10, ⟨none, .int .i64 i⟩)], [], 0⟩) (fun i => i ≤ s.length ∧ (s.take i).all isNm = true) (fun i => s.length - i) 0 ?_ ⟨by omega, rfl⟩ ?_
  · exact ⟨⟨rfl, rfl, rfl, trivial⟩, trivial, rfl⟩
  rintro i ⟨hi, ha⟩
  conv => whnf
  refine ⟨fun h1 => ?_, fun h1 => ?_⟩
  · have h1 : i < s.length := by simpa using h1
    obtain ⟨b, hb⟩ := get_lt h1
    repeat first
      | ((conv => whnf); refine ⟨fun h => h, ?_⟩)
      | ((conv => whnf); refine ⟨b, fun _ => ⟨Int.natCast_nonneg _, hb⟩, ?_⟩)
    refine ⟨fun h2 => ?_, fun h2 => ?_⟩
    · conv => whnf
      have h2 : (!isNm b) = true := (isNm' b).symm.trans h2
      refine ⟨trivial, eqB (Eq.symm ?_)⟩
      have hm : b ∈ s := List.mem_of_getElem? hb
      simp only [nameOk, Bool.and_eq_false_iff]
      exact .inr (by rw [List.all_eq_false]; exact ⟨b, hm, by simpa using h2⟩)
    · have h2 : isNm b = true := by have : (!isNm b) = false := (isNm' b).symm.trans h2
                                    simpa using this
      conv => whnf
      refine ⟨_, w64 (by omega), ?_⟩
      conv => whnf
      refine again (i + 1) ?_ ⟨by omega, ?_⟩ (by omega)
      · exact ⟨⟨rfl, rfl, rfl, trivial⟩, trivial, rfl⟩
      · rw [take_succ' hb]; simp [ha, h2]
  · have h1 : i = s.length := by have : ¬ (i < s.length) := by simpa using h1
                                 omega
    subst h1
    conv => whnf
    rw [List.take_length] at ha
    exact ⟨trivial, eqB (by simp [nameOk, h, ha])⟩
theorem ok_impl_NameOk : ConOk Tryz.prog 94 c_impl_NameOk := meets_ok (tabT _ _) (FOk.cons ok_impl_within FOk.nil) mixed Tryz.func94 rfl Tryz.call94 (by decide) (by kernel_rfl) m_impl_NameOk (by intro _ (y : Str) _; exact ⟨by simp [c_impl_NameOk, con, conG, conW, AV.noRd, noRdCells, noRdRows, noRdRows_map', encS], by simp [c_impl_NameOk, con, conG, conW, AV.noRd, noRdCells, noRdRows, noRdRows_map', encS]⟩) (by intro (y : Str) _; first | (simp [c_impl_NameOk, con, conG, conW, conP, AV.free, freeCells, freeRows, freeRows_map, encS]; done) | (obtain ⟨_, _⟩ := y; simp [c_impl_NameOk, con, conG, conW, conP, AV.free, freeCells, freeRows, freeRows_map, encS]; done) | (obtain ⟨_, _, _⟩ := y; simp [c_impl_NameOk, con, conG, conW, conP, AV.free, freeCells, freeRows, freeRows_map, encS]; done))
end Go.GH

set_option linter.unusedVariables false
set_option linter.unusedSimpArgs false
namespace Go.GH
open Go Go.Proofs
noncomputable def c_spec_Parts : PCon := con [mC, mC] false (Str × UInt8) (fun x => [.str x.1, .int .u8 x.2.toNat]) (fun x => sml x.1.length) (fun x => .own 1 ((splitBy x.2 x.1).map encS))
noncomputable def E_spec_Parts : Env := ⟨lookup tyTab, lookup [], [0, 1, 4, 5, 6, 7, 12, 25]⟩
set_option maxRecDepth 100000 in
set_option maxHeartbeats 4000000 in
theorem m_spec_Parts : Meets E_spec_Parts (codeOf Tryz.f117) Tryz.f117.results.toList c_spec_Parts := by
  rintro ⟨s, c⟩ hs
  have hs : s.length ≤ 4194304 := hs
  refine ⟨trivial, ?_⟩
  conv => whnf
  refine loop_rule (fun ((i, fr, out) : Nat × Nat × List Str) => ⟨[(0, ⟨none, .str s⟩), (1, ⟨none, .int .u8 c.toNat⟩), (5, ⟨none, .view 0 [] 0 (out.map encS).length⟩), (6, ⟨none, .int .i64 fr⟩), (7, ⟨none, .int .i64 i⟩)], [(0, .own 1 (out.map encS))], 1⟩)
    (fun (i, fr, out) => SplitInv c s i fr out ∨ (i = s.length + 1 ∧ out = splitBy c s)) (fun x => s.length + 2 - x.1) (0, 0, []) ?_ (.inl (SplitInv.zero c s)) ?_
  · (refine ⟨?_, ?_, rfl⟩ <;> repeat' (first | exact rfl | exact trivial | refine ⟨?_, ?_⟩ | fail) <;> (conv => whnf))
  rintro ⟨i, fr, out⟩ hI
  (conv => whnf); refine ⟨fun h1 => ?_, fun h1 => ?_⟩
  · have h1 : i ≤ s.length := by simpa using h1
    have hI : SplitInv c s i fr out := by
      rcases hI with h | h
      · exact h
      · omega
    have hle := hI.le
    have hlen := hI.len
    repeat ((conv => whnf); refine ⟨fun h => h, ?_⟩)
    conv => whnf
    rcases Nat.lt_or_ge i s.length with hi | hi
    · obtain ⟨b, hb⟩ := get_lt hi
      refine ⟨b, fun _ => ⟨Int.natCast_nonneg _, hb⟩, ?_⟩
      repeat ((conv => whnf); refine ⟨fun h => h, ?_⟩)
      (conv => whnf); refine ⟨fun h2 => ?_, fun h2 => ?_⟩
      · have h2 : b = c := by
          have h2 : ((i : Int) == (s.length : Int) || ((b.toNat : Int) == (c.toNat : Int))) = true := h2
          rcases Bool.or_eq_true _ _ ▸ h2 with h | h
          · simp at h; omega
          · exact byteEq.1 h
        repeat ((conv => whnf); first | refine ⟨_, w64 (by (show (_ : Prop)); first | omega | ((try dsimp only at *); (try simp only [lns] at *); omega)), ?_⟩ | refine ⟨fun _ => ⟨by (show (_ : Prop)); first | omega | ((try dsimp only at *); (try simp only [lns] at *); omega), by (show (_ : Prop)); first | omega | ((try dsimp only at *); (try simp only [lns] at *); omega), by (show (_ : Prop)); first | omega | ((try dsimp only at *); (try simp only [lns] at *); omega)⟩, ?_⟩ | refine ⟨by (show (_ : Prop)); first | omega | ((try dsimp only at *); (try simp only [lns] at *); omega), ?_⟩ | refine ⟨fun (r : List AV) hr c hc => by simp [encS] at hr; (try subst hr); simp at hc; (try subst hc); rfl, ?_⟩)
        refine again (i + 1, i + 1, _) ?_ (.inl (hI.hit hb h2)) (by first | omega | (simp; done) | (simp; omega))
        (refine ⟨?_, ?_, rfl⟩ <;> repeat' (first | exact rfl | exact trivial | refine ⟨?_, ?_⟩ | fail) <;> (conv => whnf))
        all_goals simp [encS]
      · have h2 : b ≠ c := by
          have h2 : ((i : Int) == (s.length : Int) || ((b.toNat : Int) == (c.toNat : Int))) = false := h2
          simp at h2
          exact fun e => h2.2 (by rw [e])
        conv => whnf
        refine ⟨_, w64 (by omega), ?_⟩
        conv => whnf
        refine again (i + 1, fr, out) ?_ (.inl (hI.pass hb h2)) (by first | omega | (simp; done) | (simp; omega))
        (refine ⟨?_, ?_, rfl⟩ <;> repeat' (first | exact rfl | exact trivial | refine ⟨?_, ?_⟩ | fail) <;> (conv => whnf))
    · have e : i = s.length := by omega
      subst e
      refine ⟨0, fun h => by simp [gtrue] at h, ?_⟩
      repeat ((conv => whnf); refine ⟨fun h => h, ?_⟩)
      (conv => whnf); refine ⟨fun h2 => ?_, fun h2 => ?_⟩
      · repeat ((conv => whnf); first | refine ⟨_, w64 (by (show (_ : Prop)); first | omega | ((try dsimp only at *); (try simp only [lns] at *); omega)), ?_⟩ | refine ⟨fun _ => ⟨by (show (_ : Prop)); first | omega | ((try dsimp only at *); (try simp only [lns] at *); omega), by (show (_ : Prop)); first | omega | ((try dsimp only at *); (try simp only [lns] at *); omega), by (show (_ : Prop)); first | omega | ((try dsimp only at *); (try simp only [lns] at *); omega)⟩, ?_⟩ | refine ⟨by (show (_ : Prop)); first | omega | ((try dsimp only at *); (try simp only [lns] at *); omega), ?_⟩ | refine ⟨fun (r : List AV) hr c hc => by simp [encS] at hr; (try subst hr); simp at hc; (try subst hc); rfl, ?_⟩)
        refine again (s.length + 1, s.length + 1, _) ?_ (.inr ⟨rfl, hI.fin.symm⟩) (by first | omega | (simp; done) | (simp; omega))
        (refine ⟨?_, ?_, rfl⟩ <;> repeat' (first | exact rfl | exact trivial | refine ⟨?_, ?_⟩ | fail) <;> (conv => whnf))
        all_goals simp [encS]
      · simp at h2
  · have h1 : s.length < i := by simpa using h1
    have hI : out = splitBy c s := by
      rcases hI with h | h
      · have := h.il; omega
      · exact h.2
    conv => whnf
    exact ⟨trivial, eqOwn (by simp [hI])⟩
theorem ok_spec_Parts : ConOk Tryz.prog 117 c_spec_Parts := meets_ok (tabT _ _) FOk.nil mixed Tryz.func117 rfl Tryz.call117 (by decide) (by kernel_rfl) m_spec_Parts (by intro _ (y : (Str × UInt8)) _; exact ⟨by simp [c_spec_Parts, con, conG, conW, AV.noRd, noRdCells, noRdRows, noRdRows_map', encS], by simp [c_spec_Parts, con, conG, conW, AV.noRd, noRdCells, noRdRows, noRdRows_map', encS]⟩) (by intro (y : (Str × UInt8)) _; first | (simp [c_spec_Parts, con, conG, conW, conP, AV.free, freeCells, freeRows, freeRows_map, encS]; done) | (obtain ⟨_, _⟩ := y; simp [c_spec_Parts, con, conG, conW, conP, AV.free, freeCells, freeRows, freeRows_map, encS]; done) | (obtain ⟨_, _, _⟩ := y; simp [c_spec_Parts, con, conG, conW, conP, AV.free, freeCells, freeRows, freeRows_map, encS]; done))
noncomputable def c_impl_Parts : PCon := con [mC, mC] false (Str × UInt8) (fun x => [.str x.1, .int .u8 x.2.toNat]) (fun x => sml x.1.length) (fun x => .own 1 ((splitBy x.2 x.1).map encS))
noncomputable def E_impl_Parts : Env := ⟨lookup tyTab, lookup [], [0, 1, 4, 5, 6, 7, 12, 19]⟩
set_option maxRecDepth 100000 in
set_option maxHeartbeats 4000000 in
theorem m_impl_Parts : Meets E_impl_Parts (codeOf Tryz.f90) Tryz.f90.results.toList c_impl_Parts := by
  rintro ⟨s, c⟩ hs
  have hs : s.length ≤ 4194304 := hs
  refine ⟨trivial, ?_⟩
  conv => whnf
  refine loop_rule (fun ((i, fr, out) : Nat × Nat × List Str) => ⟨[(0, ⟨none, .str s⟩), (1, ⟨none, .int .u8 c.toNat⟩), (5, ⟨none, .view 0 [] 0 (out.map encS).length⟩), (6, ⟨none, .int .i64 fr⟩), (7, ⟨none, .int .i64 i⟩)], [(0, .own 1 (out.map encS))], 1⟩)
    (fun (i, fr, out) => SplitInv c s i fr out) (fun x => s.length - x.1) (0, 0, []) ?_ (SplitInv.zero c s) ?_
  · (refine ⟨?_, ?_, rfl⟩ <;> repeat' (first | exact rfl | exact trivial | refine ⟨?_, ?_⟩ | fail) <;> (conv => whnf))
  rintro ⟨i, fr, out⟩ hI
  have hI : SplitInv c s i fr out := hI
  have hle := hI.le
  have hlen := hI.len
  have hil := hI.il
  (conv => whnf); refine ⟨fun h1 => ?_, fun h1 => ?_⟩
  · have h1 : i < s.length := by simpa using h1
    obtain ⟨b, hb⟩ := get_lt h1
    conv => whnf
    refine ⟨b, fun _ => ⟨Int.natCast_nonneg _, hb⟩, ?_⟩
    (conv => whnf); refine ⟨fun h2 => ?_, fun h2 => ?_⟩
    · have h2 : b = c := byteEq.1 h2
      repeat ((conv => whnf); first | refine ⟨_, w64 (by (show (_ : Prop)); first | omega | ((try dsimp only at *); (try simp only [lns] at *); omega)), ?_⟩ | refine ⟨fun _ => ⟨by (show (_ : Prop)); first | omega | ((try dsimp only at *); (try simp only [lns] at *); omega), by (show (_ : Prop)); first | omega | ((try dsimp only at *); (try simp only [lns] at *); omega), by (show (_ : Prop)); first | omega | ((try dsimp only at *); (try simp only [lns] at *); omega)⟩, ?_⟩ | refine ⟨by (show (_ : Prop)); first | omega | ((try dsimp only at *); (try simp only [lns] at *); omega), ?_⟩ | refine ⟨fun (r : List AV) hr c hc => by simp [encS] at hr; (try subst hr); simp at hc; (try subst hc); rfl, ?_⟩)
      refine again (i + 1, i + 1, _) ?_ (hI.hit hb h2) (by first | omega | (simp; done) | (simp; omega))
      (refine ⟨?_, ?_, rfl⟩ <;> repeat' (first | exact rfl | exact trivial | refine ⟨?_, ?_⟩ | fail) <;> (conv => whnf))
      all_goals simp [encS]
    · have h2 : b ≠ c := fun e => by rw [byteEq.2 e] at h2; cases h2
      repeat ((conv => whnf); refine ⟨_, w64 (by (show (_ : Prop)); first | omega | ((try dsimp only at *); (try simp only [lns] at *); omega)), ?_⟩)
      refine again (i + 1, fr, out) ?_ (hI.pass hb h2) (by first | omega | (simp; done) | (simp; omega))
      (refine ⟨?_, ?_, rfl⟩ <;> repeat' (first | exact rfl | exact trivial | refine ⟨?_, ?_⟩ | fail) <;> (conv => whnf))
  · have h1 : i = s.length := by
      have : ¬ i < s.length := by simpa using h1
      omega
    subst h1
    repeat ((conv => whnf); first | refine ⟨fun _ => ⟨by (show (_ : Prop)); first | omega | ((try dsimp only at *); (try simp only [lns] at *); omega), by (show (_ : Prop)); first | omega | ((try dsimp only at *); (try simp only [lns] at *); omega), by (show (_ : Prop)); first | omega | ((try dsimp only at *); (try simp only [lns] at *); omega)⟩, ?_⟩ | refine ⟨by (show (_ : Prop)); first | omega | ((try dsimp only at *); (try simp only [lns] at *); omega), ?_⟩ | refine ⟨fun (r : List AV) hr c hc => by simp [encS] at hr; (try subst hr); simp at hc; (try subst hc); rfl, ?_⟩)
    exact ⟨trivial, eqOwn (by (try simp only [List.drop_zero, List.take_length, take_app]); simp [hI.fin', encS])⟩
theorem ok_impl_Parts : ConOk Tryz.prog 90 c_impl_Parts := meets_ok (tabT _ _) FOk.nil mixed Tryz.func90 rfl Tryz.call90 (by decide) (by kernel_rfl) m_impl_Parts (by intro _ (y : (Str × UInt8)) _; exact ⟨by simp [c_impl_Parts, con, conG, conW, AV.noRd, noRdCells, noRdRows, noRdRows_map', encS], by simp [c_impl_Parts, con, conG, conW, AV.noRd, noRdCells, noRdRows, noRdRows_map', encS]⟩) (by intro (y : (Str × UInt8)) _; first | (simp [c_impl_Parts, con, conG, conW, conP, AV.free, freeCells, freeRows, freeRows_map, encS]; done) | (obtain ⟨_, _⟩ := y; simp [c_impl_Parts, con, conG, conW, conP, AV.free, freeCells, freeRows, freeRows_map, encS]; done) | (obtain ⟨_, _, _⟩ := y; simp [c_impl_Parts, con, conG, conW, conP, AV.free, freeCells, freeRows, freeRows_map, encS]; done))
end Go.GH

set_option linter.unusedVariables false
set_option linter.unusedSimpArgs false
namespace Go.GH
open Go Go.Proofs
noncomputable def c_spec_PathOk : PCon := con [mC] true Str encS (fun s => sml s.length) (fun s => .bool (pathOk s))
noncomputable def E_spec_PathOk : Env := ⟨lookup tyTab, lookup [(76, c_spec_l1In), (117, c_spec_Parts), (118, c_spec_NameOk)], [0, 2, 3, 4, 6, 18, 22, 30]⟩
set_option maxRecDepth 100000 in
set_option maxHeartbeats 4000000 in
theorem m_spec_PathOk : Meets E_spec_PathOk (codeOf Tryz.f75) Tryz.f75.results.toList c_spec_PathOk := by
  intro (s : Str) hs
  have hs : s.length ≤ 4194304 := hs
  refine ⟨trivial, ?_⟩
  (conv => whnf); refine ⟨fun h1 => ?_, fun h1 => ?_⟩
  · conv => whnf
    exact ⟨trivial, eqB (by have h1 : (s == sl) = true := h1; simp [pathOk, h1])⟩
  have h1 : (s == sl) = false := h1
  conv => whnf
  refine ⟨(s, 47), rfl, fun _ => hs, ?_⟩
  conv => whnf
  have hq := splitBy_len (c := 47) s
  have hp := split_pos 47 s
  have hd : pathOk s = (inB (splitBy 47 s).length 2 5 && ((splitBy 47 s).headD [] == []) && ((splitBy 47 s).drop 1).all nameOk) := by simp [pathOk, h1]
  refine ⟨((splitBy 47 s).length, 2, 5), by (try simp only [List.length_map]); rfl, fun _ => trivial, ?_⟩
  obtain ⟨a, ha⟩ := get_lt hp
  have hh : (splitBy 47 s).headD [] = a := by
    cases hx : splitBy 47 s with
    | nil => rw [hx] at ha; cases ha
    | cons y r => rw [hx] at ha; simpa using ha
  rw [hh] at hd
  repeat ((conv => whnf); first | refine ⟨fun h => h, ?_⟩ | refine ⟨by (show (_ : Prop)); first | omega | ((try dsimp only at *); (try simp only [lns] at *); omega), ?_⟩ | refine ⟨encS a, fun _ => get_map ha, ?_⟩)
  (conv => whnf); refine ⟨fun h2 => ?_, fun h2 => ?_⟩
  · conv => whnf
    exact ⟨trivial, eqB (by
      have h2 : ((!inB (splitBy 47 s).length 2 5) || !(a == [])) = true := h2
      rw [hd]
      revert h2
      cases inB (splitBy 47 s).length 2 5 <;> cases (a == []) <;> simp)⟩
  have h2 : inB (splitBy 47 s).length 2 5 = true ∧ (a == []) = true := by
    have h2 : ((!inB (splitBy 47 s).length 2 5) || !(a == [])) = false := h2
    revert h2
    cases inB (splitBy 47 s).length 2 5 <;> cases (a == []) <;> simp
  rw [h2.1, h2.2, Bool.true_and, Bool.true_and] at hd
  conv => whnf
  refine loop_rule (fun i : Nat => ⟨[(3, ⟨none, .view 0 [] 0 ((splitBy 47 s).map encS).length⟩), (4, ⟨none, .int .i64 i⟩)], [(0, .own 1 ((splitBy 47 s).map encS))], 1⟩)
    (fun i => 1 ≤ i ∧ i ≤ (splitBy 47 s).length ∧ (((splitBy 47 s).take i).drop 1).all nameOk = true) (fun i => (splitBy 47 s).length - i) 1 ?_ ⟨by omega, hp, by
      have : ((splitBy 47 s).take 1).drop 1 = [] := by rw [List.drop_eq_nil_iff]; simp; omega
      rw [this]; rfl⟩ ?_
  · (refine ⟨?_, ?_, rfl⟩ <;> repeat' (first | exact rfl | exact trivial | refine ⟨?_, ?_⟩ | fail) <;> (conv => whnf))
  rintro i ⟨hi1, hi, hI⟩
  (conv => whnf); refine ⟨fun h3 => ?_, fun h3 => ?_⟩
  · have h3 : i < (splitBy 47 s).length := by simpa using h3
    obtain ⟨b, hb⟩ := get_lt h3
    repeat ((conv => whnf); first | refine ⟨by (show (_ : Prop)); first | omega | ((try dsimp only at *); (try simp only [lns] at *); omega), ?_⟩ | refine ⟨encS b, fun _ => by simp [hb], ?_⟩)
    conv => whnf
    refine ⟨b, rfl, fun _ => ?_, ?_⟩
    · have := splitBy_mem s b (List.mem_of_getElem? hb)
      show b.length ≤ 4611686018427387904
      omega
    (conv => whnf); refine ⟨fun h4 => ?_, fun h4 => ?_⟩
    · conv => whnf
      exact ⟨trivial, eqB (by
        have h4 : (!nameOk b) = true := h4
        rw [hd]
        refine (List.all_eq_false.2 ⟨b, ?_, by simpa using h4⟩).symm
        have : ((splitBy 47 s).drop 1)[i - 1]? = some b := by rw [List.getElem?_drop, show 1 + (i - 1) = i by omega, hb]
        exact List.mem_of_getElem? this)⟩
    · repeat ((conv => whnf); refine ⟨_, w64 (by (show (_ : Prop)); first | omega | ((try dsimp only at *); (try simp only [lns] at *); omega)), ?_⟩)
      refine again (i + 1) ?_ ⟨by omega, h3, ?_⟩ (by first | omega | (simp; done) | (simp; omega))
      · (refine ⟨?_, ?_, rfl⟩ <;> repeat' (first | exact rfl | exact trivial | refine ⟨?_, ?_⟩ | fail) <;> (conv => whnf))
      · have h4 : (!nameOk b) = false := h4
        rw [drop1_snoc hi1 hb, List.all_append, hI]; simpa using h4
  · have h3 : i = (splitBy 47 s).length := by
      have : ¬ i < (splitBy 47 s).length := by simpa using h3
      omega
    subst h3
    rw [List.take_length] at hI
    conv => whnf
    exact ⟨trivial, eqB (by rw [hd, hI])⟩
theorem ok_spec_PathOk : ConOk Tryz.prog 75 c_spec_PathOk := meets_ok (tabT _ _) (FOk.cons ok_spec_l1In (FOk.cons ok_spec_Parts (FOk.cons ok_spec_NameOk FOk.nil))) mixed Tryz.func75 rfl Tryz.call75 (by decide) (by kernel_rfl) m_spec_PathOk (by intro _ (y : Str) _; exact ⟨by simp [c_spec_PathOk, con, conG, conW, AV.noRd, noRdCells, noRdRows, noRdRows_map', encS], by simp [c_spec_PathOk, con, conG, conW, AV.noRd, noRdCells, noRdRows, noRdRows_map', encS]⟩) (by intro (y : Str) _; first | (simp [c_spec_PathOk, con, conG, conW, conP, AV.free, freeCells, freeRows, freeRows_map, encS]; done) | (obtain ⟨_, _⟩ := y; simp [c_spec_PathOk, con, conG, conW, conP, AV.free, freeCells, freeRows, freeRows_map, encS]; done) | (obtain ⟨_, _, _⟩ := y; simp [c_spec_PathOk, con, conG, conW, conP, AV.free, freeCells, freeRows, freeRows_map, encS]; done))
noncomputable def c_spec_l1Copy : PCon := con [mS 1] false (List Str) (fun l => [.rd 1 (l.map encS)]) (fun l => sml l.length) (fun l => .own 1 (l.map encS))
noncomputable def E_spec_l1Copy : Env := ⟨lookup tyTab, lookup [], [0, 2]⟩
set_option maxRecDepth 100000 in
set_option maxHeartbeats 4000000 in
theorem m_spec_l1Copy : Meets E_spec_l1Copy (codeOf Tryz.f130) Tryz.f130.results.toList c_spec_l1Copy := by
  intro (l : List Str) hs
  have hs : l.length ≤ 4194304 := hs
  refine ⟨trivial, ?_⟩
  repeat ((conv => whnf); refine ⟨by (show (_ : Prop)); first | omega | ((try dsimp only at *); (try simp only [lns] at *); omega), ?_⟩)
  exact ⟨trivial, eqOwn (by (try simp only [List.drop_zero, List.take_length, take_app]); simp)⟩
theorem ok_spec_l1Copy : ConOk Tryz.prog 130 c_spec_l1Copy := meets_ok (tabT _ _) FOk.nil mixed Tryz.func130 rfl Tryz.call130 (by decide) (by kernel_rfl) m_spec_l1Copy (by intro _ (y : (List Str)) _; exact ⟨by simp [c_spec_l1Copy, con, conG, conW, AV.noRd, noRdCells, noRdRows, noRdRows_map', encS], by simp [c_spec_l1Copy, con, conG, conW, AV.noRd, noRdCells, noRdRows, noRdRows_map', encS]⟩) (by intro (y : (List Str)) _; first | (simp [c_spec_l1Copy, con, conG, conW, conP, AV.free, freeCells, freeRows, freeRows_map, encS]; done) | (obtain ⟨_, _⟩ := y; simp [c_spec_l1Copy, con, conG, conW, conP, AV.free, freeCells, freeRows, freeRows_map, encS]; done) | (obtain ⟨_, _, _⟩ := y; simp [c_spec_l1Copy, con, conG, conW, conP, AV.free, freeCells, freeRows, freeRows_map, encS]; done))
noncomputable def c_spec_Names : PCon := con [mC] false Str encS (fun l => sml l.length) (fun l => .own 1 ((names l).map encS))
noncomputable def E_spec_Names : Env := ⟨lookup tyTab, lookup [(75, c_spec_PathOk), (117, c_spec_Parts), (130, c_spec_l1Copy)], [0, 2, 9]⟩
set_option maxRecDepth 100000 in
set_option maxHeartbeats 4000000 in
theorem m_spec_Names : Meets E_spec_Names (codeOf Tryz.f85) Tryz.f85.results.toList c_spec_Names := by
  intro (s : Str) hs
  have hs : s.length ≤ 4194304 := hs
  refine ⟨trivial, ?_⟩
  conv => whnf
  refine ⟨s, rfl, fun _ => hs, ?_⟩
  repeat ((conv => whnf); refine ⟨fun h => h, ?_⟩)
  (conv => whnf); refine ⟨fun h1 => ?_, fun h1 => ?_⟩
  · conv => whnf
    exact ⟨trivial, eqOwn (by
      have h1 : ((!pathOk s) || (s == sl)) = true := h1
      have : names s = [] := by
        rw [names, if_neg]
        revert h1
        cases pathOk s <;> cases (s == sl) <;> simp
      rw [this]; rfl)⟩
  have h1 : ((!pathOk s) || (s == sl)) = false := h1
  have hd : names s = (splitBy 47 s).drop 1 := by
    rw [names, if_pos]
    revert h1
    cases pathOk s <;> cases (s == sl) <;> simp
  have hq := splitBy_len (c := 47) s
  have hp := split_pos 47 s
  conv => whnf
  refine ⟨(s, 47), rfl, fun _ => hs, ?_⟩
  repeat ((conv => whnf); refine ⟨fun _ => ⟨by (show (_ : Prop)); first | omega | ((try dsimp only at *); (try simp only [lns] at *); omega), by (show (_ : Prop)); first | omega | ((try dsimp only at *); (try simp only [lns] at *); omega), by (show (_ : Prop)); first | omega | ((try dsimp only at *); (try simp only [lns] at *); omega)⟩, ?_⟩)
  refine ⟨(splitBy 47 s).drop 1, by refine congrArg (fun x => [AV.rd 1 x]) ?_; rw [cutS, List.take_of_length_le (by simp)]; rfl, fun _ => by show _ ≤ _; simp; omega, ?_⟩
  conv => whnf
  exact ⟨trivial, eqOwn (by rw [hd]; (try simp only [List.drop_zero, List.take_length, take_app]))⟩
theorem ok_spec_Names : ConOk Tryz.prog 85 c_spec_Names := meets_ok (tabT _ _) (FOk.cons ok_spec_PathOk (FOk.cons ok_spec_Parts (FOk.cons ok_spec_l1Copy FOk.nil))) mixed Tryz.func85 rfl Tryz.call85 (by decide) (by kernel_rfl) m_spec_Names (by intro _ (y : Str) _; exact ⟨by simp [c_spec_Names, con, conG, conW, AV.noRd, noRdCells, noRdRows, noRdRows_map', encS], by simp [c_spec_Names, con, conG, conW, AV.noRd, noRdCells, noRdRows, noRdRows_map', encS]⟩) (by intro (y : Str) _; first | (simp [c_spec_Names, con, conG, conW, conP, AV.free, freeCells, freeRows, freeRows_map, encS]; done) | (obtain ⟨_, _⟩ := y; simp [c_spec_Names, con, conG, conW, conP, AV.free, freeCells, freeRows, freeRows_map, encS]; done) | (obtain ⟨_, _, _⟩ := y; simp [c_spec_Names, con, conG, conW, conP, AV.free, freeCells, freeRows, freeRows_map, encS]; done))
noncomputable def c_spec_PathOf : PCon := con [mS 1] true (List Str) (fun l => [.rd 1 (l.map encS)]) (fun l => l.length + (l.map List.length).sum < 4194304) (fun l => .str (pathOf l))
noncomputable def E_spec_PathOf : Env := ⟨lookup tyTab, lookup [(75, c_spec_PathOk), (85, c_spec_Names)], [0, 2, 3, 4, 8, 20, 31]⟩
set_option maxRecDepth 100000 in
set_option maxHeartbeats 4000000 in
theorem m_spec_PathOf : Meets E_spec_PathOf (codeOf Tryz.f119) Tryz.f119.results.toList c_spec_PathOf := by
  intro (l : List Str) hs
  have hs : l.length + (l.map List.length).sum < 4194304 := hs
  refine ⟨trivial, ?_⟩
  skip
  refine loop_rule (fun i : Nat => ⟨[(0, ⟨none, .rd 1 (l.map encS)⟩), (3, ⟨none, .str (cat (l.take i))⟩), (4, ⟨none, .int .i64 i⟩)], [], 0⟩) (fun i => i ≤ l.length) (fun i => l.length - i) 0 ?_ (by omega) ?_
  · (refine ⟨?_, ?_, rfl⟩ <;> repeat' (first | exact rfl | exact trivial | refine ⟨?_, ?_⟩ | fail) <;> (conv => whnf))
  intro i hi
  (conv => whnf); refine ⟨fun h1 => ?_, fun h1 => ?_⟩
  · have h1 : i < l.length := by simpa using h1
    obtain ⟨b, hb⟩ := get_lt h1
    have hl : (cat (l.take i)).length + b.length + 1 ≤ 4194304 := by
      have h2 := sum_take l (i + 1)
      rw [take_succ' hb] at h2
      rw [cat_len]
      simp at h2 ⊢
      omega
    repeat ((conv => whnf); first | refine ⟨_, w64 (by (show (_ : Prop)); first | omega | ((try dsimp only at *); (try simp only [lns] at *); omega)), ?_⟩ | refine ⟨by (show (_ : Prop)); first | omega | ((try dsimp only at *); (try simp only [lns] at *); omega), ?_⟩ | refine ⟨encS b, fun _ => ⟨by omega, by simp [hb]⟩, ?_⟩)
    refine again (i + 1) ?_ h1 (by first | omega | (simp; done) | (simp; omega))
    · (refine ⟨?_, ?_, rfl⟩ <;> repeat' (first | exact rfl | exact trivial | refine ⟨?_, ?_⟩ | fail) <;> (conv => whnf))
      rw [take_succ' hb, cat_append]
      simp [cat]
  · have h1 : i = l.length := by
      have hi : i ≤ l.length := hi
      have : ¬ i < l.length := by simpa using h1
      omega
    subst h1
    rw [List.take_length]
    have hl := cat1_len l
    have e : cat1 l = if (l.length == 0) = true then sl else cat l := by cases l <;> rfl
    have hps := pathOf_spec l
    have hpl : (cat1 l).length ≤ 4194304 := by omega
    (conv => whnf); refine ⟨fun h2 => ?_, fun h2 => ?_⟩
    · have h2 : l = [] := by simpa using h2
      have hc : sl = cat1 l := by subst h2; rfl
      conv => whnf
      refine ⟨cat1 l, by rw [← hc]; rfl, fun _ => hpl, ?_⟩
      (conv => whnf); refine ⟨fun h3 => ?_, fun h3 => ?_⟩
      · have h3 : pathOk (cat1 l) = true := by
          have h3 : (!!pathOk (cat1 l)) = true := h3
          simpa using h3
        repeat ((conv => whnf); refine ⟨fun (h : gtrue _) => by first | assumption | exact absurd (Eq.trans (Eq.symm h) (by assumption) : true = false) Bool.noConfusion, ?_⟩)
        refine ⟨cat1 l, by rw [← hc]; rfl, fun _ => hpl, ?_⟩
        repeat ((conv => whnf); refine ⟨fun h => h, ?_⟩)
        (conv => whnf); refine ⟨fun h4 => ?_, fun h4 => ?_⟩
        · conv => whnf
          exact ⟨trivial, eqS (by
            have h4 : ((!pathOk (cat1 l)) || !((((names (cat1 l)).map encS).length : Int) == ((l.map encS).length : Int))) = true := h4
            rw [hps, if_neg]
            rw [h3] at h4 ⊢
            simp at h4 ⊢; omega)⟩
        · conv => whnf
          exact ⟨trivial, eqS (by
            have h4 : ((!pathOk (cat1 l)) || !((((names (cat1 l)).map encS).length : Int) == ((l.map encS).length : Int))) = false := h4
            rw [hps, if_pos]
            · exact hc
            rw [h3] at h4 ⊢
            simp at h4 ⊢; omega)⟩
      · have h3 : pathOk (cat1 l) = false := by
          have h3 : (!!pathOk (cat1 l)) = false := h3
          simpa using h3
        repeat ((conv => whnf); first | refine ⟨fun h => h, ?_⟩ | refine ⟨fun (h : gtrue _) => by first | assumption | exact absurd (Eq.trans (Eq.symm h) (by assumption) : true = false) Bool.noConfusion, ?_⟩ | refine ⟨fun h => (absurd (Eq.trans (Eq.symm h) (by assumption) : true = false) Bool.noConfusion : False), ?_⟩)
        (conv => whnf); refine ⟨fun h4 => ?_, fun h4 => ?_⟩
        · conv => whnf
          exact ⟨trivial, eqS (by rw [hps, if_neg]; simp [h3])⟩
        · cases h4
    · have h2 : l ≠ [] := by simpa using h2
      have hc : cat l = cat1 l := by rw [e, if_neg]; simpa using h2
      conv => whnf
      refine ⟨cat1 l, by rw [← hc]; rfl, fun _ => hpl, ?_⟩
      (conv => whnf); refine ⟨fun h3 => ?_, fun h3 => ?_⟩
      · have h3 : pathOk (cat1 l) = true := by
          have h3 : (!!pathOk (cat1 l)) = true := h3
          simpa using h3
        repeat ((conv => whnf); refine ⟨fun (h : gtrue _) => by first | assumption | exact absurd (Eq.trans (Eq.symm h) (by assumption) : true = false) Bool.noConfusion, ?_⟩)
        refine ⟨cat1 l, by rw [← hc]; rfl, fun _ => hpl, ?_⟩
        repeat ((conv => whnf); refine ⟨fun h => h, ?_⟩)
        (conv => whnf); refine ⟨fun h4 => ?_, fun h4 => ?_⟩
        · conv => whnf
          exact ⟨trivial, eqS (by
            have h4 : ((!pathOk (cat1 l)) || !((((names (cat1 l)).map encS).length : Int) == ((l.map encS).length : Int))) = true := h4
            rw [hps, if_neg]
            rw [h3] at h4 ⊢
            simp at h4 ⊢; omega)⟩
        · conv => whnf
          exact ⟨trivial, eqS (by
            have h4 : ((!pathOk (cat1 l)) || !((((names (cat1 l)).map encS).length : Int) == ((l.map encS).length : Int))) = false := h4
            rw [hps, if_pos]
            · exact hc
            rw [h3] at h4 ⊢
            simp at h4 ⊢; omega)⟩
      · have h3 : pathOk (cat1 l) = false := by
          have h3 : (!!pathOk (cat1 l)) = false := h3
          simpa using h3
        repeat ((conv => whnf); first | refine ⟨fun h => h, ?_⟩ | refine ⟨fun (h : gtrue _) => by first | assumption | exact absurd (Eq.trans (Eq.symm h) (by assumption) : true = false) Bool.noConfusion, ?_⟩ | refine ⟨fun h => (absurd (Eq.trans (Eq.symm h) (by assumption) : true = false) Bool.noConfusion : False), ?_⟩)
        (conv => whnf); refine ⟨fun h4 => ?_, fun h4 => ?_⟩
        · conv => whnf
          exact ⟨trivial, eqS (by rw [hps, if_neg]; simp [h3])⟩
        · cases h4
theorem ok_spec_PathOf : ConOk Tryz.prog 119 c_spec_PathOf := meets_ok (tabT _ _) (FOk.cons ok_spec_PathOk (FOk.cons ok_spec_Names FOk.nil)) mixed Tryz.func119 rfl Tryz.call119 (by decide) (by kernel_rfl) m_spec_PathOf (by intro _ (y : (List Str)) _; exact ⟨by simp [c_spec_PathOf, con, conG, conW, AV.noRd, noRdCells, noRdRows, noRdRows_map', encS], by simp [c_spec_PathOf, con, conG, conW, AV.noRd, noRdCells, noRdRows, noRdRows_map', encS]⟩) (by intro (y : (List Str)) _; first | (simp [c_spec_PathOf, con, conG, conW, conP, AV.free, freeCells, freeRows, freeRows_map, encS]; done) | (obtain ⟨_, _⟩ := y; simp [c_spec_PathOf, con, conG, conW, conP, AV.free, freeCells, freeRows, freeRows_map, encS]; done) | (obtain ⟨_, _, _⟩ := y; simp [c_spec_PathOf, con, conG, conW, conP, AV.free, freeCells, freeRows, freeRows_map, encS]; done))
noncomputable def c_spec_Above : PCon := con [mC] true Str encS (fun l => sml l.length) (fun l => .str (above l))
noncomputable def E_spec_Above : Env := ⟨lookup tyTab, lookup [(75, c_spec_PathOk), (85, c_spec_Names), (119, c_spec_PathOf)], [0, 2, 3, 8, 11]⟩
set_option maxRecDepth 100000 in
set_option maxHeartbeats 4000000 in
theorem m_spec_Above : Meets E_spec_Above (codeOf Tryz.f77) Tryz.f77.results.toList c_spec_Above := by
  intro (s : Str) hs
  have hs : s.length ≤ 4194304 := hs
  refine ⟨trivial, ?_⟩
  conv => whnf
  refine ⟨s, rfl, fun _ => hs, ?_⟩
  conv => whnf
  refine ⟨s, rfl, fun _ => hs, ?_⟩
  (conv => whnf); refine ⟨fun h1 => ?_, fun h1 => ?_⟩
  · have h1 : pathOk s = false := by
      have h1 : (!pathOk s) = true := h1
      simpa using h1
    conv => whnf
    exact ⟨trivial, eqS (by simp [above, h1])⟩
  have h1 : pathOk s = true := by
    have h1 : (!pathOk s) = false := h1
    simpa using h1
  have hd : above s = pathOf ((names s).take ((names s).length - 1)) := by simp [above, h1]
  (conv => whnf); refine ⟨fun h2 => ?_, fun h2 => ?_⟩
  · have h2 : names s = [] := by simpa using h2
    conv => whnf
    exact ⟨trivial, eqS (by rw [hd, h2]; rfl)⟩
  have h2 : 0 < (names s).length := by
    have : names s ≠ [] := by simpa using h2
    exact List.length_pos_iff.2 this
  have hnl := names_len (p := s)
  have hns := names_sum (p := s)
  repeat ((conv => whnf); first | refine ⟨_, w64 (by (show (_ : Prop)); first | omega | ((try dsimp only at *); (try simp only [lns] at *); omega)), ?_⟩ | refine ⟨fun _ => ⟨by (show (_ : Prop)); first | omega | ((try dsimp only at *); (try simp only [lns] at *); omega), by (show (_ : Prop)); first | omega | ((try dsimp only at *); (try simp only [lns] at *); omega), by (show (_ : Prop)); first | omega | ((try dsimp only at *); (try simp only [lns] at *); omega)⟩, ?_⟩)
  refine ⟨(names s).take ((names s).length - 1), by
    refine congrArg (fun x => [AV.rd 1 x]) ?_
    rw [cutS]
    simp only [Int.toNat_natCast, List.drop_zero, List.length_map]
    congr 2
    omega, fun _ => ?_, ?_⟩
  · have := sum_take (names s) ((names s).length - 1)
    show _ < _
    rw [List.length_take]
    omega
  conv => whnf
  exact ⟨trivial, eqS hd.symm⟩
theorem ok_spec_Above : ConOk Tryz.prog 77 c_spec_Above := meets_ok (tabT _ _) (FOk.cons ok_spec_PathOk (FOk.cons ok_spec_Names (FOk.cons ok_spec_PathOf FOk.nil))) mixed Tryz.func77 rfl Tryz.call77 (by decide) (by kernel_rfl) m_spec_Above (by intro _ (y : Str) _; exact ⟨by simp [c_spec_Above, con, conG, conW, AV.noRd, noRdCells, noRdRows, noRdRows_map', encS], by simp [c_spec_Above, con, conG, conW, AV.noRd, noRdCells, noRdRows, noRdRows_map', encS]⟩) (by intro (y : Str) _; first | (simp [c_spec_Above, con, conG, conW, conP, AV.free, freeCells, freeRows, freeRows_map, encS]; done) | (obtain ⟨_, _⟩ := y; simp [c_spec_Above, con, conG, conW, conP, AV.free, freeCells, freeRows, freeRows_map, encS]; done) | (obtain ⟨_, _, _⟩ := y; simp [c_spec_Above, con, conG, conW, conP, AV.free, freeCells, freeRows, freeRows_map, encS]; done))
end Go.GH

set_option linter.unusedVariables false
set_option linter.unusedSimpArgs false
namespace Go.GH
open Go Go.Proofs
noncomputable def c_spec_TreeGet : PCon := con [mS 4, mC] true (Tr × Str) (fun x => [rdT x.1, .str x.2]) (fun x => smT x.1) (fun x => resGet (treeGet x.1 x.2))
noncomputable def E_spec_TreeGet : Env := ⟨lookup tyTab, lookup [], [0, 1, 2, 4, 5, 6, 8, 14, 24]⟩
set_option maxRecDepth 100000 in
set_option maxHeartbeats 4000000 in
theorem m_spec_TreeGet : Meets E_spec_TreeGet (codeOf Tryz.f45) Tryz.f45.results.toList c_spec_TreeGet := by
  rintro ⟨t, p⟩ hs
  obtain ⟨hs1, hs2⟩ : smT t := hs
  refine ⟨trivial, ?_⟩
  (conv => whnf); refine ⟨fun h1 => ?_, fun h1 => ?_⟩
  · have h1 : (p == sl) = true := h1
    conv => whnf
    rw [show c_spec_TreeGet.res (t, p) = .tup [.agg (encI It.top), .bool true] by show resGet (treeGet t p) = _; simp [treeGet, h1]; rfl]; exact ⟨trivial, ⟨rfl, rfl, rfl, rfl, trivial⟩, rfl, trivial⟩
  have h1 : (p == sl) = false := h1
  skip
  refine loop_rule (fun i : Nat => ⟨[(1, ⟨none, .str p⟩), (2, ⟨none, .bx 0 0⟩), (4, ⟨none, .bx 1 0⟩), (6, ⟨none, .int .i64 i⟩)], [(1, .own 4 [encI It.none]), (0, .own 1 [[.rd 4 (t.map encI)]])], 2⟩)
    (fun i => i ≤ t.length ∧ (t.take i).find? (fun x => x.path == p) = none) (fun i => t.length - i) 0 ?_ ⟨by omega, rfl⟩ ?_
  · (refine ⟨?_, ?_, rfl⟩ <;> repeat' (first | exact rfl | exact trivial | refine ⟨?_, ?_⟩ | fail) <;> (conv => whnf))
  rintro i ⟨hi, hI⟩
  (conv => whnf); refine ⟨fun h2 => ?_, fun h2 => ?_⟩
  · have h2 : i < t.length := by simpa using h2
    obtain ⟨b, hb⟩ := get_lt h2
    repeat ((conv => whnf); refine ⟨encI b, fun _ => ⟨by omega, by simp [hb]⟩, ?_⟩)
    (conv => whnf); refine ⟨fun h3 => ?_, fun h3 => ?_⟩
    · have h3 : (b.path == p) = true := h3
      repeat ((conv => whnf); refine ⟨encI b, fun _ => ⟨by omega, by simp [hb]⟩, ?_⟩)
      rw [show c_spec_TreeGet.res (t, p) = .tup [.agg (encI b), .bool true] by show resGet (treeGet t p) = _; simp [treeGet, h1, find_take_none hI hb h3, resGet]]; exact ⟨trivial, ⟨rfl, rfl, rfl, rfl, trivial⟩, rfl, trivial⟩
    · have h3 : (b.path == p) = false := h3
      repeat ((conv => whnf); refine ⟨_, w64 (by (show (_ : Prop)); first | omega | ((try dsimp only at *); (try simp only [lns] at *); omega)), ?_⟩)
      refine again (i + 1) ?_ ⟨h2, find_take_succ hI hb h3⟩ (by first | omega | (simp; done) | (simp; omega))
      (refine ⟨?_, ?_, rfl⟩ <;> repeat' (first | exact rfl | exact trivial | refine ⟨?_, ?_⟩ | fail) <;> (conv => whnf))
  · have h2 : i = t.length := by
      have : ¬ i < t.length := by simpa using h2
      omega
    subst h2
    rw [List.take_length] at hI
    skip
    rw [show c_spec_TreeGet.res (t, p) = .tup [.agg (encI It.none), .bool false] by show resGet (treeGet t p) = _; simp [treeGet, h1, hI, resGet]]; exact ⟨trivial, ⟨rfl, rfl, rfl, rfl, trivial⟩, rfl, trivial⟩
theorem ok_spec_TreeGet : ConOk Tryz.prog 45 c_spec_TreeGet := meets_ok (tabT _ _) FOk.nil mixed Tryz.func45 rfl Tryz.call45 (by decide) (by kernel_rfl) m_spec_TreeGet (by intro _ (y : Tr × Str) _; refine ⟨?_, trivial⟩; show AV.noRd (resGet (treeGet y.1 y.2)); simp [resGet, AV.noRd, noRdCells, encI]) (by intro (y : (Tr × Str)) _; first | (simp [c_spec_TreeGet, con, conG, conW, conP, AV.free, freeCells, freeRows, freeRows_map, encS, rdT, encI]; done) | (obtain ⟨_, _⟩ := y; simp [c_spec_TreeGet, con, conG, conW, conP, AV.free, freeCells, freeRows, freeRows_map, encS, rdT, encI]; done) | (obtain ⟨_, _, _⟩ := y; simp [c_spec_TreeGet, con, conG, conW, conP, AV.free, freeCells, freeRows, freeRows_map, encS, rdT, encI]; done))
noncomputable def c_spec_TreeOk : PCon := con [mS 4] true Tr (fun t => [rdT t]) smT (fun t => .bool (treeOk t))
noncomputable def E_spec_TreeOk : Env := ⟨lookup tyTab, lookup [(45, c_spec_TreeGet), (75, c_spec_PathOk), (76, c_spec_l1In), (77, c_spec_Above)], [0, 1, 2, 3, 4, 5, 6, 10, 15, 65, 78, 93]⟩
set_option maxRecDepth 100000 in
set_option maxHeartbeats 4000000 in
theorem m_spec_TreeOk : Meets E_spec_TreeOk (codeOf Tryz.f38) Tryz.f38.results.toList c_spec_TreeOk := by
  intro (t : Tr) hs
  obtain ⟨hs1, hs2⟩ : smT t := hs
  refine ⟨trivial, ?_⟩
  (conv => whnf); refine ⟨fun h1 => ?_, fun h1 => ?_⟩
  · conv => whnf
    exact ⟨trivial, eqB (by have h1 : ¬ t.length ≤ 40 := by simp at h1; omega
                            simp [treeOk, h1])⟩
  have h1 : t.length ≤ 40 := by simp at h1; omega
  skip
  refine loop_rule (fun i : Nat => ⟨[(1, ⟨none, .bx 0 0⟩), (3, ⟨none, .int .i64 i⟩)], [(0, .own 1 [[.rd 4 (t.map encI)]])], 1⟩)
    (fun i => i ≤ t.length ∧ ∀ j, j < i → chk t j = true) (fun i => t.length - i) 0 ?_ ⟨by omega, fun j hj => by omega⟩ ?_
  · (refine ⟨?_, ?_, rfl⟩ <;> repeat' (first | exact rfl | exact trivial | refine ⟨?_, ?_⟩ | fail) <;> (conv => whnf))
  rintro i ⟨hi, hI⟩
  (conv => whnf); refine ⟨fun h2 => ?_, fun h2 => ?_⟩
  · have h2 : i < t.length := by simpa using h2
    obtain ⟨b, hb⟩ := get_lt h2
    have hbs := hs2 b (List.mem_of_getElem? hb)
    have hbad : ∀ {q : Bool}, chk t i = q → q = false → treeOk t = false := fun h e => treeOk_bad h2 (h.trans e)
    repeat ((conv => whnf); refine ⟨encI b, fun _ => ⟨by omega, by simp [hb]⟩, ?_⟩)
    conv => whnf
    refine ⟨b.path, rfl, fun _ => hbs.1, ?_⟩
    generalize hpv : t.getD (i - 1) It.none = pv
    have hprev : 0 < i → t[i - 1]? = some pv := fun h => by
      rw [← hpv, List.getD_eq_getElem?_getD, List.getElem?_eq_getElem (by omega)]; rfl
    have hix : ∀ {A : Bool}, gtrue (some (A && decide ((i : Int) > 0))) → (0 : Int) ≤ (i : Int) - 1 ∧ (t.map encI)[((i : Int) - 1).toNat]? = some (encI pv) := by
      intro A h
      have hi0 : 0 < i := by simp [gtrue] at h; omega
      exact ⟨by omega, by rw [show ((i : Int) - 1).toNat = i - 1 by omega]; exact get_map (hprev hi0)⟩
    repeat ((conv => whnf); first | refine ⟨fun h => h, ?_⟩ | refine ⟨(by kernel_rfl : drawOk _ _ = true), ?_⟩ | refine ⟨_, w64 (by (show (_ : Prop)); first | omega | ((try dsimp only at *); (try simp only [lns] at *); omega)), ?_⟩ | refine ⟨encI pv, fun h => hix h, ?_⟩ | refine ⟨(_, _, _), rfl, fun _ => trivial, ?_⟩)
    (conv => whnf); refine ⟨fun h3 => ?_, fun h3 => ?_⟩
    · conv => whnf
      exact ⟨trivial, eqB (hbad (chk_bad1 hb hpv h3) rfl).symm⟩
    have h3 : bad1 i b pv = false := h3
    repeat ((conv => whnf); refine ⟨fun h => h, ?_⟩)
    (conv => whnf); refine ⟨fun h4 => ?_, fun h4 => ?_⟩
    · conv => whnf
      exact ⟨trivial, eqB (hbad (chk_bad2 hb h4) rfl).symm⟩
    have h4 : bad2 b = false := h4
    conv => whnf
    refine ⟨b.path, rfl, fun _ => hbs.1, ?_⟩
    conv => whnf
    refine ⟨(t, above b.path), rfl, fun _ => ⟨hs1, hs2⟩, ?_⟩
    repeat ((conv => whnf); first | refine ⟨fun h => h, ?_⟩ | refine ⟨(by kernel_rfl : drawOk _ _ = true), ?_⟩)
    (conv => whnf); refine ⟨fun h5 => ?_, fun h5 => ?_⟩
    · conv => whnf
      exact ⟨trivial, eqB (hbad (chk_bad3 hb (by
        have h5 : (!(treeGet t (above b.path)).isSome || ((treeGet t (above b.path)).getD It.none).kind != 2) = true := h5
        unfold dirAt
        revert h5
        cases (treeGet t (above b.path)).isSome <;> simp)) rfl).symm⟩
    have h5 : dirAt t (above b.path) = true := by
      have h5 : (!(treeGet t (above b.path)).isSome || ((treeGet t (above b.path)).getD It.none).kind != 2) = false := h5
      unfold dirAt
      revert h5
      cases (treeGet t (above b.path)).isSome <;> simp
    repeat ((conv => whnf); refine ⟨_, w64 (by (show (_ : Prop)); first | omega | ((try dsimp only at *); (try simp only [lns] at *); omega)), ?_⟩)
    refine again (i + 1) ?_ ⟨h2, fun j hj => ?_⟩ (by first | omega | (simp; done) | (simp; omega))
    · (refine ⟨?_, ?_, rfl⟩ <;> repeat' (first | exact rfl | exact trivial | refine ⟨?_, ?_⟩ | fail) <;> (conv => whnf))
    · rcases Nat.lt_or_ge j i with h | h
      · exact hI j h
      · rw [show j = i by omega]; exact chk_good hb hpv h3 h4 h5
  · have h2 : i = t.length := by
      have : ¬ i < t.length := by simpa using h2
      omega
    subst h2
    conv => whnf
    exact ⟨trivial, eqB (treeOk_good h1 hI).symm⟩
theorem ok_spec_TreeOk : ConOk Tryz.prog 38 c_spec_TreeOk := meets_ok (tabT _ _) (FOk.cons ok_spec_TreeGet (FOk.cons ok_spec_PathOk (FOk.cons ok_spec_l1In (FOk.cons ok_spec_Above FOk.nil)))) mixed Tryz.func38 rfl Tryz.call38 (by decide) (by kernel_rfl) m_spec_TreeOk (by intro _ (y : Tr) _; exact ⟨by simp [c_spec_TreeOk, con, conG, conW, AV.noRd, noRdCells, noRdRows, noRdRows_map', encS], by simp [c_spec_TreeOk, con, conG, conW, AV.noRd, noRdCells, noRdRows, noRdRows_map', encS]⟩) (by intro (y : Tr) _; first | (simp [c_spec_TreeOk, con, conG, conW, conP, AV.free, freeCells, freeRows, freeRows_map, encS, rdT, encI]; done) | (obtain ⟨_, _⟩ := y; simp [c_spec_TreeOk, con, conG, conW, conP, AV.free, freeCells, freeRows, freeRows_map, encS, rdT, encI]; done) | (obtain ⟨_, _, _⟩ := y; simp [c_spec_TreeOk, con, conG, conW, conP, AV.free, freeCells, freeRows, freeRows_map, encS, rdT, encI]; done))
end Go.GH

namespace Go.Proofs
open Go.Shelf
def Tryz.lays156_ren : Go.Shelf.Ren := ⟨fun | 156 => 95 | 165 => 132 | 166 => 133 | 169 => 134 | 240 => 172 | 241 => 173 | 276 => 195 | 277 => 196 | n => n, fun | 31 => 36 | 9 => 9 | 3 => 3 | 4 => 4 | 0 => 0 | 20 => 20 | 72 => 140 | 76 => 144 | 70 => 138 | 37 => 22 | 75 => 143 | 127 => 189 | 164 => 207 | 5 => 5 | 80 => 146 | n => n, fun | n => n⟩
theorem Tryz.lays156 : Go.Proofs.Lays.n156 Tryz.prog Tryz.lays156_ren := {
  mixed := by kernel_rfl
  f156 := Tryz.func95.trans (congrArg some (by kernel_rfl))
  f165 := Tryz.func132.trans (congrArg some (by kernel_rfl))
  f166 := Tryz.func133.trans (congrArg some (by kernel_rfl))
  f169 := Tryz.func134.trans (congrArg some (by kernel_rfl))
  f240 := Tryz.func172.trans (congrArg some (by kernel_rfl))
  f241 := Tryz.func173.trans (congrArg some (by kernel_rfl))
  f276 := Tryz.func195.trans (congrArg some (by kernel_rfl))
  f277 := Tryz.func196.trans (congrArg some (by kernel_rfl))
  t0 := Tryz.underlying0
  a0 := Tryz.isAgg0
  z0 := Tryz.sizeOf0
  v0 := Tryz.zeroValue0
  t3 := Tryz.underlying3
  a3 := Tryz.isAgg3
  z3 := Tryz.sizeOf3
  v3 := Tryz.zeroValue3
  t4 := Tryz.underlying4
  a4 := Tryz.isAgg4
  z4 := Tryz.sizeOf4
  v4 := Tryz.zeroValue4
  t9 := Tryz.underlying9
  a9 := Tryz.isAgg9
  z9 := Tryz.sizeOf9
  v9 := Tryz.zeroValue9
  t20 := Tryz.underlying20
  a20 := Tryz.isAgg20
  z20 := Tryz.sizeOf20
  v20 := Tryz.zeroValue20
  t31 := Tryz.underlying36
  a31 := Tryz.isAgg36
  z31 := Tryz.sizeOf36
  v31 := Tryz.zeroValue36
  t37 := Tryz.underlying22
  a37 := Tryz.isAgg22
  z37 := Tryz.sizeOf22
  v37 := Tryz.zeroValue22
  t70 := Tryz.underlying138
  a70 := Tryz.isAgg138
  z70 := Tryz.sizeOf138
  v70 := Tryz.zeroValue138
  t72 := Tryz.underlying140
  a72 := Tryz.isAgg140
  z72 := Tryz.sizeOf140
  v72 := Tryz.zeroValue140
  t75 := Tryz.underlying143
  a75 := Tryz.isAgg143
  z75 := Tryz.sizeOf143
  v75 := Tryz.zeroValue143
  t76 := Tryz.underlying144
  a76 := Tryz.isAgg144
  z76 := Tryz.sizeOf144
  v76 := Tryz.zeroValue144
  t127 := Tryz.underlying189
  a127 := Tryz.isAgg189
  z127 := Tryz.sizeOf189
  v127 := Tryz.zeroValue189
  t164 := Tryz.underlying207
  a164 := Tryz.isAgg207
  z164 := Tryz.sizeOf207
  v164 := Tryz.zeroValue207 }
theorem Tryz.Builder_Extra_156 : Builder.Extra Tryz.prog Tryz.lays156_ren := {
  sizeBuilder := by kernel_rfl
  liesBuilder := by kernel_rfl
  t5 := Tryz.underlying5
  a5 := Tryz.isAgg5
  z5 := Tryz.sizeOf5
  v5 := Tryz.zeroValue5
  infoByte := by kernel_rfl
  cellsByte := by kernel_rfl
  sizeByte := by kernel_rfl
  neB5 := by decide }
open Go.RowKit in
theorem Tryz.strings_Join_none (a : Option Addr) (c : Nat) (sep : ByteArray) (w : World) :
    Calls Tryz.prog 95 #[.slice a 0 c, .string sep] w fun e w' => e = .returned (.string ⟨#[]⟩) ∧ w' = w := Any.strings_Join_none Tryz.lays156 Tryz.Builder_Extra_156 a c sep w
open Go.RowKit in
theorem Tryz.strings_Join (bk o c : Nat) (xs : List ByteArray) (sep : ByteArray) (w : World) (hcells : ∀ (j : Nat) x, xs[j]? = some x → w.cell? ⟨bk, o + j, none⟩ = some (.string x)) (hbk : bk < w.heap.size) (hN : xs.length ≤ 140737488355328) (hcap : xs.length ≤ c) (hlen : (Lib.join (xs.map (·.data.toList)) sep.data.toList).length ≤ 140737488355328) :
    Calls Tryz.prog 95 #[.slice (some ⟨bk, o, none⟩) xs.length c, .string sep] w fun e w' => e = .returned (.string ⟨(Lib.join (xs.map (·.data.toList)) sep.data.toList).toArray⟩) ∧ Below w.heap.size w w' := Any.strings_Join Tryz.lays156 Tryz.Builder_Extra_156 bk o c xs sep w hcells hbk hN hcap hlen
def Tryz.lays106_ren : Go.Shelf.Ren := ⟨fun | 106 => 115 | 213 => 157 | 265 => 183 | n => n, fun | 9 => 9 | 3 => 3 | n => n, fun | n => n⟩
theorem Tryz.lays106 : Go.Proofs.Lays.n106 Tryz.prog Tryz.lays106_ren := {
  mixed := by kernel_rfl
  f106 := Tryz.func115.trans (congrArg some (by kernel_rfl))
  f213 := Tryz.func157.trans (congrArg some (by kernel_rfl))
  f265 := Tryz.func183.trans (congrArg some (by kernel_rfl))
  t3 := Tryz.underlying3
  a3 := Tryz.isAgg3
  z3 := Tryz.sizeOf3
  v3 := Tryz.zeroValue3
  t9 := Tryz.underlying9
  a9 := Tryz.isAgg9
  z9 := Tryz.sizeOf9
  v9 := Tryz.zeroValue9 }
open Go.RowKit in
theorem Tryz.strings_Compare (a b : ByteArray) (w : World) :
    Calls Tryz.prog 115 #[.string a, .string b] w fun e w' => e = .returned (.int .i64 (Lib.compareBytes a.data.toList b.data.toList)) ∧ w' = w := Any.strings_Compare Tryz.lays106 a b w
def Tryz.lays99_ren : Go.Shelf.Ren := ⟨fun | 99 => 84 | 206 => 129 | n => n, fun | 9 => 9 | 4 => 4 | 3 => 3 | n => n, fun | n => n⟩
theorem Tryz.lays99 : Go.Proofs.Lays.n99 Tryz.prog Tryz.lays99_ren := {
  mixed := by kernel_rfl
  f99 := Tryz.func84.trans (congrArg some (by kernel_rfl))
  f206 := Tryz.func129.trans (congrArg some (by kernel_rfl))
  t3 := Tryz.underlying3
  a3 := Tryz.isAgg3
  z3 := Tryz.sizeOf3
  v3 := Tryz.zeroValue3
  t4 := Tryz.underlying4
  a4 := Tryz.isAgg4
  z4 := Tryz.sizeOf4
  v4 := Tryz.zeroValue4
  t9 := Tryz.underlying9
  a9 := Tryz.isAgg9
  z9 := Tryz.sizeOf9
  v9 := Tryz.zeroValue9 }
open Go.RowKit Go.Lib in
theorem Tryz.strings_HasPrefix (s p : ByteArray) (w : World) :
    Calls Tryz.prog 84 #[.string s, .string p] w fun e w' => e = .returned (.bool (Lib.hasPrefix s.data.toList p.data.toList)) ∧ w' = w := Any.strings_HasPrefix Tryz.lays99 s p w
def Tryz.lays101_ren : Go.Shelf.Ren := ⟨fun | 101 => 145 | 208 => 177 | 206 => 129 | n => n, fun | 9 => 9 | 4 => 4 | 3 => 3 | n => n, fun | n => n⟩
theorem Tryz.lays101 : Go.Proofs.Lays.n101 Tryz.prog Tryz.lays101_ren := {
  mixed := by kernel_rfl
  f101 := Tryz.func145.trans (congrArg some (by kernel_rfl))
  f206 := Tryz.func129.trans (congrArg some (by kernel_rfl))
  f208 := Tryz.func177.trans (congrArg some (by kernel_rfl))
  t3 := Tryz.underlying3
  a3 := Tryz.isAgg3
  z3 := Tryz.sizeOf3
  v3 := Tryz.zeroValue3
  t4 := Tryz.underlying4
  a4 := Tryz.isAgg4
  z4 := Tryz.sizeOf4
  v4 := Tryz.zeroValue4
  t9 := Tryz.underlying9
  a9 := Tryz.isAgg9
  z9 := Tryz.sizeOf9
  v9 := Tryz.zeroValue9 }
open Go.RowKit Go.Lib in
theorem Tryz.strings_TrimPrefix (s p : ByteArray) (w : World) :
    Calls Tryz.prog 145 #[.string s, .string p] w fun e w' => e = .returned (.string ⟨(Lib.trimPrefix s.data.toList p.data.toList).toArray⟩) ∧ w' = w := Any.strings_TrimPrefix Tryz.lays101 s p w
def Tryz.lays105_ren : Go.Shelf.Ren := ⟨fun | 105 => 176 | 212 => 197 | 99 => 84 | 165 => 132 | 166 => 133 | 170 => 198 | 169 => 134 | 263 => 209 | 264 => 210 | 206 => 129 | 240 => 172 | 241 => 173 | 276 => 195 | 277 => 196 | n => n, fun | 9 => 9 | 3 => 3 | 4 => 4 | 20 => 20 | 0 => 0 | 46 => 124 | 109 => 210 | 5 => 5 | 72 => 140 | 76 => 144 | 51 => 165 | 146 => 224 | 53 => 167 | 148 => 226 | 70 => 138 | 37 => 22 | 75 => 143 | 127 => 189 | 164 => 207 | 80 => 146 | n => n, fun | n => n⟩
theorem Tryz.lays105 : Go.Proofs.Lays.n105 Tryz.prog Tryz.lays105_ren := {
  mixed := by kernel_rfl
  f99 := Tryz.func84.trans (congrArg some (by kernel_rfl))
  f105 := Tryz.func176.trans (congrArg some (by kernel_rfl))
  f165 := Tryz.func132.trans (congrArg some (by kernel_rfl))
  f166 := Tryz.func133.trans (congrArg some (by kernel_rfl))
  f169 := Tryz.func134.trans (congrArg some (by kernel_rfl))
  f170 := Tryz.func198.trans (congrArg some (by kernel_rfl))
  f206 := Tryz.func129.trans (congrArg some (by kernel_rfl))
  f212 := Tryz.func197.trans (congrArg some (by kernel_rfl))
  f240 := Tryz.func172.trans (congrArg some (by kernel_rfl))
  f241 := Tryz.func173.trans (congrArg some (by kernel_rfl))
  f263 := Tryz.func209.trans (congrArg some (by kernel_rfl))
  f264 := Tryz.func210.trans (congrArg some (by kernel_rfl))
  f276 := Tryz.func195.trans (congrArg some (by kernel_rfl))
  f277 := Tryz.func196.trans (congrArg some (by kernel_rfl))
  t0 := Tryz.underlying0
  a0 := Tryz.isAgg0
  z0 := Tryz.sizeOf0
  v0 := Tryz.zeroValue0
  t3 := Tryz.underlying3
  a3 := Tryz.isAgg3
  z3 := Tryz.sizeOf3
  v3 := Tryz.zeroValue3
  t4 := Tryz.underlying4
  a4 := Tryz.isAgg4
  z4 := Tryz.sizeOf4
  v4 := Tryz.zeroValue4
  t5 := Tryz.underlying5
  a5 := Tryz.isAgg5
  z5 := Tryz.sizeOf5
  v5 := Tryz.zeroValue5
  t9 := Tryz.underlying9
  a9 := Tryz.isAgg9
  z9 := Tryz.sizeOf9
  v9 := Tryz.zeroValue9
  t20 := Tryz.underlying20
  a20 := Tryz.isAgg20
  z20 := Tryz.sizeOf20
  v20 := Tryz.zeroValue20
  t37 := Tryz.underlying22
  a37 := Tryz.isAgg22
  z37 := Tryz.sizeOf22
  v37 := Tryz.zeroValue22
  t46 := Tryz.underlying124
  a46 := Tryz.isAgg124
  z46 := Tryz.sizeOf124
  v46 := Tryz.zeroValue124
  t51 := Tryz.underlying165
  a51 := Tryz.isAgg165
  z51 := Tryz.sizeOf165
  v51 := Tryz.zeroValue165
  t53 := Tryz.underlying167
  a53 := Tryz.isAgg167
  z53 := Tryz.sizeOf167
  v53 := Tryz.zeroValue167
  t70 := Tryz.underlying138
  a70 := Tryz.isAgg138
  z70 := Tryz.sizeOf138
  v70 := Tryz.zeroValue138
  t72 := Tryz.underlying140
  a72 := Tryz.isAgg140
  z72 := Tryz.sizeOf140
  v72 := Tryz.zeroValue140
  t75 := Tryz.underlying143
  a75 := Tryz.isAgg143
  z75 := Tryz.sizeOf143
  v75 := Tryz.zeroValue143
  t76 := Tryz.underlying144
  a76 := Tryz.isAgg144
  z76 := Tryz.sizeOf144
  v76 := Tryz.zeroValue144
  t109 := Tryz.underlying210
  a109 := Tryz.isAgg210
  z109 := Tryz.sizeOf210
  v109 := Tryz.zeroValue210
  t127 := Tryz.underlying189
  a127 := Tryz.isAgg189
  z127 := Tryz.sizeOf189
  v127 := Tryz.zeroValue189
  t146 := Tryz.underlying224
  a146 := Tryz.isAgg224
  z146 := Tryz.sizeOf224
  v146 := Tryz.zeroValue224
  t148 := Tryz.underlying226
  a148 := Tryz.isAgg226
  z148 := Tryz.sizeOf226
  v148 := Tryz.zeroValue226
  t164 := Tryz.underlying207
  a164 := Tryz.isAgg207
  z164 := Tryz.sizeOf207
  v164 := Tryz.zeroValue207 }
theorem Tryz.Builder_Extra_105 : Builder.Extra Tryz.prog Tryz.lays105_ren := {
  sizeBuilder := by kernel_rfl
  liesBuilder := by kernel_rfl
  t5 := Tryz.underlying5
  a5 := Tryz.isAgg5
  z5 := Tryz.sizeOf5
  v5 := Tryz.zeroValue5
  infoByte := by kernel_rfl
  cellsByte := by kernel_rfl
  sizeByte := by kernel_rfl
  neB5 := by decide }
open Go.RowKit Go.Lib in
theorem Tryz.strings_Repeat (s : ByteArray) (c : Nat) (w : World) (hc : c ≤ 9223372036854775807) (hlen : s.size * c ≤ 140737488355328) :
    Calls Tryz.prog 176 #[.string s, .int .i64 c] w fun e w' => e = .returned (.string ⟨(Lib.repeatL s.data.toList c).toArray⟩) ∧ Below w.heap.size w w' := Any.strings_Repeat Tryz.lays105 Tryz.Builder_Extra_105 s c w hc hlen
end Go.Proofs

set_option linter.unusedVariables false
set_option linter.unusedSimpArgs false
namespace Go.GH
open Go Go.Proofs
noncomputable def c_impl_readPath_1 : PCon := con [mC] true Str encS (fun s => s.length ≤ 4611686018427387904) (fun s => .bool (!nameOk s))
noncomputable def E_impl_readPath_1 : Env := ⟨lookup tyTab, lookup [(94, c_impl_NameOk)], [0, 2]⟩
set_option maxRecDepth 100000 in
set_option maxHeartbeats 4000000 in
theorem m_impl_readPath_1 : Meets E_impl_readPath_1 (codeOf Tryz.f93) Tryz.f93.results.toList c_impl_readPath_1 := by
  intro (s : Str) hs
  have hs : s.length ≤ 4611686018427387904 := hs
  refine ⟨trivial, ?_⟩
  conv => whnf
  refine ⟨s, rfl, fun _ => hs, ?_⟩
  conv => whnf
  exact ⟨trivial, rfl⟩
theorem ok_impl_readPath_1 : ConOk Tryz.prog 93 c_impl_readPath_1 := meets_ok (tabT _ _) (FOk.cons ok_impl_NameOk FOk.nil) mixed Tryz.func93 rfl Tryz.call93 (by decide) (by kernel_rfl) m_impl_readPath_1 (by intro _ (y : Str) _; exact ⟨by simp [c_impl_readPath_1, con, conG, conW, AV.noRd, noRdCells, noRdRows, noRdRows_map', encS], by simp [c_impl_readPath_1, con, conG, conW, AV.noRd, noRdCells, noRdRows, noRdRows_map', encS]⟩) (by intro (y : Str) _; first | (simp [c_impl_readPath_1, con, conG, conW, conP, AV.free, freeCells, freeRows, freeRows_map, encS]; done) | (obtain ⟨_, _⟩ := y; simp [c_impl_readPath_1, con, conG, conW, conP, AV.free, freeCells, freeRows, freeRows_map, encS]; done) | (obtain ⟨_, _, _⟩ := y; simp [c_impl_readPath_1, con, conG, conW, conP, AV.free, freeCells, freeRows, freeRows_map, encS]; done))
noncomputable def c_impl_PathOf_1 : PCon := con [mC] true Str encS (fun s => s.length ≤ 4611686018427387904) (fun s => .bool (!nameOk s))
noncomputable def E_impl_PathOf_1 : Env := ⟨lookup tyTab, lookup [(94, c_impl_NameOk)], [0, 2]⟩
set_option maxRecDepth 100000 in
set_option maxHeartbeats 4000000 in
theorem m_impl_PathOf_1 : Meets E_impl_PathOf_1 (codeOf Tryz.f96) Tryz.f96.results.toList c_impl_PathOf_1 := by
  intro (s : Str) hs
  have hs : s.length ≤ 4611686018427387904 := hs
  refine ⟨trivial, ?_⟩
  conv => whnf
  refine ⟨s, rfl, fun _ => hs, ?_⟩
  conv => whnf
  exact ⟨trivial, rfl⟩
theorem ok_impl_PathOf_1 : ConOk Tryz.prog 96 c_impl_PathOf_1 := meets_ok (tabT _ _) (FOk.cons ok_impl_NameOk FOk.nil) mixed Tryz.func96 rfl Tryz.call96 (by decide) (by kernel_rfl) m_impl_PathOf_1 (by intro _ (y : Str) _; exact ⟨by simp [c_impl_PathOf_1, con, conG, conW, AV.noRd, noRdCells, noRdRows, noRdRows_map', encS], by simp [c_impl_PathOf_1, con, conG, conW, AV.noRd, noRdCells, noRdRows, noRdRows_map', encS]⟩) (by intro (y : Str) _; first | (simp [c_impl_PathOf_1, con, conG, conW, conP, AV.free, freeCells, freeRows, freeRows_map, encS]; done) | (obtain ⟨_, _⟩ := y; simp [c_impl_PathOf_1, con, conG, conW, conP, AV.free, freeCells, freeRows, freeRows_map, encS]; done) | (obtain ⟨_, _, _⟩ := y; simp [c_impl_PathOf_1, con, conG, conW, conP, AV.free, freeCells, freeRows, freeRows_map, encS]; done))
noncomputable def c_slices_IndexFunc_string : PCon := con [mS 1, mC] true (List Str × Bool) (fun x => [.rd 1 (x.1.map encS), .fn (bif x.2 then 93 else 96) []]) (fun x => smL x.1) (fun x => .int .i64 (fnd (fun s => !nameOk s) x.1))
noncomputable def E_slices_IndexFunc_string : Env := ⟨lookup tyTab, lookup [(93, c_impl_readPath_1), (96, c_impl_PathOf_1)], [0, 1, 4, 5, 7, 8, 9, 16]⟩
set_option maxRecDepth 100000 in
set_option maxHeartbeats 4000000 in
theorem m_slices_IndexFunc_string : Meets E_slices_IndexFunc_string (codeOf Tryz.f131) Tryz.f131.results.toList c_slices_IndexFunc_string := by
  rintro ⟨l, q⟩ hs
  obtain ⟨hs1, hs2⟩ : smL l := hs
  cases q with
  | true =>
    refine ⟨trivial, ?_⟩
    conv => whnf
    refine loop_rule (fun i : Nat => ⟨[(0, ⟨none, .rd 1 (l.map encS)⟩), (1, ⟨none, .fn 93 []⟩), (7, ⟨none, .int .i64 l.length⟩), (8, ⟨none, .int .i64 i⟩)], [], 0⟩)
      (fun i => i ≤ l.length ∧ (l.take i).any (fun s => !nameOk s) = false) (fun i => l.length - i) 0 ?_ ⟨by omega, rfl⟩ ?_
    · (refine ⟨?_, ?_, rfl⟩ <;> repeat' (first | exact rfl | exact trivial | refine ⟨?_, ?_⟩ | fail) <;> (conv => whnf))
      all_goals simp
    rintro i ⟨hi, hI⟩
    (conv => whnf); refine ⟨fun h1 => ?_, fun h1 => ?_⟩
    · have h1 : i < l.length := by simpa using h1
      obtain ⟨b, hb⟩ := get_lt h1
      have hbs := hs2 b (List.mem_of_getElem? hb)
      repeat ((conv => whnf); refine ⟨encS b, fun _ => ⟨by omega, by simp [hb]⟩, ?_⟩)
      refine ⟨b, rfl, fun _ => by show _ ≤ _; omega, ?_⟩
      (conv => whnf); refine ⟨fun h2 => ?_, fun h2 => ?_⟩
      · have h2 : (!nameOk b) = true := h2
        conv => whnf
        exact ⟨trivial, eqN' (fnd_hit hI hb h2).symm⟩
      · have h2 : (!nameOk b) = false := h2
        repeat ((conv => whnf); refine ⟨_, w64 (by (show (_ : Prop)); first | omega | ((try dsimp only at *); (try simp only [lns] at *); omega)), ?_⟩)
        refine again (i + 1) ?_ ⟨h1, any_take_succ hI hb h2⟩ (by first | omega | (simp; done) | (simp; omega))
        (refine ⟨?_, ?_, rfl⟩ <;> repeat' (first | exact rfl | exact trivial | refine ⟨?_, ?_⟩ | fail) <;> (conv => whnf))
    · have h1 : i = l.length := by
        have : ¬ i < l.length := by simpa using h1
        omega
      subst h1
      rw [List.take_length] at hI
      conv => whnf
      exact ⟨trivial, eqN' (fnd_none hI).symm⟩
  | false =>
    refine ⟨trivial, ?_⟩
    conv => whnf
    refine loop_rule (fun i : Nat => ⟨[(0, ⟨none, .rd 1 (l.map encS)⟩), (1, ⟨none, .fn 96 []⟩), (7, ⟨none, .int .i64 l.length⟩), (8, ⟨none, .int .i64 i⟩)], [], 0⟩)
      (fun i => i ≤ l.length ∧ (l.take i).any (fun s => !nameOk s) = false) (fun i => l.length - i) 0 ?_ ⟨by omega, rfl⟩ ?_
    · (refine ⟨?_, ?_, rfl⟩ <;> repeat' (first | exact rfl | exact trivial | refine ⟨?_, ?_⟩ | fail) <;> (conv => whnf))
      all_goals simp
    rintro i ⟨hi, hI⟩
    (conv => whnf); refine ⟨fun h1 => ?_, fun h1 => ?_⟩
    · have h1 : i < l.length := by simpa using h1
      obtain ⟨b, hb⟩ := get_lt h1
      have hbs := hs2 b (List.mem_of_getElem? hb)
      repeat ((conv => whnf); refine ⟨encS b, fun _ => ⟨by omega, by simp [hb]⟩, ?_⟩)
      refine ⟨b, rfl, fun _ => by show _ ≤ _; omega, ?_⟩
      (conv => whnf); refine ⟨fun h2 => ?_, fun h2 => ?_⟩
      · have h2 : (!nameOk b) = true := h2
        conv => whnf
        exact ⟨trivial, eqN' (fnd_hit hI hb h2).symm⟩
      · have h2 : (!nameOk b) = false := h2
        repeat ((conv => whnf); refine ⟨_, w64 (by (show (_ : Prop)); first | omega | ((try dsimp only at *); (try simp only [lns] at *); omega)), ?_⟩)
        refine again (i + 1) ?_ ⟨h1, any_take_succ hI hb h2⟩ (by first | omega | (simp; done) | (simp; omega))
        (refine ⟨?_, ?_, rfl⟩ <;> repeat' (first | exact rfl | exact trivial | refine ⟨?_, ?_⟩ | fail) <;> (conv => whnf))
    · have h1 : i = l.length := by
        have : ¬ i < l.length := by simpa using h1
        omega
      subst h1
      rw [List.take_length] at hI
      conv => whnf
      exact ⟨trivial, eqN' (fnd_none hI).symm⟩
theorem ok_slices_IndexFunc_string : ConOk Tryz.prog 131 c_slices_IndexFunc_string := meets_ok (tabT _ _) (FOk.cons ok_impl_readPath_1 (FOk.cons ok_impl_PathOf_1 FOk.nil)) mixed Tryz.func131 rfl Tryz.call131 (by decide) (by kernel_rfl) m_slices_IndexFunc_string (by intro _ (y : (List Str × Bool)) _; exact ⟨by simp [c_slices_IndexFunc_string, con, conG, conW, AV.noRd, noRdCells, noRdRows, noRdRows_map', encS], by simp [c_slices_IndexFunc_string, con, conG, conW, AV.noRd, noRdCells, noRdRows, noRdRows_map', encS]⟩) (by intro (y : (List Str × Bool)) _; first | (simp [c_slices_IndexFunc_string, con, conG, conW, conP, AV.free, freeCells, freeRows, freeRows_map, encS]; done) | (obtain ⟨_, _⟩ := y; simp [c_slices_IndexFunc_string, con, conG, conW, conP, AV.free, freeCells, freeRows, freeRows_map, encS]; done) | (obtain ⟨_, _, _⟩ := y; simp [c_slices_IndexFunc_string, con, conG, conW, conP, AV.free, freeCells, freeRows, freeRows_map, encS]; done))
end Go.GH

set_option linter.unusedVariables false
set_option linter.unusedSimpArgs false
namespace Go.GH
open Go Go.Proofs
def c_strings_Join : PCon := con [mS 1, mC] true (List Str × Str) (fun x => [.rd 1 (x.1.map encS), .str x.2]) (fun x => (Lib.join x.1 x.2).length ≤ 16777216 ∧ x.1.length ≤ 4194304) (fun x => .str (Lib.join x.1 x.2))
theorem ok_strings_Join : ConOk Tryz.prog 95 c_strings_Join := by
  refine con_of_calls rfl (fun _ => rfl) (fun _ => rfl) (fun _ => rfl) (fun x _ => ⟨freeRows_map.2 fun _ _ => ⟨trivial, trivial⟩, trivial, trivial⟩) Tryz.call95 ?_
  rintro ⟨l, p⟩ hpre y w args ρ hw hR hsz hs
  obtain ⟨hp1, hp2⟩ : (Lib.join l p).length ≤ 16777216 ∧ l.length ≤ 4194304 := hpre
  have h0 := hs 0 _ rfl
  have h1 := srep_str (hs 1 _ rfl)
  obtain ⟨a, cap, e0, hcap, hcell⟩ := rd_strs h0 hw
  have hsz : args.size = 2 := hsz
  have ha : args = #[.slice a l.length cap, .string (toB p)] := by
    apply Array.ext
    · simp [hsz]
    · intro i hi1 hi2
      have : i = 0 ∨ i = 1 := by omega
      rcases this with rfl | rfl
      · rw [Array.getD_eq_getD_getElem?, Array.getElem?_eq_getElem hi1] at e0; simpa using e0
      · rw [Array.getD_eq_getD_getElem?, Array.getElem?_eq_getElem hi1] at h1; simpa [bytesV, toB] using h1
  rw [ha]
  cases l with
  | nil =>
    refine (Tryz.strings_Join_none a cap (toB p) w).mono ?_
    rintro e w' ⟨rfl, rfl⟩
    exact ⟨rfl, RowKit.Below.refl _ _⟩
  | cons x r =>
    obtain ⟨b, o, rfl, hb, hc⟩ := hcell (by simp)
    have e : ((x :: r).map toB).map (fun z => z.data.toList) = x :: r := by
      rw [List.map_map]; simp [Function.comp_def, toB]
    have hJ := Tryz.strings_Join b o cap ((x :: r).map toB) (toB p) w (fun j z hz => by
      rw [List.getElem?_map] at hz
      cases hq : (x :: r)[j]? with
      | none => rw [hq] at hz; cases hz
      | some s0 =>
        rw [hq] at hz
        simp only [Option.map_some, Option.some.injEq] at hz
        subst hz
        exact hc j s0 hq) (hR b hb) (by simp at hp2 ⊢; omega) (by simpa using hcap) (by
          rw [e]; simp only [toB]; omega)
    rw [e] at hJ
    rw [List.length_map] at hJ
    exact hJ
noncomputable def c_slices_ContainsFunc_string : PCon := con [mS 1, mC] true (List Str × Bool) (fun x => [.rd 1 (x.1.map encS), .fn (bif x.2 then 93 else 96) []]) (fun x => smL x.1) (fun x => .bool (x.1.any fun s => !nameOk s))
noncomputable def E_slices_ContainsFunc_string : Env := ⟨lookup tyTab, lookup [(131, c_slices_IndexFunc_string), (93, c_impl_readPath_1), (96, c_impl_PathOf_1)], [0, 1, 4]⟩
set_option maxRecDepth 100000 in
set_option maxHeartbeats 4000000 in
theorem m_slices_ContainsFunc_string : Meets E_slices_ContainsFunc_string (codeOf Tryz.f92) Tryz.f92.results.toList c_slices_ContainsFunc_string := by
  rintro ⟨l, q⟩ hs
  refine ⟨trivial, ?_⟩
  cases q with
  | true =>
    conv => whnf
    refine ⟨(l, true), rfl, fun _ => hs, ?_⟩
    conv => whnf
    exact ⟨trivial, eqB fnd_pos⟩
  | false =>
    conv => whnf
    refine ⟨(l, false), rfl, fun _ => hs, ?_⟩
    conv => whnf
    exact ⟨trivial, eqB fnd_pos⟩
theorem ok_slices_ContainsFunc_string : ConOk Tryz.prog 92 c_slices_ContainsFunc_string := meets_ok (tabT _ _) (FOk.cons ok_slices_IndexFunc_string (FOk.cons ok_impl_readPath_1 (FOk.cons ok_impl_PathOf_1 FOk.nil))) mixed Tryz.func92 rfl Tryz.call92 (by decide) (by kernel_rfl) m_slices_ContainsFunc_string (by intro _ (y : (List Str × Bool)) _; exact ⟨by simp [c_slices_ContainsFunc_string, con, conG, conW, AV.noRd, noRdCells, noRdRows, noRdRows_map', encS], by simp [c_slices_ContainsFunc_string, con, conG, conW, AV.noRd, noRdCells, noRdRows, noRdRows_map', encS]⟩) (by intro (y : (List Str × Bool)) _; first | (simp [c_slices_ContainsFunc_string, con, conG, conW, conP, AV.free, freeCells, freeRows, freeRows_map, encS]; done) | (obtain ⟨_, _⟩ := y; simp [c_slices_ContainsFunc_string, con, conG, conW, conP, AV.free, freeCells, freeRows, freeRows_map, encS]; done) | (obtain ⟨_, _, _⟩ := y; simp [c_slices_ContainsFunc_string, con, conG, conW, conP, AV.free, freeCells, freeRows, freeRows_map, encS]; done))
noncomputable def c_impl_readPath : PCon := con [mC] false Str encS (fun s => sml s.length) (fun s => .tup [.own 1 ((names s).map encS), .bool (pathOk s)])
noncomputable def E_impl_readPath : Env := ⟨lookup tyTab, lookup [(90, c_impl_Parts), (91, c_impl_within), (92, c_slices_ContainsFunc_string), (93, c_impl_readPath_1)], [0, 2, 3, 4, 6, 18, 21]⟩
set_option maxRecDepth 100000 in
set_option maxHeartbeats 4000000 in
theorem m_impl_readPath : Meets E_impl_readPath (codeOf Tryz.f50) Tryz.f50.results.toList c_impl_readPath := by
  intro (s : Str) hs
  have hs : s.length ≤ 4194304 := hs
  refine ⟨trivial, ?_⟩
  (conv => whnf); refine ⟨fun h1 => ?_, fun h1 => ?_⟩
  · have h1 : (s == sl) = true := h1
    have hp : pathOk s = true := by simp [pathOk, h1]
    have hn : names s = [] := by simp [names, h1]
    conv => whnf
    exact ⟨trivial, eqNil (by rw [hn]; rfl), eqB hp.symm, trivial⟩
  have h1 : (s == sl) = false := h1
  conv => whnf
  refine ⟨(s, 47), rfl, fun _ => hs, ?_⟩
  conv => whnf
  have hq := splitBy_len (c := 47) s
  have hp := split_pos 47 s
  have hd : pathOk s = (inB (splitBy 47 s).length 2 5 && ((splitBy 47 s).headD [] == []) && ((splitBy 47 s).drop 1).all nameOk) := by simp [pathOk, h1]
  have hn : names s = if pathOk s then (splitBy 47 s).drop 1 else [] := by simp [names, h1]
  obtain ⟨a, ha⟩ := get_lt hp
  have hh : (splitBy 47 s).headD [] = a := by
    cases hx : splitBy 47 s with
    | nil => rw [hx] at ha; cases ha
    | cons y r => rw [hx] at ha; simpa using ha
  rw [hh] at hd
  repeat ((conv => whnf); first | refine ⟨fun h => h, ?_⟩ | refine ⟨by (show (_ : Prop)); first | omega | ((try dsimp only at *); (try simp only [lns] at *); omega), ?_⟩ | refine ⟨encS a, fun _ => get_map ha, ?_⟩)
  refine ⟨((splitBy 47 s).length, 2, 5), by (try simp only [List.length_map]); rfl, fun _ => trivial, ?_⟩
  repeat ((conv => whnf); refine ⟨fun h => h, ?_⟩)
  (conv => whnf); refine ⟨fun h2 => ?_, fun h2 => ?_⟩
  · have hf : pathOk s = false := by
      have h2 : (!(a == []) || (!inB (splitBy 47 s).length 2 5)) = true := h2
      rw [hd]
      revert h2
      cases inB (splitBy 47 s).length 2 5 <;> cases (a == []) <;> simp
    rw [hf] at hn
    conv => whnf
    exact ⟨trivial, eqNil (by rw [hn]; rfl), eqB hf.symm, trivial⟩
  have h2 : inB (splitBy 47 s).length 2 5 = true ∧ (a == []) = true := by
    have h2 : (!(a == []) || (!inB (splitBy 47 s).length 2 5)) = false := h2
    revert h2
    cases inB (splitBy 47 s).length 2 5 <;> cases (a == []) <;> simp
  rw [h2.1, h2.2, Bool.true_and, Bool.true_and] at hd
  repeat ((conv => whnf); refine ⟨fun _ => ⟨by (show (_ : Prop)); first | omega | ((try dsimp only at *); (try simp only [lns] at *); omega), by (show (_ : Prop)); first | omega | ((try dsimp only at *); (try simp only [lns] at *); omega), by (show (_ : Prop)); first | omega | ((try dsimp only at *); (try simp only [lns] at *); omega)⟩, ?_⟩)
  refine ⟨((splitBy 47 s).drop 1, true), ?_, fun _ => ?_, ?_⟩
  · refine congrArg (fun x => [AV.rd 1 x, AV.fn 93 []]) ?_
    rw [cutS, List.take_of_length_le (by simp)]; rfl
  · refine ⟨by simp; omega, fun x hx => ?_⟩
    have := splitBy_mem s x (List.mem_of_mem_drop hx)
    omega
  have hany : ((splitBy 47 s).drop 1).any (fun s => !nameOk s) = !pathOk s := by rw [hd, List.not_all_eq_any_not]
  (conv => whnf); refine ⟨fun h3 => ?_, fun h3 => ?_⟩
  · have h3 : ((splitBy 47 s).drop 1).any (fun s => !nameOk s) = true := h3
    have hf : pathOk s = false := by rw [hany] at h3; simpa using h3
    rw [hf] at hn
    conv => whnf
    exact ⟨trivial, eqNil (by rw [hn]; rfl), eqB hf.symm, trivial⟩
  · have h3 : ((splitBy 47 s).drop 1).any (fun s => !nameOk s) = false := h3
    have hf : pathOk s = true := by rw [hany] at h3; simpa using h3
    rw [hf, if_pos rfl] at hn
    repeat ((conv => whnf); refine ⟨fun _ => ⟨by (show (_ : Prop)); first | omega | ((try dsimp only at *); (try simp only [lns] at *); omega), by (show (_ : Prop)); first | omega | ((try dsimp only at *); (try simp only [lns] at *); omega), by (show (_ : Prop)); first | omega | ((try dsimp only at *); (try simp only [lns] at *); omega)⟩, ?_⟩)
    refine ⟨trivial, ?_, eqB hf.symm, trivial⟩
    refine eqOwn ?_
    rw [hn]
    simp
    rw [List.take_of_length_le (by simp)]
theorem ok_impl_readPath : ConOk Tryz.prog 50 c_impl_readPath := meets_ok (tabT _ _) (FOk.cons ok_impl_Parts (FOk.cons ok_impl_within (FOk.cons ok_slices_ContainsFunc_string (FOk.cons ok_impl_readPath_1 FOk.nil)))) mixed Tryz.func50 rfl Tryz.call50 (by decide) (by kernel_rfl) m_impl_readPath (by intro _ (y : Str) _; exact ⟨by simp [c_impl_readPath, con, conG, conW, AV.noRd, noRdCells, noRdRows, noRdRows_map', encS], by simp [c_impl_readPath, con, conG, conW, AV.noRd, noRdCells, noRdRows, noRdRows_map', encS]⟩) (by intro (y : Str) _; first | (simp [c_impl_readPath, con, conG, conW, conP, AV.free, freeCells, freeRows, freeRows_map, encS]; done) | (obtain ⟨_, _⟩ := y; simp [c_impl_readPath, con, conG, conW, conP, AV.free, freeCells, freeRows, freeRows_map, encS]; done) | (obtain ⟨_, _, _⟩ := y; simp [c_impl_readPath, con, conG, conW, conP, AV.free, freeCells, freeRows, freeRows_map, encS]; done))
end Go.GH

set_option linter.unusedVariables false
set_option linter.unusedSimpArgs false
namespace Go.GH
open Go
def withinP (p q : Str) : Bool := pathOk p && pathOk q && (names q).isPrefixOf (names p)
theorem splitBy_head {p : Str} (h : (splitBy 47 p).headD [] = []) (h2 : 2 ≤ (splitBy 47 p).length) : ∃ r, p = 47 :: r ∧ splitBy 47 r = (splitBy 47 p).drop 1 := by
  cases p with
  | nil => simp [splitBy] at h2
  | cons x r =>
    by_cases hx : x = 47
    · subst hx; exact ⟨r, rfl, by simp [splitBy]⟩
    · simp only [splitBy, if_neg hx] at h
      split at h
      · simp at h
      · simp at h
theorem cat_split : ∀ (s : Str), cat (splitBy 47 s) = 47 :: s
  | [] => rfl
  | x :: r => by
    unfold splitBy
    have ih := cat_split r
    split
    · rename_i hx; rw [cat, ih, hx]; rfl
    · have := splitBy_ne 47 r
      cases h : splitBy 47 r with
      | nil => exact absurd h this
      | cons y t =>
        rw [h] at ih
        simp only [cat, List.cons_append] at ih ⊢
        rw [List.cons.injEq] at ih
        rw [← ih.2]
theorem cat_names {p : Str} (h : pathOk p = true) (h2 : (p == sl) = false) : p = cat (names p) ∧ names p ≠ [] := by
  have hn : names p = (splitBy 47 p).drop 1 := by simp [names, h, h2]
  simp only [pathOk, h2, Bool.false_or, Bool.and_eq_true, inB, decide_eq_true_eq, beq_iff_eq] at h
  obtain ⟨⟨⟨h3, h4⟩, h5⟩, h6⟩ := h
  obtain ⟨r, hr, hs⟩ := splitBy_head h5 (by omega)
  rw [hn, ← hs]
  exact ⟨by rw [cat_split, hr], splitBy_ne _ _⟩
theorem names_no {p : Str} : ∀ a, a ∈ names p → ∀ x, x ∈ a → x ≠ 47 := fun a ha => nameOk_no (List.all_eq_true.1 names_all a ha)
theorem names_sl : names sl = [] := by simp [names]
theorem withinP_impl {p q : Str} (hp : pathOk p = true) (hq : pathOk q = true) : ((p == q) || (q == sl) || (q ++ sl).isPrefixOf p) = withinP p q := by
  have e0 : withinP p q = (names q).isPrefixOf (names p) := by simp [withinP, hp, hq]
  rw [e0]
  by_cases h1 : (p == q) = true
  · have : p = q := by simpa using h1
    subst this
    rw [h1]
    simp
  have h1 : (p == q) = false := by simpa using h1
  by_cases h2 : (q == sl) = true
  · rw [h2]
    have : q = sl := by simpa using h2
    subst this
    rw [names_sl]
    simp
  have h2 : (q == sl) = false := by simpa using h2
  obtain ⟨cq, nq⟩ := cat_names hq h2
  rw [h1, h2, Bool.false_or, Bool.false_or]
  by_cases h3 : (p == sl) = true
  · have : p = sl := by simpa using h3
    subst this
    rw [names_sl]
    have hl : 1 ≤ q.length := by
      rw [cq, cat_len]
      have := List.length_pos_iff.2 nq
      omega
    have e1 : (q ++ sl).isPrefixOf sl = false := by
      rw [Bool.eq_false_iff]
      intro h
      have := (List.isPrefixOf_iff_prefix.1 h).length_le
      simp [sl] at this
      subst this
      simp at hl
    rw [e1]
    cases hn : names q with
    | nil => exact absurd hn nq
    | cons x r => rfl
  have h3 : (p == sl) = false := by simpa using h3
  obtain ⟨cp, np⟩ := cat_names hp h3
  have sp := split_cat (names_no (p := p)) np
  have sq := split_cat (names_no (p := q)) nq
  rw [← cp] at sp
  rw [← cq] at sq
  rw [Bool.eq_iff_iff, List.isPrefixOf_iff_prefix, List.isPrefixOf_iff_prefix]
  constructor
  · rintro ⟨t, ht⟩
    have ht : q ++ 47 :: t = p := by rw [← ht]; simp [sl]
    have sp2 : splitBy 47 (q ++ 47 :: t) = [] :: names p := by rw [ht]; exact sp
    rw [split_cons, sq, List.cons_append, List.cons.injEq] at sp2
    exact ⟨_, sp2.2⟩
  · rintro ⟨r, hr⟩
    cases r with
    | nil =>
      rw [List.append_nil] at hr
      rw [← hr, ← cq] at cp
      subst cp
      simp at h1
    | cons a r =>
      rw [← hr, cat_append, ← cq] at cp
      refine ⟨a ++ cat r, ?_⟩
      rw [cp]
      simp [cat, sl]
theorem isPrefix_take {a b : List Str} : (decide ((b.length : Int) ≤ a.length) && (a.take b.length == b)) = b.isPrefixOf a := by
  rw [Bool.eq_iff_iff, List.isPrefixOf_iff_prefix, List.prefix_iff_eq_take]
  simp only [Bool.and_eq_true, decide_eq_true_eq, beq_iff_eq]
  constructor
  · rintro ⟨_, h⟩; exact h.symm
  · intro h
    refine ⟨?_, h.symm⟩
    have := congrArg List.length h
    simp at this
    omega
theorem argRR {s s2 : Nat} {x x' y y' : List (List AV)} (h1 : x = x') (h2 : y = y') : [AV.rd s x, AV.rd s2 y] = [AV.rd s x', AV.rd s2 y'] := by rw [h1, h2]
theorem args_two {args : Array Value} {p q : Str} (hsz : args.size = 2) (h0 : args.getD 0 undef = bytesV p) (h1 : args.getD 1 undef = bytesV q) : args = #[.string (toB p), .string (toB q)] := by
  apply Array.ext
  · simp [hsz]
  · intro i hi1 hi2
    have : i = 0 ∨ i = 1 := by omega
    rcases this with rfl | rfl
    · rw [Array.getD_eq_getD_getElem?, Array.getElem?_eq_getElem hi1] at h0; simpa [bytesV, toB] using h0
    · rw [Array.getD_eq_getD_getElem?, Array.getElem?_eq_getElem hi1] at h1; simpa [bytesV, toB] using h1
theorem names_sm {p : Str} : smL (names p) := by
  refine ⟨by have := names_len (p := p); omega, fun s hs => ?_⟩
  have := nameOk_len (List.all_eq_true.1 (names_all (p := p)) s hs)
  omega
theorem smL_take {l : List Str} {k : Nat} (h : smL l) : smL (l.take k) := by
  refine ⟨by have := h.1; simp; omega, fun s hs => h.2 s (List.mem_of_mem_take hs)⟩
theorem argTs {s : Nat} {x x' : List (List AV)} {p : Str} (h1 : x = x') : [AV.agg [AV.rd s x], .str p] = [AV.agg [AV.rd s x'], .str p] := by rw [h1]
def useP (t : Tr) (p : Str) : Bool × Nat × Nat :=
  if treeOk t && (treeGet t p).isSome then (true, (t.filter fun x => x.kind != 2 && withinP x.path p).length, ((t.filter fun x => x.kind != 2 && withinP x.path p).map fun x => x.data.length).sum) else (false, 0, 0)
def useRes (t : Tr) (p : Str) : AV := .tup [.int .i64 (useP t p).2.1, .int .i64 (useP t p).2.2, .bool (useP t p).1]
def lyP (p : Str) (x : It) : Bool := x.kind != 2 && withinP x.path p
def cnt (p : Str) (l : Tr) : Nat := (l.filter (lyP p)).length
def byt (p : Str) (l : Tr) : Nat := ((l.filter (lyP p)).map fun x => x.data.length).sum
theorem cnt_hit {p : Str} {l : Tr} {i : Nat} {x : It} (h : l[i]? = some x) (hx : lyP p x = true) : cnt p (l.take (i + 1)) = cnt p (l.take i) + 1 := by
  unfold cnt; rw [take_succ' h, List.filter_append]; simp [hx]
theorem cnt_pass {p : Str} {l : Tr} {i : Nat} {x : It} (h : l[i]? = some x) (hx : lyP p x = false) : cnt p (l.take (i + 1)) = cnt p (l.take i) := by
  unfold cnt; rw [take_succ' h, List.filter_append]; simp [hx]
theorem byt_hit {p : Str} {l : Tr} {i : Nat} {x : It} (h : l[i]? = some x) (hx : lyP p x = true) : byt p (l.take (i + 1)) = byt p (l.take i) + x.data.length := by
  unfold byt; rw [take_succ' h, List.filter_append]; simp [hx]
theorem byt_pass {p : Str} {l : Tr} {i : Nat} {x : It} (h : l[i]? = some x) (hx : lyP p x = false) : byt p (l.take (i + 1)) = byt p (l.take i) := by
  unfold byt; rw [take_succ' h, List.filter_append]; simp [hx]
theorem cnt_le {p : Str} {l : Tr} {i : Nat} : cnt p (l.take i) ≤ i := by
  unfold cnt
  have := List.length_filter_le (lyP p) (l.take i)
  simp at this
  omega
theorem byt_le {p : Str} {l : Tr} (h : ∀ x, x ∈ l → x.data.length ≤ 4194304) {i : Nat} : byt p (l.take i) ≤ i * 4194304 := by
  unfold byt
  generalize 4194304 = B at *
  have h1 : ∀ (m : Tr), (∀ x, x ∈ m → x.data.length ≤ B) → (m.map fun x => x.data.length).sum ≤ m.length * B := by
    intro m hm
    induction m with
    | nil => exact Nat.zero_le _
    | cons a r ih =>
      have := ih fun x hx => hm x (by simp [hx])
      have := hm a (by simp)
      simp only [List.map_cons, List.sum_cons, List.length_cons, Nat.add_mul]
      omega
  have h2 := h1 ((l.take i).filter (lyP p)) fun x hx => h x (List.mem_of_mem_take (List.mem_filter.1 hx).1)
  have h3 := List.length_filter_le (lyP p) (l.take i)
  simp at h3
  have h4 : ((l.take i).filter (lyP p)).length * B ≤ i * B := Nat.mul_le_mul_right _ (by omega)
  omega
theorem use_no {t : Tr} {p : Str} (h : (treeOk t && (treeGet t p).isSome) = false) : useRes t p = .tup [.int .i64 0, .int .i64 0, .bool false] := by
  simp [useRes, useP, h]
theorem use_yes {t : Tr} {p : Str} (h : (treeOk t && (treeGet t p).isSome) = true) : useRes t p = .tup [.int .i64 (cnt p t), .int .i64 (byt p t), .bool true] := by
  simp only [useRes, useP, h, if_true, cnt, byt]
  rfl
end Go.GH

set_option linter.unusedVariables false
set_option linter.unusedSimpArgs false
namespace Go.GH
open Go
structure OpR where
  kind : Int
  path : Str
  «to» : Str
  at_ : Int
  data : Str
  time : Int
def encO (o : OpR) : List AV := [.int .i64 o.kind, .str o.path, .str o.to, .int .i64 o.at_, .str o.data, .int .i64 o.time]
def OpR.zero : OpR := ⟨0, [], [], 0, [], 0⟩
theorem rdO (l : List OpR) : toRdRows (l.map encO) = l.map encO := toRdRows_map (fun _ => rfl) l
def differ (x : It) (o : Option It) : Bool := match o with
  | none => true
  | some y => y.kind != x.kind || ((x.kind == 3) && !(y.data == x.data))
def goes (x : It) (b : Tr) : Bool := differ x (treeGet b x.path)
def newO (y : It) : OpR := if y.kind == 2 then ⟨0, y.path, [], 0, [], 0⟩ else if y.kind == 3 then ⟨2, y.path, [], 0, y.data, y.time⟩ else ⟨1, y.path, [], 0, y.data, y.time⟩
def goneO (x : It) : OpR := ⟨if x.kind == 2 then 7 else 6, x.path, [], 0, [], 0⟩
def stepO (a b : Tr) (y : It) : List OpR :=
  if !(treeGet a y.path).isSome || goes ((treeGet a y.path).getD It.none) b then [newO y]
  else if !(((treeGet a y.path).getD It.none).data == y.data) then [⟨3, y.path, [], 0, y.data, y.time⟩, ⟨4, y.path, [], y.data.length, [], y.time⟩]
  else if ((treeGet a y.path).getD It.none).time != y.time then [⟨5, y.path, [], 0, [], y.time⟩] else []
def downO (a b : Tr) (l : Tr) : List OpR := ((l.filter fun x => goes x b).map goneO)
def delta (a b : Tr) : List OpR := if treeOk a && treeOk b then downO a b a.reverse ++ b.flatMap (stepO a b) else []
theorem strLt_trans : ∀ {a b c : Str}, strLt a b = true → strLt b c = true → strLt a c = true
  | [], [], _, h, _ => by cases h
  | [], _ :: _, [], _, h => by cases h
  | [], _ :: _, _ :: _, _, _ => rfl
  | _ :: _, [], _, h, _ => by cases h
  | _ :: _, _ :: _, [], _, h => by cases h
  | x :: a, y :: b, z :: c, h1, h2 => by
    simp only [strLt, Bool.or_eq_true, Bool.and_eq_true, decide_eq_true_eq, beq_iff_eq] at h1 h2 ⊢
    rcases h1 with h1 | ⟨rfl, h1⟩
    · rcases h2 with h2 | ⟨rfl, h2⟩
      · exact .inl (UInt8.lt_trans h1 h2)
      · exact .inl h1
    · rcases h2 with h2 | ⟨rfl, h2⟩
      · exact .inl h2
      · exact .inr ⟨rfl, strLt_trans h1 h2⟩
section
variable {t : Tr}
theorem treeOk_chk (h : treeOk t = true) {i : Nat} (hi : i < t.length) : chk t i = true := by
  rw [treeOk, Bool.and_eq_true] at h
  exact (chk_all (t := t)).1 h.2 i hi
theorem treeOk_len (h : treeOk t = true) : t.length ≤ 40 := by
  rw [treeOk, Bool.and_eq_true] at h
  simpa using h.1
theorem treeOk_get (h : treeOk t = true) {i : Nat} {x : It} (hx : t[i]? = some x) : itemOk x = true ∧ (i = 0 ∨ strLt (t.getD (i - 1) It.none).path x.path = true) ∧ dirAt t (above x.path) = true := by
  have := treeOk_chk h (lt_of_get hx)
  rw [chk_eq hx rfl] at this
  simp only [Bool.and_eq_true, Bool.or_eq_true, beq_iff_eq] at this
  exact ⟨this.1.1, this.1.2, this.2⟩
theorem treeOk_item (h : treeOk t = true) {x : It} (hx : x ∈ t) : itemOk x = true := by
  obtain ⟨i, hi⟩ := List.mem_iff_getElem?.1 hx
  exact (treeOk_get h hi).1
theorem treeOk_lt (h : treeOk t = true) : ∀ {j i : Nat} {x y : It}, t[i]? = some x → t[j]? = some y → i < j → strLt x.path y.path = true
  | 0, i, x, y, hx, hy, hij => by omega
  | j + 1, i, x, y, hx, hy, hij => by
    have hj := lt_of_get hy
    obtain ⟨z, hz⟩ := get_lt (l := t) (i := j) (by omega)
    have h1 : strLt z.path y.path = true := by
      have := (treeOk_get h hy).2.1
      rcases this with h0 | h0
      · omega
      · rw [Nat.add_sub_cancel, List.getD_eq_getElem?_getD, hz] at h0; exact h0
    rcases Nat.lt_or_ge i j with hi | hi
    · exact strLt_trans (treeOk_lt h hx hz hi) h1
    · have : i = j := by omega
      subst this
      rw [hx] at hz
      rw [Option.some.inj hz]
      exact h1
theorem treeOk_inj (h : treeOk t = true) {x y : It} (hx : x ∈ t) (hy : y ∈ t) (e : x.path = y.path) : x = y := by
  obtain ⟨i, hi⟩ := List.mem_iff_getElem?.1 hx
  obtain ⟨j, hj⟩ := List.mem_iff_getElem?.1 hy
  rcases Nat.lt_trichotomy i j with hij | rfl | hij
  · have := treeOk_lt h hi hj hij
    rw [e, strLt_irrefl] at this; cases this
  · rw [hi] at hj; exact Option.some.inj hj
  · have := treeOk_lt h hj hi hij
    rw [e, strLt_irrefl] at this; cases this
theorem item_path {x : It} (h : itemOk x = true) : (x.path == sl) = false := by
  unfold itemOk at h
  simp only [Bool.and_eq_true, Bool.not_eq_true'] at h
  exact h.1.1.2
theorem treeGet_find {p : Str} (h : (p == sl) = false) : treeGet t p = t.find? fun x => x.path == p := by
  rw [treeGet, if_neg (by simp [h])]
theorem treeGet_mem (h : treeOk t = true) {x : It} (hx : x ∈ t) : treeGet t x.path = some x := by
  rw [treeGet_find (item_path (treeOk_item h hx))]
  cases hf : t.find? fun z => z.path == x.path with
  | none =>
    have := List.find?_eq_none.1 hf x hx
    simp at this
  | some y =>
    have h1 := List.find?_some hf
    have h2 := List.mem_of_find?_eq_some hf
    rw [treeOk_inj h h2 hx (by simpa using h1)]
end
theorem argIT {s : Nat} {c : List AV} {x x' : List (List AV)} (h1 : x = x') : [AV.agg c, AV.agg [AV.rd s x]] = [AV.agg c, AV.agg [AV.rd s x']] := by rw [h1]
theorem argT2 {s s2 : Nat} {x x' y y' : List (List AV)} (h1 : x = x') (h2 : y = y') : [AV.agg [AV.rd s x], AV.agg [AV.rd s2 y]] = [AV.agg [AV.rd s x'], AV.agg [AV.rd s2 y']] := by rw [h1, h2]
theorem same_data {a b : Tr} (ha : treeOk a = true) (hb : treeOk b = true) {x y : It} (hx : x ∈ a) (hy : y ∈ b) (e : x.path = y.path) (h : goes x b = false) : (!(x.data == y.data)) = ((y.kind == 1) && !(x.data == y.data)) := by
  have hg : treeGet b x.path = some y := by rw [e]; exact treeGet_mem hb hy
  have ix := treeOk_item ha hx
  have iy := treeOk_item hb hy
  simp only [goes, hg, differ, Bool.or_eq_false_iff, Bool.and_eq_false_iff, bne_eq_false_iff_eq, Bool.not_eq_false', beq_eq_false_iff_ne, beq_iff_eq] at h
  obtain ⟨hk, hd⟩ := h
  by_cases h1 : y.kind = 1
  · simp [h1]
  have e1 : (y.kind == 1) = false := by simpa using h1
  rw [e1, Bool.false_and]
  unfold itemOk at ix iy
  simp only [Bool.and_eq_true, inB, decide_eq_true_eq] at ix iy
  by_cases h2 : y.kind = 2
  · have hx2 : x.kind = 2 := by omega
    simp [h2, hx2] at ix iy
    rw [ix.2.1, iy.2.1]; rfl
  · have h3 : y.kind = 3 := by omega
    rcases hd with hd | hd
    · omega
    · rw [hd]; simp
theorem goes_find {a b : Tr} (ha : treeOk a = true) {x : It} (hx : x ∈ a) : differ x (b.find? fun z => z.path == x.path) = goes x b := by
  rw [goes, treeGet_find (item_path (treeOk_item ha hx))]
theorem find_at {a b : Tr} (ob : treeOk b = true) {y : It} (hy : y ∈ b) :
    (treeGet a y.path = none ∧ fnd (fun z => z.path == y.path) a = -1) ∨ ∃ x, treeGet a y.path = some x ∧ x ∈ a ∧ x.path = y.path ∧ 0 ≤ fnd (fun z => z.path == y.path) a ∧ a[(fnd (fun z => z.path == y.path) a).toNat]? = some x := by
  rw [treeGet_find (item_path (treeOk_item ob hy))]
  cases hq : a.any fun z => z.path == y.path with
  | false => exact .inl ⟨any_find hq, fnd_none hq⟩
  | true =>
    obtain ⟨x, h1, h2⟩ := fnd_get hq
    refine .inr ⟨x, h2, List.mem_of_find?_eq_some h2, ?_, ?_, h1⟩
    · have := List.find?_some h2; simpa using this
    · rw [fnd, if_pos hq]; omega
theorem stepO_sm (a b : Tr) (y : It) : (stepO a b y).length ≤ 2 := by
  unfold stepO
  split
  · simp
  · split
    · simp
    · split <;> simp
theorem take_flat {α β : Type} {f : α → List β} {l : List α} {i : Nat} {x : α} (h : l[i]? = some x) : (l.take (i + 1)).flatMap f = (l.take i).flatMap f ++ f x := by
  rw [take_succ' h, List.flatMap_append]; simp
theorem flat_len {α β : Type} {f : α → List β} (hf : ∀ x, (f x).length ≤ 2) : ∀ (l : List α), (l.flatMap f).length ≤ 2 * l.length
  | [] => by simp
  | a :: r => by
    have := flat_len hf r
    have := hf a
    simp only [List.flatMap_cons, List.length_append, List.length_cons]
    omega
def back (t : Tr) (i : Nat) : Tr := (t.drop i).reverse
theorem back_at {t : Tr} {i : Nat} {x : It} (h : t[i]? = some x) : back t i = back t (i + 1) ++ [x] := by
  unfold back
  have hi := lt_of_get h
  rw [← List.getElem_cons_drop hi, List.reverse_cons]
  rw [List.getElem?_eq_getElem hi] at h
  rw [Option.some.inj h]
theorem downO_hit {a b l : Tr} {x : It} (h : goes x b = true) : downO a b (l ++ [x]) = downO a b l ++ [goneO x] := by simp [downO, h]
theorem downO_pass {a b l : Tr} {x : It} (h : goes x b = false) : downO a b (l ++ [x]) = downO a b l := by simp [downO, h]
theorem downO_len {a b l : Tr} : (downO a b l).length ≤ l.length := by
  unfold downO; rw [List.length_map]; exact List.length_filter_le _ _
theorem delta_len (a b : Tr) : (delta a b).length ≤ 120 := by
  unfold delta
  split
  · rename_i h
    rw [Bool.and_eq_true] at h
    have h1 := treeOk_len h.1
    have h2 := treeOk_len h.2
    have h3 := downO_len (a := a) (b := b) (l := a.reverse)
    have h4 := flat_len (stepO_sm a b) b
    rw [List.length_append]
    rw [List.length_reverse] at h3
    omega
  · simp
end Go.GH

set_option linter.unusedVariables false
set_option linter.unusedSimpArgs false
namespace Go.GH
open Go
def ltP (x y : It) : Prop := strLt x.path y.path = true
def srt (l : Tr) : Prop := l.Pairwise ltP
def dst (l : Tr) : Prop := l.Pairwise fun x y => x.path ≠ y.path
def leB (a b : It) : Bool := !strLt b.path a.path
def sortT (l : Tr) : Tr := l.mergeSort leB
theorem lt_ne {x y : It} (h : ltP x y) : x.path ≠ y.path := by
  intro e
  unfold ltP at h
  rw [e, strLt_irrefl] at h
  cases h
theorem srt_dst {l : Tr} (h : srt l) : dst l := List.Pairwise.imp (fun hh => lt_ne hh) h
theorem dst_perm {l m : Tr} (h : l.Perm m) : dst l ↔ dst m := h.pairwise_iff fun hh => Ne.symm hh
theorem leB_trans (a b c : It) (h1 : leB a b = true) (h2 : leB b c = true) : leB a c = true := by
  unfold leB at *
  simp only [Bool.not_eq_true'] at *
  cases h : strLt c.path a.path with
  | false => rfl
  | true =>
    rcases strLt_total b.path c.path with h3 | h3 | h3
    · rw [strLt_trans h3 h] at h1; cases h1
    · rw [h3, h] at h1; cases h1
    · rw [h3] at h2; cases h2
theorem leB_total (a b : It) : (leB a b || leB b a) = true := by
  unfold leB
  cases h : strLt b.path a.path with
  | false => rfl
  | true => rw [strLt_asymm _ _ h]; rfl
theorem sortT_perm (l : Tr) : (sortT l).Perm l := List.mergeSort_perm l leB
theorem sortT_len (l : Tr) : (sortT l).length = l.length := (sortT_perm l).length_eq
theorem le_lt {a b : It} (h1 : leB a b = true) (h2 : a.path ≠ b.path) : ltP a b := by
  unfold leB at h1
  rcases strLt_total a.path b.path with h | h | h
  · exact h
  · exact absurd h h2
  · rw [h] at h1; cases h1
theorem srt_of {l : Tr} (h1 : l.Pairwise fun a b => leB a b = true) (h2 : dst l) : srt l := by
  have := h1.and h2
  exact this.imp fun hh => le_lt hh.1 hh.2
theorem sortT_srt {l : Tr} (h : dst l) : srt (sortT l) := srt_of (List.pairwise_mergeSort leB_trans leB_total l) ((dst_perm (sortT_perm l)).2 h)
theorem srt_uniq {l m : Tr} (h1 : srt l) (h2 : srt m) (h : l.Perm m) : l = m := by
  refine h.eq_of_pairwise (fun a b _ _ hab hba => ?_) h1 h2
  rw [ltP, strLt_asymm _ _ hab] at hba
  cases hba
theorem sortT_is {l m : Tr} (hd : dst l) (h1 : m.Pairwise fun a b => leB a b = true) (h2 : m.Perm l) : m = sortT l :=
  srt_uniq (srt_of h1 ((dst_perm h2).2 hd)) (sortT_srt hd) (h2.trans (sortT_perm l).symm)
theorem argR {s : Nat} {x x' : List (List AV)} (h : x = x') : [AV.rd s x] = [AV.rd s x'] := by rw [h]
def putStep (x : It) (s : Tr × Bool) (y : It) : Tr × Bool :=
  let d := !s.2 && strLt x.path y.path
  (s.1 ++ (if d then [x] else []) ++ (if !(y.path == x.path) then [y] else []), d || s.2)
def putAt (l : Tr) (x : It) : Tr × Bool := l.foldl (putStep x) ([], false)
def putP (l : Tr) (x : It) : Tr := if (putAt l x).2 then (putAt l x).1 else (putAt l x).1 ++ [x]
theorem put_done {x : It} : ∀ {l out : Tr}, (∀ y, y ∈ l → y.path ≠ x.path) → l.foldl (putStep x) (out, true) = (out ++ l, true)
  | [], out, h => by simp
  | y :: l, out, h => by
    have hy : (y.path == x.path) = false := by simpa using h y (by simp)
    rw [List.foldl_cons]
    have : putStep x (out, true) y = (out ++ [y], true) := by simp [putStep, hy]
    rw [this, put_done fun z hz => h z (by simp [hz])]
    simp
theorem put_go {x : It} : ∀ {l out : Tr}, (∀ y, y ∈ l → y.path ≠ x.path) →
    (let s := l.foldl (putStep x) (out, false); if s.2 then s.1 else s.1 ++ [x]) = out ++ (l.takeWhile fun y => !strLt x.path y.path) ++ x :: l.dropWhile fun y => !strLt x.path y.path
  | [], out, h => by simp
  | y :: l, out, h => by
    have hy : (y.path == x.path) = false := by simpa using h y (by simp)
    rw [List.foldl_cons]
    cases hl : strLt x.path y.path with
    | true =>
      have : putStep x (out, false) y = (out ++ [x] ++ [y], true) := by simp [putStep, hy, hl]
      rw [this, put_done fun z hz => h z (by simp [hz])]
      simp [hl]
    | false =>
      have : putStep x (out, false) y = (out ++ [y], false) := by simp [putStep, hy, hl]
      rw [this, put_go fun z hz => h z (by simp [hz])]
      simp [hl]
theorem put_eq {l : Tr} {x : It} (h : ∀ y, y ∈ l → y.path ≠ x.path) : putP l x = (l.takeWhile fun y => !strLt x.path y.path) ++ x :: l.dropWhile fun y => !strLt x.path y.path := by
  have := put_go (out := []) h
  exact this
theorem put_perm {l : Tr} {x : It} (h : ∀ y, y ∈ l → y.path ≠ x.path) : (putP l x).Perm (x :: l) := by
  rw [put_eq h]
  refine List.perm_middle.trans ?_
  rw [List.takeWhile_append_dropWhile]
theorem take_while_all {p : It → Bool} : ∀ {l : Tr} {y : It}, y ∈ l.takeWhile p → p y = true
  | a :: l, y, h => by
    rw [List.takeWhile_cons] at h
    split at h
    · rcases List.mem_cons.1 h with rfl | h
      · assumption
      · exact take_while_all h
    · cases h
theorem drop_while_srt {x : It} : ∀ {l : Tr}, srt l → ∀ y, y ∈ l.dropWhile (fun y => !strLt x.path y.path) → ltP x y
  | [], _, y, h => by simp at h
  | a :: l, hs, y, h => by
    rw [List.dropWhile_cons] at h
    have hs' := List.pairwise_cons.1 hs
    split at h
    · exact drop_while_srt hs'.2 y h
    · rename_i hp
      have hxa : ltP x a := by simpa [ltP] using hp
      rcases List.mem_cons.1 h with rfl | h
      · exact hxa
      · exact strLt_trans hxa (hs'.1 y h)
theorem put_srt {l : Tr} {x : It} (h : ∀ y, y ∈ l → y.path ≠ x.path) (hs : srt l) : srt (putP l x) := by
  rw [put_eq h]
  have hsplit : srt ((l.takeWhile fun y => !strLt x.path y.path) ++ l.dropWhile fun y => !strLt x.path y.path) := by rw [List.takeWhile_append_dropWhile]; exact hs
  obtain ⟨h1, h2, h3⟩ := List.pairwise_append.1 hsplit
  have hx : ∀ y, y ∈ (l.takeWhile fun y => !strLt x.path y.path) → ltP y x := fun y hy => by
    have hp := take_while_all hy
    exact le_lt (a := y) (b := x) hp (h y ((List.takeWhile_prefix _).subset hy))
  refine List.pairwise_append.2 ⟨h1, List.pairwise_cons.2 ⟨drop_while_srt hs, h2⟩, fun y hy z hz => ?_⟩
  rcases List.mem_cons.1 hz with rfl | hz
  · exact hx y hy
  · exact h3 y hy z hz
def inT (a : Tr) (y : It) : Bool := (treeGet a y.path).isSome
def mergeStep (a : Tr) (out : Tr) (y : It) : Tr := if inT a y then out else putP out y
def mergeS (a b : Tr) : Tr := b.foldl (mergeStep a) a
theorem merge_go {a : Tr} : ∀ {l out : Tr}, srt out → dst l → (∀ y, y ∈ l → inT a y = false → ∀ z, z ∈ out → z.path ≠ y.path) →
    srt (l.foldl (mergeStep a) out) ∧ (l.foldl (mergeStep a) out).Perm (out ++ l.filter fun y => !inT a y)
  | [], out, h1, _, _ => ⟨h1, by simp⟩
  | y :: l, out, h1, h2, h3 => by
    obtain ⟨h4, h5⟩ := List.pairwise_cons.1 h2
    rw [List.foldl_cons]
    cases hy : inT a y with
    | true =>
      rw [show mergeStep a out y = out by simp [mergeStep, hy], List.filter_cons, if_neg (by simp [hy])]
      exact merge_go h1 h5 fun z hz => h3 z (by simp [hz])
    | false =>
      have hne := h3 y (by simp) hy
      rw [show mergeStep a out y = putP out y by simp [mergeStep, hy], List.filter_cons, if_pos (by simp [hy])]
      obtain ⟨q1, q2⟩ := merge_go (l := l) (put_srt hne h1) h5 fun z hz hza u hu => by
        rcases List.mem_cons.1 ((put_perm hne).mem_iff.1 hu) with rfl | hu
        · exact h4 z hz
        · exact h3 z (by simp [hz]) hza u hu
      refine ⟨q1, q2.trans ?_⟩
      refine ((put_perm hne).append_right _).trans ?_
      exact (List.perm_middle (a := y) (l₁ := out) (l₂ := l.filter fun y => !inT a y)).symm
theorem treeOk_srt {t : Tr} (h : treeOk t = true) : srt t := by
  refine List.pairwise_iff_getElem.2 fun i j hi hj hij => ?_
  exact treeOk_lt h (List.getElem?_eq_getElem hi) (List.getElem?_eq_getElem hj) hij
theorem inT_no {a b : Tr} (hb : treeOk b = true) {y : It} (hy : y ∈ b) (h : inT a y = false) : ∀ z, z ∈ a → z.path ≠ y.path := by
  intro z hz e
  rw [inT, treeGet_find (item_path (treeOk_item hb hy))] at h
  simp only [Option.isSome_eq_false_iff, Option.isNone_iff_eq_none] at h
  have := List.find?_eq_none.1 h z hz
  simp [e] at this
def joinT (a b : Tr) : Tr := a ++ b.filter fun y => !inT a y
theorem merge_both {a b : Tr} (ha : treeOk a = true) (hb : treeOk b = true) : dst (joinT a b) ∧ mergeS a b = sortT (joinT a b) := by
  obtain ⟨h1, h2⟩ := merge_go (a := a) (l := b) (treeOk_srt ha) (srt_dst (treeOk_srt hb)) fun y hy h => inT_no hb hy h
  have hd : dst (joinT a b) := (dst_perm h2).1 (srt_dst h1)
  exact ⟨hd, srt_uniq h1 (sortT_srt hd) (h2.trans (sortT_perm _).symm)⟩
theorem merge_sm {a b : Tr} (ha : treeOk a = true) (hb : treeOk b = true) (sa : smT a) (sb : smT b) (i : Nat) :
    ((b.take i).foldl (mergeStep a) a).length ≤ 80 ∧ ∀ x, x ∈ (b.take i).foldl (mergeStep a) a → x.path.length ≤ 4194304 ∧ x.data.length ≤ 4194304 := by
  obtain ⟨h1, h2⟩ := merge_go (a := a) (l := b.take i) (treeOk_srt ha) ((srt_dst (treeOk_srt hb)).sublist (List.take_sublist i b)) fun y hy h => inT_no hb (List.mem_of_mem_take hy) h
  have l1 := treeOk_len ha
  have l2 := treeOk_len hb
  refine ⟨?_, fun x hx => ?_⟩
  · rw [h2.length_eq, List.length_append]
    have := List.length_filter_le (fun y => !inT a y) (b.take i)
    rw [List.length_take] at this
    omega
  · rcases List.mem_append.1 (h2.mem_iff.1 hx) with h | h
    · exact sa.2 x h
    · exact sb.2 x (List.mem_of_mem_take (List.mem_filter.1 h).1)
theorem argRI {s : Nat} {x x' : List (List AV)} {c : List AV} (h : x = x') : [AV.rd s x, .agg c] = [AV.rd s x', .agg c] := by rw [h]
def mergeP (a b : Tr) : Tr × Bool := if treeOk a && treeOk b && treeOk (mergeS a b) then (mergeS a b, true) else ([], false)
theorem mergeP_sm {a b : Tr} (sa : smT a) (sb : smT b) : smT (mergeP a b).1 := by
  unfold mergeP
  split
  · rename_i h
    simp only [Bool.and_eq_true] at h
    have h1 := merge_sm h.1.1 h.1.2 sa sb b.length
    rw [List.take_length] at h1
    exact ⟨by have := h1.1; show (b.foldl (mergeStep a) a).length ≤ _; omega, h1.2⟩
  · exact ⟨by simp, by simp⟩
theorem join_len {a b : Tr} : (joinT a b).length ≤ a.length + b.length := by
  unfold joinT
  rw [List.length_append]
  have := List.length_filter_le (fun y => !inT a y) b
  omega
theorem putAt_take {l : Tr} {x y : It} {i : Nat} (h : l[i]? = some y) : putAt (l.take (i + 1)) x = putStep x (putAt (l.take i) x) y := foldl_take h
theorem putAt_len {x : It} : ∀ {l out : Tr} {d : Bool}, (l.foldl (putStep x) (out, d)).1.length ≤ out.length + 2 * l.length
  | [], out, d => by simp
  | y :: l, out, d => by
    rw [List.foldl_cons]
    obtain ⟨o', d', h⟩ : ∃ o' d', putStep x (out, d) y = (o', d') := ⟨_, _, rfl⟩
    have h1 : o'.length ≤ out.length + 2 := by
      have : o' = (putStep x (out, d) y).1 := by rw [h]
      rw [this]
      unfold putStep
      dsimp only
      split <;> split <;> simp
    rw [h]
    have := putAt_len (x := x) (l := l) (out := o') (d := d')
    simp only [List.length_cons]
    omega
theorem putP_mem {l : Tr} {x y : It} (h : y ∈ putP l x) : y = x ∨ y ∈ l := by
  have go : ∀ {l out : Tr} {d : Bool}, y ∈ (l.foldl (putStep x) (out, d)).1 → y = x ∨ y ∈ out ∨ y ∈ l := by
    intro l
    induction l with
    | nil => intro out d h; exact .inr (.inl h)
    | cons z l ih =>
      intro out d h
      rw [List.foldl_cons] at h
      rcases ih (out := (putStep x (out, d) z).1) (d := (putStep x (out, d) z).2) h with h | h | h
      · exact .inl h
      · unfold putStep at h
        simp only [List.mem_append] at h
        rcases h with (h | h) | h
        · exact .inr (.inl h)
        · split at h
          · exact .inl (by simpa using h)
          · cases h
        · split at h
          · exact .inr (.inr (by simp at h; simp [h]))
          · cases h
      · exact .inr (.inr (by simp [h]))
  unfold putP at h
  split at h
  · rcases go h with h | h | h
    · exact .inl h
    · cases h
    · exact .inr h
  · rcases List.mem_append.1 h with h | h
    · rcases go h with h | h | h
      · exact .inl h
      · cases h
      · exact .inr h
    · exact .inl (by simpa using h)
end Go.GH

set_option linter.unusedVariables false
set_option linter.unusedSimpArgs false
namespace Go.GH
open Go
def digs : Nat → Nat → Str → Str
  | 0, _, out => out
  | f + 1, k, out => if k = 0 then out else digs f (k / 10) (UInt8.ofNat (48 + k % 10) :: out)
def markT (k : Int) : Str := if k ≤ 0 then [109, 48] else 109 :: digs 64 k.toNat []
noncomputable def hide {α : Type} (x : α) : α := Classical.choose (⟨x, rfl⟩ : ∃ y, y = x)
theorem hide_eq {α : Type} (x : α) : hide x = x := Classical.choose_spec (⟨x, rfl⟩ : ∃ y, y = x)
noncomputable def mkT : Int → Str := hide markT
theorem mkT_eq (k : Int) : mkT k = markT k := by rw [mkT, hide_eq]
theorem digs_more : ∀ (f f' k : Nat) (out : Str), k < 2 ^ f → k < 2 ^ f' → digs f k out = digs f' k out
  | 0, 0, k, out, _, _ => rfl
  | 0, f' + 1, k, out, h, _ => by
    have : k = 0 := by simpa using h
    subst this; simp [digs]
  | f + 1, 0, k, out, _, h => by
    have : k = 0 := by simpa using h
    subst this; simp [digs]
  | f + 1, f' + 1, k, out, h, h' => by
    simp only [digs]
    split
    · rfl
    · exact digs_more f f' _ _ (by rw [Nat.pow_succ] at h; omega) (by rw [Nat.pow_succ] at h'; omega)
theorem digs_step {k : Nat} {out : Str} (h : 0 < k) (hk : k < 2 ^ 63) : digs 64 k out = digs 64 (k / 10) (UInt8.ofNat (48 + k % 10) :: out) := by
  conv => lhs; rw [digs]
  rw [if_neg (by omega)]
  exact digs_more 63 64 _ _ (by omega) (by omega)
theorem digs_zero {out : Str} : digs 64 0 out = out := by simp [digs]
theorem digs_len : ∀ (f k : Nat) (out : Str), (digs f k out).length ≤ f + out.length
  | 0, _, out => by simp [digs]
  | f + 1, k, out => by
    rw [digs]
    split
    · omega
    · have := digs_len f (k / 10) (UInt8.ofNat (48 + k % 10) :: out)
      rw [List.length_cons] at this; omega
theorem markT_len (k : Int) : (markT k).length ≤ 65 := by
  unfold markT
  split
  · simp
  · have := digs_len 64 k.toNat []
    simp at this ⊢; omega
noncomputable def mkI (k : Int) (i : Nat) : It := hide ⟨mkT (k + 4 * i), k + 4 * i + 1, mkT (k + 4 * i + 2), k + 4 * i + 3⟩
noncomputable def mkO (k : Int) (i : Nat) : OpR := hide ⟨k + 6 * i, mkT (k + 6 * i + 1), mkT (k + 6 * i + 2), k + 6 * i + 3, mkT (k + 6 * i + 4), k + 6 * i + 5⟩
def marked {α : Type} (f : α → List AV) (mk : Nat → α) (l : List α) (i : Nat) : List (List AV) := ((List.range i).map fun j => f (mk j)) ++ (l.drop i).map f
theorem marked_zero {α : Type} {f : α → List AV} {mk : Nat → α} {l : List α} : marked f mk l 0 = l.map f := by simp [marked]
theorem marked_all {α : Type} {f : α → List AV} {mk : Nat → α} {l : List α} : marked f mk l l.length = (List.range l.length).map fun j => f (mk j) := by simp [marked]
theorem marked_len {α : Type} {f : α → List AV} {mk : Nat → α} {l : List α} {i : Nat} (hi : i ≤ l.length) : (marked f mk l i).length = l.length := by
  simp [marked]; omega
theorem marked_get {α : Type} {f : α → List AV} {mk : Nat → α} {l : List α} {i : Nat} {x : α} (hx : l[i]? = some x) : (marked f mk l i)[i]? = some (f x) := by
  unfold marked
  rw [List.getElem?_append_right (by simp)]
  simp [hx]
theorem marked_set {α : Type} {f : α → List AV} {mk : Nat → α} {l : List α} {i : Nat} {x : α} (hx : l[i]? = some x) : (marked f mk l i).set i (f (mk i)) = marked f mk l (i + 1) := by
  have hi := lt_of_get hx
  unfold marked
  rw [List.set_append_right _ _ (by simp), ← List.getElem_cons_drop hi, List.map_cons, show i - ((List.range i).map fun j => f (mk j)).length = 0 by simp, List.set_cons_zero, List.range_succ, List.map_append]
  simp
theorem argOK {s : Nat} {x x' : List (List AV)} {k : Int} (h : x = x') : [AV.own s x, .int .i64 k] = [AV.own s x', .int .i64 k] := by rw [h]
theorem argCK {s : Nat} {x x' : List (List AV)} {k : Int} (h : x = x') : [AV.agg [AV.own s x], .int .i64 k] = [AV.agg [AV.own s x'], .int .i64 k] := by rw [h]
theorem argRK {s : Nat} {x x' : List (List AV)} {k : Int} (h : x = x') : [AV.rd s x, .int .i64 k] = [AV.rd s x', .int .i64 k] := by rw [h]
theorem toRdRows_mk {α : Type} {f : α → List AV} (h : ∀ a, toRdCells (f a) = f a) (l : List Nat) (g : Nat → α) : toRdRows (l.map fun i => f (g i)) = l.map fun i => f (g i) := toRdRows_map (f := fun i => f (g i)) (fun i => h (g i)) l
theorem argCR {s : Nat} {x x' : List (List AV)} {k : Int} (h : x = x') : [AV.agg [AV.rd s x], .int .i64 k] = [AV.agg [AV.rd s x'], .int .i64 k] := by rw [h]
theorem set_get {α : Type} {l : List α} {i : Nat} {x : α} (h : i < l.length) : (l.set i x)[i]? = some x := by simp [h]
theorem set_set {α : Type} {l : List α} {i : Nat} {x y : α} : (l.set i x).set i y = l.set i y := by simp
end Go.GH

set_option linter.unusedVariables false
set_option linter.unusedSimpArgs false
namespace Go.GH
open Go
def dig (n : Nat) : Str := if n = 0 then [48] else digs 64 n []
theorem digs_dec : ∀ (f k : Nat) (out : Str), k < 2 ^ f → digs f k out = (if k = 0 then [] else Lib.decDigits k) ++ out
  | 0, k, out, h => by
    have : k = 0 := by simpa using h
    subst this; simp [digs]
  | f + 1, k, out, h => by
    rw [digs]
    by_cases h0 : k = 0
    · simp [h0]
    rw [if_neg h0, if_neg h0, digs_dec f (k / 10) _ (by rw [Nat.pow_succ] at h; omega), Lib.decDigits.eq_1 k]
    by_cases h1 : k < 10
    · rw [dif_pos h1, if_pos (by omega), Nat.mod_eq_of_lt h1]; rfl
    · rw [dif_neg h1, if_neg (by omega)]; simp
theorem itoa_dig {n : Nat} (h : n < 2 ^ 64) : Lib.itoa n = dig n := by
  unfold Lib.itoa dig
  rw [if_neg (by omega), Int.toNat_natCast]
  by_cases h0 : n = 0
  · subst h0; rw [if_pos rfl, Lib.decDigits]; rfl
  · rw [if_neg h0, digs_dec 64 n [] h, if_neg h0]; simp
theorem dig_len (n : Nat) : (dig n).length ≤ 64 := by
  unfold dig
  split
  · simp
  · have := digs_len 64 n []; simpa using this
def hexD : Str := [48, 49, 50, 51, 52, 53, 54, 55, 56, 57, 97, 98, 99, 100, 101, 102]
def hx (n : Nat) : UInt8 := hexD.getD n 0
theorem hx_get {n : Nat} (h : n < 16) : hexD[n]? = some (hx n) := by
  unfold hx
  rw [List.getD_eq_getElem?_getD]
  have : n < hexD.length := h
  rw [List.getElem?_eq_getElem this]; rfl
def hexT (s : Str) : Str := s.flatMap fun b => [hx (b.toNat / 16), hx (b.toNat % 16)]
theorem hexT_len : ∀ (s : Str), (hexT s).length = 2 * s.length
  | [] => rfl
  | b :: s => by
    have := hexT_len s
    unfold hexT at *
    rw [List.flatMap_cons, List.length_append, this]
    simp; omega
theorem hexT_succ {s : Str} {i : Nat} {b : UInt8} (h : s[i]? = some b) : hexT (s.take (i + 1)) = hexT (s.take i) ++ [hx (b.toNat / 16), hx (b.toNat % 16)] := take_flat h
theorem hexT_take_len (s : Str) (i : Nat) : (hexT (s.take i)).length ≤ 2 * s.length := by
  rw [hexT_len, List.length_take]; omega
theorem shr4 (n : Nat) : Int.fdiv (n : Int) 16 = ((n / 16 : Nat) : Int) := by
  rw [Int.fdiv_eq_ediv_of_nonneg _ (by decide)]; rfl
theorem and15' (b : UInt8) : (((BitVec.ofInt 8 (b.toNat : Int)) &&& (BitVec.ofInt 8 15)).toNat : Int) = ((b.toNat % 16 : Nat) : Int) := by
  have h : (BitVec.ofInt 8 (b.toNat : Int)).toNat = b.toNat := by
    rw [BitVec.toNat_ofInt]
    have := b.toNat_lt
    omega
  rw [BitVec.toNat_and, h]
  have e : (BitVec.ofInt 8 15).toNat = 2 ^ 4 - 1 := rfl
  rw [e, Nat.and_two_pow_sub_one_eq_mod]
theorem and15 (b : UInt8) : IntKind.u8.wrap ((((BitVec.ofInt 8 (b.toNat : Int)) &&& (BitVec.ofInt 8 15)).toNat : Nat) : Int) = ((b.toNat % 16 : Nat) : Int) := by
  rw [and15']
  show Int.ofNat ((b.toNat % 16) % 256) = _
  rw [Nat.mod_eq_of_lt (by omega)]; rfl
theorem quo16 (b : UInt8) : IntKind.u8.wrap ((b.toNat : Int).tdiv 16) = ((b.toNat / 16 : Nat) : Int) := by
  show Int.ofNat ((b.toNat / 16) % 256) = _
  have := b.toNat_lt
  rw [Nat.mod_eq_of_lt (by omega)]; rfl
theorem rem16 (b : UInt8) : (b.toNat : Int).tmod 16 = ((b.toNat % 16 : Nat) : Int) := rfl
def numsOk (o : OpR) : Bool := inB o.kind 0 8 && inB o.at_ 0 1000 && inB o.time 0 100000
def pathE (s : Str) : Bool := s == [] || pathOk s
def opOk (o : OpR) : Bool := numsOk o && pathE o.path && pathE o.to && decide (o.data.length ≤ 80)
def opHead (o : OpR) : Str := dig o.kind.toNat ++ [32] ++ o.path ++ [32] ++ o.to ++ [32] ++ dig o.at_.toNat ++ [32] ++ dig o.time.toNat ++ [32]
def opText (o : OpR) : Str := if opOk o then opHead o ++ hexT o.data else []
theorem inB_iff {x a b : Int} : inB x a b = true ↔ a ≤ x ∧ x ≤ b := by simp [inB]
theorem numsOk_iff {o : OpR} (h : numsOk o = true) : (0 ≤ o.kind ∧ o.kind ≤ 8) ∧ (0 ≤ o.at_ ∧ o.at_ ≤ 1000) ∧ (0 ≤ o.time ∧ o.time ≤ 100000) := by
  simp only [numsOk, Bool.and_eq_true, inB_iff] at h
  exact ⟨h.1.1, h.1.2, h.2⟩
theorem opOk_no {o : OpR} (h : (!numsOk o || !pathE o.path || !pathE o.to || decide ((o.data.length : Int) > 80)) = true) : ¬ opOk o = true := by
  unfold opOk
  revert h
  by_cases hd : o.data.length ≤ 80
  · have : ¬ (o.data.length : Int) > 80 := by omega
    cases numsOk o <;> cases pathE o.path <;> cases pathE o.to <;> simp [hd, this]
  · simp [hd]
theorem opOk_yes {o : OpR} (h : (!numsOk o || !pathE o.path || !pathE o.to || decide ((o.data.length : Int) > 80)) = false) : numsOk o = true ∧ opOk o = true ∧ o.data.length ≤ 80 := by
  unfold opOk
  revert h
  by_cases hd : o.data.length ≤ 80
  · cases numsOk o <;> cases pathE o.path <;> cases pathE o.to <;> simp [hd]
  · have : (o.data.length : Int) > 80 := by omega
    simp [this]
theorem pathE_not (s : Str) : (!(s == []) && !pathOk s) = !pathE s := by
  unfold pathE
  cases (s == []) <;> cases pathOk s <;> rfl
theorem opText_join (o : OpR) : opHead o ++ hexT o.data = Lib.join [dig o.kind.toNat, o.path, o.to, dig o.at_.toNat, dig o.time.toNat, hexT o.data] [32] := by
  simp [opHead, Lib.join]
theorem opText_len (o : OpR) : (opText o).length ≤ o.path.length + o.to.length + 400 := by
  unfold opText
  split
  · rename_i h
    have hd : o.data.length ≤ 80 := by simp [opOk] at h; exact h.2
    have l1 := dig_len o.kind.toNat
    have l2 := dig_len o.at_.toNat
    have l3 := dig_len o.time.toNat
    simp [opHead, hexT_len]
    omega
  · simp
theorem argPP {s s2 : Nat} {x x' y y' : List (List AV)} (h1 : x = x') (h2 : y = y') : [AV.rd s x, AV.rd s2 y] = [AV.rd s x', AV.rd s2 y'] := by rw [h1, h2]
theorem argP1 {s : Nat} {x x' : List (List AV)} (h1 : x = x') : [AV.rd s x] = [AV.rd s x'] := by rw [h1]
def smO (o : OpR) : Prop := o.path.length ≤ 1048576 ∧ o.to.length ≤ 1048576 ∧ o.data.length ≤ 1048576
def smOL (l : List OpR) : Prop := l.length ≤ 1048576 ∧ ∀ o, o ∈ l → smO o
def bigO (o : OpR) : Prop := o.path.length ≤ 9223372036854775807 ∧ o.to.length ≤ 9223372036854775807 ∧ o.data.length ≤ 9223372036854775807
def szO (o : OpR) : Nat := o.path.length + o.to.length + o.data.length
def szOL (l : List OpR) : Nat := l.length + (l.map szO).sum
theorem szO_sm {left : Int} {o : OpR} (h : ¬ szR left (szO o) < 0) (hl : left ≤ 1048576) : smO o := by
  unfold szR at h
  split at h
  · omega
  · unfold szO at *
    refine ⟨?_, ?_, ?_⟩ <;> omega
theorem szOL_sm {l : List OpR} {n : Nat} (h : szOL l ≤ n) (hn : n ≤ 1048576) : smOL l := by
  unfold szOL at h
  refine ⟨by omega, fun x hx => ?_⟩
  have h2 : szO x ≤ (l.map szO).sum := by
    obtain ⟨i, hi⟩ := List.getElem?_of_mem hx
    have h3 := sum_take' (f := szO) hi
    have h4 := sum_take_le (f := szO) (l := l) (i := i + 1)
    omega
  have h5 : szO x = x.path.length + x.to.length + x.data.length := rfl
  refine ⟨?_, ?_, ?_⟩ <;> omega
def opLine (o : OpR) : Str := opText o ++ [10]
def opsText (l : List OpR) : Str := if l.all fun o => !(opText o == []) then l.flatMap opLine else []
theorem flat_le {α β : Type} {f : α → List β} {k : Nat} : ∀ {l : List α}, (∀ x, x ∈ l → (f x).length ≤ k) → (l.flatMap f).length ≤ l.length * k
  | [], _ => by simp
  | x :: l, h => by
    have h1 := flat_le (l := l) fun y hy => h y (by simp [hy])
    have h2 := h x (by simp)
    rw [List.flatMap_cons, List.length_append, List.length_cons, Nat.succ_mul]
    omega
theorem opLine_len {o : OpR} (h : smO o) : (opLine o).length ≤ 2097553 := by
  have := opText_len o
  obtain ⟨h1, h2, _⟩ := h
  simp [opLine]; omega
theorem lines_len {l : List OpR} (h : smOL l) (i : Nat) : ((l.take i).flatMap opLine).length ≤ 1048576 * 2097553 := by
  have h1 := flat_le (f := opLine) (k := 2097553) (l := l.take i) fun x hx => opLine_len (h.2 x (List.mem_of_mem_take hx))
  have h2 : (l.take i).length ≤ 1048576 := by rw [List.length_take]; have := h.1; omega
  exact Nat.le_trans h1 (Nat.mul_le_mul_right _ h2)
theorem all_take_succ {α : Type} {p : α → Bool} {l : List α} {i : Nat} {x : α} (h : (l.take i).all p = true) (hx : l[i]? = some x) (px : p x = true) : (l.take (i + 1)).all p = true := by
  rw [take_succ' hx, List.all_append, h]; simp [px]
theorem all_no {α : Type} {p : α → Bool} {l : List α} {i : Nat} {x : α} (hx : l[i]? = some x) (px : p x = false) : l.all p = false := by
  rw [List.all_eq_false]; exact ⟨x, List.mem_of_getElem? hx, by simp [px]⟩
end Go.GH

set_option linter.unusedVariables false
set_option linter.unusedSimpArgs false
namespace Go.GH
open Go
def dirC (t : Tr) (p : Str) : Int := match treeGet t p with
  | none => 2
  | some x => if x.kind == 2 then 0 else 4
def newIt (o : OpR) : It := if o.kind == 0 then ⟨o.path, 2, [], 0⟩ else ⟨o.path, if o.kind == 2 then 3 else 1, o.data, o.time⟩
def pad (old : Str) (n : Nat) : Str := old ++ List.replicate (n - old.length) 0
def wrote (old : Str) (a : Int) (d : Str) : Str := if inB a 0 100000 then (pad old a.toNat).take a.toNat ++ d ++ (pad old a.toNat).drop (a.toNat + d.length) else old
def cutT (old : Str) (n : Int) : Str := if inB n 0 100000 then (pad old n.toNat).take n.toNat else old
def dataOf (old : Str) (o : OpR) : Str × Bool :=
  if o.kind == 3 then (wrote old o.at_ o.data, decide (((wrote old o.at_ o.data).length : Int) ≤ 80)) else if o.kind == 4 then (cutT old o.at_, decide (o.at_ ≤ 80)) else (old, true)
def tNew (t : Tr) (o : OpR) : Tr × Int :=
  if dirC t (above o.path) != 0 then (t, dirC t (above o.path))
  else if (treeGet t o.path).isSome then (t, 3)
  else if o.kind != 0 && decide ((o.data.length : Int) > 80) then (t, 9)
  else if (t.length : Int) == 40 then (t, 5)
  else (putP t (newIt o), 0)
def setIt (x : It) (o : OpR) : It := ⟨x.path, x.kind, (dataOf x.data o).1, o.time⟩
def tSet (t : Tr) (o : OpR) : Tr × Int := match treeGet t o.path with
  | none => (t, 2)
  | some x => if x.kind == 2 || (x.kind == 3 && o.kind != 5) then (t, 4) else if !(dataOf x.data o).2 then (t, 9) else (putP t (setIt x o), 0)
def last (p : Str) : Str := (names p).getLastD []
def kids (t : Tr) (p : Str) : Tr := t.filter fun y => above y.path == p
def treeNames (t : Tr) (p : Str) : List Str := if treeOk t && dirAt t p then (kids t p).map fun y => last y.path else []
def without (t : Tr) (p : Str) : Tr := t.filter fun y => !(y.path == p)
def tDrop (t : Tr) (o : OpR) : Tr × Int := match treeGet t o.path with
  | none => (t, 2)
  | some x => if (x.kind == 2) != (o.kind == 7) then (t, 4) else if decide (((treeNames t o.path).length : Int) > 0) then (t, 8) else (without t o.path, 0)
def moved (o : OpR) (x : It) : It := if withinP x.path o.path then ⟨pathOf (names o.to ++ (names x.path).drop (names o.path).length), x.kind, x.data, x.time⟩ else x
def stuck (o : OpR) (x : It) : Bool := withinP x.path o.path && (moved o x).path == []
def tRen (t : Tr) (o : OpR) : Tr × Int :=
  if !(treeGet t o.path).isSome then (t, 2)
  else if dirC t (above o.to) != 0 then (t, dirC t (above o.to))
  else if (treeGet t o.to).isSome then (t, 3)
  else if t.any (stuck o) then (t, 1)
  else ((t.map (moved o)).foldl putP [], 0)
def badP (p : Str) : Bool := !pathOk p || p == sl
def treeDo (t : Tr) (o : OpR) : Tr × Int :=
  if !treeOk t || !numsOk o then (t, 10)
  else if badP o.path then (t, 1)
  else if o.kind == 0 || o.kind == 1 || o.kind == 2 then tNew t o
  else if o.kind == 3 || o.kind == 4 || o.kind == 5 then tSet t o
  else if o.kind == 6 || o.kind == 7 then tDrop t o
  else if badP o.to || withinP o.to o.path then (t, 1)
  else tRen t o
theorem new_sort {t : Tr} {x : It} (ht : srt t) (h : ∀ y, y ∈ t → y.path ≠ x.path) : dst (t ++ [x]) ∧ putP t x = sortT (t ++ [x]) := by
  have hp : (putP t x).Perm (t ++ [x]) := (put_perm h).trans (List.perm_append_comm (l₁ := [x]) (l₂ := t))
  have hs := put_srt h ht
  have hd : dst (t ++ [x]) := (dst_perm hp).1 (srt_dst hs)
  exact ⟨hd, srt_uniq hs (sortT_srt hd) (hp.trans (sortT_perm _).symm)⟩
theorem put_pass {x : It} : ∀ {l out : Tr}, (∀ y, y ∈ l → strLt x.path y.path = false ∧ y.path ≠ x.path) → l.foldl (putStep x) (out, false) = (out ++ l, false)
  | [], out, h => by simp
  | y :: l, out, h => by
    obtain ⟨h1, h2⟩ := h y (by simp)
    have hy : (y.path == x.path) = false := by simpa using h2
    rw [List.foldl_cons]
    have : putStep x (out, false) y = (out ++ [y], false) := by simp [putStep, hy, h1]
    rw [this, put_pass fun z hz => h z (by simp [hz])]
    simp
theorem put_same {A B : Tr} {x x' : It} (hp : x'.path = x.path) (hA : ∀ y, y ∈ A → strLt y.path x.path = true) (hB : ∀ y, y ∈ B → strLt x.path y.path = true) : putP (A ++ x :: B) x' = A ++ x' :: B := by
  have h1 : A.foldl (putStep x') ([], false) = (A, false) := by
    have := put_pass (x := x') (l := A) (out := []) fun y hy => ⟨by rw [hp]; exact strLt_asymm _ _ (hA y hy), fun e => by
      have := hA y hy
      rw [e, hp, strLt_irrefl] at this; cases this⟩
    simpa using this
  have h2 : putStep x' (A, false) x = (A, false) := by simp [putStep, hp, strLt_irrefl]
  unfold putP putAt
  rw [List.foldl_append, List.foldl_cons, h1, h2]
  cases B with
  | nil => simp
  | cons b B =>
    have hb := hB b (by simp)
    have hne : (b.path == x'.path) = false := by
      rw [hp, beq_eq_false_iff_ne]
      intro e; rw [e, strLt_irrefl] at hb; cases hb
    have h3 : putStep x' (A, false) b = (A ++ [x'] ++ [b], true) := by simp [putStep, hp, hb, hp ▸ hne]
    rw [List.foldl_cons, h3, put_done fun z hz e => by
      have := hB z (by simp [hz])
      rw [← hp, ← e, strLt_irrefl] at this; cases this]
    simp
theorem srt_split {t : Tr} (ht : srt t) {i : Nat} {x : It} (hx : t[i]? = some x) : t = t.take i ++ x :: t.drop (i + 1) ∧ (∀ y, y ∈ t.take i → strLt y.path x.path = true) ∧ ∀ y, y ∈ t.drop (i + 1) → strLt x.path y.path = true := by
  have hlt := lt_of_get hx
  have e : t = t.take i ++ x :: t.drop (i + 1) := by
    rw [List.getElem?_eq_getElem hlt] at hx
    simp only [Option.some.injEq] at hx
    rw [← hx, List.getElem_cons_drop, List.take_append_drop]
  have h := ht
  rw [e] at h
  obtain ⟨h1, h2, h3⟩ := List.pairwise_append.1 h
  exact ⟨e, fun y hy => h3 y hy x (by simp), fun y hy => (List.pairwise_cons.1 h2).1 y hy⟩
theorem set_at {t : Tr} (ht : srt t) {i : Nat} {x x' : It} (hx : t[i]? = some x) (hp : x'.path = x.path) : putP t x' = t.set i x' := by
  obtain ⟨e, hA, hB⟩ := srt_split ht hx
  have hlt := lt_of_get hx
  conv => lhs; rw [e]
  rw [put_same hp hA hB, List.set_eq_take_append_cons_drop, if_pos hlt]
theorem drop_at {t : Tr} (ht : srt t) {i : Nat} {x : It} (hx : t[i]? = some x) : without t x.path = t.take i ++ t.drop (i + 1) := by
  obtain ⟨e, hA, hB⟩ := srt_split ht hx
  conv => lhs; rw [e]
  unfold without
  have f1 : (t.take i).filter (fun y => !(y.path == x.path)) = t.take i := List.filter_eq_self.2 fun y hy => by
    have := hA y hy
    simp only [Bool.not_eq_true', beq_eq_false_iff_ne]
    intro e; rw [e, strLt_irrefl] at this; cases this
  have f2 : (t.drop (i + 1)).filter (fun y => !(y.path == x.path)) = t.drop (i + 1) := List.filter_eq_self.2 fun y hy => by
    have := hB y hy
    simp only [Bool.not_eq_true', beq_eq_false_iff_ne]
    intro e; rw [e, strLt_irrefl] at this; cases this
  rw [List.filter_append, List.filter_cons, f1, f2]
  simp
theorem fold_put : ∀ {l out : Tr}, srt out → dst (out ++ l) → srt (l.foldl putP out) ∧ (l.foldl putP out).Perm (out ++ l)
  | [], out, h1, _ => ⟨h1, by simp⟩
  | y :: l, out, h1, h2 => by
    have h3 : ∀ z, z ∈ out → z.path ≠ y.path := fun z hz => (List.pairwise_append.1 h2).2.2 z hz y (by simp)
    have hp : (putP out y ++ l).Perm (out ++ y :: l) := ((put_perm h3).append_right l).trans (List.perm_middle (a := y) (l₁ := out) (l₂ := l)).symm
    rw [List.foldl_cons]
    obtain ⟨q1, q2⟩ := fold_put (l := l) (put_srt h3 h1) ((dst_perm hp).2 h2)
    exact ⟨q1, q2.trans hp⟩
theorem fold_sort {l : Tr} (h : dst l) : l.foldl putP [] = sortT l := by
  obtain ⟨h1, h2⟩ := fold_put (l := l) (out := []) List.Pairwise.nil (by simpa using h)
  exact srt_uniq h1 (sortT_srt h) (by simpa using h2.trans (by simpa using (sortT_perm l).symm))
end Go.GH

set_option linter.unusedVariables false
set_option linter.unusedSimpArgs false
namespace Go.GH
open Go
theorem ok_cat {l : List Str} (hl : l ≠ []) (hn : l.all nameOk = true) : pathOk (cat l) = decide (l.length ≤ 4) ∧ (cat l == sl) = false ∧ (l.length ≤ 4 → names (cat l) = l) := by
  have hs : splitBy 47 (cat l) = [] :: l := split_cat (fun a ha => nameOk_no (List.all_eq_true.1 hn a ha)) hl
  have h1 : (cat l == sl) = false := by
    rw [beq_eq_false_iff_ne]
    intro e
    rw [e] at hs
    have : l = [[]] := by
      have h2 : splitBy 47 sl = [[], []] := rfl
      rw [h2] at hs
      exact (List.cons.inj hs).2.symm
    subst this
    exact absurd hn (by decide)
  have hp : 1 ≤ l.length := List.length_pos_iff.2 hl
  have h2 : pathOk (cat l) = decide (l.length ≤ 4) := by
    unfold pathOk
    rw [h1, hs]
    simp only [Bool.false_or, List.length_cons, List.headD_cons, List.drop_one, List.tail_cons, hn, Bool.and_true, beq_self_eq_true, inB]
    by_cases h : l.length ≤ 4
    · simp [h]; omega
    · simp [h]; omega
  refine ⟨h2, h1, fun h => ?_⟩
  have h3 : pathOk (cat l) = true := by rw [h2]; simpa using h
  rw [names, h3, h1, hs]; simp
theorem cat1_ne {l : List Str} (hl : l ≠ []) : cat1 l = cat l := by
  cases l with
  | nil => exact absurd rfl hl
  | cons a l => rfl
theorem pathOf_names {l : List Str} (hl : l ≠ []) (hn : l.all nameOk = true) : pathOf l = if l.length ≤ 4 then cat l else [] := by
  unfold pathOf
  rw [hn, cat1_ne hl]
  by_cases h : l.length ≤ 4 <;> simp [h]
theorem cat_ne {l : List Str} (hl : l ≠ []) : cat l ≠ [] := by
  cases l with
  | nil => exact absurd rfl hl
  | cons a l => simp [cat]
theorem below_cat {p q : Str} (hq : (q == sl) = false) (h : withinP p q = true) : ∃ r, names p = names q ++ r ∧ p = q ++ cat r ∧ pathOk p = true ∧ pathOk q = true ∧ (p == sl) = false := by
  simp only [withinP, Bool.and_eq_true] at h
  obtain ⟨⟨h1, h2⟩, h3⟩ := h
  obtain ⟨r, hr⟩ := List.isPrefixOf_iff_prefix.1 h3
  obtain ⟨cq, nq⟩ := cat_names h2 hq
  have hp : (p == sl) = false := by
    rw [beq_eq_false_iff_ne]
    intro e
    rw [e, names_sl] at hr
    exact nq (List.append_eq_nil_iff.1 hr).1
  obtain ⟨cp, np⟩ := cat_names h1 hp
  refine ⟨r, hr.symm, ?_, h1, h2, hp⟩
  rw [cp, ← hr, cat_append, ← cq]
theorem names_app {p q : Str} : (names p ++ (names q).drop (names p).length).all nameOk = true := by
  rw [List.all_append, names_all, Bool.true_and, List.all_eq_true]
  intro x hx
  exact List.all_eq_true.1 names_all x (List.mem_of_mem_drop hx)
theorem moved_path {o : OpR} {x : It} (ho : badP o.path = false) (ht : badP o.to = false) (h : withinP x.path o.path = true) :
    ∃ r, names x.path = names o.path ++ r ∧ x.path = o.path ++ cat r ∧ (names o.to ++ r).all nameOk = true ∧ names o.to ++ r ≠ [] ∧ o.to ++ cat r = cat (names o.to ++ r) ∧ (moved o x).path = if (names o.to ++ r).length ≤ 4 then cat (names o.to ++ r) else [] := by
  simp only [badP, Bool.or_eq_false_iff] at ho ht
  obtain ⟨r, h1, h2, _⟩ := below_cat ho.2 h
  obtain ⟨ct, nt⟩ := cat_names (p := o.to) (by simpa using ht.1) ht.2
  have hr : (names o.to ++ r).all nameOk = true := by
    rw [List.all_append, names_all, Bool.true_and, List.all_eq_true]
    intro y hy
    exact List.all_eq_true.1 (names_all (p := x.path)) y (by rw [h1]; simp [hy])
  have hne : names o.to ++ r ≠ [] := fun e => nt (List.append_eq_nil_iff.1 e).1
  refine ⟨r, h1, h2, hr, hne, ?_, ?_⟩
  · rw [cat_append, ← ct]
  · unfold moved
    rw [if_pos h]
    show pathOf (names o.to ++ (names x.path).drop (names o.path).length) = _
    rw [h1, List.drop_left, pathOf_names hne hr]
theorem moved_impl {o : OpR} {x : It} (ho : badP o.path = false) (ht : badP o.to = false) (h : withinP x.path o.path = true) :
    pathOk (o.to ++ x.path.drop o.path.length) = !stuck o x ∧ (stuck o x = false → o.to ++ x.path.drop o.path.length = (moved o x).path) := by
  obtain ⟨r, h1, h2, h3, h4, h5, h6⟩ := moved_path ho ht h
  have e : x.path.drop o.path.length = cat r := by rw [h2, List.drop_left]
  rw [e, h5]
  have hk := (ok_cat h4 h3).1
  rw [hk]
  unfold stuck
  rw [h, h6, Bool.true_and]
  by_cases hl : (names o.to ++ r).length ≤ 4
  · rw [if_pos hl]
    exact ⟨by rw [decide_eq_true hl, (beq_eq_false_iff_ne).2 (cat_ne h4)]; rfl, fun _ => rfl⟩
  · rw [if_neg hl]
    exact ⟨by rw [decide_eq_false hl]; rfl, fun h => absurd h (by decide)⟩
theorem moved_out {o : OpR} {x : It} (h : withinP x.path o.path = false) : moved o x = x ∧ stuck o x = false := by
  unfold stuck moved
  rw [h]; simp
theorem above_there {t : Tr} (ok : treeOk t = true) : ∀ (n : Nat) (y : It), y ∈ t → (names y.path).length ≤ n → ∀ q, (q == sl) = false → withinP y.path q = true → (treeGet t q).isSome = true
  | 0, y, hy, hn, q, hq, hw => by
    have hi := treeOk_item ok hy
    have hsl := item_path hi
    simp only [itemOk, Bool.and_eq_true] at hi
    have := (cat_names hi.1.1.1 hsl).2
    exact absurd (List.eq_nil_of_length_eq_zero (by omega)) this
  | n + 1, y, hy, hn, q, hq, hw => by
    obtain ⟨r, h1, h2, hp, hqk, hsl⟩ := below_cat hq hw
    obtain ⟨cq, nq⟩ := cat_names hqk hq
    obtain ⟨cp, np⟩ := cat_names hp hsl
    by_cases hr : r = []
    · subst hr
      have : y.path = q := by rw [h2]; simp [cat]
      rw [← this, treeGet_mem ok hy]; rfl
    · -- the directory above
      obtain ⟨i, hi⟩ := List.getElem?_of_mem hy
      have hd := (treeOk_get ok hi).2.2
      have hrl : 0 < r.length := List.length_pos_iff.2 hr
      have hql : 0 < (names q).length := List.length_pos_iff.2 nq
      have hl : (names y.path).length = (names q).length + r.length := by rw [h1, List.length_append]
      obtain ⟨u, hu⟩ : ∃ u, u = (names y.path).take ((names y.path).length - 1) := ⟨_, rfl⟩
      have hul : u.length = (names y.path).length - 1 := by rw [hu, List.length_take]; omega
      have hune : u ≠ [] := fun e => by rw [e] at hul; simp at hul; omega
      have hun : u.all nameOk = true := by
        rw [List.all_eq_true]
        intro z hz
        rw [hu] at hz
        exact List.all_eq_true.1 names_all z (List.mem_of_mem_take hz)
      have h4 := names_len (p := y.path)
      have hab : above y.path = cat u := by
        rw [above, if_pos hp, ← hu, pathOf_names hune hun, if_pos (by omega)]
      obtain ⟨k1, k2, k3⟩ := ok_cat hune hun
      have hnu := k3 (by omega)
      rw [hab] at hd
      simp only [dirAt, Bool.and_eq_true] at hd
      rw [treeGet_find k2] at hd
      obtain ⟨z, hz⟩ := Option.isSome_iff_exists.1 hd.1
      have hzm := List.mem_of_find?_eq_some hz
      have hzp : z.path = cat u := by simpa using List.find?_some hz
      refine above_there ok n z hzm (by rw [hzp, hnu]; omega) q hq ?_
      simp only [withinP, Bool.and_eq_true]
      refine ⟨⟨by rw [hzp, k1]; simp; omega, hqk⟩, ?_⟩
      rw [hzp, hnu, List.isPrefixOf_iff_prefix, hu, h1]
      have e1 : (names q ++ r).length - 1 = (names q).length + (r.length - 1) := by rw [List.length_append]; omega
      refine ⟨r.take (r.length - 1), ?_⟩
      rw [e1, List.take_append, List.take_of_length_le (by omega : (names q).length ≤ (names q).length + (r.length - 1)), Nat.add_sub_cancel_left]
theorem moved_dst {t : Tr} {o : OpR} (ok : treeOk t = true) (ho : badP o.path = false) (ht : badP o.to = false) (hno : (treeGet t o.to).isSome = false) (hs : t.any (stuck o) = false) : dst (t.map (moved o)) := by
  have hns : ∀ x, x ∈ t → stuck o x = false := fun x hx => by
    have := List.any_eq_false.1 hs x hx
    simpa using this
  have hto : (o.to == sl) = false := by simp only [badP, Bool.or_eq_false_iff] at ht; exact ht.2
  have hto2 : pathOk o.to = true := by simp only [badP, Bool.or_eq_false_iff] at ht; simpa using ht.1
  have free : ∀ x y, x ∈ t → y ∈ t → withinP x.path o.path = true → (moved o x).path ≠ y.path := by
    intro x y hx hy hw e
    obtain ⟨r, h1, h2, h3, h4, h5, h6⟩ := moved_path ho ht hw
    have hst := hns x hx
    by_cases hl : (names o.to ++ r).length ≤ 4
    · rw [if_pos hl, e] at h6
      obtain ⟨k1, k2, k3⟩ := ok_cat h4 h3
      have : (treeGet t o.to).isSome = true := by
        refine above_there ok _ y hy (Nat.le_refl _) o.to hto ?_
        simp only [withinP, Bool.and_eq_true]
        refine ⟨⟨by rw [h6, k1]; simpa using hl, hto2⟩, ?_⟩
        rw [h6, k3 hl, List.isPrefixOf_iff_prefix]
        exact ⟨r, rfl⟩
      rw [hno] at this; cases this
    · rw [if_neg hl] at h6
      unfold stuck at hst
      rw [hw, h6] at hst
      cases hst
  refine List.pairwise_map.2 (List.Pairwise.imp_of_mem (fun {x y} hx hy hxy => ?_) (srt_dst (treeOk_srt ok)))
  have hxy : x.path ≠ y.path := hxy
  cases hwx : withinP x.path o.path with
  | false =>
    rw [(moved_out hwx).1]
    cases hwy : withinP y.path o.path with
    | false => rw [(moved_out hwy).1]; exact hxy
    | true => exact fun e => free y x hy hx hwy e.symm
  | true =>
    cases hwy : withinP y.path o.path with
    | false => rw [(moved_out hwy).1]; exact free x y hx hy hwx
    | true =>
      intro e
      obtain ⟨r, h1, h2, h3, h4, h5, h6⟩ := moved_path ho ht hwx
      obtain ⟨r', g1, g2, g3, g4, g5, g6⟩ := moved_path ho ht hwy
      have sx := hns x hx
      have sy := hns y hy
      by_cases hl : (names o.to ++ r).length ≤ 4
      · by_cases gl : (names o.to ++ r').length ≤ 4
        · rw [if_pos hl] at h6
          rw [if_pos gl] at g6
          rw [h6, g6] at e
          have e2 := congrArg names e
          rw [(ok_cat h4 h3).2.2 hl, (ok_cat g4 g3).2.2 gl] at e2
          have : r = r' := List.append_cancel_left e2
          exact hxy (by rw [h2, g2, this])
        · rw [if_neg gl] at g6
          unfold stuck at sy
          rw [hwy, g6] at sy; cases sy
      · rw [if_neg hl] at h6
        unfold stuck at sx
        rw [hwx, h6] at sx; cases sx
end Go.GH

set_option linter.unusedVariables false
set_option linter.unusedSimpArgs false
namespace Go.GH
open Go
theorem pad_len (old : Str) (n : Nat) : (pad old n).length = max old.length n := by
  unfold pad; simp; omega
theorem cutT_len {old : Str} {n : Int} (h : inB n 0 100000 = true) : ((cutT old n).length : Int) = n := by
  rw [inB_iff] at h
  unfold cutT
  rw [if_pos (by rw [inB_iff]; exact h), List.length_take, pad_len]
  omega
theorem set_flag {t : Tr} {o : OpR} {x : It} (ok : treeOk t = true) (hn : numsOk o = true) (hx : x ∈ t) (hk : (x.kind == 2) = false) : decide (((dataOf x.data o).1.length : Int) > 80) = !(dataOf x.data o).2 := by
  obtain ⟨_, ⟨a1, a2⟩, _⟩ := numsOk_iff hn
  unfold dataOf
  split
  · simp only
    by_cases h : (((wrote x.data o.at_ o.data).length : Int) ≤ 80)
    · rw [decide_eq_false (by omega), decide_eq_true h]; rfl
    · rw [decide_eq_true (by omega), decide_eq_false h]; rfl
  · split
    · simp only
      rw [cutT_len (by rw [inB_iff]; omega)]
      by_cases h : o.at_ ≤ 80
      · rw [decide_eq_false (by omega), decide_eq_true h]; rfl
      · rw [decide_eq_true (by omega), decide_eq_false h]; rfl
    · simp only
      have hi := treeOk_item ok hx
      simp only [itemOk, hk, Bool.false_eq_true, if_false, Bool.and_eq_true, decide_eq_true_eq] at hi
      have := hi.2.1
      simp; omega
theorem busy_eq {t : Tr} {p : Str} (ok : treeOk t = true) : decide (((treeNames t p).length : Int) > 0) = t.any fun y => above y.path == p := by
  unfold treeNames
  rw [ok, Bool.true_and]
  cases hk : t.any (fun y => above y.path == p) with
  | false =>
    have : kids t p = [] := List.filter_eq_nil_iff.2 fun y hy => by
      have := List.any_eq_false.1 hk y hy
      simpa using this
    rw [this]
    split <;> simp
  | true =>
    obtain ⟨y, hy, he⟩ := List.any_eq_true.1 hk
    obtain ⟨i, hi⟩ := List.getElem?_of_mem hy
    have hd := (treeOk_get ok hi).2.2
    have he : above y.path = p := by simpa using he
    rw [he] at hd
    rw [if_pos hd]
    have : 0 < (kids t p).length := List.length_pos_of_mem (List.mem_filter.2 ⟨hy, by simpa using he⟩)
    simp; omega
theorem get_path {t : Tr} {p : Str} (hp : badP p = false) : treeGet t p = t.find? fun x => x.path == p := by
  simp only [badP, Bool.or_eq_false_iff] at hp
  exact treeGet_find hp.2
theorem fnd_some {t : Tr} {p : Str} (hp : badP p = false) : (treeGet t p).isSome = decide (fnd (fun y => y.path == p) t ≥ 0) := by
  rw [get_path hp, fnd_pos]
  cases h : t.any (fun y => y.path == p) with
  | true =>
    obtain ⟨x, _, hx⟩ := fnd_get h
    rw [hx]; rfl
  | false => rw [any_find h]; rfl
theorem fnd_at {t : Tr} {p : Str} (hp : badP p = false) {x : It} (h : treeGet t p = some x) : t[(fnd (fun y => y.path == p) t).toNat]? = some x ∧ 0 ≤ fnd (fun y => y.path == p) t ∧ x.path = p := by
  rw [get_path hp] at h
  have ha : t.any (fun y => y.path == p) = true := List.any_eq_true.2 ⟨x, List.mem_of_find?_eq_some h, List.find?_some (p := fun y : It => y.path == p) h⟩
  obtain ⟨y, h1, h2⟩ := fnd_get ha
  have := fnd_pos (p := fun y : It => y.path == p) (l := t)
  rw [ha] at this
  rw [h] at h2
  obtain rfl := Option.some.inj h2
  exact ⟨h1, by simpa using this, by simpa using List.find?_some (p := fun y : It => y.path == p) h⟩
theorem treeDo_sm {t : Tr} {o : OpR} : True := trivial
end Go.GH

set_option linter.unusedVariables false
set_option linter.unusedSimpArgs false
namespace Go.GH
open Go
theorem zeros {n : Nat} {z : Int} (h : z.toNat = n) : (List.drop 0 (List.replicate z.toNat [AV.int .u8 0])).take z.toNat = (List.replicate n (0 : UInt8)).map fun b => [AV.int .u8 b.toNat] := by
  rw [h]
  simp
theorem cut_bad {s : Str} {n : Int} (h : inB n 0 100000 = false) : cutT s n = s := by simp [cutT, h]
theorem cut_le {s : Str} {k : Nat} (h : inB k 0 100000 = true) (hk : k ≤ s.length) : cutT s k = s.take k := by
  simp [cutT, h, pad, List.take_append_of_le_length hk]
theorem cut_gt {s : Str} {k : Nat} (h : inB k 0 100000 = true) (hk : s.length ≤ k) : cutT s k = s ++ List.replicate (k - s.length) 0 := by
  have : (pad s k).length = k := by rw [pad_len]; omega
  rw [cutT, if_pos h, Int.toNat_natCast, List.take_of_length_le (by omega)]
  rfl
theorem wrote_bad {s d : Str} {n : Int} (h : inB n 0 100000 = false) : wrote s n d = s := by simp [wrote, h]
theorem wrote_lt {s d : Str} {k : Nat} (h : inB k 0 100000 = true) (hk : k ≤ s.length) : wrote s k d = s.take k ++ d ++ s.drop (k + d.length) := by
  have e : pad s k = s := by simp [pad, show k - s.length = 0 by omega]
  rw [wrote, if_pos h, Int.toNat_natCast, e]
theorem wrote_ge {s d : Str} {k : Nat} (h : inB k 0 100000 = true) (hk : s.length ≤ k) : wrote s k d = s ++ List.replicate (k - s.length) 0 ++ d := by
  have e : (pad s k).length = k := by rw [pad_len]; omega
  rw [wrote, if_pos h, Int.toNat_natCast, List.take_of_length_le (by omega), List.drop_eq_nil_of_le (by omega), List.append_nil]
  rfl
theorem wrote_len {s d : Str} {n : Int} : (wrote s n d).length ≤ s.length + d.length + 100000 := by
  cases h : inB n 0 100000 with
  | false => rw [wrote_bad h]; omega
  | true =>
    have := inB_iff.1 h
    obtain ⟨k, rfl⟩ : ∃ k : Nat, n = k := ⟨n.toNat, by omega⟩
    rcases Nat.le_total k s.length with hk | hk
    · rw [wrote_lt h hk]; simp; omega
    · rw [wrote_ge h hk]; simp; omega
end Go.GH

set_option linter.unusedVariables false
set_option linter.unusedSimpArgs false
namespace Go.GH
open Go
theorem put_len1 {x : It} : ∀ {l out : Tr} {d : Bool}, (l.foldl (putStep x) (out, d)).1.length + (if (l.foldl (putStep x) (out, d)).2 then 0 else 1) ≤ out.length + l.length + (if d then 0 else 1)
  | [], out, d => by exact Nat.le_refl _
  | y :: l, out, d => by
    rw [List.foldl_cons]
    obtain ⟨o', d', h⟩ : ∃ o' d', putStep x (out, d) y = (o', d') := ⟨_, _, rfl⟩
    have h1 : o'.length + (if d' then 0 else 1) ≤ out.length + 1 + (if d then 0 else 1) := by
      have e1 : o' = (putStep x (out, d) y).1 := by rw [h]
      have e2 : d' = (putStep x (out, d) y).2 := by rw [h]
      rw [e1, e2]
      unfold putStep
      dsimp only
      cases d <;> cases strLt x.path y.path <;> cases (y.path == x.path) <;> simp <;> omega
    rw [h]
    have := put_len1 (x := x) (l := l) (out := o') (d := d')
    simp only [List.length_cons]
    omega
theorem putP_len1 {x : It} {l : Tr} : (putP l x).length ≤ l.length + 1 := by
  have := put_len1 (x := x) (l := l) (out := []) (d := false)
  unfold putP
  rw [show putAt l x = l.foldl (putStep x) ([], false) from rfl]
  split
  · rename_i h; simp [h] at this; exact this
  · rename_i h; simp [h] at this; simp; exact this
theorem fold_len : ∀ {l out : Tr}, (l.foldl putP out).length ≤ out.length + l.length
  | [], out => by simp
  | x :: l, out => by
    have h1 := fold_len (l := l) (out := putP out x)
    have h2 := putP_len1 (x := x) (l := out)
    simp only [List.foldl_cons, List.length_cons]
    omega
theorem fold_mem {y : It} : ∀ {l out : Tr}, y ∈ l.foldl putP out → y ∈ out ∨ y ∈ l
  | [], out, h => .inl h
  | x :: l, out, h => by
    rcases fold_mem (l := l) (out := putP out x) h with h | h
    · rcases putP_mem h with h | h
      · exact .inr (by simp [h])
      · exact .inl h
    · exact .inr (by simp [h])
theorem app_len {a b : Str} {k : Nat} : ((names a ++ (names b).drop k).map List.length).sum ≤ 48 ∧ (names a ++ (names b).drop k).length ≤ 8 := by
  have h1 : (names a ++ (names b).drop k).length ≤ 8 := by
    have := names_len (p := a)
    have := names_len (p := b)
    simp
    omega
  have h2 := sum_len (l := names a ++ (names b).drop k) (k := 6) fun s hs => by
    rcases List.mem_append.1 hs with h | h
    · exact nameOk_len (List.all_eq_true.1 names_all s h)
    · exact nameOk_len (List.all_eq_true.1 names_all s (List.mem_of_mem_drop h))
  exact ⟨by omega, h1⟩
theorem moved_len {o : OpR} {x : It} (h : x.path.length ≤ 4194304) : (moved o x).path.length ≤ 4194304 := by
  unfold moved
  split
  · have h1 := app_len (a := o.to) (b := x.path) (k := (names o.path).length)
    have h2 := pathOf_len (names o.to ++ (names x.path).drop (names o.path).length)
    show (pathOf _).length ≤ _
    omega
  · exact h
theorem moved_data {o : OpR} {x : It} : (moved o x).data = x.data := by
  unfold moved
  split <;> rfl
theorem ren_sm {t : Tr} {o : OpR} (hs : smT t) (i : Nat) : smT (((t.take i).map (moved o)).foldl putP []) := by
  refine ⟨?_, fun y hy => ?_⟩
  · have h1 := fold_len (l := (t.take i).map (moved o)) (out := [])
    have h2 := hs.1
    have h3 : ((t.take i).map (moved o)).length ≤ t.length := by simp; omega
    simp only [List.length_nil] at h1
    omega
  · rcases fold_mem hy with h | h
    · cases h
    · obtain ⟨x, hx, rfl⟩ := List.mem_map.1 h
      have := hs.2 x (List.mem_of_mem_take hx)
      exact ⟨moved_len this.1, by rw [moved_data]; exact this.2⟩
theorem cat_arg (A B C : List Str) (h : C.length ≤ B.length) : toRdRows
      (List.take
        ((List.take (List.map encS A).length (List.drop 0 (List.map encS A))).length +
          (List.take ((((List.map encS B).length : Nat) : Int).toNat - (((List.map encS C).length : Nat) : Int).toNat)
              (List.drop (0 + (((List.map encS C).length : Nat) : Int).toNat) (List.map encS B))).length)
        (List.drop 0
          (List.take (List.map encS A).length (List.drop 0 (List.map encS A)) ++
            List.take ((((List.map encS B).length : Nat) : Int).toNat - (((List.map encS C).length : Nat) : Int).toNat)
              (List.drop (0 + (((List.map encS C).length : Nat) : Int).toNat) (List.map encS B))))) =
    List.map encS (A ++ B.drop C.length) := by
  have e1 : List.take (List.map encS A).length (List.drop 0 (List.map encS A)) = A.map encS := by simp
  have e2 : List.take ((((List.map encS B).length : Nat) : Int).toNat - (((List.map encS C).length : Nat) : Int).toNat)
              (List.drop (0 + (((List.map encS C).length : Nat) : Int).toNat) (List.map encS B)) = (B.drop C.length).map encS := by
    rw [Int.toNat_natCast, Int.toNat_natCast, Nat.zero_add, List.length_map, List.length_map, ← List.map_drop]
    rw [List.take_of_length_le (by simp)]
  rw [e1, e2, List.drop_zero, ← List.length_append, List.take_length, ← List.map_append, rdS]
end Go.GH

set_option linter.unusedVariables false
set_option linter.unusedSimpArgs false
namespace Go.GH
open Go
theorem put_sm {t : Tr} {x : It} (h : smT t) (hl : t.length ≤ 40) (hx : x.path.length ≤ 4194304 ∧ x.data.length ≤ 4194304) : smT (putP t x) := by
  refine ⟨?_, fun y hy => ?_⟩
  · have := putP_len1 (x := x) (l := t)
    omega
  · rcases putP_mem hy with rfl | hy
    · exact hx
    · exact h.2 y hy
theorem ok_data {t : Tr} (ok : treeOk t = true) {x : It} (hx : x ∈ t) : x.data.length ≤ 80 := by
  have h := treeOk_item ok hx
  unfold itemOk at h
  simp only [Bool.and_eq_true] at h
  have h := h.2
  split at h
  · simp only [Bool.and_eq_true, beq_iff_eq] at h
    rw [h.1]
    simp
  · simp only [Bool.and_eq_true, decide_eq_true_eq] at h
    omega
theorem dataOf_len {s : Str} {o : OpR} (hs : s.length ≤ 80) (ho : o.data.length ≤ 1048576) : (dataOf s o).1.length ≤ 4194304 := by
  unfold dataOf
  split
  · have := wrote_len (s := s) (d := o.data) (n := o.at_)
    show (wrote _ _ _).length ≤ _
    omega
  · split
    · show (cutT _ _).length ≤ _
      cases h : inB o.at_ 0 100000 with
      | false => rw [cut_bad h]; omega
      | true =>
        have h1 := cutT_len (old := s) h
        have h2 := inB_iff.1 h
        omega
    · show s.length ≤ _
      omega
theorem treeDo_smT {t : Tr} {o : OpR} (ht : smT t) (ho : smO o) : smT (treeDo t o).1 := by
  unfold treeDo
  by_cases hb : (!treeOk t || !numsOk o) = true
  · rw [if_pos hb]; exact ht
  rw [if_neg hb]
  have ok : treeOk t = true := by revert hb; cases treeOk t <;> simp
  have hl := treeOk_len ok
  by_cases h1 : badP o.path = true
  · rw [if_pos h1]; exact ht
  rw [if_neg h1]
  have h1 : badP o.path = false := by simpa using h1
  obtain ⟨o1, o2, o3⟩ := ho
  split
  · unfold tNew
    split
    · exact ht
    split
    · exact ht
    split
    · exact ht
    split
    · exact ht
    refine put_sm ht hl ?_
    unfold newIt
    split
    · exact ⟨by show o.path.length ≤ _; omega, by show ([] : Str).length ≤ _; simp⟩
    · exact ⟨by show o.path.length ≤ _; omega, by show o.data.length ≤ _; omega⟩
  split
  · unfold tSet
    cases hx : treeGet t o.path with
    | none => exact ht
    | some x =>
      have hxm := List.mem_of_getElem? (fnd_at h1 hx).1
      have hd := ok_data ok hxm
      dsimp only
      split
      · exact ht
      split
      · exact ht
      exact put_sm ht hl ⟨(ht.2 x hxm).1, dataOf_len hd o3⟩
  split
  · unfold tDrop
    cases hx : treeGet t o.path with
    | none => exact ht
    | some x =>
      dsimp only
      split
      · exact ht
      split
      · exact ht
      refine ⟨?_, fun y hy => ht.2 y (List.mem_filter.1 hy).1⟩
      have := List.length_filter_le (fun y : It => !(y.path == o.path)) t
      have h2 := ht.1
      show (List.filter _ _).length ≤ _
      omega
  split
  · exact ht
  unfold tRen
  split
  · exact ht
  split
  · exact ht
  split
  · exact ht
  split
  · exact ht
  have := ren_sm (o := o) ht t.length
  rw [List.take_length] at this
  exact this
def doStep (s : Tr × List Int) (o : OpR) : Tr × List Int := ((treeDo s.1 o).1, s.2 ++ [(treeDo s.1 o).2])
def doAll (t : Tr) (l : List OpR) : Tr × List Int := l.foldl doStep (t, [])
theorem doAll_take {t : Tr} {l : List OpR} {i : Nat} {o : OpR} (h : l[i]? = some o) : doAll t (l.take (i + 1)) = doStep (doAll t (l.take i)) o := by
  unfold doAll
  rw [take_succ' h, List.foldl_append]
  rfl
theorem doAll_sm {t : Tr} {l : List OpR} (ht : smT t) (hl : smOL l) : ∀ i, i ≤ l.length → smT (doAll t (l.take i)).1 ∧ (doAll t (l.take i)).2.length = i
  | 0, _ => ⟨ht, rfl⟩
  | i + 1, h => by
    obtain ⟨o, ho⟩ := get_lt (l := l) (i := i) (by omega)
    obtain ⟨h1, h2⟩ := doAll_sm ht hl i (by omega)
    rw [doAll_take ho]
    refine ⟨treeDo_smT h1 (hl.2 o (List.mem_of_getElem? ho)), ?_⟩
    simp [doStep, h2]
end Go.GH

namespace Go.GH
open Go
def atP : Str ⊕ OpR → It → Bool
  | .inl p, y => y.path == p
  | .inr o, y => above y.path == o.path
def atC : Str ⊕ OpR → List AV
  | .inl p => [.str p]
  | .inr o => encO o
theorem atC_free (x : Str ⊕ OpR) : freeCells (atC x) := by cases x <;> simp [atC, encO, freeCells, AV.free]
theorem atC_noRd (x : Str ⊕ OpR) : noRdCells (atC x) := by cases x <;> simp [atC, encO, noRdCells, AV.noRd]
def roomC (t : Tr) (p : Str) : Int := if dirC t (above p) != 0 then dirC t (above p) else if (treeGet t p).isSome then 3 else 0
theorem room_bad {t : Tr} {p : Str} (h : (roomC t p != 0) = true) : (dirC t (above p) != 0) = true ∧ roomC t p = dirC t (above p) ∨ (dirC t (above p) != 0) = false ∧ (treeGet t p).isSome = true ∧ roomC t p = 3 := by
  unfold roomC at h ⊢
  cases h1 : (dirC t (above p) != 0) with
  | true => exact .inl ⟨rfl, by rw [if_pos rfl]⟩
  | false =>
    rw [h1] at h
    cases h2 : (treeGet t p).isSome with
    | true => exact .inr ⟨rfl, rfl, rfl⟩
    | false => rw [h2] at h; cases h
theorem room_ok {t : Tr} {p : Str} (h : (roomC t p != 0) = false) : (dirC t (above p) != 0) = false ∧ (treeGet t p).isSome = false := by
  unfold roomC at h
  cases h1 : (dirC t (above p) != 0) with
  | true => rw [h1, if_pos rfl] at h; rw [h1] at h; cases h
  | false =>
    rw [h1] at h
    cases h2 : (treeGet t p).isSome with
    | true => rw [h2] at h; cases h
    | false => exact ⟨rfl, rfl⟩
theorem new_room {t : Tr} {o : OpR} (h : (roomC t o.path != 0) = true) : tNew t o = (t, roomC t o.path) := by
  rcases room_bad h with ⟨h1, h2⟩ | ⟨h1, h2, h3⟩
  · rw [tNew, if_pos h1, h2]
  · rw [tNew, if_neg (by rw [h1]; decide), if_pos h2, h3]
theorem get_no {t : Tr} {p : Str} (hp : badP p = false) (h : (treeGet t p).isSome = false) : ∀ y, y ∈ t → y.path ≠ p := by
  intro y hy e
  rw [get_path hp] at h
  have : t.find? (fun x => x.path == p) = none := by simpa using h
  have := List.find?_eq_none.1 this y hy
  simp [e] at this
theorem rep_zero : ∀ n, Lib.repeatL [(0 : UInt8)] n = List.replicate n 0
  | 0 => rfl
  | n + 1 => by rw [Lib.repeatL, rep_zero n]; rfl
end Go.GH

set_option linter.unusedVariables false
set_option linter.unusedSimpArgs false
namespace Go.GH
open Go Go.Proofs
noncomputable def c_impl_PathOk : PCon := con [mC] true Str encS (fun s => sml s.length) (fun s => .bool (pathOk s))
noncomputable def E_impl_PathOk : Env := ⟨lookup tyTab, lookup [(50, c_impl_readPath)], [0, 2, 4]⟩
set_option maxRecDepth 100000 in
set_option maxHeartbeats 4000000 in
theorem m_impl_PathOk : Meets E_impl_PathOk (codeOf Tryz.f83) Tryz.f83.results.toList c_impl_PathOk := by
  intro (s : Str) hs
  refine ⟨trivial, ?_⟩
  conv => whnf
  refine ⟨s, rfl, fun _ => hs, ?_⟩
  conv => whnf
  exact ⟨trivial, rfl⟩
theorem ok_impl_PathOk : ConOk Tryz.prog 83 c_impl_PathOk := meets_ok (tabT _ _) (FOk.cons ok_impl_readPath FOk.nil) mixed Tryz.func83 rfl Tryz.call83 (by decide) (by kernel_rfl) m_impl_PathOk (by intro _ (y : Str) _; exact ⟨by simp [c_impl_PathOk, con, conG, conW, AV.noRd, noRdCells, noRdRows, noRdRows_map', encS, encI, encO, atC_free, atC_noRd], by simp [c_impl_PathOk, con, conG, conW, AV.noRd, noRdCells, noRdRows, noRdRows_map', encS, encI, encO, atC_free, atC_noRd]⟩) (by intro (y : Str) _; first | (simp [c_impl_PathOk, con, conG, conW, conP, AV.free, freeCells, freeRows, freeRows_map, encS, encI, encO, atC_free, atC_noRd]; done) | (obtain ⟨_, _⟩ := y; simp [c_impl_PathOk, con, conG, conW, conP, AV.free, freeCells, freeRows, freeRows_map, encS, encI, encO, atC_free, atC_noRd]; done) | (obtain ⟨_, _, _⟩ := y; simp [c_impl_PathOk, con, conG, conW, conP, AV.free, freeCells, freeRows, freeRows_map, encS, encI, encO, atC_free, atC_noRd]; done))
noncomputable def c_impl_PathOf : PCon := con [mS 1] true (List Str) (fun l => [.rd 1 (l.map encS)]) (fun l => l.length + (l.map List.length).sum < 4194304) (fun l => .str (pathOf l))
noncomputable def E_impl_PathOf : Env := ⟨lookup tyTab, lookup [(92, c_slices_ContainsFunc_string), (95, c_strings_Join), (96, c_impl_PathOf_1)], [0, 2, 3, 13]⟩
set_option maxRecDepth 100000 in
set_option maxHeartbeats 4000000 in
theorem m_impl_PathOf : Meets E_impl_PathOf (codeOf Tryz.f51) Tryz.f51.results.toList c_impl_PathOf := by
  intro (l : List Str) hs
  have hs : l.length + (l.map List.length).sum < 4194304 := hs
  have hl := cat1_len l
  have hj := join_cat l
  have hjl : (Lib.join l sl).length + 1 = (cat1 l).length := by rw [← hj]; simp [sl]
  have hsm : smL l := ⟨by omega, fun s hs => by
    have : s.length ≤ (l.map List.length).sum := le_sum hs
    omega⟩
  refine ⟨trivial, ?_⟩
  conv => whnf
  refine ⟨(l, sl), rfl, fun _ => ⟨by show (Lib.join l sl).length ≤ _; omega, by show l.length ≤ _; omega⟩, ?_⟩
  conv => whnf
  refine ⟨by show 1 + (Lib.join l sl).length ≤ _; omega, ?_⟩
  repeat ((conv => whnf); refine ⟨fun h => h, ?_⟩)
  refine ⟨(l, false), rfl, fun _ => hsm, ?_⟩
  repeat ((conv => whnf); refine ⟨fun h => h, ?_⟩)
  have e : (decide (l.length ≤ 4) && l.all nameOk) = !(decide (((l.map encS).length : Int) > 4) || l.any fun s => !nameOk s) := by
    rw [List.all_eq_not_any_not, Bool.not_or]
    congr 1
    rw [Bool.eq_iff_iff]
    simp
    omega
  (conv => whnf); refine ⟨fun h1 => ?_, fun h1 => ?_⟩
  · conv => whnf
    exact ⟨trivial, eqS (by
      rw [pathOf, e, show (_ || _) = true from h1]; rfl)⟩
  · conv => whnf
    exact ⟨trivial, eqS (by
      rw [pathOf, e, show (_ || _) = false from h1]; exact hj)⟩
theorem ok_impl_PathOf : ConOk Tryz.prog 51 c_impl_PathOf := meets_ok (tabT _ _) (FOk.cons ok_slices_ContainsFunc_string (FOk.cons ok_strings_Join (FOk.cons ok_impl_PathOf_1 FOk.nil))) mixed Tryz.func51 rfl Tryz.call51 (by decide) (by kernel_rfl) m_impl_PathOf (by intro _ (y : (List Str)) _; exact ⟨by simp [c_impl_PathOf, con, conG, conW, AV.noRd, noRdCells, noRdRows, noRdRows_map', encS, encI, encO, atC_free, atC_noRd], by simp [c_impl_PathOf, con, conG, conW, AV.noRd, noRdCells, noRdRows, noRdRows_map', encS, encI, encO, atC_free, atC_noRd]⟩) (by intro (y : (List Str)) _; first | (simp [c_impl_PathOf, con, conG, conW, conP, AV.free, freeCells, freeRows, freeRows_map, encS, encI, encO, atC_free, atC_noRd]; done) | (obtain ⟨_, _⟩ := y; simp [c_impl_PathOf, con, conG, conW, conP, AV.free, freeCells, freeRows, freeRows_map, encS, encI, encO, atC_free, atC_noRd]; done) | (obtain ⟨_, _, _⟩ := y; simp [c_impl_PathOf, con, conG, conW, conP, AV.free, freeCells, freeRows, freeRows_map, encS, encI, encO, atC_free, atC_noRd]; done))
noncomputable def c_impl_Above : PCon := con [mC] true Str encS (fun l => sml l.length) (fun l => .str (above l))
noncomputable def E_impl_Above : Env := ⟨lookup tyTab, lookup [(50, c_impl_readPath), (51, c_impl_PathOf)], [0, 2, 3, 4, 11]⟩
set_option maxRecDepth 100000 in
set_option maxHeartbeats 4000000 in
theorem m_impl_Above : Meets E_impl_Above (codeOf Tryz.f48) Tryz.f48.results.toList c_impl_Above := by
  intro (s : Str) hs
  have hs : s.length ≤ 4194304 := hs
  refine ⟨trivial, ?_⟩
  conv => whnf
  refine ⟨s, rfl, fun _ => hs, ?_⟩
  (conv => whnf); refine ⟨fun h1 => ?_, fun h1 => ?_⟩
  · have h1 : pathOk s = false := by
      have h1 : (!pathOk s) = true := h1
      simpa using h1
    conv => whnf
    exact ⟨trivial, eqS (by simp [above, h1])⟩
  have h1 : pathOk s = true := by
    have h1 : (!pathOk s) = false := h1
    simpa using h1
  have hd : above s = pathOf ((names s).take ((names s).length - 1)) := by simp [above, h1]
  have hnl := names_len (p := s)
  have hns := names_sum (p := s)
  repeat ((conv => whnf); refine ⟨_, w64 (by (show (_ : Prop)); first | omega | ((try dsimp only at *); (try simp only [lns] at *); omega)), ?_⟩)
  conv => whnf
  refine ⟨(((names s).length - 1 : Nat) : Int), by simp only [List.length_map]; split <;> omega, ?_⟩
  repeat ((conv => whnf); refine ⟨fun _ => ⟨by (show (_ : Prop)); first | omega | ((try dsimp only at *); (try simp only [lns] at *); omega), by (show (_ : Prop)); first | omega | ((try dsimp only at *); (try simp only [lns] at *); omega), by (show (_ : Prop)); first | omega | ((try dsimp only at *); (try simp only [lns] at *); omega)⟩, ?_⟩)
  refine ⟨(names s).take ((names s).length - 1), by
    refine congrArg (fun x => [AV.rd 1 x]) ?_
    rw [cutS]
    simp only [Int.toNat_natCast, List.drop_zero, List.length_map]
    rfl, fun _ => ?_, ?_⟩
  · have := sum_take (names s) ((names s).length - 1)
    show _ < _
    rw [List.length_take]
    omega
  conv => whnf
  exact ⟨trivial, eqS hd.symm⟩
theorem ok_impl_Above : ConOk Tryz.prog 48 c_impl_Above := meets_ok (tabT _ _) (FOk.cons ok_impl_readPath (FOk.cons ok_impl_PathOf FOk.nil)) mixed Tryz.func48 rfl Tryz.call48 (by decide) (by kernel_rfl) m_impl_Above (by intro _ (y : Str) _; exact ⟨by simp [c_impl_Above, con, conG, conW, AV.noRd, noRdCells, noRdRows, noRdRows_map', encS, encI, encO, atC_free, atC_noRd], by simp [c_impl_Above, con, conG, conW, AV.noRd, noRdCells, noRdRows, noRdRows_map', encS, encI, encO, atC_free, atC_noRd]⟩) (by intro (y : Str) _; first | (simp [c_impl_Above, con, conG, conW, conP, AV.free, freeCells, freeRows, freeRows_map, encS, encI, encO, atC_free, atC_noRd]; done) | (obtain ⟨_, _⟩ := y; simp [c_impl_Above, con, conG, conW, conP, AV.free, freeCells, freeRows, freeRows_map, encS, encI, encO, atC_free, atC_noRd]; done) | (obtain ⟨_, _, _⟩ := y; simp [c_impl_Above, con, conG, conW, conP, AV.free, freeCells, freeRows, freeRows_map, encS, encI, encO, atC_free, atC_noRd]; done))
noncomputable def c_impl_isKind : PCon := con [mC] true Int (fun x => [.int .i64 x]) (fun _ => True) (fun x => .bool (inB x 1 3))
noncomputable def E_impl_isKind : Env := ⟨lookup tyTab, lookup [(91, c_impl_within)], [0, 2]⟩
set_option maxRecDepth 100000 in
set_option maxHeartbeats 4000000 in
theorem m_impl_isKind : Meets E_impl_isKind (codeOf Tryz.f116) Tryz.f116.results.toList c_impl_isKind := by
  intro (x : Int) hs
  refine ⟨trivial, ?_⟩
  conv => whnf
  refine ⟨(x, 1, 3), rfl, fun _ => trivial, ?_⟩
  conv => whnf
  exact ⟨trivial, rfl⟩
theorem ok_impl_isKind : ConOk Tryz.prog 116 c_impl_isKind := meets_ok (tabT _ _) (FOk.cons ok_impl_within FOk.nil) mixed Tryz.func116 rfl Tryz.call116 (by decide) (by kernel_rfl) m_impl_isKind (by intro _ (y : Int) _; exact ⟨by simp [c_impl_isKind, con, conG, conW, AV.noRd, noRdCells, noRdRows, noRdRows_map', encS, encI, encO, atC_free, atC_noRd], by simp [c_impl_isKind, con, conG, conW, AV.noRd, noRdCells, noRdRows, noRdRows_map', encS, encI, encO, atC_free, atC_noRd]⟩) (by intro (y : Int) _; first | (simp [c_impl_isKind, con, conG, conW, conP, AV.free, freeCells, freeRows, freeRows_map, encS, encI, encO, atC_free, atC_noRd]; done) | (obtain ⟨_, _⟩ := y; simp [c_impl_isKind, con, conG, conW, conP, AV.free, freeCells, freeRows, freeRows_map, encS, encI, encO, atC_free, atC_noRd]; done) | (obtain ⟨_, _, _⟩ := y; simp [c_impl_isKind, con, conG, conW, conP, AV.free, freeCells, freeRows, freeRows_map, encS, encI, encO, atC_free, atC_noRd]; done))
noncomputable def c_impl_itemOk : PCon := con [.rd [none, none, none, none]] true It (fun x => [.agg (encI x)]) (fun x => x.path.length ≤ 4194304 ∧ x.data.length ≤ 4194304) (fun x => .bool (itemOk x))
noncomputable def E_impl_itemOk : Env := ⟨lookup tyTab, lookup [(83, c_impl_PathOk), (91, c_impl_within), (116, c_impl_isKind)], [0, 1, 2, 17, 20]⟩
set_option maxRecDepth 100000 in
set_option maxHeartbeats 4000000 in
theorem m_impl_itemOk : Meets E_impl_itemOk (codeOf Tryz.f69) Tryz.f69.results.toList c_impl_itemOk := by
  intro (x : It) hs
  obtain ⟨hs1, hs2⟩ : x.path.length ≤ 4194304 ∧ x.data.length ≤ 4194304 := hs
  refine ⟨trivial, ?_⟩
  conv => whnf
  refine ⟨x.path, rfl, fun _ => hs1, ?_⟩
  repeat ((conv => whnf); first | refine ⟨fun h => h, ?_⟩ | refine ⟨x.kind, rfl, fun _ => trivial, ?_⟩)
  (conv => whnf); refine ⟨fun h1 => ?_, fun h1 => ?_⟩
  · conv => whnf
    exact ⟨trivial, eqB (by
      have h1 : (!pathOk x.path || x.path == sl || !inB x.kind 1 3) = true := h1
      unfold itemOk
      revert h1
      cases pathOk x.path <;> cases (x.path == sl) <;> cases inB x.kind 1 3 <;> simp)⟩
  have h1 : (pathOk x.path && !(x.path == sl) && inB x.kind 1 3) = true := by
    have h1 : (!pathOk x.path || x.path == sl || !inB x.kind 1 3) = false := h1
    revert h1
    cases pathOk x.path <;> cases (x.path == sl) <;> cases inB x.kind 1 3 <;> simp
  (conv => whnf); refine ⟨fun h2 => ?_, fun h2 => ?_⟩
  · repeat ((conv => whnf); refine ⟨fun h => h, ?_⟩)
    have h2 : (x.kind == 2) = true := h2
    exact ⟨trivial, eqB (by unfold itemOk; rw [h1, if_pos h2]; rfl)⟩
  · repeat ((conv => whnf); first | refine ⟨fun h => h, ?_⟩ | refine ⟨(_, _, _), rfl, fun _ => trivial, ?_⟩)
    have h2 : (x.kind == 2) = false := h2
    exact ⟨trivial, eqB (by unfold itemOk; rw [h1, if_neg (by rw [h2]; exact Bool.false_ne_true)]; rfl)⟩
theorem ok_impl_itemOk : ConOk Tryz.prog 69 c_impl_itemOk := meets_ok (tabT _ _) (FOk.cons ok_impl_PathOk (FOk.cons ok_impl_within (FOk.cons ok_impl_isKind FOk.nil))) mixed Tryz.func69 rfl Tryz.call69 (by decide) (by kernel_rfl) m_impl_itemOk (by intro _ (y : It) _; exact ⟨by simp [c_impl_itemOk, con, conG, conW, AV.noRd, noRdCells, noRdRows, noRdRows_map', encS, encI, encO, atC_free, atC_noRd], by simp [c_impl_itemOk, con, conG, conW, AV.noRd, noRdCells, noRdRows, noRdRows_map', encS, encI, encO, atC_free, atC_noRd]⟩) (by intro (y : It) _; first | (simp [c_impl_itemOk, con, conG, conW, conP, AV.free, freeCells, freeRows, freeRows_map, encS, encI, encO, atC_free, atC_noRd]; done) | (obtain ⟨_, _⟩ := y; simp [c_impl_itemOk, con, conG, conW, conP, AV.free, freeCells, freeRows, freeRows_map, encS, encI, encO, atC_free, atC_noRd]; done) | (obtain ⟨_, _, _⟩ := y; simp [c_impl_itemOk, con, conG, conW, conP, AV.free, freeCells, freeRows, freeRows_map, encS, encI, encO, atC_free, atC_noRd]; done))
noncomputable def c_impl_itemAt_1 : PCon := con [.rd [none, none, none, none], .rd []] true (It × Str) (fun x => [.agg (encI x.1), .pin [.str x.2]]) (fun _ => True) (fun x => .bool (x.1.path == x.2))
noncomputable def E_impl_itemAt_1 : Env := ⟨lookup tyTab, lookup [], [0, 1, 2, 3]⟩
set_option maxRecDepth 100000 in
set_option maxHeartbeats 4000000 in
theorem m_impl_itemAt_1 : Meets E_impl_itemAt_1 (codeOf Tryz.f88) Tryz.f88.results.toList c_impl_itemAt_1 := by
  rintro ⟨x, p⟩ hs
  refine ⟨trivial, ?_⟩
  conv => whnf
  exact ⟨trivial, rfl⟩
theorem ok_impl_itemAt_1 : ConOk Tryz.prog 88 c_impl_itemAt_1 := meets_ok (tabT _ _) FOk.nil mixed Tryz.func88 rfl Tryz.call88 (by decide) (by kernel_rfl) m_impl_itemAt_1 (by intro _ (y : (It × Str)) _; exact ⟨by simp [c_impl_itemAt_1, con, conG, conW, AV.noRd, noRdCells, noRdRows, noRdRows_map', encS, encI, encO, atC_free, atC_noRd], by simp [c_impl_itemAt_1, con, conG, conW, AV.noRd, noRdCells, noRdRows, noRdRows_map', encS, encI, encO, atC_free, atC_noRd]⟩) (by intro (y : (It × Str)) _; first | (simp [c_impl_itemAt_1, con, conG, conW, conP, AV.free, freeCells, freeRows, freeRows_map, encS, encI, encO, atC_free, atC_noRd]; done) | (obtain ⟨_, _⟩ := y; simp [c_impl_itemAt_1, con, conG, conW, conP, AV.free, freeCells, freeRows, freeRows_map, encS, encI, encO, atC_free, atC_noRd]; done) | (obtain ⟨_, _, _⟩ := y; simp [c_impl_itemAt_1, con, conG, conW, conP, AV.free, freeCells, freeRows, freeRows_map, encS, encI, encO, atC_free, atC_noRd]; done))
noncomputable def c_impl_treeDrop_1 : PCon := con [.rd [none, none, none, none], .rd []] true (It × OpR) (fun x => [.agg (encI x.1), .pin (encO x.2)]) (fun x => x.1.path.length ≤ 4194304) (fun x => .bool (above x.1.path == x.2.path))
noncomputable def E_impl_treeDrop_1 : Env := ⟨lookup tyTab, lookup [(48, c_impl_Above)], [0, 1, 2, 3]⟩
set_option maxRecDepth 100000 in
set_option maxHeartbeats 4000000 in
theorem m_impl_treeDrop_1 : Meets E_impl_treeDrop_1 (codeOf Tryz.f143) Tryz.f143.results.toList c_impl_treeDrop_1 := by
  rintro ⟨x, o⟩ hs
  have hs : x.path.length ≤ 4194304 := hs
  refine ⟨trivial, ?_⟩
  skip
  refine ⟨x.path, rfl, fun _ => hs, ?_⟩
  repeat ((conv => whnf); refine ⟨(by kernel_rfl : drawOk _ _ = true), ?_⟩)
  exact ⟨trivial, rfl⟩
theorem ok_impl_treeDrop_1 : ConOk Tryz.prog 143 c_impl_treeDrop_1 := meets_ok (tabT _ _) (FOk.cons ok_impl_Above FOk.nil) mixed Tryz.func143 rfl Tryz.call143 (by decide) (by kernel_rfl) m_impl_treeDrop_1 (by intro _ (y : (It × OpR)) _; exact ⟨by simp [c_impl_treeDrop_1, con, conG, conW, AV.noRd, noRdCells, noRdRows, noRdRows_map', encS, encI, encO, atC_free, atC_noRd], by simp [c_impl_treeDrop_1, con, conG, conW, AV.noRd, noRdCells, noRdRows, noRdRows_map', encS, encI, encO, atC_free, atC_noRd]⟩) (by intro (y : (It × OpR)) _; first | (simp [c_impl_treeDrop_1, con, conG, conW, conP, AV.free, freeCells, freeRows, freeRows_map, encS, encI, encO, atC_free, atC_noRd]; done) | (obtain ⟨_, _⟩ := y; simp [c_impl_treeDrop_1, con, conG, conW, conP, AV.free, freeCells, freeRows, freeRows_map, encS, encI, encO, atC_free, atC_noRd]; done) | (obtain ⟨_, _, _⟩ := y; simp [c_impl_treeDrop_1, con, conG, conW, conP, AV.free, freeCells, freeRows, freeRows_map, encS, encI, encO, atC_free, atC_noRd]; done))
def atF : Str ⊕ OpR → Nat
  | .inl _ => 88
  | .inr _ => 143
noncomputable def c_slices_IndexFunc_Item : PCon := con [mS 4, mC] true (Tr × (Str ⊕ OpR)) (fun x => [.rd 4 (x.1.map encI), .fn (atF x.2) [.pin (atC x.2)]]) (fun x => smT x.1) (fun x => .int .i64 (fnd (atP x.2) x.1))
noncomputable def E_slices_IndexFunc_Item : Env := ⟨lookup tyTab, lookup [(88, c_impl_itemAt_1), (143, c_impl_treeDrop_1)], [0, 1, 4, 5, 7, 8, 9, 16]⟩
set_option maxRecDepth 100000 in
set_option maxHeartbeats 4000000 in
theorem m_slices_IndexFunc_Item : Meets E_slices_IndexFunc_Item (codeOf Tryz.f87) Tryz.f87.results.toList c_slices_IndexFunc_Item := by
  rintro ⟨l, q⟩ hs
  obtain ⟨hs1, hs2⟩ : smT l := hs
  cases q with
  | inl p =>
    refine ⟨trivial, ?_⟩
    conv => whnf
    refine loop_rule (fun i : Nat => ⟨[(0, ⟨none, .rd 4 (l.map encI)⟩), (1, ⟨none, .fn 88 [.pin [.str p]]⟩), (7, ⟨none, .int .i64 l.length⟩), (8, ⟨none, .int .i64 i⟩)], [], 0⟩)
      (fun i => i ≤ l.length ∧ (l.take i).any (atP (.inl p)) = false) (fun i => l.length - i) 0 ?_ ⟨by omega, rfl⟩ ?_
    · (refine ⟨?_, ?_, rfl⟩ <;> repeat' (first | exact rfl | exact trivial | refine ⟨?_, ?_⟩ | fail) <;> (conv => whnf))
      all_goals simp
    rintro i ⟨hi, hI⟩
    (conv => whnf); refine ⟨fun h1 => ?_, fun h1 => ?_⟩
    · have h1 : i < l.length := by simpa using h1
      obtain ⟨b, hb⟩ := get_lt h1
      have hbl := (hs2 b (List.mem_of_getElem? hb)).1
      repeat ((conv => whnf); refine ⟨encI b, fun _ => ⟨by omega, by simp [hb]⟩, ?_⟩)
      refine ⟨(b, p), rfl, fun _ => trivial, ?_⟩
      (conv => whnf); refine ⟨fun h2 => ?_, fun h2 => ?_⟩
      · have h2 : atP (.inl p) b = true := h2
        conv => whnf
        exact ⟨trivial, eqN' (fnd_hit hI hb h2).symm⟩
      · have h2 : atP (.inl p) b = false := h2
        repeat ((conv => whnf); refine ⟨_, w64 (by (show (_ : Prop)); first | omega | ((try dsimp only at *); (try simp only [lns] at *); omega)), ?_⟩)
        refine again (i + 1) ?_ ⟨h1, any_take_succ hI hb h2⟩ (by first | omega | (simp; done) | (simp; omega))
        (refine ⟨?_, ?_, rfl⟩ <;> repeat' (first | exact rfl | exact trivial | refine ⟨?_, ?_⟩ | fail) <;> (conv => whnf))
    · have h1 : i = l.length := by
        have : ¬ i < l.length := by simpa using h1
        omega
      subst h1
      rw [List.take_length] at hI
      conv => whnf
      exact ⟨trivial, eqN' (fnd_none hI).symm⟩
  | inr o =>
    refine ⟨trivial, ?_⟩
    conv => whnf
    refine loop_rule (fun i : Nat => ⟨[(0, ⟨none, .rd 4 (l.map encI)⟩), (1, ⟨none, .fn 143 [.pin (encO o)]⟩), (7, ⟨none, .int .i64 l.length⟩), (8, ⟨none, .int .i64 i⟩)], [], 0⟩)
      (fun i => i ≤ l.length ∧ (l.take i).any (atP (.inr o)) = false) (fun i => l.length - i) 0 ?_ ⟨by omega, rfl⟩ ?_
    · (refine ⟨?_, ?_, rfl⟩ <;> repeat' (first | exact rfl | exact trivial | refine ⟨?_, ?_⟩ | fail) <;> (conv => whnf))
      all_goals simp
    rintro i ⟨hi, hI⟩
    (conv => whnf); refine ⟨fun h1 => ?_, fun h1 => ?_⟩
    · have h1 : i < l.length := by simpa using h1
      obtain ⟨b, hb⟩ := get_lt h1
      have hbl := (hs2 b (List.mem_of_getElem? hb)).1
      repeat ((conv => whnf); refine ⟨encI b, fun _ => ⟨by omega, by simp [hb]⟩, ?_⟩)
      refine ⟨(b, o), rfl, fun _ => hbl, ?_⟩
      (conv => whnf); refine ⟨fun h2 => ?_, fun h2 => ?_⟩
      · have h2 : atP (.inr o) b = true := h2
        conv => whnf
        exact ⟨trivial, eqN' (fnd_hit hI hb h2).symm⟩
      · have h2 : atP (.inr o) b = false := h2
        repeat ((conv => whnf); refine ⟨_, w64 (by (show (_ : Prop)); first | omega | ((try dsimp only at *); (try simp only [lns] at *); omega)), ?_⟩)
        refine again (i + 1) ?_ ⟨h1, any_take_succ hI hb h2⟩ (by first | omega | (simp; done) | (simp; omega))
        (refine ⟨?_, ?_, rfl⟩ <;> repeat' (first | exact rfl | exact trivial | refine ⟨?_, ?_⟩ | fail) <;> (conv => whnf))
    · have h1 : i = l.length := by
        have : ¬ i < l.length := by simpa using h1
        omega
      subst h1
      rw [List.take_length] at hI
      conv => whnf
      exact ⟨trivial, eqN' (fnd_none hI).symm⟩
theorem ok_slices_IndexFunc_Item : ConOk Tryz.prog 87 c_slices_IndexFunc_Item := meets_ok (tabT _ _) (FOk.cons ok_impl_itemAt_1 (FOk.cons ok_impl_treeDrop_1 FOk.nil)) mixed Tryz.func87 rfl Tryz.call87 (by decide) (by kernel_rfl) m_slices_IndexFunc_Item (by intro _ (y : (Tr × (Str ⊕ OpR))) _; exact ⟨by simp [c_slices_IndexFunc_Item, con, conG, conW, AV.noRd, noRdCells, noRdRows, noRdRows_map', encS, encI, encO, atC_free, atC_noRd], by simp [c_slices_IndexFunc_Item, con, conG, conW, AV.noRd, noRdCells, noRdRows, noRdRows_map', encS, encI, encO, atC_free, atC_noRd]⟩) (by intro (y : (Tr × (Str ⊕ OpR))) _; first | (simp [c_slices_IndexFunc_Item, con, conG, conW, conP, AV.free, freeCells, freeRows, freeRows_map, encS, encI, encO, atC_free, atC_noRd]; done) | (obtain ⟨_, _⟩ := y; simp [c_slices_IndexFunc_Item, con, conG, conW, conP, AV.free, freeCells, freeRows, freeRows_map, encS, encI, encO, atC_free, atC_noRd]; done) | (obtain ⟨_, _, _⟩ := y; simp [c_slices_IndexFunc_Item, con, conG, conW, conP, AV.free, freeCells, freeRows, freeRows_map, encS, encI, encO, atC_free, atC_noRd]; done))
noncomputable def c_impl_itemAt : PCon := con [mS 4, mC] true (Tr × Str) (fun x => [rdT x.1, .str x.2]) (fun x => smT x.1) (fun x => .int .i64 (fnd (fun y => y.path == x.2) x.1))
noncomputable def E_impl_itemAt : Env := ⟨lookup tyTab, lookup [(87, c_slices_IndexFunc_Item)], [0, 1, 2, 3, 4]⟩
set_option maxRecDepth 100000 in
set_option maxHeartbeats 4000000 in
theorem m_impl_itemAt : Meets E_impl_itemAt (codeOf Tryz.f47) Tryz.f47.results.toList c_impl_itemAt := by
  rintro ⟨l, p⟩ hs
  have hs : smT l := hs
  refine ⟨trivial, ?_⟩
  conv => whnf
  refine ⟨(l, .inl p), rfl, fun _ => hs, ?_⟩
  conv => whnf
  exact ⟨trivial, rfl⟩
theorem ok_impl_itemAt : ConOk Tryz.prog 47 c_impl_itemAt := meets_ok (tabT _ _) (FOk.cons ok_slices_IndexFunc_Item FOk.nil) mixed Tryz.func47 rfl Tryz.call47 (by decide) (by kernel_rfl) m_impl_itemAt (by intro _ (y : (Tr × Str)) _; exact ⟨by simp [c_impl_itemAt, con, conG, conW, AV.noRd, noRdCells, noRdRows, noRdRows_map', encS, encI, encO, atC_free, atC_noRd], by simp [c_impl_itemAt, con, conG, conW, AV.noRd, noRdCells, noRdRows, noRdRows_map', encS, encI, encO, atC_free, atC_noRd]⟩) (by intro (y : (Tr × Str)) _; first | (simp [c_impl_itemAt, con, conG, conW, conP, AV.free, freeCells, freeRows, freeRows_map, encS, rdT, encI, encO, atC_free, atC_noRd]; done) | (obtain ⟨_, _⟩ := y; simp [c_impl_itemAt, con, conG, conW, conP, AV.free, freeCells, freeRows, freeRows_map, encS, rdT, encI, encO, atC_free, atC_noRd]; done) | (obtain ⟨_, _, _⟩ := y; simp [c_impl_itemAt, con, conG, conW, conP, AV.free, freeCells, freeRows, freeRows_map, encS, rdT, encI, encO, atC_free, atC_noRd]; done))
noncomputable def c_impl_TreeGet : PCon := con [mS 4, mC] true (Tr × Str) (fun x => [rdT x.1, .str x.2]) (fun x => smT x.1) (fun x => resGet (treeGet x.1 x.2))
noncomputable def E_impl_TreeGet : Env := ⟨lookup tyTab, lookup [(47, c_impl_itemAt)], [0, 1, 2, 4, 5, 6, 8, 14]⟩
set_option maxRecDepth 100000 in
set_option maxHeartbeats 4000000 in
theorem m_impl_TreeGet : Meets E_impl_TreeGet (codeOf Tryz.f11) Tryz.f11.results.toList c_impl_TreeGet := by
  rintro ⟨t, p⟩ hs
  obtain ⟨hs1, hs2⟩ : smT t := hs
  refine ⟨trivial, ?_⟩
  (conv => whnf); refine ⟨fun h1 => ?_, fun h1 => ?_⟩
  · have h1 : (p == sl) = true := h1
    conv => whnf
    rw [show c_impl_TreeGet.res (t, p) = .tup [.agg (encI It.top), .bool true] by show resGet (treeGet t p) = _; simp [treeGet, h1]; rfl]
    exact ⟨trivial, ⟨rfl, rfl, rfl, rfl, trivial⟩, rfl, trivial⟩
  have h1 : (p == sl) = false := h1
  have hd : treeGet t p = t.find? (fun y => y.path == p) := by simp [treeGet, h1]
  conv => whnf
  refine ⟨(t, p), rfl, fun _ => ⟨hs1, hs2⟩, ?_⟩
  (conv => whnf); refine ⟨fun h2 => ?_, fun h2 => ?_⟩
  · have h2 : t.any (fun y => y.path == p) = false := by
      rw [← fnd_pos]; simpa using h2
    conv => whnf
    rw [show c_impl_TreeGet.res (t, p) = .tup [.agg (encI It.none), .bool false] by show resGet (treeGet t p) = _; rw [hd, any_find h2]; rfl]
    exact ⟨trivial, ⟨rfl, rfl, rfl, rfl, trivial⟩, rfl, trivial⟩
  · have h2 : t.any (fun y => y.path == p) = true := by
      rw [← fnd_pos]; simpa using h2
    obtain ⟨b, hb1, hb2⟩ := fnd_get h2
    have hg := fnd_ge (p := fun y : It => y.path == p) (l := t)
    have hp0 : 0 ≤ fnd (fun y : It => y.path == p) t := by have := fnd_pos (p := fun y : It => y.path == p) (l := t); rw [h2] at this; simpa using this
    repeat ((conv => whnf); refine ⟨encI b, fun _ => ⟨hp0, get_map hb1⟩, ?_⟩)
    rw [show c_impl_TreeGet.res (t, p) = .tup [.agg (encI b), .bool true] by show resGet (treeGet t p) = _; rw [hd, hb2]; rfl]
    exact ⟨trivial, ⟨rfl, rfl, rfl, rfl, trivial⟩, rfl, trivial⟩
theorem ok_impl_TreeGet : ConOk Tryz.prog 11 c_impl_TreeGet := meets_ok (tabT _ _) (FOk.cons ok_impl_itemAt FOk.nil) mixed Tryz.func11 rfl Tryz.call11 (by decide) (by kernel_rfl) m_impl_TreeGet (by intro _ (y : Tr × Str) _; refine ⟨?_, trivial⟩; show AV.noRd (resGet (treeGet y.1 y.2)); simp [resGet, AV.noRd, noRdCells, encI]) (by intro (y : (Tr × Str)) _; first | (simp [c_impl_TreeGet, con, conG, conW, conP, AV.free, freeCells, freeRows, freeRows_map, encS, rdT, encI, encO, atC_free, atC_noRd]; done) | (obtain ⟨_, _⟩ := y; simp [c_impl_TreeGet, con, conG, conW, conP, AV.free, freeCells, freeRows, freeRows_map, encS, rdT, encI, encO, atC_free, atC_noRd]; done) | (obtain ⟨_, _, _⟩ := y; simp [c_impl_TreeGet, con, conG, conW, conP, AV.free, freeCells, freeRows, freeRows_map, encS, rdT, encI, encO, atC_free, atC_noRd]; done))
end Go.GH

set_option linter.unusedVariables false
set_option linter.unusedSimpArgs false
namespace Go.GH
open Go Go.Proofs
noncomputable def c_impl_TreeOk : PCon := con [mS 4] true Tr (fun t => [rdT t]) smT (fun t => .bool (treeOk t))
noncomputable def E_impl_TreeOk : Env := ⟨lookup tyTab, lookup [(11, c_impl_TreeGet), (48, c_impl_Above), (69, c_impl_itemOk)], [0, 1, 2, 3, 4, 5, 6, 10, 12, 13, 14, 15, 37, 52]⟩
set_option maxRecDepth 100000 in
set_option maxHeartbeats 4000000 in
theorem m_impl_TreeOk : Meets E_impl_TreeOk (codeOf Tryz.f32) Tryz.f32.results.toList c_impl_TreeOk := by
  intro (t : Tr) hs
  obtain ⟨hs1, hs2⟩ : smT t := hs
  refine ⟨trivial, ?_⟩
  (conv => whnf); refine ⟨fun h1 => ?_, fun h1 => ?_⟩
  · conv => whnf
    exact ⟨trivial, eqB (by have h1 : ¬ t.length ≤ 40 := by simp at h1; omega
                            simp [treeOk, h1])⟩
  have h1 : t.length ≤ 40 := by simp at h1; omega
  skip
  refine loop_rule (fun i : Nat => ⟨[(1, ⟨none, .bx 0 0⟩), (12, ⟨none, .rd 4 (t.map encI)⟩), (13, ⟨none, .int .i64 t.length⟩), (14, ⟨none, .int .i64 i⟩)], [(0, .own 1 [[.rd 4 (t.map encI)]])], 1⟩)
    (fun i => i ≤ t.length ∧ ∀ j, j < i → chk t j = true) (fun i => t.length - i) 0 ?_ ⟨by omega, fun j hj => by omega⟩ ?_
  · (refine ⟨?_, ?_, rfl⟩ <;> repeat' (first | exact rfl | exact trivial | refine ⟨?_, ?_⟩ | fail) <;> (conv => whnf))
    all_goals simp
  rintro i ⟨hi, hI⟩
  (conv => whnf); refine ⟨fun h2 => ?_, fun h2 => ?_⟩
  · have h2 : i < t.length := by simpa using h2
    obtain ⟨b, hb⟩ := get_lt h2
    have hbs := hs2 b (List.mem_of_getElem? hb)
    have hbad : ∀ {q : Bool}, chk t i = q → q = false → treeOk t = false := fun h e => treeOk_bad h2 (h.trans e)
    generalize hpv : t.getD (i - 1) It.none = pv
    have hprev : 0 < i → t[i - 1]? = some pv := fun h => by
      rw [← hpv, List.getD_eq_getElem?_getD, List.getElem?_eq_getElem (by omega)]; rfl
    have hix : ∀ {A : Bool}, gtrue (some (A && decide ((i : Int) > 0))) → (0 : Int) ≤ (i : Int) - 1 ∧ (t.map encI)[((i : Int) - 1).toNat]? = some (encI pv) := by
      intro A h
      have hi0 : 0 < i := by simp [gtrue] at h; omega
      exact ⟨by omega, by rw [show ((i : Int) - 1).toNat = i - 1 by omega]; exact get_map (hprev hi0)⟩
    repeat ((conv => whnf); refine ⟨encI b, fun _ => ⟨by omega, by simp [hb]⟩, ?_⟩)
    refine ⟨b, rfl, fun _ => hbs, ?_⟩
    repeat ((conv => whnf); first | refine ⟨fun h => h, ?_⟩ | refine ⟨(by kernel_rfl : drawOk _ _ = true), ?_⟩ | refine ⟨_, w64 (by (show (_ : Prop)); first | omega | ((try dsimp only at *); (try simp only [lns] at *); omega)), ?_⟩ | refine ⟨encI pv, fun h => hix h, ?_⟩)
    have e1 : decide ((i : Int) > 0) = !(i == 0) := by
      rw [Bool.eq_iff_iff]
      simp
      omega
    (conv => whnf); refine ⟨fun h3 => ?_, fun h3 => ?_⟩
    · have h3 : (!itemOk b || (decide ((i : Int) > 0) && !strLt pv.path b.path)) = true := h3
      conv => whnf
      exact ⟨trivial, eqB (hbad (chk_eq hb hpv) (by
        rw [e1] at h3
        revert h3
        cases itemOk b <;> cases (i == 0) <;> cases strLt pv.path b.path <;> simp)).symm⟩
    have h3 : (itemOk b && (i == 0 || strLt pv.path b.path)) = true := by
      have h3 : (!itemOk b || (decide ((i : Int) > 0) && !strLt pv.path b.path)) = false := h3
      rw [e1] at h3
      revert h3
      cases itemOk b <;> cases (i == 0) <;> cases strLt pv.path b.path <;> simp
    conv => whnf
    refine ⟨b.path, rfl, fun _ => hbs.1, ?_⟩
    conv => whnf
    refine ⟨(t, above b.path), rfl, fun _ => ⟨hs1, hs2⟩, ?_⟩
    repeat ((conv => whnf); first | refine ⟨fun h => h, ?_⟩ | refine ⟨(by kernel_rfl : drawOk _ _ = true), ?_⟩)
    (conv => whnf); refine ⟨fun h5 => ?_, fun h5 => ?_⟩
    · conv => whnf
      exact ⟨trivial, eqB (hbad (chk_bad3 hb (by
        have h5 : (!(treeGet t (above b.path)).isSome || ((treeGet t (above b.path)).getD It.none).kind != 2) = true := h5
        unfold dirAt
        revert h5
        cases (treeGet t (above b.path)).isSome <;> simp)) rfl).symm⟩
    have h5 : dirAt t (above b.path) = true := by
      have h5 : (!(treeGet t (above b.path)).isSome || ((treeGet t (above b.path)).getD It.none).kind != 2) = false := h5
      unfold dirAt
      revert h5
      cases (treeGet t (above b.path)).isSome <;> simp
    repeat ((conv => whnf); refine ⟨_, w64 (by (show (_ : Prop)); first | omega | ((try dsimp only at *); (try simp only [lns] at *); omega)), ?_⟩)
    refine again (i + 1) ?_ ⟨h2, fun j hj => ?_⟩ (by first | omega | (simp; done) | (simp; omega))
    · (refine ⟨?_, ?_, rfl⟩ <;> repeat' (first | exact rfl | exact trivial | refine ⟨?_, ?_⟩ | fail) <;> (conv => whnf))
    · rcases Nat.lt_or_ge j i with h | h
      · exact hI j h
      · rw [show j = i by omega, chk_eq hb hpv, h3, h5]; rfl
  · have h2 : i = t.length := by
      have : ¬ i < t.length := by simpa using h2
      omega
    subst h2
    conv => whnf
    exact ⟨trivial, eqB (treeOk_good h1 hI).symm⟩
theorem ok_impl_TreeOk : ConOk Tryz.prog 32 c_impl_TreeOk := meets_ok (tabT _ _) (FOk.cons ok_impl_TreeGet (FOk.cons ok_impl_Above (FOk.cons ok_impl_itemOk FOk.nil))) mixed Tryz.func32 rfl Tryz.call32 (by decide) (by kernel_rfl) m_impl_TreeOk (by intro _ (y : Tr) _; exact ⟨by simp [c_impl_TreeOk, con, conG, conW, AV.noRd, noRdCells, noRdRows, noRdRows_map', encS], by simp [c_impl_TreeOk, con, conG, conW, AV.noRd, noRdCells, noRdRows, noRdRows_map', encS]⟩) (by intro (y : Tr) _; first | (simp [c_impl_TreeOk, con, conG, conW, conP, AV.free, freeCells, freeRows, freeRows_map, encS, rdT, encI]; done) | (obtain ⟨_, _⟩ := y; simp [c_impl_TreeOk, con, conG, conW, conP, AV.free, freeCells, freeRows, freeRows_map, encS, rdT, encI]; done) | (obtain ⟨_, _, _⟩ := y; simp [c_impl_TreeOk, con, conG, conW, conP, AV.free, freeCells, freeRows, freeRows_map, encS, rdT, encI]; done))
noncomputable def c_impl_Heaviest : PCon := con [mS 4] true Tr (fun t => [rdT t]) smT (fun t => .str (heaviest t))
noncomputable def E_impl_Heaviest : Env := ⟨lookup tyTab, lookup [(32, c_impl_TreeOk)], [0, 1, 2, 3, 4, 6, 9, 11, 12, 13, 14, 26]⟩
set_option maxRecDepth 100000 in
set_option maxHeartbeats 4000000 in
theorem m_impl_Heaviest : Meets E_impl_Heaviest (codeOf Tryz.f12) Tryz.f12.results.toList c_impl_Heaviest := by
  intro (t : Tr) hs
  obtain ⟨hs1, hs2⟩ : smT t := hs
  refine ⟨trivial, ?_⟩
  conv => whnf
  refine ⟨t, rfl, fun _ => ⟨hs1, hs2⟩, ?_⟩
  (conv => whnf); refine ⟨fun h1 => ?_, fun h1 => ?_⟩
  · have h1 : treeOk t = false := by
      have h1 : (!treeOk t) = true := h1
      simpa using h1
    conv => whnf
    exact ⟨trivial, eqS (by simp [heaviest, h1])⟩
  have h1 : treeOk t = true := by
    have h1 : (!treeOk t) = false := h1
    simpa using h1
  have hd : heaviest t = (t.foldl heavy ([], -1)).1 := by simp [heaviest, h1]
  skip
  refine loop_rule (fun i : Nat => ⟨[(3, ⟨none, .str ((t.take i).foldl heavy ([], -1)).1⟩), (4, ⟨none, .int .i64 ((t.take i).foldl heavy ([], -1)).2⟩), (11, ⟨none, .rd 4 (t.map encI)⟩), (12, ⟨none, .int .i64 t.length⟩), (13, ⟨none, .int .i64 i⟩)], [], 0⟩)
    (fun i => i ≤ t.length) (fun i => t.length - i) 0 ?_ (by omega) ?_
  · (refine ⟨?_, ?_, rfl⟩ <;> repeat' (first | exact rfl | exact trivial | refine ⟨?_, ?_⟩ | fail) <;> (conv => whnf))
    all_goals simp
  intro i hi
  have hi : i ≤ t.length := hi
  (conv => whnf); refine ⟨fun h2 => ?_, fun h2 => ?_⟩
  · have h2 : i < t.length := by simpa using h2
    obtain ⟨b, hb⟩ := get_lt h2
    repeat ((conv => whnf); first | refine ⟨fun h => h, ?_⟩ | refine ⟨encI b, fun _ => ⟨by omega, by simp [hb]⟩, ?_⟩)
    (conv => whnf); refine ⟨fun h3 => ?_, fun h3 => ?_⟩
    · repeat ((conv => whnf); first | refine ⟨(by kernel_rfl : drawOk _ _ = true), ?_⟩ | refine ⟨_, w64 (by (show (_ : Prop)); first | omega | ((try dsimp only at *); (try simp only [lns] at *); omega)), ?_⟩)
      refine again (i + 1) ?_ h2 (by first | omega | (simp; done) | (simp; omega))
      rw [foldl_take hb, heavy, if_pos h3]
      (refine ⟨?_, ?_, rfl⟩ <;> repeat' (first | exact rfl | exact trivial | refine ⟨?_, ?_⟩ | fail) <;> (conv => whnf))
    · repeat ((conv => whnf); refine ⟨_, w64 (by (show (_ : Prop)); first | omega | ((try dsimp only at *); (try simp only [lns] at *); omega)), ?_⟩)
      refine again (i + 1) ?_ h2 (by first | omega | (simp; done) | (simp; omega))
      rw [foldl_take hb, heavy, if_neg (by rw [show _ = false from h3]; exact Bool.false_ne_true)]
      (refine ⟨?_, ?_, rfl⟩ <;> repeat' (first | exact rfl | exact trivial | refine ⟨?_, ?_⟩ | fail) <;> (conv => whnf))
  · have h2 : i = t.length := by
      have : ¬ i < t.length := by simpa using h2
      omega
    subst h2
    rw [List.take_length]
    conv => whnf
    exact ⟨trivial, eqS hd.symm⟩
theorem ok_impl_Heaviest : ConOk Tryz.prog 12 c_impl_Heaviest := meets_ok (tabT _ _) (FOk.cons ok_impl_TreeOk FOk.nil) mixed Tryz.func12 rfl Tryz.call12 (by decide) (by kernel_rfl) m_impl_Heaviest (by intro _ (y : Tr) _; exact ⟨by simp [c_impl_Heaviest, con, conG, conW, AV.noRd, noRdCells, noRdRows, noRdRows_map', encS], by simp [c_impl_Heaviest, con, conG, conW, AV.noRd, noRdCells, noRdRows, noRdRows_map', encS]⟩) (by intro (y : Tr) _; first | (simp [c_impl_Heaviest, con, conG, conW, conP, AV.free, freeCells, freeRows, freeRows_map, encS, rdT, encI]; done) | (obtain ⟨_, _⟩ := y; simp [c_impl_Heaviest, con, conG, conW, conP, AV.free, freeCells, freeRows, freeRows_map, encS, rdT, encI]; done) | (obtain ⟨_, _, _⟩ := y; simp [c_impl_Heaviest, con, conG, conW, conP, AV.free, freeCells, freeRows, freeRows_map, encS, rdT, encI]; done))
end Go.GH

