import Derived.Test.YtijkfhkjnhceoaaDoorSB
import Derived.Shelf.Small.Strs
import Derived.Shelf.Strings.Search1
import Derived.Shelf.Strings.Search2
import Derived.Test.YtijkfhkjnhceoaaDoorChecked
set_option linter.unusedVariables false
set_option linter.unusedSimpArgs false
set_option linter.unusedSimpArgs false
namespace Go.GH
open Go
def opsAll : List Str → Option (List OpR)
  | [] => some []
  | a :: r => match opOf a with
    | none => none
    | some o => (opsAll r).map (o :: ·)
def opsLines (ls : List Str) : Option (List OpR) := if ls.getD (ls.length - 1) [] == [] then opsAll (ls.take (ls.length - 1)) else none
def opsOf (s : Str) : Option (List OpR) := opsLines (splitBy 10 s)
def cutN (s : Str) : Str × Str × Bool := if fnd (fun b => b == 10) s ≥ 0 then (s.take (fnd (fun b => b == 10) s).toNat, s.drop ((fnd (fun b => b == 10) s).toNat + 1), true) else (s, [], false)
theorem fnd_first {p : UInt8 → Bool} {s : Str} (h : 0 ≤ fnd p s) : ∃ x, s[(fnd p s).toNat]? = some x ∧ p x = true ∧ ∀ y, y ∈ s.take (fnd p s).toNat → p y = false := by
  have ha : s.any p = true := by
    rcases Bool.eq_false_or_eq_true (s.any p) with h1 | h1
    · exact h1
    · rw [fnd_none h1] at h; omega
  have e : (fnd p s).toNat = s.findIdx p := by unfold fnd; rw [if_pos ha]; simp
  rw [e]
  have hlt : s.findIdx p < s.length := List.findIdx_lt_length.2 (List.any_eq_true.1 ha)
  refine ⟨s[s.findIdx p], List.getElem?_eq_getElem hlt, List.findIdx_getElem, fun y hy => ?_⟩
  obtain ⟨j, hj⟩ := List.getElem?_of_mem hy
  have hjl : j < s.findIdx p := by
    have := lt_of_get hj
    rw [List.length_take] at this; omega
  rw [List.getElem?_take_of_lt hjl] at hj
  have h1 := List.not_of_lt_findIdx hjl
  have hjs : j < s.length := by omega
  rw [List.getElem?_eq_getElem hjs] at hj
  simp only [Option.some.injEq] at hj
  rw [← hj]; simpa using h1
theorem cutN_hit {s : Str} (h : (cutN s).2.2 = true) : s = (cutN s).1 ++ 10 :: (cutN s).2.1 ∧ ∀ x, x ∈ (cutN s).1 → x ≠ 10 := by
  unfold cutN at h ⊢
  by_cases hf : fnd (fun b => b == 10) s ≥ 0
  · rw [if_pos hf]
    obtain ⟨x, h1, h2, h3⟩ := fnd_first hf
    have hx : x = 10 := by simpa using h2
    subst hx
    refine ⟨?_, fun y hy => by simpa using h3 y hy⟩
    have hlt := lt_of_get h1
    have e : s.drop (fnd (fun b => b == 10) s).toNat = 10 :: s.drop ((fnd (fun b => b == 10) s).toNat + 1) := by
      rw [List.drop_eq_getElem_cons hlt]
      rw [List.getElem?_eq_getElem hlt] at h1
      simp only [Option.some.injEq] at h1
      rw [h1]
    show s = s.take _ ++ 10 :: s.drop _
    rw [← e, List.take_append_drop]
  · rw [if_neg hf] at h; cases h
theorem cutN_miss {s : Str} (h : (cutN s).2.2 = false) : ∀ x, x ∈ s → x ≠ 10 := by
  unfold cutN at h
  by_cases hf : fnd (fun b => b == 10) s ≥ 0
  · rw [if_pos hf] at h; cases h
  · have : s.any (fun b => b == 10) = false := by
      rcases Bool.eq_false_or_eq_true (s.any (fun b => b == 10)) with h1 | h1
      · exact absurd (by have := fnd_pos (p := fun b => b == 10) (l := s); rw [h1] at this; simpa using this) hf
      · exact h1
    intro x hx e
    subst e
    rw [List.any_eq_false] at this
    exact this 10 hx (by simp)
theorem cutN_len (s : Str) : (cutN s).1.length ≤ s.length ∧ (cutN s).2.1.length ≤ s.length := by
  unfold cutN
  split
  · exact ⟨by simp [List.length_take]; omega, by simp⟩
  · exact ⟨by simp, by simp⟩
theorem opsOf_nil : opsOf [] = some [] := rfl
theorem opsLines_cons {a : Str} {r : List Str} (hr : r ≠ []) : opsLines (a :: r) = match opOf a with
    | none => none
    | some o => (opsLines r).map (o :: ·) := by
  have hl : 0 < r.length := List.length_pos_iff.2 hr
  obtain ⟨k, hk⟩ : ∃ k, r.length = k + 1 := ⟨r.length - 1, by omega⟩
  unfold opsLines
  rw [List.length_cons, hk]
  simp only [Nat.add_sub_cancel, List.getD_cons_succ, List.take_succ_cons]
  by_cases h : (r.getD k [] == []) = true
  · rw [if_pos h, if_pos h, opsAll]
  · rw [if_neg h, if_neg h]
    cases opOf a <;> rfl
theorem opsOf_cut {a b : Str} (ha : ∀ x, x ∈ a → x ≠ 10) : opsOf (a ++ 10 :: b) = match opOf a with
    | none => none
    | some o => (opsOf b).map (o :: ·) := by
  unfold opsOf
  rw [splitBy_at ha, opsLines_cons (splitBy_ne 10 b)]
theorem opsOf_whole {s : Str} (hs : ∀ x, x ∈ s → x ≠ 10) (hne : s ≠ []) : opsOf s = none := by
  unfold opsOf
  rw [splitBy_none hs]
  unfold opsLines
  rw [if_neg]
  simpa using hne
def OpsInv (s r : Str) (out : List OpR) : Prop := out.length + r.length ≤ s.length ∧ opsOf s = (opsOf r).map (out ++ ·)
theorem OpsInv.zero (s : Str) : OpsInv s s [] := ⟨by simp, by cases opsOf s <;> simp⟩
theorem OpsInv.fin {s : Str} {out : List OpR} (h : OpsInv s [] out) : opsOf s = some out := by rw [h.2, opsOf_nil]; simp
theorem OpsInv.next {s r : Str} {out : List OpR} (h : OpsInv s r out) (hc : (cutN r).2.2 = true) {o : OpR} (ho : opOf (cutN r).1 = some o) : OpsInv s (cutN r).2.1 (out ++ [o]) ∧ (cutN r).2.1.length < r.length := by
  obtain ⟨e, hn⟩ := cutN_hit hc
  have hl := congrArg List.length e
  simp at hl
  refine ⟨⟨by have := h.1; simp; omega, ?_⟩, by omega⟩
  rw [h.2]
  conv => lhs; rw [e]
  rw [opsOf_cut hn, ho]
  cases opsOf (cutN r).2.1 <;> simp
theorem OpsInv.bad {s r : Str} {out : List OpR} (h : OpsInv s r out) (hne : r ≠ []) (hc : (cutN r).2.2 = false ∨ opOf (cutN r).1 = none) : opsOf s = none := by
  rw [h.2]
  have : opsOf r = none := by
    rcases Bool.eq_false_or_eq_true (cutN r).2.2 with h1 | h1
    · obtain ⟨e, hn⟩ := cutN_hit h1
      have h2 : opOf (cutN r).1 = none := by
        rcases hc with hc | hc
        · rw [h1] at hc; cases hc
        · exact hc
      conv => lhs; rw [e]
      rw [opsOf_cut hn, h2]
    · exact opsOf_whole (cutN_miss h1) hne
  rw [this]; rfl
theorem opsAll_take {l : List Str} {i : Nat} {a : Str} {out : List OpR} (h : opsAll (l.take i) = some out) (ha : l[i]? = some a) : (∀ o, opOf a = some o → opsAll (l.take (i + 1)) = some (out ++ [o])) ∧ (opOf a = none → opsAll (l.take (i + 1)) = none) := by
  rw [take_succ' ha]
  generalize l.take i = p at h
  induction p generalizing out with
  | nil =>
    simp only [opsAll, Option.some.injEq] at h
    subst h
    exact ⟨fun o ho => by simp [opsAll, ho], fun ho => by simp [opsAll, ho]⟩
  | cons x p ih =>
    rw [opsAll] at h
    cases hx : opOf x with
    | none => rw [hx] at h; cases h
    | some y =>
      rw [hx] at h
      cases hp : opsAll p with
      | none => simp [hp] at h
      | some q =>
        simp only [hp, Option.map_some, Option.some.injEq] at h
        subst h
        obtain ⟨i1, i2⟩ := ih hp
        refine ⟨fun o ho => ?_, fun ho => ?_⟩
        · rw [List.cons_append, opsAll, hx]; simp [i1 o ho]
        · rw [List.cons_append, opsAll, hx]; simp [i2 ho]
theorem opsAll_none : ∀ {l : List Str} (i : Nat), opsAll (l.take i) = none → opsAll l = none
  | [], i, h => by simpa using h
  | a :: l, 0, h => by simp [opsAll] at h
  | a :: l, i + 1, h => by
    rw [List.take_succ_cons, opsAll] at h
    rw [opsAll]
    cases ho : opOf a with
    | none => rfl
    | some o =>
      rw [ho] at h
      cases hl : opsAll (l.take i) with
      | none => simp [opsAll_none i hl]
      | some q => simp [hl] at h
theorem opsAll_len : ∀ {l : List Str} {out : List OpR}, opsAll l = some out → out.length = l.length
  | [], out, h => by simp [opsAll] at h; subst h; rfl
  | a :: l, out, h => by
    rw [opsAll] at h
    cases ho : opOf a with
    | none => rw [ho] at h; cases h
    | some o =>
      rw [ho] at h
      cases hl : opsAll l with
      | none => simp [hl] at h
      | some q =>
        simp only [hl, Option.map_some, Option.some.injEq] at h
        subst h
        simp [opsAll_len hl]
end Go.GH

namespace Go.Proofs
open Go.Shelf
def Tryd.lays219_ren : Go.Shelf.Ren := ⟨fun | 219 => 76 | 217 => 75 | 225 => 89 | 224 => 90 | 267 => 91 | 266 => 88 | 314 => 100 | n => n, fun | 9 => 9 | 3 => 3 | 4 => 4 | 5 => 5 | 46 => 81 | 146 => 117 | 51 => 116 | n => n, fun | 1 => 0 | n => n⟩
theorem Tryd.lays219 : Go.Proofs.Lays.n219 Tryd.prog Tryd.lays219_ren := {
  mixed := by kernel_rfl
  f217 := Tryd.func75.trans (congrArg some (by kernel_rfl))
  f219 := Tryd.func76.trans (congrArg some (by kernel_rfl))
  f224 := Tryd.func90.trans (congrArg some (by kernel_rfl))
  f225 := Tryd.func89.trans (congrArg some (by kernel_rfl))
  f266 := Tryd.func88.trans (congrArg some (by kernel_rfl))
  f267 := Tryd.func91.trans (congrArg some (by kernel_rfl))
  f314 := Tryd.func100.trans (congrArg some (by kernel_rfl))
  t3 := Tryd.underlying3
  a3 := Tryd.isAgg3
  z3 := Tryd.sizeOf3
  v3 := Tryd.zeroValue3
  t4 := Tryd.underlying4
  a4 := Tryd.isAgg4
  z4 := Tryd.sizeOf4
  v4 := Tryd.zeroValue4
  t5 := Tryd.underlying5
  a5 := Tryd.isAgg5
  z5 := Tryd.sizeOf5
  v5 := Tryd.zeroValue5
  t9 := Tryd.underlying9
  a9 := Tryd.isAgg9
  z9 := Tryd.sizeOf9
  v9 := Tryd.zeroValue9
  t46 := Tryd.underlying81
  a46 := Tryd.isAgg81
  z46 := Tryd.sizeOf81
  v46 := Tryd.zeroValue81
  t51 := Tryd.underlying116
  a51 := Tryd.isAgg116
  z51 := Tryd.sizeOf116
  v51 := Tryd.zeroValue116
  t146 := Tryd.underlying117
  a146 := Tryd.isAgg117
  z146 := Tryd.sizeOf117
  v146 := Tryd.zeroValue117
  g1 := by kernel_rfl }
open Go.RowKit Go.Lib in
theorem Tryd.stringslite_Index_one (s : ByteArray) (c : UInt8) (w : World) :
    Calls Tryd.prog 76 #[.string s, .string ⟨#[c]⟩] w fun e w' => e = .returned (.int .i64 (Lib.indexByte s.data.toList c)) ∧ w' = w := Any.stringslite_Index_one Tryd.lays219 s c w
end Go.Proofs

set_option linter.unusedVariables false
set_option linter.unusedSimpArgs false
namespace Go.GH
open Go Go.Proofs
def c_internal_stringslite_Index : PCon := con [mC, mC] true Str (fun s => [.str s, .str [10]]) (fun _ => True) (fun s => .int .i64 (fnd (fun b => b == 10) s))
theorem ok_internal_stringslite_Index : ConOk Tryd.prog 76 c_internal_stringslite_Index := by
  refine con_of_calls rfl (fun _ => rfl) (fun _ => rfl) (fun _ => rfl) (fun x _ => ⟨trivial, trivial, trivial⟩) Tryd.call76 ?_
  intro (s : Str) hpre y w args ρ hw hR hsz hs
  have h0 := srep_str (hs 0 _ rfl)
  have h1 := srep_str (hs 1 _ rfl)
  have hsz : args.size = 2 := hsz
  have ha : args = #[.string (toB s), .string ⟨#[10]⟩] := by
    apply Array.ext
    · simp [hsz]
    · intro i hi1 hi2
      have : i = 0 ∨ i = 1 := by omega
      rcases this with rfl | rfl
      · rw [Array.getD_eq_getD_getElem?, Array.getElem?_eq_getElem hi1] at h0; simpa [bytesV, toB] using h0
      · rw [Array.getD_eq_getD_getElem?, Array.getElem?_eq_getElem hi1] at h1; simpa [bytesV, toB] using h1
  rw [ha]
  refine (Tryd.stringslite_Index_one (toB s) 10 w).mono ?_
  rintro e w' ⟨rfl, rfl⟩
  refine ⟨?_, RowKit.Below.refl _ _⟩
  rw [indexByte_fnd]
  rfl
noncomputable def c_internal_stringslite_Cut : PCon := con [mC, mC] true Str (fun s => [.str s, .str [10]]) (fun s => s.length ≤ 16777216) (fun s => .tup [.str (cutN s).1, .str (cutN s).2.1, .bool (cutN s).2.2])
noncomputable def E_internal_stringslite_Cut : Env := ⟨lookup tyTab, lookup [(76, c_internal_stringslite_Index)], [0, 1, 4, 5, 6, 7, 12]⟩
set_option maxRecDepth 100000 in
set_option maxHeartbeats 4000000 in
theorem m_internal_stringslite_Cut : Meets E_internal_stringslite_Cut (codeOf Tryd.f61) Tryd.f61.results.toList c_internal_stringslite_Cut := by
  intro (s : Str) (hs : s.length ≤ 16777216)
  refine ⟨trivial, ?_⟩
  repeat ((conv => whnf); first | refine ⟨fun h => h, ?_⟩ | refine ⟨(by kernel_rfl : drawOk _ _ = true), ?_⟩ | refine ⟨fun (h : gtrue _) => by first | assumption | exact absurd (Eq.trans (Eq.symm h) (by assumption) : true = false) Bool.noConfusion, ?_⟩ | refine ⟨fun h => (absurd (Eq.trans (Eq.symm h) (by assumption) : true = false) Bool.noConfusion : False), ?_⟩ | refine ⟨_, w64 (by (show (_ : Prop)); first | omega | ((try dsimp only at *); (try simp only [lns] at *); omega)), ?_⟩ | refine ⟨fun _ => ⟨by (show (_ : Prop)); first | omega | ((try dsimp only at *); (try simp only [lns] at *); omega), by (show (_ : Prop)); first | omega | ((try dsimp only at *); (try simp only [lns] at *); omega), by (show (_ : Prop)); first | omega | ((try dsimp only at *); (try simp only [lns] at *); omega)⟩, ?_⟩ | refine ⟨by (show (_ : Prop)); first | omega | ((try dsimp only at *); (try simp only [lns] at *); omega), ?_⟩ | refine ⟨fun h => ⟨by (show (_ : Prop)); first | omega | ((try dsimp only at *); (try simp only [lns] at *); omega), by (show (_ : Prop)); first | omega | ((try dsimp only at *); (try simp only [lns] at *); omega)⟩, ?_⟩ | refine ⟨fun (r : List AV) hr c hc => by simp [encS] at hr; (try subst hr); simp at hc; (try subst hc); rfl, ?_⟩ | refine ⟨noOwn (by rfl), ?_⟩)
  refine ⟨s, rfl, fun _ => trivial, ?_⟩
  have hr := fnd_ge (p := fun b => b == 10) (l := s)
  (conv => whnf); refine ⟨fun h1 => ?_, fun h1 => ?_⟩
  · have h1 : 0 ≤ fnd (fun b => b == 10) s := by simpa using h1
    have hlt : (fnd (fun b => b == 10) s).toNat < s.length := by
      obtain ⟨x, hx, _⟩ := fnd_first h1
      exact lt_of_get hx
    have hc : cutN s = (s.take (fnd (fun b => b == 10) s).toNat, s.drop ((fnd (fun b => b == 10) s).toNat + 1), true) := by unfold cutN; rw [if_pos h1]
    repeat ((conv => whnf); first | refine ⟨fun h => h, ?_⟩ | refine ⟨(by kernel_rfl : drawOk _ _ = true), ?_⟩ | refine ⟨fun (h : gtrue _) => by first | assumption | exact absurd (Eq.trans (Eq.symm h) (by assumption) : true = false) Bool.noConfusion, ?_⟩ | refine ⟨fun h => (absurd (Eq.trans (Eq.symm h) (by assumption) : true = false) Bool.noConfusion : False), ?_⟩ | refine ⟨_, w64 (by (show (_ : Prop)); first | omega | ((try dsimp only at *); (try simp only [lns] at *); omega)), ?_⟩ | refine ⟨fun _ => ⟨by (show (_ : Prop)); first | omega | ((try dsimp only at *); (try simp only [lns] at *); omega), by (show (_ : Prop)); first | omega | ((try dsimp only at *); (try simp only [lns] at *); omega), by (show (_ : Prop)); first | omega | ((try dsimp only at *); (try simp only [lns] at *); omega)⟩, ?_⟩ | refine ⟨by (show (_ : Prop)); first | omega | ((try dsimp only at *); (try simp only [lns] at *); omega), ?_⟩ | refine ⟨fun h => ⟨by (show (_ : Prop)); first | omega | ((try dsimp only at *); (try simp only [lns] at *); omega), by (show (_ : Prop)); first | omega | ((try dsimp only at *); (try simp only [lns] at *); omega)⟩, ?_⟩ | refine ⟨fun (r : List AV) hr c hc => by simp [encS] at hr; (try subst hr); simp at hc; (try subst hc); rfl, ?_⟩ | refine ⟨noOwn (by rfl), ?_⟩)
    exact ⟨trivial, eqS (by rw [hc]; try simp), eqS (by rw [hc]; simp; omega), eqB (by rw [hc]), trivial⟩
  · have h1 : ¬ 0 ≤ fnd (fun b => b == 10) s := by simpa using h1
    have hc : cutN s = (s, [], false) := by unfold cutN; rw [if_neg h1]
    repeat ((conv => whnf); first | refine ⟨fun h => h, ?_⟩ | refine ⟨(by kernel_rfl : drawOk _ _ = true), ?_⟩ | refine ⟨fun (h : gtrue _) => by first | assumption | exact absurd (Eq.trans (Eq.symm h) (by assumption) : true = false) Bool.noConfusion, ?_⟩ | refine ⟨fun h => (absurd (Eq.trans (Eq.symm h) (by assumption) : true = false) Bool.noConfusion : False), ?_⟩ | refine ⟨_, w64 (by (show (_ : Prop)); first | omega | ((try dsimp only at *); (try simp only [lns] at *); omega)), ?_⟩ | refine ⟨fun _ => ⟨by (show (_ : Prop)); first | omega | ((try dsimp only at *); (try simp only [lns] at *); omega), by (show (_ : Prop)); first | omega | ((try dsimp only at *); (try simp only [lns] at *); omega), by (show (_ : Prop)); first | omega | ((try dsimp only at *); (try simp only [lns] at *); omega)⟩, ?_⟩ | refine ⟨by (show (_ : Prop)); first | omega | ((try dsimp only at *); (try simp only [lns] at *); omega), ?_⟩ | refine ⟨fun h => ⟨by (show (_ : Prop)); first | omega | ((try dsimp only at *); (try simp only [lns] at *); omega), by (show (_ : Prop)); first | omega | ((try dsimp only at *); (try simp only [lns] at *); omega)⟩, ?_⟩ | refine ⟨fun (r : List AV) hr c hc => by simp [encS] at hr; (try subst hr); simp at hc; (try subst hc); rfl, ?_⟩ | refine ⟨noOwn (by rfl), ?_⟩)
    exact ⟨trivial, eqS (by rw [hc]), eqS (by rw [hc]), eqB (by rw [hc]), trivial⟩
theorem ok_internal_stringslite_Cut : ConOk Tryd.prog 61 c_internal_stringslite_Cut := meets_ok (tabT _ _) (FOk.cons ok_internal_stringslite_Index FOk.nil) mixed Tryd.func61 rfl Tryd.call61 (by decide) (by kernel_rfl) m_internal_stringslite_Cut (by intro _ (y : Str) _; exact ⟨by simp [c_internal_stringslite_Cut, con, conG, conW, AV.noRd, noRdCells, noRdRows, noRdRows_map', encS, encO], by simp [c_internal_stringslite_Cut, con, conG, conW, AV.noRd, noRdCells, noRdRows, noRdRows_map', encS, encO]⟩) (by intro (y : Str) _; first | (simp [c_internal_stringslite_Cut, con, conG, conW, conP, AV.free, freeCells, freeRows, freeRows_map, encS, encO]; done) | (obtain ⟨_, _⟩ := y; simp [c_internal_stringslite_Cut, con, conG, conW, conP, AV.free, freeCells, freeRows, freeRows_map, encS, encO]; done) | (obtain ⟨_, _, _⟩ := y; simp [c_internal_stringslite_Cut, con, conG, conW, conP, AV.free, freeCells, freeRows, freeRows_map, encS, encO]; done))
noncomputable def c_strings_Cut : PCon := con [mC, mC] true Str (fun s => [.str s, .str [10]]) (fun s => s.length ≤ 16777216) (fun s => .tup [.str (cutN s).1, .str (cutN s).2.1, .bool (cutN s).2.2])
noncomputable def E_strings_Cut : Env := ⟨lookup tyTab, lookup [(61, c_internal_stringslite_Cut)], [0, 1, 4, 5, 6]⟩
set_option maxRecDepth 100000 in
set_option maxHeartbeats 4000000 in
theorem m_strings_Cut : Meets E_strings_Cut (codeOf Tryd.f43) Tryd.f43.results.toList c_strings_Cut := by
  intro (s : Str) (hs : s.length ≤ 16777216)
  refine ⟨trivial, ?_⟩
  conv => whnf
  refine ⟨s, rfl, fun _ => hs, ?_⟩
  repeat ((conv => whnf); first | refine ⟨fun h => h, ?_⟩ | refine ⟨(by kernel_rfl : drawOk _ _ = true), ?_⟩ | refine ⟨fun (h : gtrue _) => by first | assumption | exact absurd (Eq.trans (Eq.symm h) (by assumption) : true = false) Bool.noConfusion, ?_⟩ | refine ⟨fun h => (absurd (Eq.trans (Eq.symm h) (by assumption) : true = false) Bool.noConfusion : False), ?_⟩ | refine ⟨_, w64 (by (show (_ : Prop)); first | omega | ((try dsimp only at *); (try simp only [lns] at *); omega)), ?_⟩ | refine ⟨fun _ => ⟨by (show (_ : Prop)); first | omega | ((try dsimp only at *); (try simp only [lns] at *); omega), by (show (_ : Prop)); first | omega | ((try dsimp only at *); (try simp only [lns] at *); omega), by (show (_ : Prop)); first | omega | ((try dsimp only at *); (try simp only [lns] at *); omega)⟩, ?_⟩ | refine ⟨by (show (_ : Prop)); first | omega | ((try dsimp only at *); (try simp only [lns] at *); omega), ?_⟩ | refine ⟨fun h => ⟨by (show (_ : Prop)); first | omega | ((try dsimp only at *); (try simp only [lns] at *); omega), by (show (_ : Prop)); first | omega | ((try dsimp only at *); (try simp only [lns] at *); omega)⟩, ?_⟩ | refine ⟨fun (r : List AV) hr c hc => by simp [encS] at hr; (try subst hr); simp at hc; (try subst hc); rfl, ?_⟩ | refine ⟨noOwn (by rfl), ?_⟩)
  exact ⟨trivial, rfl, rfl, rfl, trivial⟩
theorem ok_strings_Cut : ConOk Tryd.prog 43 c_strings_Cut := meets_ok (tabT _ _) (FOk.cons ok_internal_stringslite_Cut FOk.nil) mixed Tryd.func43 rfl Tryd.call43 (by decide) (by kernel_rfl) m_strings_Cut (by intro _ (y : Str) _; exact ⟨by simp [c_strings_Cut, con, conG, conW, AV.noRd, noRdCells, noRdRows, noRdRows_map', encS, encO], by simp [c_strings_Cut, con, conG, conW, AV.noRd, noRdCells, noRdRows, noRdRows_map', encS, encO]⟩) (by intro (y : Str) _; first | (simp [c_strings_Cut, con, conG, conW, conP, AV.free, freeCells, freeRows, freeRows_map, encS, encO]; done) | (obtain ⟨_, _⟩ := y; simp [c_strings_Cut, con, conG, conW, conP, AV.free, freeCells, freeRows, freeRows_map, encS, encO]; done) | (obtain ⟨_, _, _⟩ := y; simp [c_strings_Cut, con, conG, conW, conP, AV.free, freeCells, freeRows, freeRows_map, encS, encO]; done))
end Go.GH

set_option linter.unusedVariables false
set_option linter.unusedSimpArgs false
namespace Go.GH
open Go Go.Proofs
noncomputable def c_laws_markText : PCon := con [mC] true Int (fun k => [.int .i64 k]) (fun k => k ≤ 1152921504606846976) (fun k => .str (mkT k))
noncomputable def E_laws_markText : Env := ⟨lookup tyTab, lookup [], [0, 2, 3, 5, 7]⟩
set_option maxRecDepth 100000 in
set_option maxHeartbeats 4000000 in
theorem m_laws_markText : Meets E_laws_markText (codeOf Tryd.f44) Tryd.f44.results.toList c_laws_markText := by
  intro (k : Int) (hk : k ≤ 1152921504606846976)
  refine ⟨trivial, ?_⟩
  (conv => whnf); refine ⟨fun h1 => ?_, fun h1 => ?_⟩
  · have h1 : k ≤ 0 := by simpa using h1
    repeat ((conv => whnf); first | refine ⟨fun h => h, ?_⟩ | refine ⟨(by kernel_rfl : drawOk _ _ = true), ?_⟩ | refine ⟨fun (h : gtrue _) => by first | assumption | exact absurd (Eq.trans (Eq.symm h) (by assumption) : true = false) Bool.noConfusion, ?_⟩ | refine ⟨fun h => (absurd (Eq.trans (Eq.symm h) (by assumption) : true = false) Bool.noConfusion : False), ?_⟩ | refine ⟨_, w64 (by (show (_ : Prop)); first | omega | ((try dsimp only at *); (try simp only [lns] at *); omega)), ?_⟩ | refine ⟨fun _ => ⟨by (show (_ : Prop)); first | omega | ((try dsimp only at *); (try simp only [lns] at *); omega), by (show (_ : Prop)); first | omega | ((try dsimp only at *); (try simp only [lns] at *); omega), by (show (_ : Prop)); first | omega | ((try dsimp only at *); (try simp only [lns] at *); omega)⟩, ?_⟩ | refine ⟨by (show (_ : Prop)); first | omega | ((try dsimp only at *); (try simp only [lns] at *); omega), ?_⟩ | refine ⟨fun h => ⟨by (show (_ : Prop)); first | omega | ((try dsimp only at *); (try simp only [lns] at *); omega), by (show (_ : Prop)); first | omega | ((try dsimp only at *); (try simp only [lns] at *); omega)⟩, ?_⟩ | refine ⟨fun (r : List AV) hr c hc => by simp [encS] at hr; (try subst hr); simp at hc; (try subst hc); rfl, ?_⟩ | refine ⟨noOwn (by rfl), ?_⟩)
    exact ⟨trivial, eqS (by show _ = mkT k; rw [mkT_eq]; simp [markT, h1])⟩
  have h1 : 0 < k := by simp at h1; omega
  obtain ⟨n, rfl⟩ : ∃ n : Nat, k = n := ⟨k.toNat, by omega⟩
  repeat ((conv => whnf); first | refine ⟨fun h => h, ?_⟩ | refine ⟨(by kernel_rfl : drawOk _ _ = true), ?_⟩ | refine ⟨fun (h : gtrue _) => by first | assumption | exact absurd (Eq.trans (Eq.symm h) (by assumption) : true = false) Bool.noConfusion, ?_⟩ | refine ⟨fun h => (absurd (Eq.trans (Eq.symm h) (by assumption) : true = false) Bool.noConfusion : False), ?_⟩ | refine ⟨_, w64 (by (show (_ : Prop)); first | omega | ((try dsimp only at *); (try simp only [lns] at *); omega)), ?_⟩ | refine ⟨fun _ => ⟨by (show (_ : Prop)); first | omega | ((try dsimp only at *); (try simp only [lns] at *); omega), by (show (_ : Prop)); first | omega | ((try dsimp only at *); (try simp only [lns] at *); omega), by (show (_ : Prop)); first | omega | ((try dsimp only at *); (try simp only [lns] at *); omega)⟩, ?_⟩ | refine ⟨by (show (_ : Prop)); first | omega | ((try dsimp only at *); (try simp only [lns] at *); omega), ?_⟩ | refine ⟨fun h => ⟨by (show (_ : Prop)); first | omega | ((try dsimp only at *); (try simp only [lns] at *); omega), by (show (_ : Prop)); first | omega | ((try dsimp only at *); (try simp only [lns] at *); omega)⟩, ?_⟩ | refine ⟨fun (r : List AV) hr c hc => by simp [encS] at hr; (try subst hr); simp at hc; (try subst hc); rfl, ?_⟩ | refine ⟨noOwn (by rfl), ?_⟩)
  refine loop_rule (fun ((m, out) : Nat × Str) => ⟨[(0, ⟨none, .int .i64 m⟩), (3, ⟨none, .str out⟩)], [], 0⟩)
    (fun (m, out) => m ≤ n ∧ digs 64 n [] = digs 64 m out ∧ out.length ≤ n - m) (fun x => x.1) (n, []) ?_ ⟨by omega, rfl, by simp⟩ ?_
  · (refine ⟨?_, ?_, rfl⟩ <;> repeat' (first | exact rfl | exact trivial | refine ⟨?_, ?_⟩ | fail) <;> (conv => whnf))
  rintro ⟨m, out⟩ ⟨hm, hd, hl⟩
  (conv => whnf); refine ⟨fun h2 => ?_, fun h2 => ?_⟩
  · have h2 : 0 < m := by simp at h2; omega
    repeat ((conv => whnf); first | refine ⟨fun h => h, ?_⟩ | refine ⟨(by kernel_rfl : drawOk _ _ = true), ?_⟩ | refine ⟨fun (h : gtrue _) => by first | assumption | exact absurd (Eq.trans (Eq.symm h) (by assumption) : true = false) Bool.noConfusion, ?_⟩ | refine ⟨fun h => (absurd (Eq.trans (Eq.symm h) (by assumption) : true = false) Bool.noConfusion : False), ?_⟩ | refine ⟨_, w64 (by (show (_ : Prop)); first | omega | ((try dsimp only at *); (try simp only [lns] at *); omega)), ?_⟩ | refine ⟨fun _ => ⟨by (show (_ : Prop)); first | omega | ((try dsimp only at *); (try simp only [lns] at *); omega), by (show (_ : Prop)); first | omega | ((try dsimp only at *); (try simp only [lns] at *); omega), by (show (_ : Prop)); first | omega | ((try dsimp only at *); (try simp only [lns] at *); omega)⟩, ?_⟩ | refine ⟨by (show (_ : Prop)); first | omega | ((try dsimp only at *); (try simp only [lns] at *); omega), ?_⟩ | refine ⟨fun h => ⟨by (show (_ : Prop)); first | omega | ((try dsimp only at *); (try simp only [lns] at *); omega), by (show (_ : Prop)); first | omega | ((try dsimp only at *); (try simp only [lns] at *); omega)⟩, ?_⟩ | refine ⟨fun (r : List AV) hr c hc => by simp [encS] at hr; (try subst hr); simp at hc; (try subst hc); rfl, ?_⟩ | refine ⟨noOwn (by rfl), ?_⟩)
    refine ⟨((m % 10 : Nat) : Int), rfl, ?_⟩
    repeat ((conv => whnf); first | refine ⟨fun h => h, ?_⟩ | refine ⟨(by kernel_rfl : drawOk _ _ = true), ?_⟩ | refine ⟨fun (h : gtrue _) => by first | assumption | exact absurd (Eq.trans (Eq.symm h) (by assumption) : true = false) Bool.noConfusion, ?_⟩ | refine ⟨fun h => (absurd (Eq.trans (Eq.symm h) (by assumption) : true = false) Bool.noConfusion : False), ?_⟩ | refine ⟨_, w64 (by (show (_ : Prop)); first | omega | ((try dsimp only at *); (try simp only [lns] at *); omega)), ?_⟩ | refine ⟨fun _ => ⟨by (show (_ : Prop)); first | omega | ((try dsimp only at *); (try simp only [lns] at *); omega), by (show (_ : Prop)); first | omega | ((try dsimp only at *); (try simp only [lns] at *); omega), by (show (_ : Prop)); first | omega | ((try dsimp only at *); (try simp only [lns] at *); omega)⟩, ?_⟩ | refine ⟨by (show (_ : Prop)); first | omega | ((try dsimp only at *); (try simp only [lns] at *); omega), ?_⟩ | refine ⟨fun h => ⟨by (show (_ : Prop)); first | omega | ((try dsimp only at *); (try simp only [lns] at *); omega), by (show (_ : Prop)); first | omega | ((try dsimp only at *); (try simp only [lns] at *); omega)⟩, ?_⟩ | refine ⟨fun (r : List AV) hr c hc => by simp [encS] at hr; (try subst hr); simp at hc; (try subst hc); rfl, ?_⟩ | refine ⟨noOwn (by rfl), ?_⟩)
    refine ⟨((48 + m % 10 : Nat) : Int), by show Int.ofNat ((48 + m % 10) % 256) = _; rw [Nat.mod_eq_of_lt (by omega)]; rfl, ?_⟩
    repeat ((conv => whnf); first | refine ⟨fun h => h, ?_⟩ | refine ⟨(by kernel_rfl : drawOk _ _ = true), ?_⟩ | refine ⟨fun (h : gtrue _) => by first | assumption | exact absurd (Eq.trans (Eq.symm h) (by assumption) : true = false) Bool.noConfusion, ?_⟩ | refine ⟨fun h => (absurd (Eq.trans (Eq.symm h) (by assumption) : true = false) Bool.noConfusion : False), ?_⟩ | refine ⟨_, w64 (by (show (_ : Prop)); first | omega | ((try dsimp only at *); (try simp only [lns] at *); omega)), ?_⟩ | refine ⟨fun _ => ⟨by (show (_ : Prop)); first | omega | ((try dsimp only at *); (try simp only [lns] at *); omega), by (show (_ : Prop)); first | omega | ((try dsimp only at *); (try simp only [lns] at *); omega), by (show (_ : Prop)); first | omega | ((try dsimp only at *); (try simp only [lns] at *); omega)⟩, ?_⟩ | refine ⟨by (show (_ : Prop)); first | omega | ((try dsimp only at *); (try simp only [lns] at *); omega), ?_⟩ | refine ⟨fun h => ⟨by (show (_ : Prop)); first | omega | ((try dsimp only at *); (try simp only [lns] at *); omega), by (show (_ : Prop)); first | omega | ((try dsimp only at *); (try simp only [lns] at *); omega)⟩, ?_⟩ | refine ⟨fun (r : List AV) hr c hc => by simp [encS] at hr; (try subst hr); simp at hc; (try subst hc); rfl, ?_⟩ | refine ⟨noOwn (by rfl), ?_⟩)
    refine ⟨[UInt8.ofNat (48 + m % 10)], by
      have e : (UInt8.ofNat (48 + m % 10)).toNat = 48 + m % 10 := by rw [UInt8.toNat_ofNat']; omega
      rw [List.map_cons, List.map_nil, e]; rfl, ?_⟩
    repeat ((conv => whnf); first | refine ⟨fun h => h, ?_⟩ | refine ⟨(by kernel_rfl : drawOk _ _ = true), ?_⟩ | refine ⟨fun (h : gtrue _) => by first | assumption | exact absurd (Eq.trans (Eq.symm h) (by assumption) : true = false) Bool.noConfusion, ?_⟩ | refine ⟨fun h => (absurd (Eq.trans (Eq.symm h) (by assumption) : true = false) Bool.noConfusion : False), ?_⟩ | refine ⟨_, w64 (by (show (_ : Prop)); first | omega | ((try dsimp only at *); (try simp only [lns] at *); omega)), ?_⟩ | refine ⟨fun _ => ⟨by (show (_ : Prop)); first | omega | ((try dsimp only at *); (try simp only [lns] at *); omega), by (show (_ : Prop)); first | omega | ((try dsimp only at *); (try simp only [lns] at *); omega), by (show (_ : Prop)); first | omega | ((try dsimp only at *); (try simp only [lns] at *); omega)⟩, ?_⟩ | refine ⟨by (show (_ : Prop)); first | omega | ((try dsimp only at *); (try simp only [lns] at *); omega), ?_⟩ | refine ⟨fun h => ⟨by (show (_ : Prop)); first | omega | ((try dsimp only at *); (try simp only [lns] at *); omega), by (show (_ : Prop)); first | omega | ((try dsimp only at *); (try simp only [lns] at *); omega)⟩, ?_⟩ | refine ⟨fun (r : List AV) hr c hc => by simp [encS] at hr; (try subst hr); simp at hc; (try subst hc); rfl, ?_⟩ | refine ⟨noOwn (by rfl), ?_⟩)
    refine ⟨((m / 10 : Nat) : Int), w64 (a := ((m / 10 : Nat) : Int)) (by omega), ?_⟩
    repeat ((conv => whnf); first | refine ⟨fun h => h, ?_⟩ | refine ⟨(by kernel_rfl : drawOk _ _ = true), ?_⟩ | refine ⟨fun (h : gtrue _) => by first | assumption | exact absurd (Eq.trans (Eq.symm h) (by assumption) : true = false) Bool.noConfusion, ?_⟩ | refine ⟨fun h => (absurd (Eq.trans (Eq.symm h) (by assumption) : true = false) Bool.noConfusion : False), ?_⟩ | refine ⟨_, w64 (by (show (_ : Prop)); first | omega | ((try dsimp only at *); (try simp only [lns] at *); omega)), ?_⟩ | refine ⟨fun _ => ⟨by (show (_ : Prop)); first | omega | ((try dsimp only at *); (try simp only [lns] at *); omega), by (show (_ : Prop)); first | omega | ((try dsimp only at *); (try simp only [lns] at *); omega), by (show (_ : Prop)); first | omega | ((try dsimp only at *); (try simp only [lns] at *); omega)⟩, ?_⟩ | refine ⟨by (show (_ : Prop)); first | omega | ((try dsimp only at *); (try simp only [lns] at *); omega), ?_⟩ | refine ⟨fun h => ⟨by (show (_ : Prop)); first | omega | ((try dsimp only at *); (try simp only [lns] at *); omega), by (show (_ : Prop)); first | omega | ((try dsimp only at *); (try simp only [lns] at *); omega)⟩, ?_⟩ | refine ⟨fun (r : List AV) hr c hc => by simp [encS] at hr; (try subst hr); simp at hc; (try subst hc); rfl, ?_⟩ | refine ⟨noOwn (by rfl), ?_⟩)
    refine again (m / 10, UInt8.ofNat (48 + m % 10) :: out) ?_ ⟨by omega, by rw [hd, digs_step h2 (by omega)], by simp; omega⟩ (by show m / 10 < m; omega)
    (refine ⟨?_, ?_, rfl⟩ <;> repeat' (first | exact rfl | exact trivial | refine ⟨?_, ?_⟩ | fail) <;> (conv => whnf))
  · have h2 : m = 0 := by simp at h2; omega
    subst h2
    rw [digs_zero] at hd
    repeat ((conv => whnf); first | refine ⟨fun h => h, ?_⟩ | refine ⟨(by kernel_rfl : drawOk _ _ = true), ?_⟩ | refine ⟨fun (h : gtrue _) => by first | assumption | exact absurd (Eq.trans (Eq.symm h) (by assumption) : true = false) Bool.noConfusion, ?_⟩ | refine ⟨fun h => (absurd (Eq.trans (Eq.symm h) (by assumption) : true = false) Bool.noConfusion : False), ?_⟩ | refine ⟨_, w64 (by (show (_ : Prop)); first | omega | ((try dsimp only at *); (try simp only [lns] at *); omega)), ?_⟩ | refine ⟨fun _ => ⟨by (show (_ : Prop)); first | omega | ((try dsimp only at *); (try simp only [lns] at *); omega), by (show (_ : Prop)); first | omega | ((try dsimp only at *); (try simp only [lns] at *); omega), by (show (_ : Prop)); first | omega | ((try dsimp only at *); (try simp only [lns] at *); omega)⟩, ?_⟩ | refine ⟨by (show (_ : Prop)); first | omega | ((try dsimp only at *); (try simp only [lns] at *); omega), ?_⟩ | refine ⟨fun h => ⟨by (show (_ : Prop)); first | omega | ((try dsimp only at *); (try simp only [lns] at *); omega), by (show (_ : Prop)); first | omega | ((try dsimp only at *); (try simp only [lns] at *); omega)⟩, ?_⟩ | refine ⟨fun (r : List AV) hr c hc => by simp [encS] at hr; (try subst hr); simp at hc; (try subst hc); rfl, ?_⟩ | refine ⟨noOwn (by rfl), ?_⟩)
    exact ⟨trivial, eqS (by show _ = mkT n; rw [mkT_eq, markT, if_neg (by omega), Int.toNat_natCast, hd]; rfl)⟩
theorem ok_laws_markText : ConOk Tryd.prog 44 c_laws_markText := meets_ok (tabT _ _) FOk.nil mixed Tryd.func44 rfl Tryd.call44 (by decide) (by kernel_rfl) m_laws_markText (by intro _ (y : Int) _; exact ⟨by simp [c_laws_markText, con, conG, conW, AV.noRd, noRdCells, noRdRows, noRdRows_map', encS, encI, encO], by simp [c_laws_markText, con, conG, conW, AV.noRd, noRdCells, noRdRows, noRdRows_map', encS, encI, encO]⟩) (by intro (y : Int) _; first | (simp [c_laws_markText, con, conG, conW, conP, AV.free, freeCells, freeRows, freeRows_map, encS, encI, encO]; done) | (obtain ⟨_, _⟩ := y; simp [c_laws_markText, con, conG, conW, conP, AV.free, freeCells, freeRows, freeRows_map, encS, encI, encO]; done) | (obtain ⟨_, _, _⟩ := y; simp [c_laws_markText, con, conG, conW, conP, AV.free, freeCells, freeRows, freeRows_map, encS, encI, encO]; done))
noncomputable def c_laws_markOpS : PCon := ⟨[.mv, mC], false, false, List OpR × Int, fun ⟨t, k⟩ => [.own 6 (t.map encO), .int .i64 k], fun x => x.1.length ≤ 4194304 ∧ 0 ≤ x.2 ∧ x.2 ≤ 1099511627776, fun x => .int .i64 (x.2 + 6 * x.1.length), fun ⟨t, k⟩ => [.own 6 ((List.range t.length).map fun i => encO (mkO k i))], fun _ => True, false⟩
noncomputable def E_laws_markOpS : Env := ⟨lookup tyTab, lookup [(44, c_laws_markText)], [0, 1, 4, 5, 9]⟩
set_option maxRecDepth 100000 in
set_option maxHeartbeats 4000000 in
theorem m_laws_markOpS : Meets E_laws_markOpS (codeOf Tryd.f22) Tryd.f22.results.toList c_laws_markOpS := by
  rintro ⟨t, k⟩ hs
  obtain ⟨hs1, hk1, hk2⟩ : t.length ≤ 4194304 ∧ 0 ≤ k ∧ k ≤ 1099511627776 := hs
  refine ⟨⟨⟨_, _, _, rfl, rfl, by simp⟩, trivial⟩, ?_⟩
  repeat ((conv => whnf); first | refine ⟨fun h => h, ?_⟩ | refine ⟨(by kernel_rfl : drawOk _ _ = true), ?_⟩ | refine ⟨fun (h : gtrue _) => by first | assumption | exact absurd (Eq.trans (Eq.symm h) (by assumption) : true = false) Bool.noConfusion, ?_⟩ | refine ⟨fun h => (absurd (Eq.trans (Eq.symm h) (by assumption) : true = false) Bool.noConfusion : False), ?_⟩ | refine ⟨_, w64 (by (show (_ : Prop)); first | omega | ((try dsimp only at *); (try simp only [lns] at *); omega)), ?_⟩ | refine ⟨fun _ => ⟨by (show (_ : Prop)); first | omega | ((try dsimp only at *); (try simp only [lns] at *); omega), by (show (_ : Prop)); first | omega | ((try dsimp only at *); (try simp only [lns] at *); omega), by (show (_ : Prop)); first | omega | ((try dsimp only at *); (try simp only [lns] at *); omega)⟩, ?_⟩ | refine ⟨by (show (_ : Prop)); first | omega | ((try dsimp only at *); (try simp only [lns] at *); omega), ?_⟩ | refine ⟨fun h => ⟨by (show (_ : Prop)); first | omega | ((try dsimp only at *); (try simp only [lns] at *); omega), by (show (_ : Prop)); first | omega | ((try dsimp only at *); (try simp only [lns] at *); omega)⟩, ?_⟩ | refine ⟨fun (r : List AV) hr c hc => by simp [encS] at hr; (try subst hr); simp at hc; (try subst hc); rfl, ?_⟩ | refine ⟨noOwn (by rfl), ?_⟩)
  refine loop_rule (fun i : Nat => ⟨[(0, ⟨none, .view 0 [] 0 t.length⟩), (1, ⟨none, .int .i64 (k + 6 * i)⟩), (5, ⟨none, .int .i64 i⟩)], [(0, .own 6 (marked encO (mkO k) t i))], 1⟩)
    (fun i => i ≤ t.length) (fun i => t.length - i) 0 ?_ (by omega) ?_
  · (refine ⟨?_, ?_, rfl⟩ <;> repeat' (first | exact rfl | exact trivial | refine ⟨?_, ?_⟩ | fail) <;> (conv => whnf))
    all_goals simp [marked]
  intro i hi
  have hi : i ≤ t.length := hi
  (conv => whnf); refine ⟨fun h2 => ?_, fun h2 => ?_⟩
  · have h2 : i < t.length := by simpa using h2
    have hml := marked_len (f := encO) (mk := mkO k) (l := t) (i := i) hi
    obtain ⟨x, hx⟩ := get_lt h2
    repeat ((conv => whnf); first | refine ⟨fun h => h, ?_⟩ | refine ⟨(by kernel_rfl : drawOk _ _ = true), ?_⟩ | refine ⟨fun (h : gtrue _) => by first | assumption | exact absurd (Eq.trans (Eq.symm h) (by assumption) : true = false) Bool.noConfusion, ?_⟩ | refine ⟨fun h => (absurd (Eq.trans (Eq.symm h) (by assumption) : true = false) Bool.noConfusion : False), ?_⟩ | refine ⟨_, w64 (by (show (_ : Prop)); first | omega | ((try dsimp only at *); (try simp only [lns] at *); omega)), ?_⟩ | refine ⟨fun _ => ⟨by (show (_ : Prop)); first | omega | ((try dsimp only at *); (try simp only [lns] at *); omega), by (show (_ : Prop)); first | omega | ((try dsimp only at *); (try simp only [lns] at *); omega), by (show (_ : Prop)); first | omega | ((try dsimp only at *); (try simp only [lns] at *); omega)⟩, ?_⟩ | refine ⟨by (show (_ : Prop)); first | omega | ((try dsimp only at *); (try simp only [lns] at *); omega), ?_⟩ | refine ⟨fun h => ⟨by (show (_ : Prop)); first | omega | ((try dsimp only at *); (try simp only [lns] at *); omega), by (show (_ : Prop)); first | omega | ((try dsimp only at *); (try simp only [lns] at *); omega)⟩, ?_⟩ | refine ⟨fun (r : List AV) hr c hc => by simp [encS] at hr; (try subst hr); simp at hc; (try subst hc); rfl, ?_⟩ | refine ⟨noOwn (by rfl), ?_⟩ | refine ⟨(_ : Int), rfl, fun _ => (show (_ : Int) ≤ (1152921504606846976 : Int) from by omega), ?_⟩ | refine ⟨encO x, by rw [Nat.zero_add, Int.toNat_natCast]; exact marked_get hx, ?_⟩ | refine ⟨_, set_get (by simp only [List.length_set, hml, Nat.zero_add, Int.toNat_natCast]; exact h2), ?_⟩)
    refine again (i + 1) ?_ h2 (by first | omega | (simp; done) | (simp; omega))
    (refine ⟨?_, ?_, rfl⟩ <;> repeat' (first | exact rfl | exact trivial | refine ⟨?_, ?_⟩ | fail) <;> (conv => whnf))
    · omega
    · rw [← marked_set hx]
      simp only [Nat.zero_add, Int.toNat_natCast, set_set]
      congr 1
      simp [encO, mkO, hide_eq, c_laws_markText, con, Int.add_assoc]
  · have h2 : i = t.length := by
      have : ¬ i < t.length := by simpa using h2
      omega
    subst h2
    repeat ((conv => whnf); first | refine ⟨fun h => h, ?_⟩ | refine ⟨(by kernel_rfl : drawOk _ _ = true), ?_⟩ | refine ⟨fun (h : gtrue _) => by first | assumption | exact absurd (Eq.trans (Eq.symm h) (by assumption) : true = false) Bool.noConfusion, ?_⟩ | refine ⟨fun h => (absurd (Eq.trans (Eq.symm h) (by assumption) : true = false) Bool.noConfusion : False), ?_⟩ | refine ⟨_, w64 (by (show (_ : Prop)); first | omega | ((try dsimp only at *); (try simp only [lns] at *); omega)), ?_⟩ | refine ⟨fun _ => ⟨by (show (_ : Prop)); first | omega | ((try dsimp only at *); (try simp only [lns] at *); omega), by (show (_ : Prop)); first | omega | ((try dsimp only at *); (try simp only [lns] at *); omega), by (show (_ : Prop)); first | omega | ((try dsimp only at *); (try simp only [lns] at *); omega)⟩, ?_⟩ | refine ⟨by (show (_ : Prop)); first | omega | ((try dsimp only at *); (try simp only [lns] at *); omega), ?_⟩ | refine ⟨fun h => ⟨by (show (_ : Prop)); first | omega | ((try dsimp only at *); (try simp only [lns] at *); omega), by (show (_ : Prop)); first | omega | ((try dsimp only at *); (try simp only [lns] at *); omega)⟩, ?_⟩ | refine ⟨fun (r : List AV) hr c hc => by simp [encS] at hr; (try subst hr); simp at hc; (try subst hc); rfl, ?_⟩ | refine ⟨noOwn (by rfl), ?_⟩)
    exact ⟨⟨congrArg some (congrArg (AV.own 6) marked_all), trivial⟩, rfl⟩
theorem ok_laws_markOpS : ConOk Tryd.prog 22 c_laws_markOpS := meets_ok (tabT _ _) (FOk.cons ok_laws_markText FOk.nil) mixed Tryd.func22 rfl Tryd.call22 (by decide) (by kernel_rfl) m_laws_markOpS (by intro _ (y : _) _; exact ⟨by simp [c_laws_markOpS, con, conG, conW, AV.noRd, noRdCells, noRdRows, noRdRows_map', encS, encI, encO], by simp [c_laws_markOpS, con, conG, conW, AV.noRd, noRdCells, noRdRows, noRdRows_map', encS, encI, encO]⟩) (by intro (y : _) _; first | (simp [c_laws_markOpS, con, conG, conW, conP, AV.free, freeCells, freeRows, freeRows_map, encS, encI, encO]; done) | (obtain ⟨_, _⟩ := y; simp [c_laws_markOpS, con, conG, conW, conP, AV.free, freeCells, freeRows, freeRows_map, encS, encI, encO]; done) | (obtain ⟨_, _, _⟩ := y; simp [c_laws_markOpS, con, conG, conW, conP, AV.free, freeCells, freeRows, freeRows_map, encS, encI, encO]; done))
noncomputable def c_laws_heldOpS : PCon := con [mS 6, mC] true (Nat × Int) (fun ⟨n, k⟩ => [.rd 6 ((List.range n).map fun i => encO (mkO k i)), .int .i64 k]) (fun x => x.1 ≤ 4194304 ∧ 0 ≤ x.2 ∧ x.2 ≤ 1099511627776) (fun x => .int .i64 (x.2 + 6 * x.1))
noncomputable def E_laws_heldOpS : Env := ⟨lookup tyTab, lookup [(44, c_laws_markText)], [0, 1, 4, 5, 9, 18, 28, 38, 47, 57, 66]⟩
set_option maxRecDepth 100000 in
set_option maxHeartbeats 4000000 in
theorem m_laws_heldOpS : Meets E_laws_heldOpS (codeOf Tryd.f23) Tryd.f23.results.toList c_laws_heldOpS := by
  rintro ⟨n, k⟩ hs
  obtain ⟨hs1, hk1, hk2⟩ : n ≤ 4194304 ∧ 0 ≤ k ∧ k ≤ 1099511627776 := hs
  refine ⟨trivial, ?_⟩
  repeat ((conv => whnf); first | refine ⟨fun h => h, ?_⟩ | refine ⟨(by kernel_rfl : drawOk _ _ = true), ?_⟩ | refine ⟨fun (h : gtrue _) => by first | assumption | exact absurd (Eq.trans (Eq.symm h) (by assumption) : true = false) Bool.noConfusion, ?_⟩ | refine ⟨fun h => (absurd (Eq.trans (Eq.symm h) (by assumption) : true = false) Bool.noConfusion : False), ?_⟩ | refine ⟨_, w64 (by (show (_ : Prop)); first | omega | ((try dsimp only at *); (try simp only [lns] at *); omega)), ?_⟩ | refine ⟨fun _ => ⟨by (show (_ : Prop)); first | omega | ((try dsimp only at *); (try simp only [lns] at *); omega), by (show (_ : Prop)); first | omega | ((try dsimp only at *); (try simp only [lns] at *); omega), by (show (_ : Prop)); first | omega | ((try dsimp only at *); (try simp only [lns] at *); omega)⟩, ?_⟩ | refine ⟨by (show (_ : Prop)); first | omega | ((try dsimp only at *); (try simp only [lns] at *); omega), ?_⟩ | refine ⟨fun h => ⟨by (show (_ : Prop)); first | omega | ((try dsimp only at *); (try simp only [lns] at *); omega), by (show (_ : Prop)); first | omega | ((try dsimp only at *); (try simp only [lns] at *); omega)⟩, ?_⟩ | refine ⟨fun (r : List AV) hr c hc => by simp [encS] at hr; (try subst hr); simp at hc; (try subst hc); rfl, ?_⟩ | refine ⟨noOwn (by rfl), ?_⟩)
  refine loop_rule (fun i : Nat => ⟨[(0, ⟨none, .rd 6 ((List.range n).map fun i => encO (mkO k i))⟩), (1, ⟨none, .int .i64 (k + 6 * i)⟩), (5, ⟨none, .int .i64 i⟩)], [], 0⟩)
    (fun i => i ≤ n) (fun i => n - i) 0 ?_ (by omega) ?_
  · (refine ⟨?_, ?_, rfl⟩ <;> repeat' (first | exact rfl | exact trivial | refine ⟨?_, ?_⟩ | fail) <;> (conv => whnf))
    all_goals simp
  intro i hi
  have hi : i ≤ n := hi
  (conv => whnf); refine ⟨fun h2 => ?_, fun h2 => ?_⟩
  · have h2 : i < n := by simpa using h2
    have hx : ((List.range n).map fun i => encO (mkO k i))[(i : Int).toNat]? = some (encO (mkO k i)) := by simp [h2]
    repeat ((conv => whnf); first | refine ⟨fun h => h, ?_⟩ | refine ⟨(by kernel_rfl : drawOk _ _ = true), ?_⟩ | refine ⟨fun (h : gtrue _) => by first | assumption | exact absurd (Eq.trans (Eq.symm h) (by assumption) : true = false) Bool.noConfusion, ?_⟩ | refine ⟨fun h => (absurd (Eq.trans (Eq.symm h) (by assumption) : true = false) Bool.noConfusion : False), ?_⟩ | refine ⟨_, w64 (by (show (_ : Prop)); first | omega | ((try dsimp only at *); (try simp only [lns] at *); omega)), ?_⟩ | refine ⟨fun _ => ⟨by (show (_ : Prop)); first | omega | ((try dsimp only at *); (try simp only [lns] at *); omega), by (show (_ : Prop)); first | omega | ((try dsimp only at *); (try simp only [lns] at *); omega), by (show (_ : Prop)); first | omega | ((try dsimp only at *); (try simp only [lns] at *); omega)⟩, ?_⟩ | refine ⟨by (show (_ : Prop)); first | omega | ((try dsimp only at *); (try simp only [lns] at *); omega), ?_⟩ | refine ⟨fun h => ⟨by (show (_ : Prop)); first | omega | ((try dsimp only at *); (try simp only [lns] at *); omega), by (show (_ : Prop)); first | omega | ((try dsimp only at *); (try simp only [lns] at *); omega)⟩, ?_⟩ | refine ⟨fun (r : List AV) hr c hc => by simp [encS] at hr; (try subst hr); simp at hc; (try subst hc); rfl, ?_⟩ | refine ⟨noOwn (by rfl), ?_⟩ | refine ⟨(_ : Int), rfl, fun _ => (show (_ : Int) ≤ (1152921504606846976 : Int) from by omega), ?_⟩ | refine ⟨encO (mkO k i), fun _ => ⟨by omega, hx⟩, ?_⟩)
    conv => whnf
    refine ⟨fun h => ?_, fun _ => ?_⟩
    · exfalso
      simp [mkO, hide_eq, c_laws_markText, con, Int.add_assoc] at h
    repeat ((conv => whnf); first | refine ⟨fun h => h, ?_⟩ | refine ⟨(by kernel_rfl : drawOk _ _ = true), ?_⟩ | refine ⟨fun (h : gtrue _) => by first | assumption | exact absurd (Eq.trans (Eq.symm h) (by assumption) : true = false) Bool.noConfusion, ?_⟩ | refine ⟨fun h => (absurd (Eq.trans (Eq.symm h) (by assumption) : true = false) Bool.noConfusion : False), ?_⟩ | refine ⟨_, w64 (by (show (_ : Prop)); first | omega | ((try dsimp only at *); (try simp only [lns] at *); omega)), ?_⟩ | refine ⟨fun _ => ⟨by (show (_ : Prop)); first | omega | ((try dsimp only at *); (try simp only [lns] at *); omega), by (show (_ : Prop)); first | omega | ((try dsimp only at *); (try simp only [lns] at *); omega), by (show (_ : Prop)); first | omega | ((try dsimp only at *); (try simp only [lns] at *); omega)⟩, ?_⟩ | refine ⟨by (show (_ : Prop)); first | omega | ((try dsimp only at *); (try simp only [lns] at *); omega), ?_⟩ | refine ⟨fun h => ⟨by (show (_ : Prop)); first | omega | ((try dsimp only at *); (try simp only [lns] at *); omega), by (show (_ : Prop)); first | omega | ((try dsimp only at *); (try simp only [lns] at *); omega)⟩, ?_⟩ | refine ⟨fun (r : List AV) hr c hc => by simp [encS] at hr; (try subst hr); simp at hc; (try subst hc); rfl, ?_⟩ | refine ⟨noOwn (by rfl), ?_⟩ | refine ⟨(_ : Int), rfl, fun _ => (show (_ : Int) ≤ (1152921504606846976 : Int) from by omega), ?_⟩ | refine ⟨encO (mkO k i), fun _ => ⟨by omega, hx⟩, ?_⟩)
    conv => whnf
    refine ⟨fun h => ?_, fun _ => ?_⟩
    · exfalso
      simp [mkO, hide_eq, c_laws_markText, con, Int.add_assoc] at h
    repeat ((conv => whnf); first | refine ⟨fun h => h, ?_⟩ | refine ⟨(by kernel_rfl : drawOk _ _ = true), ?_⟩ | refine ⟨fun (h : gtrue _) => by first | assumption | exact absurd (Eq.trans (Eq.symm h) (by assumption) : true = false) Bool.noConfusion, ?_⟩ | refine ⟨fun h => (absurd (Eq.trans (Eq.symm h) (by assumption) : true = false) Bool.noConfusion : False), ?_⟩ | refine ⟨_, w64 (by (show (_ : Prop)); first | omega | ((try dsimp only at *); (try simp only [lns] at *); omega)), ?_⟩ | refine ⟨fun _ => ⟨by (show (_ : Prop)); first | omega | ((try dsimp only at *); (try simp only [lns] at *); omega), by (show (_ : Prop)); first | omega | ((try dsimp only at *); (try simp only [lns] at *); omega), by (show (_ : Prop)); first | omega | ((try dsimp only at *); (try simp only [lns] at *); omega)⟩, ?_⟩ | refine ⟨by (show (_ : Prop)); first | omega | ((try dsimp only at *); (try simp only [lns] at *); omega), ?_⟩ | refine ⟨fun h => ⟨by (show (_ : Prop)); first | omega | ((try dsimp only at *); (try simp only [lns] at *); omega), by (show (_ : Prop)); first | omega | ((try dsimp only at *); (try simp only [lns] at *); omega)⟩, ?_⟩ | refine ⟨fun (r : List AV) hr c hc => by simp [encS] at hr; (try subst hr); simp at hc; (try subst hc); rfl, ?_⟩ | refine ⟨noOwn (by rfl), ?_⟩ | refine ⟨(_ : Int), rfl, fun _ => (show (_ : Int) ≤ (1152921504606846976 : Int) from by omega), ?_⟩ | refine ⟨encO (mkO k i), fun _ => ⟨by omega, hx⟩, ?_⟩)
    conv => whnf
    refine ⟨fun h => ?_, fun _ => ?_⟩
    · exfalso
      simp [mkO, hide_eq, c_laws_markText, con, Int.add_assoc] at h
    repeat ((conv => whnf); first | refine ⟨fun h => h, ?_⟩ | refine ⟨(by kernel_rfl : drawOk _ _ = true), ?_⟩ | refine ⟨fun (h : gtrue _) => by first | assumption | exact absurd (Eq.trans (Eq.symm h) (by assumption) : true = false) Bool.noConfusion, ?_⟩ | refine ⟨fun h => (absurd (Eq.trans (Eq.symm h) (by assumption) : true = false) Bool.noConfusion : False), ?_⟩ | refine ⟨_, w64 (by (show (_ : Prop)); first | omega | ((try dsimp only at *); (try simp only [lns] at *); omega)), ?_⟩ | refine ⟨fun _ => ⟨by (show (_ : Prop)); first | omega | ((try dsimp only at *); (try simp only [lns] at *); omega), by (show (_ : Prop)); first | omega | ((try dsimp only at *); (try simp only [lns] at *); omega), by (show (_ : Prop)); first | omega | ((try dsimp only at *); (try simp only [lns] at *); omega)⟩, ?_⟩ | refine ⟨by (show (_ : Prop)); first | omega | ((try dsimp only at *); (try simp only [lns] at *); omega), ?_⟩ | refine ⟨fun h => ⟨by (show (_ : Prop)); first | omega | ((try dsimp only at *); (try simp only [lns] at *); omega), by (show (_ : Prop)); first | omega | ((try dsimp only at *); (try simp only [lns] at *); omega)⟩, ?_⟩ | refine ⟨fun (r : List AV) hr c hc => by simp [encS] at hr; (try subst hr); simp at hc; (try subst hc); rfl, ?_⟩ | refine ⟨noOwn (by rfl), ?_⟩ | refine ⟨(_ : Int), rfl, fun _ => (show (_ : Int) ≤ (1152921504606846976 : Int) from by omega), ?_⟩ | refine ⟨encO (mkO k i), fun _ => ⟨by omega, hx⟩, ?_⟩)
    conv => whnf
    refine ⟨fun h => ?_, fun _ => ?_⟩
    · exfalso
      simp [mkO, hide_eq, c_laws_markText, con, Int.add_assoc] at h
    repeat ((conv => whnf); first | refine ⟨fun h => h, ?_⟩ | refine ⟨(by kernel_rfl : drawOk _ _ = true), ?_⟩ | refine ⟨fun (h : gtrue _) => by first | assumption | exact absurd (Eq.trans (Eq.symm h) (by assumption) : true = false) Bool.noConfusion, ?_⟩ | refine ⟨fun h => (absurd (Eq.trans (Eq.symm h) (by assumption) : true = false) Bool.noConfusion : False), ?_⟩ | refine ⟨_, w64 (by (show (_ : Prop)); first | omega | ((try dsimp only at *); (try simp only [lns] at *); omega)), ?_⟩ | refine ⟨fun _ => ⟨by (show (_ : Prop)); first | omega | ((try dsimp only at *); (try simp only [lns] at *); omega), by (show (_ : Prop)); first | omega | ((try dsimp only at *); (try simp only [lns] at *); omega), by (show (_ : Prop)); first | omega | ((try dsimp only at *); (try simp only [lns] at *); omega)⟩, ?_⟩ | refine ⟨by (show (_ : Prop)); first | omega | ((try dsimp only at *); (try simp only [lns] at *); omega), ?_⟩ | refine ⟨fun h => ⟨by (show (_ : Prop)); first | omega | ((try dsimp only at *); (try simp only [lns] at *); omega), by (show (_ : Prop)); first | omega | ((try dsimp only at *); (try simp only [lns] at *); omega)⟩, ?_⟩ | refine ⟨fun (r : List AV) hr c hc => by simp [encS] at hr; (try subst hr); simp at hc; (try subst hc); rfl, ?_⟩ | refine ⟨noOwn (by rfl), ?_⟩ | refine ⟨(_ : Int), rfl, fun _ => (show (_ : Int) ≤ (1152921504606846976 : Int) from by omega), ?_⟩ | refine ⟨encO (mkO k i), fun _ => ⟨by omega, hx⟩, ?_⟩)
    conv => whnf
    refine ⟨fun h => ?_, fun _ => ?_⟩
    · exfalso
      simp [mkO, hide_eq, c_laws_markText, con, Int.add_assoc] at h
    repeat ((conv => whnf); first | refine ⟨fun h => h, ?_⟩ | refine ⟨(by kernel_rfl : drawOk _ _ = true), ?_⟩ | refine ⟨fun (h : gtrue _) => by first | assumption | exact absurd (Eq.trans (Eq.symm h) (by assumption) : true = false) Bool.noConfusion, ?_⟩ | refine ⟨fun h => (absurd (Eq.trans (Eq.symm h) (by assumption) : true = false) Bool.noConfusion : False), ?_⟩ | refine ⟨_, w64 (by (show (_ : Prop)); first | omega | ((try dsimp only at *); (try simp only [lns] at *); omega)), ?_⟩ | refine ⟨fun _ => ⟨by (show (_ : Prop)); first | omega | ((try dsimp only at *); (try simp only [lns] at *); omega), by (show (_ : Prop)); first | omega | ((try dsimp only at *); (try simp only [lns] at *); omega), by (show (_ : Prop)); first | omega | ((try dsimp only at *); (try simp only [lns] at *); omega)⟩, ?_⟩ | refine ⟨by (show (_ : Prop)); first | omega | ((try dsimp only at *); (try simp only [lns] at *); omega), ?_⟩ | refine ⟨fun h => ⟨by (show (_ : Prop)); first | omega | ((try dsimp only at *); (try simp only [lns] at *); omega), by (show (_ : Prop)); first | omega | ((try dsimp only at *); (try simp only [lns] at *); omega)⟩, ?_⟩ | refine ⟨fun (r : List AV) hr c hc => by simp [encS] at hr; (try subst hr); simp at hc; (try subst hc); rfl, ?_⟩ | refine ⟨noOwn (by rfl), ?_⟩ | refine ⟨(_ : Int), rfl, fun _ => (show (_ : Int) ≤ (1152921504606846976 : Int) from by omega), ?_⟩ | refine ⟨encO (mkO k i), fun _ => ⟨by omega, hx⟩, ?_⟩)
    conv => whnf
    refine ⟨fun h => ?_, fun _ => ?_⟩
    · exfalso
      simp [mkO, hide_eq, c_laws_markText, con, Int.add_assoc] at h
    repeat ((conv => whnf); first | refine ⟨fun h => h, ?_⟩ | refine ⟨(by kernel_rfl : drawOk _ _ = true), ?_⟩ | refine ⟨fun (h : gtrue _) => by first | assumption | exact absurd (Eq.trans (Eq.symm h) (by assumption) : true = false) Bool.noConfusion, ?_⟩ | refine ⟨fun h => (absurd (Eq.trans (Eq.symm h) (by assumption) : true = false) Bool.noConfusion : False), ?_⟩ | refine ⟨_, w64 (by (show (_ : Prop)); first | omega | ((try dsimp only at *); (try simp only [lns] at *); omega)), ?_⟩ | refine ⟨fun _ => ⟨by (show (_ : Prop)); first | omega | ((try dsimp only at *); (try simp only [lns] at *); omega), by (show (_ : Prop)); first | omega | ((try dsimp only at *); (try simp only [lns] at *); omega), by (show (_ : Prop)); first | omega | ((try dsimp only at *); (try simp only [lns] at *); omega)⟩, ?_⟩ | refine ⟨by (show (_ : Prop)); first | omega | ((try dsimp only at *); (try simp only [lns] at *); omega), ?_⟩ | refine ⟨fun h => ⟨by (show (_ : Prop)); first | omega | ((try dsimp only at *); (try simp only [lns] at *); omega), by (show (_ : Prop)); first | omega | ((try dsimp only at *); (try simp only [lns] at *); omega)⟩, ?_⟩ | refine ⟨fun (r : List AV) hr c hc => by simp [encS] at hr; (try subst hr); simp at hc; (try subst hc); rfl, ?_⟩ | refine ⟨noOwn (by rfl), ?_⟩ | refine ⟨(_ : Int), rfl, fun _ => (show (_ : Int) ≤ (1152921504606846976 : Int) from by omega), ?_⟩ | refine ⟨encO (mkO k i), fun _ => ⟨by omega, hx⟩, ?_⟩)
    refine again (i + 1) ?_ h2 (by first | omega | (simp; done) | (simp; omega))
    (refine ⟨?_, ?_, rfl⟩ <;> repeat' (first | exact rfl | exact trivial | refine ⟨?_, ?_⟩ | fail) <;> (conv => whnf))
    omega
  · have h2 : i = n := by
      have : ¬ i < n := by simpa using h2
      omega
    subst h2
    repeat ((conv => whnf); first | refine ⟨fun h => h, ?_⟩ | refine ⟨(by kernel_rfl : drawOk _ _ = true), ?_⟩ | refine ⟨fun (h : gtrue _) => by first | assumption | exact absurd (Eq.trans (Eq.symm h) (by assumption) : true = false) Bool.noConfusion, ?_⟩ | refine ⟨fun h => (absurd (Eq.trans (Eq.symm h) (by assumption) : true = false) Bool.noConfusion : False), ?_⟩ | refine ⟨_, w64 (by (show (_ : Prop)); first | omega | ((try dsimp only at *); (try simp only [lns] at *); omega)), ?_⟩ | refine ⟨fun _ => ⟨by (show (_ : Prop)); first | omega | ((try dsimp only at *); (try simp only [lns] at *); omega), by (show (_ : Prop)); first | omega | ((try dsimp only at *); (try simp only [lns] at *); omega), by (show (_ : Prop)); first | omega | ((try dsimp only at *); (try simp only [lns] at *); omega)⟩, ?_⟩ | refine ⟨by (show (_ : Prop)); first | omega | ((try dsimp only at *); (try simp only [lns] at *); omega), ?_⟩ | refine ⟨fun h => ⟨by (show (_ : Prop)); first | omega | ((try dsimp only at *); (try simp only [lns] at *); omega), by (show (_ : Prop)); first | omega | ((try dsimp only at *); (try simp only [lns] at *); omega)⟩, ?_⟩ | refine ⟨fun (r : List AV) hr c hc => by simp [encS] at hr; (try subst hr); simp at hc; (try subst hc); rfl, ?_⟩ | refine ⟨noOwn (by rfl), ?_⟩)
    exact ⟨trivial, rfl⟩
theorem ok_laws_heldOpS : ConOk Tryd.prog 23 c_laws_heldOpS := meets_ok (tabT _ _) (FOk.cons ok_laws_markText FOk.nil) mixed Tryd.func23 rfl Tryd.call23 (by decide) (by kernel_rfl) m_laws_heldOpS (by intro _ (y : (Nat × Int)) _; exact ⟨by simp [c_laws_heldOpS, con, conG, conW, AV.noRd, noRdCells, noRdRows, noRdRows_map', encS, encI, encO], by simp [c_laws_heldOpS, con, conG, conW, AV.noRd, noRdCells, noRdRows, noRdRows_map', encS, encI, encO]⟩) (by intro (y : (Nat × Int)) _; first | (simp [c_laws_heldOpS, con, conG, conW, conP, AV.free, freeCells, freeRows, freeRows_map, encS, encI, encO]; done) | (obtain ⟨_, _⟩ := y; simp [c_laws_heldOpS, con, conG, conW, conP, AV.free, freeCells, freeRows, freeRows_map, encS, encI, encO]; done) | (obtain ⟨_, _, _⟩ := y; simp [c_laws_heldOpS, con, conG, conW, conP, AV.free, freeCells, freeRows, freeRows_map, encS, encI, encO]; done))
end Go.GH

set_option linter.unusedVariables false
set_option linter.unusedSimpArgs false
namespace Go.GH
open Go Go.Proofs
noncomputable def c_impl_OpsOf : PCon := conG gwErr [mC] false Str encS (fun s => s.length ≤ 1048576) (fun s => .tup [.own 6 (((opsOf s).getD []).map encO), .bool (opsOf s).isSome])
noncomputable def E_impl_OpsOf : Env := ⟨lookup tyTab, lookup [(18, c_impl_OpOf), (43, c_strings_Cut)], [0, 2, 3, 4, 5, 6, 7, 8, 9, 12, 29]⟩
set_option maxRecDepth 100000 in
set_option maxHeartbeats 4000000 in
theorem m_impl_OpsOf : Meets E_impl_OpsOf (codeOf Tryd.f21) Tryd.f21.results.toList c_impl_OpsOf := by
  intro (s : Str) (hs : s.length ≤ 1048576)
  refine ⟨trivial, ?_⟩
  repeat ((conv => whnf); first | refine ⟨fun h => h, ?_⟩ | refine ⟨(by kernel_rfl : drawOk _ _ = true), ?_⟩ | refine ⟨fun (h : gtrue _) => by first | assumption | exact absurd (Eq.trans (Eq.symm h) (by assumption) : true = false) Bool.noConfusion, ?_⟩ | refine ⟨fun h => (absurd (Eq.trans (Eq.symm h) (by assumption) : true = false) Bool.noConfusion : False), ?_⟩ | refine ⟨_, w64 (by (show (_ : Prop)); first | omega | ((try dsimp only at *); (try simp only [lns] at *); omega)), ?_⟩ | refine ⟨fun _ => ⟨by (show (_ : Prop)); first | omega | ((try dsimp only at *); (try simp only [lns] at *); omega), by (show (_ : Prop)); first | omega | ((try dsimp only at *); (try simp only [lns] at *); omega), by (show (_ : Prop)); first | omega | ((try dsimp only at *); (try simp only [lns] at *); omega)⟩, ?_⟩ | refine ⟨by (show (_ : Prop)); first | omega | ((try dsimp only at *); (try simp only [lns] at *); omega), ?_⟩ | refine ⟨fun h => ⟨by (show (_ : Prop)); first | omega | ((try dsimp only at *); (try simp only [lns] at *); omega), by (show (_ : Prop)); first | omega | ((try dsimp only at *); (try simp only [lns] at *); omega)⟩, ?_⟩ | refine ⟨fun (r : List AV) hr c hc => by simp [encS] at hr; (try subst hr); simp at hc; (try subst hc); rfl, ?_⟩ | refine ⟨noOwn (by rfl), ?_⟩)
  refine loop_rule (fun ((r, out) : Str × List OpR) => ⟨[(0, ⟨none, .str r⟩), (4, ⟨none, .view 0 [] 0 out.length⟩)], [(0, .own 6 (out.map encO))], 1⟩)
    (fun (r, out) => OpsInv s r out) (fun x => x.1.length) (s, []) ?_ (OpsInv.zero s) ?_
  · (refine ⟨?_, ?_, rfl⟩ <;> repeat' (first | exact rfl | exact trivial | refine ⟨?_, ?_⟩ | fail) <;> (conv => whnf))
  rintro ⟨r, out⟩ hI
  have hI : OpsInv s r out := hI
  have hl := hI.1
  have hcl := cutN_len r
  (conv => whnf); refine ⟨fun h1 => ?_, fun h1 => ?_⟩
  · have hne : r ≠ [] := by
      have h1 : (!(r == [])) = true := h1
      simpa using h1
    conv => whnf
    refine ⟨r, rfl, fun _ => (show r.length ≤ 16777216 by omega), ?_⟩
    repeat ((conv => whnf); first | refine ⟨fun h => h, ?_⟩ | refine ⟨(by kernel_rfl : drawOk _ _ = true), ?_⟩ | refine ⟨fun (h : gtrue _) => by first | assumption | exact absurd (Eq.trans (Eq.symm h) (by assumption) : true = false) Bool.noConfusion, ?_⟩ | refine ⟨fun h => (absurd (Eq.trans (Eq.symm h) (by assumption) : true = false) Bool.noConfusion : False), ?_⟩ | refine ⟨_, w64 (by (show (_ : Prop)); first | omega | ((try dsimp only at *); (try simp only [lns] at *); omega)), ?_⟩ | refine ⟨fun _ => ⟨by (show (_ : Prop)); first | omega | ((try dsimp only at *); (try simp only [lns] at *); omega), by (show (_ : Prop)); first | omega | ((try dsimp only at *); (try simp only [lns] at *); omega), by (show (_ : Prop)); first | omega | ((try dsimp only at *); (try simp only [lns] at *); omega)⟩, ?_⟩ | refine ⟨by (show (_ : Prop)); first | omega | ((try dsimp only at *); (try simp only [lns] at *); omega), ?_⟩ | refine ⟨fun h => ⟨by (show (_ : Prop)); first | omega | ((try dsimp only at *); (try simp only [lns] at *); omega), by (show (_ : Prop)); first | omega | ((try dsimp only at *); (try simp only [lns] at *); omega)⟩, ?_⟩ | refine ⟨fun (r : List AV) hr c hc => by simp [encS] at hr; (try subst hr); simp at hc; (try subst hc); rfl, ?_⟩ | refine ⟨noOwn (by rfl), ?_⟩)
    refine ⟨(cutN r).1, rfl, fun _ => (show (cutN r).1.length ≤ 1048576 by omega), ?_⟩
    repeat ((conv => whnf); first | refine ⟨fun h => h, ?_⟩ | refine ⟨(by kernel_rfl : drawOk _ _ = true), ?_⟩ | refine ⟨fun (h : gtrue _) => by first | assumption | exact absurd (Eq.trans (Eq.symm h) (by assumption) : true = false) Bool.noConfusion, ?_⟩ | refine ⟨fun h => (absurd (Eq.trans (Eq.symm h) (by assumption) : true = false) Bool.noConfusion : False), ?_⟩ | refine ⟨_, w64 (by (show (_ : Prop)); first | omega | ((try dsimp only at *); (try simp only [lns] at *); omega)), ?_⟩ | refine ⟨fun _ => ⟨by (show (_ : Prop)); first | omega | ((try dsimp only at *); (try simp only [lns] at *); omega), by (show (_ : Prop)); first | omega | ((try dsimp only at *); (try simp only [lns] at *); omega), by (show (_ : Prop)); first | omega | ((try dsimp only at *); (try simp only [lns] at *); omega)⟩, ?_⟩ | refine ⟨by (show (_ : Prop)); first | omega | ((try dsimp only at *); (try simp only [lns] at *); omega), ?_⟩ | refine ⟨fun h => ⟨by (show (_ : Prop)); first | omega | ((try dsimp only at *); (try simp only [lns] at *); omega), by (show (_ : Prop)); first | omega | ((try dsimp only at *); (try simp only [lns] at *); omega)⟩, ?_⟩ | refine ⟨fun (r : List AV) hr c hc => by simp [encS] at hr; (try subst hr); simp at hc; (try subst hc); rfl, ?_⟩ | refine ⟨noOwn (by rfl), ?_⟩)
    (conv => whnf); refine ⟨fun h2 => ?_, fun h2 => ?_⟩
    · have h2 : (!(opOf (cutN r).1).isSome || !(cutN r).2.2) = true := h2
      have hno : opsOf s = none := hI.bad hne (by
        revert h2
        cases (cutN r).2.2 <;> cases opOf (cutN r).1 <;> simp)
      repeat ((conv => whnf); first | refine ⟨fun h => h, ?_⟩ | refine ⟨(by kernel_rfl : drawOk _ _ = true), ?_⟩ | refine ⟨fun (h : gtrue _) => by first | assumption | exact absurd (Eq.trans (Eq.symm h) (by assumption) : true = false) Bool.noConfusion, ?_⟩ | refine ⟨fun h => (absurd (Eq.trans (Eq.symm h) (by assumption) : true = false) Bool.noConfusion : False), ?_⟩ | refine ⟨_, w64 (by (show (_ : Prop)); first | omega | ((try dsimp only at *); (try simp only [lns] at *); omega)), ?_⟩ | refine ⟨fun _ => ⟨by (show (_ : Prop)); first | omega | ((try dsimp only at *); (try simp only [lns] at *); omega), by (show (_ : Prop)); first | omega | ((try dsimp only at *); (try simp only [lns] at *); omega), by (show (_ : Prop)); first | omega | ((try dsimp only at *); (try simp only [lns] at *); omega)⟩, ?_⟩ | refine ⟨by (show (_ : Prop)); first | omega | ((try dsimp only at *); (try simp only [lns] at *); omega), ?_⟩ | refine ⟨fun h => ⟨by (show (_ : Prop)); first | omega | ((try dsimp only at *); (try simp only [lns] at *); omega), by (show (_ : Prop)); first | omega | ((try dsimp only at *); (try simp only [lns] at *); omega)⟩, ?_⟩ | refine ⟨fun (r : List AV) hr c hc => by simp [encS] at hr; (try subst hr); simp at hc; (try subst hc); rfl, ?_⟩ | refine ⟨noOwn (by rfl), ?_⟩)
      exact ⟨trivial, eqNil (by rw [hno]; rfl), eqB (by rw [hno]; rfl), trivial⟩
    · have h2 : (!(opOf (cutN r).1).isSome || !(cutN r).2.2) = false := h2
      have hc : (cutN r).2.2 = true := by revert h2; cases (cutN r).2.2 <;> simp
      obtain ⟨o, ho⟩ : ∃ o, opOf (cutN r).1 = some o := by
        revert h2
        cases opOf (cutN r).1 with
        | none => simp
        | some o => exact fun _ => ⟨o, rfl⟩
      obtain ⟨hn, hlt⟩ := hI.next hc ho
      repeat ((conv => whnf); first | refine ⟨fun h => h, ?_⟩ | refine ⟨(by kernel_rfl : drawOk _ _ = true), ?_⟩ | refine ⟨fun (h : gtrue _) => by first | assumption | exact absurd (Eq.trans (Eq.symm h) (by assumption) : true = false) Bool.noConfusion, ?_⟩ | refine ⟨fun h => (absurd (Eq.trans (Eq.symm h) (by assumption) : true = false) Bool.noConfusion : False), ?_⟩ | refine ⟨_, w64 (by (show (_ : Prop)); first | omega | ((try dsimp only at *); (try simp only [lns] at *); omega)), ?_⟩ | refine ⟨fun _ => ⟨by (show (_ : Prop)); first | omega | ((try dsimp only at *); (try simp only [lns] at *); omega), by (show (_ : Prop)); first | omega | ((try dsimp only at *); (try simp only [lns] at *); omega), by (show (_ : Prop)); first | omega | ((try dsimp only at *); (try simp only [lns] at *); omega)⟩, ?_⟩ | refine ⟨by (show (_ : Prop)); first | omega | ((try dsimp only at *); (try simp only [lns] at *); omega), ?_⟩ | refine ⟨fun h => ⟨by (show (_ : Prop)); first | omega | ((try dsimp only at *); (try simp only [lns] at *); omega), by (show (_ : Prop)); first | omega | ((try dsimp only at *); (try simp only [lns] at *); omega)⟩, ?_⟩ | refine ⟨fun (r : List AV) hr c hc => by simp [encS] at hr; (try subst hr); simp at hc; (try subst hc); rfl, ?_⟩ | refine ⟨noOwn (by rfl), ?_⟩)
      refine again ((cutN r).2.1, out ++ [o]) ?_ hn hlt
      (refine ⟨?_, ?_, rfl⟩ <;> repeat' (first | exact rfl | exact trivial | refine ⟨?_, ?_⟩ | fail) <;> (conv => whnf))
      all_goals simp [ho, encO]
  · have h1 : r = [] := by
      have h1 : (!(r == [])) = false := h1
      simpa using h1
    subst h1
    have hf := hI.fin
    repeat ((conv => whnf); first | refine ⟨fun h => h, ?_⟩ | refine ⟨(by kernel_rfl : drawOk _ _ = true), ?_⟩ | refine ⟨fun (h : gtrue _) => by first | assumption | exact absurd (Eq.trans (Eq.symm h) (by assumption) : true = false) Bool.noConfusion, ?_⟩ | refine ⟨fun h => (absurd (Eq.trans (Eq.symm h) (by assumption) : true = false) Bool.noConfusion : False), ?_⟩ | refine ⟨_, w64 (by (show (_ : Prop)); first | omega | ((try dsimp only at *); (try simp only [lns] at *); omega)), ?_⟩ | refine ⟨fun _ => ⟨by (show (_ : Prop)); first | omega | ((try dsimp only at *); (try simp only [lns] at *); omega), by (show (_ : Prop)); first | omega | ((try dsimp only at *); (try simp only [lns] at *); omega), by (show (_ : Prop)); first | omega | ((try dsimp only at *); (try simp only [lns] at *); omega)⟩, ?_⟩ | refine ⟨by (show (_ : Prop)); first | omega | ((try dsimp only at *); (try simp only [lns] at *); omega), ?_⟩ | refine ⟨fun h => ⟨by (show (_ : Prop)); first | omega | ((try dsimp only at *); (try simp only [lns] at *); omega), by (show (_ : Prop)); first | omega | ((try dsimp only at *); (try simp only [lns] at *); omega)⟩, ?_⟩ | refine ⟨fun (r : List AV) hr c hc => by simp [encS] at hr; (try subst hr); simp at hc; (try subst hc); rfl, ?_⟩ | refine ⟨noOwn (by rfl), ?_⟩)
    exact ⟨trivial, eqOwn (by rw [hf]; (try simp only [List.drop_zero, List.take_length, take_app]); simp), eqB (by rw [hf]; rfl), trivial⟩
theorem ok_impl_OpsOf : ConOk Tryd.prog 21 c_impl_OpsOf := meets_ok (tabT _ _) (FOk.cons ok_impl_OpOf (FOk.cons ok_strings_Cut FOk.nil)) mixed Tryd.func21 rfl Tryd.call21 (by decide) (by kernel_rfl) m_impl_OpsOf (by intro _ (y : Str) _; exact ⟨by simp [c_impl_OpsOf, con, conG, conW, AV.noRd, noRdCells, noRdRows, noRdRows_map', encS, encO], by simp [c_impl_OpsOf, con, conG, conW, AV.noRd, noRdCells, noRdRows, noRdRows_map', encS, encO]⟩) (by intro (y : Str) _; first | (simp [c_impl_OpsOf, con, conG, conW, conP, AV.free, freeCells, freeRows, freeRows_map, encS, encO]; done) | (obtain ⟨_, _⟩ := y; simp [c_impl_OpsOf, con, conG, conW, conP, AV.free, freeCells, freeRows, freeRows_map, encS, encO]; done) | (obtain ⟨_, _, _⟩ := y; simp [c_impl_OpsOf, con, conG, conW, conP, AV.free, freeCells, freeRows, freeRows_map, encS, encO]; done))
noncomputable def c_spec_OpsOf : PCon := con [mC] false Str encS (fun s => s.length ≤ 1048576) (fun s => .tup [.own 6 (((opsOf s).getD []).map encO), .bool (opsOf s).isSome])
noncomputable def E_spec_OpsOf : Env := ⟨lookup tyTab, lookup [(17, c_spec_OpOf), (37, c_spec_Parts)], [0, 2, 3, 4, 5, 6, 7, 8, 18, 24, 36]⟩
set_option maxRecDepth 100000 in
set_option maxHeartbeats 4000000 in
theorem m_spec_OpsOf : Meets E_spec_OpsOf (codeOf Tryd.f20) Tryd.f20.results.toList c_spec_OpsOf := by
  intro (s : Str) (hs : s.length ≤ 1048576)
  refine ⟨trivial, ?_⟩
  conv => whnf
  refine ⟨(s, 10), rfl, fun _ => (show s.length ≤ 4194304 by omega), ?_⟩
  have hop : opsOf s = opsLines (splitBy 10 s) := rfl
  have hme := fun w hw => splitBy_mem (c := 10) s w hw
  have hln := splitBy_len (c := 10) s
  have hps := split_pos 10 s
  conv => whnf
  generalize splitBy 10 s = ws at hop hme hln hps ⊢
  obtain ⟨last, hlast⟩ := get_lt (l := ws) (i := ws.length - 1) (by omega)
  have hi1 : (((ws.map encS).length : Int) - 1).toNat = ws.length - 1 := by simp
  have hgl : ws.getD (ws.length - 1) [] = last := by rw [List.getD_eq_getElem?_getD, hlast]; rfl
  repeat ((conv => whnf); first | refine ⟨fun h => h, ?_⟩ | refine ⟨(by kernel_rfl : drawOk _ _ = true), ?_⟩ | refine ⟨fun (h : gtrue _) => by first | assumption | exact absurd (Eq.trans (Eq.symm h) (by assumption) : true = false) Bool.noConfusion, ?_⟩ | refine ⟨fun h => (absurd (Eq.trans (Eq.symm h) (by assumption) : true = false) Bool.noConfusion : False), ?_⟩ | refine ⟨_, w64 (by (show (_ : Prop)); first | omega | ((try dsimp only at *); (try simp only [lns] at *); omega)), ?_⟩ | refine ⟨fun _ => ⟨by (show (_ : Prop)); first | omega | ((try dsimp only at *); (try simp only [lns] at *); omega), by (show (_ : Prop)); first | omega | ((try dsimp only at *); (try simp only [lns] at *); omega), by (show (_ : Prop)); first | omega | ((try dsimp only at *); (try simp only [lns] at *); omega)⟩, ?_⟩ | refine ⟨by (show (_ : Prop)); first | omega | ((try dsimp only at *); (try simp only [lns] at *); omega), ?_⟩ | refine ⟨fun h => ⟨by (show (_ : Prop)); first | omega | ((try dsimp only at *); (try simp only [lns] at *); omega), by (show (_ : Prop)); first | omega | ((try dsimp only at *); (try simp only [lns] at *); omega)⟩, ?_⟩ | refine ⟨fun (r : List AV) hr c hc => by simp [encS] at hr; (try subst hr); simp at hc; (try subst hc); rfl, ?_⟩ | refine ⟨noOwn (by rfl), ?_⟩)
  refine ⟨encS last, fun _ => by show (ws.map encS)[0 + (((ws.map encS).length : Int) - 1).toNat]? = _; rw [hi1, Nat.zero_add]; exact get_map hlast, ?_⟩
  (conv => whnf); refine ⟨fun h1 => ?_, fun h1 => ?_⟩
  · have h1 : (!(last == [])) = true := h1
    have hno : opsOf s = none := by
      rw [hop, opsLines, hgl, if_neg]
      simpa using h1
    repeat ((conv => whnf); first | refine ⟨fun h => h, ?_⟩ | refine ⟨(by kernel_rfl : drawOk _ _ = true), ?_⟩ | refine ⟨fun (h : gtrue _) => by first | assumption | exact absurd (Eq.trans (Eq.symm h) (by assumption) : true = false) Bool.noConfusion, ?_⟩ | refine ⟨fun h => (absurd (Eq.trans (Eq.symm h) (by assumption) : true = false) Bool.noConfusion : False), ?_⟩ | refine ⟨_, w64 (by (show (_ : Prop)); first | omega | ((try dsimp only at *); (try simp only [lns] at *); omega)), ?_⟩ | refine ⟨fun _ => ⟨by (show (_ : Prop)); first | omega | ((try dsimp only at *); (try simp only [lns] at *); omega), by (show (_ : Prop)); first | omega | ((try dsimp only at *); (try simp only [lns] at *); omega), by (show (_ : Prop)); first | omega | ((try dsimp only at *); (try simp only [lns] at *); omega)⟩, ?_⟩ | refine ⟨by (show (_ : Prop)); first | omega | ((try dsimp only at *); (try simp only [lns] at *); omega), ?_⟩ | refine ⟨fun h => ⟨by (show (_ : Prop)); first | omega | ((try dsimp only at *); (try simp only [lns] at *); omega), by (show (_ : Prop)); first | omega | ((try dsimp only at *); (try simp only [lns] at *); omega)⟩, ?_⟩ | refine ⟨fun (r : List AV) hr c hc => by simp [encS] at hr; (try subst hr); simp at hc; (try subst hc); rfl, ?_⟩ | refine ⟨noOwn (by rfl), ?_⟩)
    exact ⟨trivial, eqOwn (by rw [hno]; rfl), eqB (by rw [hno]; rfl), trivial⟩
  have h1 : (!(last == [])) = false := h1
  have hop : opsOf s = opsAll (ws.take (ws.length - 1)) := by
    rw [hop, opsLines, hgl, if_pos]
    simpa using h1
  repeat ((conv => whnf); first | refine ⟨fun h => h, ?_⟩ | refine ⟨(by kernel_rfl : drawOk _ _ = true), ?_⟩ | refine ⟨fun (h : gtrue _) => by first | assumption | exact absurd (Eq.trans (Eq.symm h) (by assumption) : true = false) Bool.noConfusion, ?_⟩ | refine ⟨fun h => (absurd (Eq.trans (Eq.symm h) (by assumption) : true = false) Bool.noConfusion : False), ?_⟩ | refine ⟨_, w64 (by (show (_ : Prop)); first | omega | ((try dsimp only at *); (try simp only [lns] at *); omega)), ?_⟩ | refine ⟨fun _ => ⟨by (show (_ : Prop)); first | omega | ((try dsimp only at *); (try simp only [lns] at *); omega), by (show (_ : Prop)); first | omega | ((try dsimp only at *); (try simp only [lns] at *); omega), by (show (_ : Prop)); first | omega | ((try dsimp only at *); (try simp only [lns] at *); omega)⟩, ?_⟩ | refine ⟨by (show (_ : Prop)); first | omega | ((try dsimp only at *); (try simp only [lns] at *); omega), ?_⟩ | refine ⟨fun h => ⟨by (show (_ : Prop)); first | omega | ((try dsimp only at *); (try simp only [lns] at *); omega), by (show (_ : Prop)); first | omega | ((try dsimp only at *); (try simp only [lns] at *); omega)⟩, ?_⟩ | refine ⟨fun (r : List AV) hr c hc => by simp [encS] at hr; (try subst hr); simp at hc; (try subst hc); rfl, ?_⟩ | refine ⟨noOwn (by rfl), ?_⟩)
  refine loop_rule (fun ((i, out) : Nat × List OpR) => ⟨[(4, ⟨none, .view 0 [] 0 out.length⟩), (5, ⟨none, .view 1 [] 0 (ws.map encS).length⟩), (6, ⟨none, .int .i64 i⟩)], [(0, .own 6 (out.map encO)), (1, .own 1 (ws.map encS))], 2⟩)
    (fun (i, out) => i ≤ ws.length - 1 ∧ opsAll (ws.take i) = some out) (fun x => ws.length - x.1) (0, []) ?_ ⟨by omega, rfl⟩ ?_
  · (refine ⟨?_, ?_, rfl⟩ <;> repeat' (first | exact rfl | exact trivial | refine ⟨?_, ?_⟩ | fail) <;> (conv => whnf))
  rintro ⟨i, out⟩ ⟨hi, hI⟩
  have hol := opsAll_len hI
  have hol2 : out.length = i := by rw [hol, List.length_take]; omega
  repeat ((conv => whnf); first | refine ⟨fun h => h, ?_⟩ | refine ⟨(by kernel_rfl : drawOk _ _ = true), ?_⟩ | refine ⟨fun (h : gtrue _) => by first | assumption | exact absurd (Eq.trans (Eq.symm h) (by assumption) : true = false) Bool.noConfusion, ?_⟩ | refine ⟨fun h => (absurd (Eq.trans (Eq.symm h) (by assumption) : true = false) Bool.noConfusion : False), ?_⟩ | refine ⟨_, w64 (by (show (_ : Prop)); first | omega | ((try dsimp only at *); (try simp only [lns] at *); omega)), ?_⟩ | refine ⟨fun _ => ⟨by (show (_ : Prop)); first | omega | ((try dsimp only at *); (try simp only [lns] at *); omega), by (show (_ : Prop)); first | omega | ((try dsimp only at *); (try simp only [lns] at *); omega), by (show (_ : Prop)); first | omega | ((try dsimp only at *); (try simp only [lns] at *); omega)⟩, ?_⟩ | refine ⟨by (show (_ : Prop)); first | omega | ((try dsimp only at *); (try simp only [lns] at *); omega), ?_⟩ | refine ⟨fun h => ⟨by (show (_ : Prop)); first | omega | ((try dsimp only at *); (try simp only [lns] at *); omega), by (show (_ : Prop)); first | omega | ((try dsimp only at *); (try simp only [lns] at *); omega)⟩, ?_⟩ | refine ⟨fun (r : List AV) hr c hc => by simp [encS] at hr; (try subst hr); simp at hc; (try subst hc); rfl, ?_⟩ | refine ⟨noOwn (by rfl), ?_⟩)
  (conv => whnf); refine ⟨fun h2 => ?_, fun h2 => ?_⟩
  · have h2 : i < ws.length - 1 := by
      have : (i : Int) < ((ws.map encS).length : Int) - 1 := by simpa using h2
      simp at this; omega
    obtain ⟨w, hw⟩ := get_lt (l := ws) (i := i) (by omega)
    have hwm := hme w (List.mem_of_getElem? hw)
    obtain ⟨ht1, ht2⟩ := opsAll_take hI hw
    repeat ((conv => whnf); first | refine ⟨fun h => h, ?_⟩ | refine ⟨(by kernel_rfl : drawOk _ _ = true), ?_⟩ | refine ⟨fun (h : gtrue _) => by first | assumption | exact absurd (Eq.trans (Eq.symm h) (by assumption) : true = false) Bool.noConfusion, ?_⟩ | refine ⟨fun h => (absurd (Eq.trans (Eq.symm h) (by assumption) : true = false) Bool.noConfusion : False), ?_⟩ | refine ⟨_, w64 (by (show (_ : Prop)); first | omega | ((try dsimp only at *); (try simp only [lns] at *); omega)), ?_⟩ | refine ⟨fun _ => ⟨by (show (_ : Prop)); first | omega | ((try dsimp only at *); (try simp only [lns] at *); omega), by (show (_ : Prop)); first | omega | ((try dsimp only at *); (try simp only [lns] at *); omega), by (show (_ : Prop)); first | omega | ((try dsimp only at *); (try simp only [lns] at *); omega)⟩, ?_⟩ | refine ⟨by (show (_ : Prop)); first | omega | ((try dsimp only at *); (try simp only [lns] at *); omega), ?_⟩ | refine ⟨fun h => ⟨by (show (_ : Prop)); first | omega | ((try dsimp only at *); (try simp only [lns] at *); omega), by (show (_ : Prop)); first | omega | ((try dsimp only at *); (try simp only [lns] at *); omega)⟩, ?_⟩ | refine ⟨fun (r : List AV) hr c hc => by simp [encS] at hr; (try subst hr); simp at hc; (try subst hc); rfl, ?_⟩ | refine ⟨noOwn (by rfl), ?_⟩ | refine ⟨encS w, fun _ => by simp [hw], ?_⟩)
    refine ⟨w, rfl, fun _ => (show w.length ≤ 1048576 by omega), ?_⟩
    repeat ((conv => whnf); first | refine ⟨fun h => h, ?_⟩ | refine ⟨(by kernel_rfl : drawOk _ _ = true), ?_⟩ | refine ⟨fun (h : gtrue _) => by first | assumption | exact absurd (Eq.trans (Eq.symm h) (by assumption) : true = false) Bool.noConfusion, ?_⟩ | refine ⟨fun h => (absurd (Eq.trans (Eq.symm h) (by assumption) : true = false) Bool.noConfusion : False), ?_⟩ | refine ⟨_, w64 (by (show (_ : Prop)); first | omega | ((try dsimp only at *); (try simp only [lns] at *); omega)), ?_⟩ | refine ⟨fun _ => ⟨by (show (_ : Prop)); first | omega | ((try dsimp only at *); (try simp only [lns] at *); omega), by (show (_ : Prop)); first | omega | ((try dsimp only at *); (try simp only [lns] at *); omega), by (show (_ : Prop)); first | omega | ((try dsimp only at *); (try simp only [lns] at *); omega)⟩, ?_⟩ | refine ⟨by (show (_ : Prop)); first | omega | ((try dsimp only at *); (try simp only [lns] at *); omega), ?_⟩ | refine ⟨fun h => ⟨by (show (_ : Prop)); first | omega | ((try dsimp only at *); (try simp only [lns] at *); omega), by (show (_ : Prop)); first | omega | ((try dsimp only at *); (try simp only [lns] at *); omega)⟩, ?_⟩ | refine ⟨fun (r : List AV) hr c hc => by simp [encS] at hr; (try subst hr); simp at hc; (try subst hc); rfl, ?_⟩ | refine ⟨noOwn (by rfl), ?_⟩)
    (conv => whnf); refine ⟨fun h3 => ?_, fun h3 => ?_⟩
    · have h3 : (!(opOf w).isSome) = true := h3
      have ho : opOf w = none := by simpa using h3
      have hno : opsOf s = none := by
        rw [hop]
        refine opsAll_none (i + 1) ?_
        rw [List.take_take, Nat.min_eq_left (by omega)]
        exact ht2 ho
      repeat ((conv => whnf); first | refine ⟨fun h => h, ?_⟩ | refine ⟨(by kernel_rfl : drawOk _ _ = true), ?_⟩ | refine ⟨fun (h : gtrue _) => by first | assumption | exact absurd (Eq.trans (Eq.symm h) (by assumption) : true = false) Bool.noConfusion, ?_⟩ | refine ⟨fun h => (absurd (Eq.trans (Eq.symm h) (by assumption) : true = false) Bool.noConfusion : False), ?_⟩ | refine ⟨_, w64 (by (show (_ : Prop)); first | omega | ((try dsimp only at *); (try simp only [lns] at *); omega)), ?_⟩ | refine ⟨fun _ => ⟨by (show (_ : Prop)); first | omega | ((try dsimp only at *); (try simp only [lns] at *); omega), by (show (_ : Prop)); first | omega | ((try dsimp only at *); (try simp only [lns] at *); omega), by (show (_ : Prop)); first | omega | ((try dsimp only at *); (try simp only [lns] at *); omega)⟩, ?_⟩ | refine ⟨by (show (_ : Prop)); first | omega | ((try dsimp only at *); (try simp only [lns] at *); omega), ?_⟩ | refine ⟨fun h => ⟨by (show (_ : Prop)); first | omega | ((try dsimp only at *); (try simp only [lns] at *); omega), by (show (_ : Prop)); first | omega | ((try dsimp only at *); (try simp only [lns] at *); omega)⟩, ?_⟩ | refine ⟨fun (r : List AV) hr c hc => by simp [encS] at hr; (try subst hr); simp at hc; (try subst hc); rfl, ?_⟩ | refine ⟨noOwn (by rfl), ?_⟩)
      exact ⟨trivial, eqOwn (by rw [hno]; rfl), eqB (by rw [hno]; rfl), trivial⟩
    · have h3 : (!(opOf w).isSome) = false := h3
      obtain ⟨o, ho⟩ : ∃ o, opOf w = some o := by
        revert h3
        cases opOf w with
        | none => simp
        | some o => exact fun _ => ⟨o, rfl⟩
      repeat ((conv => whnf); first | refine ⟨fun h => h, ?_⟩ | refine ⟨(by kernel_rfl : drawOk _ _ = true), ?_⟩ | refine ⟨fun (h : gtrue _) => by first | assumption | exact absurd (Eq.trans (Eq.symm h) (by assumption) : true = false) Bool.noConfusion, ?_⟩ | refine ⟨fun h => (absurd (Eq.trans (Eq.symm h) (by assumption) : true = false) Bool.noConfusion : False), ?_⟩ | refine ⟨_, w64 (by (show (_ : Prop)); first | omega | ((try dsimp only at *); (try simp only [lns] at *); omega)), ?_⟩ | refine ⟨fun _ => ⟨by (show (_ : Prop)); first | omega | ((try dsimp only at *); (try simp only [lns] at *); omega), by (show (_ : Prop)); first | omega | ((try dsimp only at *); (try simp only [lns] at *); omega), by (show (_ : Prop)); first | omega | ((try dsimp only at *); (try simp only [lns] at *); omega)⟩, ?_⟩ | refine ⟨by (show (_ : Prop)); first | omega | ((try dsimp only at *); (try simp only [lns] at *); omega), ?_⟩ | refine ⟨fun h => ⟨by (show (_ : Prop)); first | omega | ((try dsimp only at *); (try simp only [lns] at *); omega), by (show (_ : Prop)); first | omega | ((try dsimp only at *); (try simp only [lns] at *); omega)⟩, ?_⟩ | refine ⟨fun (r : List AV) hr c hc => by simp [encS] at hr; (try subst hr); simp at hc; (try subst hc); rfl, ?_⟩ | refine ⟨noOwn (by rfl), ?_⟩)
      refine again (i + 1, out ++ [o]) ?_ ⟨h2, ht1 o ho⟩ (by show ws.length - (i + 1) < ws.length - i; omega)
      (refine ⟨?_, ?_, rfl⟩ <;> repeat' (first | exact rfl | exact trivial | refine ⟨?_, ?_⟩ | fail) <;> (conv => whnf))
      all_goals simp [ho, encO]
  · have h2 : i = ws.length - 1 := by
      have : ¬ (i : Int) < ((ws.map encS).length : Int) - 1 := by simpa using h2
      simp at this; omega
    subst h2
    have hf : opsOf s = some out := by rw [hop, hI]
    repeat ((conv => whnf); first | refine ⟨fun h => h, ?_⟩ | refine ⟨(by kernel_rfl : drawOk _ _ = true), ?_⟩ | refine ⟨fun (h : gtrue _) => by first | assumption | exact absurd (Eq.trans (Eq.symm h) (by assumption) : true = false) Bool.noConfusion, ?_⟩ | refine ⟨fun h => (absurd (Eq.trans (Eq.symm h) (by assumption) : true = false) Bool.noConfusion : False), ?_⟩ | refine ⟨_, w64 (by (show (_ : Prop)); first | omega | ((try dsimp only at *); (try simp only [lns] at *); omega)), ?_⟩ | refine ⟨fun _ => ⟨by (show (_ : Prop)); first | omega | ((try dsimp only at *); (try simp only [lns] at *); omega), by (show (_ : Prop)); first | omega | ((try dsimp only at *); (try simp only [lns] at *); omega), by (show (_ : Prop)); first | omega | ((try dsimp only at *); (try simp only [lns] at *); omega)⟩, ?_⟩ | refine ⟨by (show (_ : Prop)); first | omega | ((try dsimp only at *); (try simp only [lns] at *); omega), ?_⟩ | refine ⟨fun h => ⟨by (show (_ : Prop)); first | omega | ((try dsimp only at *); (try simp only [lns] at *); omega), by (show (_ : Prop)); first | omega | ((try dsimp only at *); (try simp only [lns] at *); omega)⟩, ?_⟩ | refine ⟨fun (r : List AV) hr c hc => by simp [encS] at hr; (try subst hr); simp at hc; (try subst hc); rfl, ?_⟩ | refine ⟨noOwn (by rfl), ?_⟩)
    exact ⟨trivial, eqOwn (by rw [hf]; (try simp only [List.drop_zero, List.take_length, take_app]); simp), eqB (by rw [hf]; rfl), trivial⟩
theorem ok_spec_OpsOf : ConOk Tryd.prog 20 c_spec_OpsOf := meets_ok (tabT _ _) (FOk.cons ok_spec_OpOf (FOk.cons ok_spec_Parts FOk.nil)) mixed Tryd.func20 rfl Tryd.call20 (by decide) (by kernel_rfl) m_spec_OpsOf (by intro _ (y : Str) _; exact ⟨by simp [c_spec_OpsOf, con, conG, conW, AV.noRd, noRdCells, noRdRows, noRdRows_map', encS, encO], by simp [c_spec_OpsOf, con, conG, conW, AV.noRd, noRdCells, noRdRows, noRdRows_map', encS, encO]⟩) (by intro (y : Str) _; first | (simp [c_spec_OpsOf, con, conG, conW, conP, AV.free, freeCells, freeRows, freeRows_map, encS, encO]; done) | (obtain ⟨_, _⟩ := y; simp [c_spec_OpsOf, con, conG, conW, conP, AV.free, freeCells, freeRows, freeRows_map, encS, encO]; done) | (obtain ⟨_, _, _⟩ := y; simp [c_spec_OpsOf, con, conG, conW, conP, AV.free, freeCells, freeRows, freeRows_map, encS, encO]; done))
end Go.GH

set_option linter.unusedVariables false
set_option linter.unusedSimpArgs false
namespace Go.GH
open Go Go.Proofs
theorem opsOf_len (s : Str) : ((opsOf s).getD []).length ≤ s.length := by
  cases h : opsOf s with
  | none => simp
  | some l =>
    have h1 := splitBy_len (c := 10) s
    unfold opsOf opsLines at h
    split at h
    · have h2 := opsAll_len h
      rw [List.length_take] at h2
      simp only [Option.getD_some]
      omega
    · cases h
noncomputable def c_laws_FnExactOpsOf : PCon := conG gwErr [mC] true Str encS (fun s => s.length ≤ 9223372036854775807) (fun _ => .bool true)
noncomputable def E_laws_FnExactOpsOf : Env := ⟨lookup tyTab, lookup [(16, c_laws_eqOpS), (20, c_spec_OpsOf), (21, c_impl_OpsOf), (22, c_laws_markOpS), (23, c_laws_heldOpS)], [0, 2, 3, 4, 5, 6, 7, 8, 9, 10, 13, 32, 40, 43, 57, 62, 65]⟩
set_option maxRecDepth 100000 in
set_option maxHeartbeats 4000000 in
theorem m_laws_FnExactOpsOf : Meets E_laws_FnExactOpsOf (codeOf Tryd.f6) Tryd.f6.results.toList c_laws_FnExactOpsOf := by
  intro (s : Str) hs
  have hs : s.length ≤ 9223372036854775807 := hs
  refine ⟨trivial, ?_⟩
  repeat ((conv => whnf); first | refine ⟨fun h => h, ?_⟩ | refine ⟨(by kernel_rfl : drawOk _ _ = true), ?_⟩ | refine ⟨fun (h : gtrue _) => by first | assumption | exact absurd (Eq.trans (Eq.symm h) (by assumption) : true = false) Bool.noConfusion, ?_⟩ | refine ⟨fun h => (absurd (Eq.trans (Eq.symm h) (by assumption) : true = false) Bool.noConfusion : False), ?_⟩ | refine ⟨_, w64 (by (show (_ : Prop)); first | omega | ((try dsimp only at *); (try simp only [lns] at *); omega)), ?_⟩ | refine ⟨fun _ => ⟨by (show (_ : Prop)); first | omega | ((try dsimp only at *); (try simp only [lns] at *); omega), by (show (_ : Prop)); first | omega | ((try dsimp only at *); (try simp only [lns] at *); omega), by (show (_ : Prop)); first | omega | ((try dsimp only at *); (try simp only [lns] at *); omega)⟩, ?_⟩ | refine ⟨by (show (_ : Prop)); first | omega | ((try dsimp only at *); (try simp only [lns] at *); omega), ?_⟩ | refine ⟨fun h => ⟨by (show (_ : Prop)); first | omega | ((try dsimp only at *); (try simp only [lns] at *); omega), by (show (_ : Prop)); first | omega | ((try dsimp only at *); (try simp only [lns] at *); omega)⟩, ?_⟩ | refine ⟨fun (r : List AV) hr c hc => by simp [encS] at hr; (try subst hr); simp at hc; (try subst hc); rfl, ?_⟩ | refine ⟨noOwn (by rfl), ?_⟩)
  (conv => whnf); refine ⟨fun h1 => ?_, fun h1 => ?_⟩
  · conv => whnf
    exact ⟨trivial, rfl⟩
  have h1 : s.length ≤ 1048576 := by simp at h1; omega
  have hdl : ((opsOf s).getD []).length ≤ 4194304 := by have := opsOf_len s; omega
  conv => whnf
  refine ⟨s, rfl, fun _ => h1, ?_⟩
  repeat ((conv => whnf); first | refine ⟨fun h => h, ?_⟩ | refine ⟨(by kernel_rfl : drawOk _ _ = true), ?_⟩ | refine ⟨fun (h : gtrue _) => by first | assumption | exact absurd (Eq.trans (Eq.symm h) (by assumption) : true = false) Bool.noConfusion, ?_⟩ | refine ⟨fun h => (absurd (Eq.trans (Eq.symm h) (by assumption) : true = false) Bool.noConfusion : False), ?_⟩ | refine ⟨_, w64 (by (show (_ : Prop)); first | omega | ((try dsimp only at *); (try simp only [lns] at *); omega)), ?_⟩ | refine ⟨fun _ => ⟨by (show (_ : Prop)); first | omega | ((try dsimp only at *); (try simp only [lns] at *); omega), by (show (_ : Prop)); first | omega | ((try dsimp only at *); (try simp only [lns] at *); omega), by (show (_ : Prop)); first | omega | ((try dsimp only at *); (try simp only [lns] at *); omega)⟩, ?_⟩ | refine ⟨by (show (_ : Prop)); first | omega | ((try dsimp only at *); (try simp only [lns] at *); omega), ?_⟩ | refine ⟨fun h => ⟨by (show (_ : Prop)); first | omega | ((try dsimp only at *); (try simp only [lns] at *); omega), by (show (_ : Prop)); first | omega | ((try dsimp only at *); (try simp only [lns] at *); omega)⟩, ?_⟩ | refine ⟨fun (r : List AV) hr c hc => by simp [encS] at hr; (try subst hr); simp at hc; (try subst hc); rfl, ?_⟩ | refine ⟨noOwn (by rfl), ?_⟩)
  refine ⟨s, rfl, fun _ => h1, ?_⟩
  repeat ((conv => whnf); first | refine ⟨fun h => h, ?_⟩ | refine ⟨(by kernel_rfl : drawOk _ _ = true), ?_⟩ | refine ⟨fun (h : gtrue _) => by first | assumption | exact absurd (Eq.trans (Eq.symm h) (by assumption) : true = false) Bool.noConfusion, ?_⟩ | refine ⟨fun h => (absurd (Eq.trans (Eq.symm h) (by assumption) : true = false) Bool.noConfusion : False), ?_⟩ | refine ⟨_, w64 (by (show (_ : Prop)); first | omega | ((try dsimp only at *); (try simp only [lns] at *); omega)), ?_⟩ | refine ⟨fun _ => ⟨by (show (_ : Prop)); first | omega | ((try dsimp only at *); (try simp only [lns] at *); omega), by (show (_ : Prop)); first | omega | ((try dsimp only at *); (try simp only [lns] at *); omega), by (show (_ : Prop)); first | omega | ((try dsimp only at *); (try simp only [lns] at *); omega)⟩, ?_⟩ | refine ⟨by (show (_ : Prop)); first | omega | ((try dsimp only at *); (try simp only [lns] at *); omega), ?_⟩ | refine ⟨fun h => ⟨by (show (_ : Prop)); first | omega | ((try dsimp only at *); (try simp only [lns] at *); omega), by (show (_ : Prop)); first | omega | ((try dsimp only at *); (try simp only [lns] at *); omega)⟩, ?_⟩ | refine ⟨fun (r : List AV) hr c hc => by simp [encS] at hr; (try subst hr); simp at hc; (try subst hc); rfl, ?_⟩ | refine ⟨noOwn (by rfl), ?_⟩)
  refine ⟨((opsOf s).getD []), by refine argPP ?_ ?_ <;> simp [rdO], fun _ => hdl, ?_⟩
  repeat ((conv => whnf); first | refine ⟨fun h => h, ?_⟩ | refine ⟨(by kernel_rfl : drawOk _ _ = true), ?_⟩ | refine ⟨fun (h : gtrue _) => by first | assumption | exact absurd (Eq.trans (Eq.symm h) (by assumption) : true = false) Bool.noConfusion, ?_⟩ | refine ⟨fun h => (absurd (Eq.trans (Eq.symm h) (by assumption) : true = false) Bool.noConfusion : False), ?_⟩ | refine ⟨_, w64 (by (show (_ : Prop)); first | omega | ((try dsimp only at *); (try simp only [lns] at *); omega)), ?_⟩ | refine ⟨fun _ => ⟨by (show (_ : Prop)); first | omega | ((try dsimp only at *); (try simp only [lns] at *); omega), by (show (_ : Prop)); first | omega | ((try dsimp only at *); (try simp only [lns] at *); omega), by (show (_ : Prop)); first | omega | ((try dsimp only at *); (try simp only [lns] at *); omega)⟩, ?_⟩ | refine ⟨by (show (_ : Prop)); first | omega | ((try dsimp only at *); (try simp only [lns] at *); omega), ?_⟩ | refine ⟨fun h => ⟨by (show (_ : Prop)); first | omega | ((try dsimp only at *); (try simp only [lns] at *); omega), by (show (_ : Prop)); first | omega | ((try dsimp only at *); (try simp only [lns] at *); omega)⟩, ?_⟩ | refine ⟨fun (r : List AV) hr c hc => by simp [encS] at hr; (try subst hr); simp at hc; (try subst hc); rfl, ?_⟩ | refine ⟨noOwn (by rfl), ?_⟩)
  conv => whnf
  refine ⟨fun h => ?_, fun _ => ?_⟩
  · have h : (!true || ((opsOf s).isSome != (opsOf s).isSome)) = true := h
    simp at h
  repeat ((conv => whnf); first | refine ⟨fun h => h, ?_⟩ | refine ⟨(by kernel_rfl : drawOk _ _ = true), ?_⟩ | refine ⟨fun (h : gtrue _) => by first | assumption | exact absurd (Eq.trans (Eq.symm h) (by assumption) : true = false) Bool.noConfusion, ?_⟩ | refine ⟨fun h => (absurd (Eq.trans (Eq.symm h) (by assumption) : true = false) Bool.noConfusion : False), ?_⟩ | refine ⟨_, w64 (by (show (_ : Prop)); first | omega | ((try dsimp only at *); (try simp only [lns] at *); omega)), ?_⟩ | refine ⟨fun _ => ⟨by (show (_ : Prop)); first | omega | ((try dsimp only at *); (try simp only [lns] at *); omega), by (show (_ : Prop)); first | omega | ((try dsimp only at *); (try simp only [lns] at *); omega), by (show (_ : Prop)); first | omega | ((try dsimp only at *); (try simp only [lns] at *); omega)⟩, ?_⟩ | refine ⟨by (show (_ : Prop)); first | omega | ((try dsimp only at *); (try simp only [lns] at *); omega), ?_⟩ | refine ⟨fun h => ⟨by (show (_ : Prop)); first | omega | ((try dsimp only at *); (try simp only [lns] at *); omega), by (show (_ : Prop)); first | omega | ((try dsimp only at *); (try simp only [lns] at *); omega)⟩, ?_⟩ | refine ⟨fun (r : List AV) hr c hc => by simp [encS] at hr; (try subst hr); simp at hc; (try subst hc); rfl, ?_⟩ | refine ⟨noOwn (by rfl), ?_⟩)
  refine ⟨(((opsOf s).getD []), 1), rfl, fun _ => ⟨hdl, by show (0 : Int) ≤ 1; decide, by show (1 : Int) ≤ 1099511627776; decide⟩, ?_⟩
  repeat ((conv => whnf); first | refine ⟨fun h => h, ?_⟩ | refine ⟨(by kernel_rfl : drawOk _ _ = true), ?_⟩ | refine ⟨fun (h : gtrue _) => by first | assumption | exact absurd (Eq.trans (Eq.symm h) (by assumption) : true = false) Bool.noConfusion, ?_⟩ | refine ⟨fun h => (absurd (Eq.trans (Eq.symm h) (by assumption) : true = false) Bool.noConfusion : False), ?_⟩ | refine ⟨_, w64 (by (show (_ : Prop)); first | omega | ((try dsimp only at *); (try simp only [lns] at *); omega)), ?_⟩ | refine ⟨fun _ => ⟨by (show (_ : Prop)); first | omega | ((try dsimp only at *); (try simp only [lns] at *); omega), by (show (_ : Prop)); first | omega | ((try dsimp only at *); (try simp only [lns] at *); omega), by (show (_ : Prop)); first | omega | ((try dsimp only at *); (try simp only [lns] at *); omega)⟩, ?_⟩ | refine ⟨by (show (_ : Prop)); first | omega | ((try dsimp only at *); (try simp only [lns] at *); omega), ?_⟩ | refine ⟨fun h => ⟨by (show (_ : Prop)); first | omega | ((try dsimp only at *); (try simp only [lns] at *); omega), by (show (_ : Prop)); first | omega | ((try dsimp only at *); (try simp only [lns] at *); omega)⟩, ?_⟩ | refine ⟨fun (r : List AV) hr c hc => by simp [encS] at hr; (try subst hr); simp at hc; (try subst hc); rfl, ?_⟩ | refine ⟨noOwn (by rfl), ?_⟩)
  refine ⟨(((opsOf s).getD []).length, 1), by refine argRK ?_; simp; rw [List.take_of_length_le (by simp), toRdRows_mk (f := encO) (fun _ => rfl)], fun _ => ⟨hdl, by show (0 : Int) ≤ 1; decide, by show (1 : Int) ≤ 1099511627776; decide⟩, ?_⟩
  repeat ((conv => whnf); first | refine ⟨fun h => h, ?_⟩ | refine ⟨(by kernel_rfl : drawOk _ _ = true), ?_⟩ | refine ⟨fun (h : gtrue _) => by first | assumption | exact absurd (Eq.trans (Eq.symm h) (by assumption) : true = false) Bool.noConfusion, ?_⟩ | refine ⟨fun h => (absurd (Eq.trans (Eq.symm h) (by assumption) : true = false) Bool.noConfusion : False), ?_⟩ | refine ⟨_, w64 (by (show (_ : Prop)); first | omega | ((try dsimp only at *); (try simp only [lns] at *); omega)), ?_⟩ | refine ⟨fun _ => ⟨by (show (_ : Prop)); first | omega | ((try dsimp only at *); (try simp only [lns] at *); omega), by (show (_ : Prop)); first | omega | ((try dsimp only at *); (try simp only [lns] at *); omega), by (show (_ : Prop)); first | omega | ((try dsimp only at *); (try simp only [lns] at *); omega)⟩, ?_⟩ | refine ⟨by (show (_ : Prop)); first | omega | ((try dsimp only at *); (try simp only [lns] at *); omega), ?_⟩ | refine ⟨fun h => ⟨by (show (_ : Prop)); first | omega | ((try dsimp only at *); (try simp only [lns] at *); omega), by (show (_ : Prop)); first | omega | ((try dsimp only at *); (try simp only [lns] at *); omega)⟩, ?_⟩ | refine ⟨fun (r : List AV) hr c hc => by simp [encS] at hr; (try subst hr); simp at hc; (try subst hc); rfl, ?_⟩ | refine ⟨noOwn (by rfl), ?_⟩)
  conv => whnf
  refine ⟨fun h => ?_, fun _ => ?_⟩
  · have h : decide (1 + 6 * (((opsOf s).getD []).length : Int) < 0) = true := h
    simp at h
    omega
  repeat ((conv => whnf); first | refine ⟨fun h => h, ?_⟩ | refine ⟨(by kernel_rfl : drawOk _ _ = true), ?_⟩ | refine ⟨fun (h : gtrue _) => by first | assumption | exact absurd (Eq.trans (Eq.symm h) (by assumption) : true = false) Bool.noConfusion, ?_⟩ | refine ⟨fun h => (absurd (Eq.trans (Eq.symm h) (by assumption) : true = false) Bool.noConfusion : False), ?_⟩ | refine ⟨_, w64 (by (show (_ : Prop)); first | omega | ((try dsimp only at *); (try simp only [lns] at *); omega)), ?_⟩ | refine ⟨fun _ => ⟨by (show (_ : Prop)); first | omega | ((try dsimp only at *); (try simp only [lns] at *); omega), by (show (_ : Prop)); first | omega | ((try dsimp only at *); (try simp only [lns] at *); omega), by (show (_ : Prop)); first | omega | ((try dsimp only at *); (try simp only [lns] at *); omega)⟩, ?_⟩ | refine ⟨by (show (_ : Prop)); first | omega | ((try dsimp only at *); (try simp only [lns] at *); omega), ?_⟩ | refine ⟨fun h => ⟨by (show (_ : Prop)); first | omega | ((try dsimp only at *); (try simp only [lns] at *); omega), by (show (_ : Prop)); first | omega | ((try dsimp only at *); (try simp only [lns] at *); omega)⟩, ?_⟩ | refine ⟨fun (r : List AV) hr c hc => by simp [encS] at hr; (try subst hr); simp at hc; (try subst hc); rfl, ?_⟩ | refine ⟨noOwn (by rfl), ?_⟩)
  conv => whnf
  refine ⟨fun h => ?_, fun _ => ?_⟩
  · have h : ((1 + 6 * (((opsOf s).getD []).length : Int)) != (1 + 6 * (((opsOf s).getD []).length : Int))) = true := h
    simp at h
  repeat ((conv => whnf); first | refine ⟨fun h => h, ?_⟩ | refine ⟨(by kernel_rfl : drawOk _ _ = true), ?_⟩ | refine ⟨fun (h : gtrue _) => by first | assumption | exact absurd (Eq.trans (Eq.symm h) (by assumption) : true = false) Bool.noConfusion, ?_⟩ | refine ⟨fun h => (absurd (Eq.trans (Eq.symm h) (by assumption) : true = false) Bool.noConfusion : False), ?_⟩ | refine ⟨_, w64 (by (show (_ : Prop)); first | omega | ((try dsimp only at *); (try simp only [lns] at *); omega)), ?_⟩ | refine ⟨fun _ => ⟨by (show (_ : Prop)); first | omega | ((try dsimp only at *); (try simp only [lns] at *); omega), by (show (_ : Prop)); first | omega | ((try dsimp only at *); (try simp only [lns] at *); omega), by (show (_ : Prop)); first | omega | ((try dsimp only at *); (try simp only [lns] at *); omega)⟩, ?_⟩ | refine ⟨by (show (_ : Prop)); first | omega | ((try dsimp only at *); (try simp only [lns] at *); omega), ?_⟩ | refine ⟨fun h => ⟨by (show (_ : Prop)); first | omega | ((try dsimp only at *); (try simp only [lns] at *); omega), by (show (_ : Prop)); first | omega | ((try dsimp only at *); (try simp only [lns] at *); omega)⟩, ?_⟩ | refine ⟨fun (r : List AV) hr c hc => by simp [encS] at hr; (try subst hr); simp at hc; (try subst hc); rfl, ?_⟩ | refine ⟨noOwn (by rfl), ?_⟩)
  refine ⟨s, rfl, fun _ => h1, ?_⟩
  repeat ((conv => whnf); first | refine ⟨fun h => h, ?_⟩ | refine ⟨(by kernel_rfl : drawOk _ _ = true), ?_⟩ | refine ⟨fun (h : gtrue _) => by first | assumption | exact absurd (Eq.trans (Eq.symm h) (by assumption) : true = false) Bool.noConfusion, ?_⟩ | refine ⟨fun h => (absurd (Eq.trans (Eq.symm h) (by assumption) : true = false) Bool.noConfusion : False), ?_⟩ | refine ⟨_, w64 (by (show (_ : Prop)); first | omega | ((try dsimp only at *); (try simp only [lns] at *); omega)), ?_⟩ | refine ⟨fun _ => ⟨by (show (_ : Prop)); first | omega | ((try dsimp only at *); (try simp only [lns] at *); omega), by (show (_ : Prop)); first | omega | ((try dsimp only at *); (try simp only [lns] at *); omega), by (show (_ : Prop)); first | omega | ((try dsimp only at *); (try simp only [lns] at *); omega)⟩, ?_⟩ | refine ⟨by (show (_ : Prop)); first | omega | ((try dsimp only at *); (try simp only [lns] at *); omega), ?_⟩ | refine ⟨fun h => ⟨by (show (_ : Prop)); first | omega | ((try dsimp only at *); (try simp only [lns] at *); omega), by (show (_ : Prop)); first | omega | ((try dsimp only at *); (try simp only [lns] at *); omega)⟩, ?_⟩ | refine ⟨fun (r : List AV) hr c hc => by simp [encS] at hr; (try subst hr); simp at hc; (try subst hc); rfl, ?_⟩ | refine ⟨noOwn (by rfl), ?_⟩)
  refine ⟨((opsOf s).getD []), by refine argPP ?_ ?_ <;> simp [rdO], fun _ => hdl, ?_⟩
  repeat ((conv => whnf); first | refine ⟨fun h => h, ?_⟩ | refine ⟨(by kernel_rfl : drawOk _ _ = true), ?_⟩ | refine ⟨fun (h : gtrue _) => by first | assumption | exact absurd (Eq.trans (Eq.symm h) (by assumption) : true = false) Bool.noConfusion, ?_⟩ | refine ⟨fun h => (absurd (Eq.trans (Eq.symm h) (by assumption) : true = false) Bool.noConfusion : False), ?_⟩ | refine ⟨_, w64 (by (show (_ : Prop)); first | omega | ((try dsimp only at *); (try simp only [lns] at *); omega)), ?_⟩ | refine ⟨fun _ => ⟨by (show (_ : Prop)); first | omega | ((try dsimp only at *); (try simp only [lns] at *); omega), by (show (_ : Prop)); first | omega | ((try dsimp only at *); (try simp only [lns] at *); omega), by (show (_ : Prop)); first | omega | ((try dsimp only at *); (try simp only [lns] at *); omega)⟩, ?_⟩ | refine ⟨by (show (_ : Prop)); first | omega | ((try dsimp only at *); (try simp only [lns] at *); omega), ?_⟩ | refine ⟨fun h => ⟨by (show (_ : Prop)); first | omega | ((try dsimp only at *); (try simp only [lns] at *); omega), by (show (_ : Prop)); first | omega | ((try dsimp only at *); (try simp only [lns] at *); omega)⟩, ?_⟩ | refine ⟨fun (r : List AV) hr c hc => by simp [encS] at hr; (try subst hr); simp at hc; (try subst hc); rfl, ?_⟩ | refine ⟨noOwn (by rfl), ?_⟩)
  conv => whnf
  refine ⟨fun h => ?_, fun _ => ?_⟩
  · have h : (!true || ((opsOf s).isSome != (opsOf s).isSome)) = true := h
    simp at h
  repeat ((conv => whnf); first | refine ⟨fun h => h, ?_⟩ | refine ⟨(by kernel_rfl : drawOk _ _ = true), ?_⟩ | refine ⟨fun (h : gtrue _) => by first | assumption | exact absurd (Eq.trans (Eq.symm h) (by assumption) : true = false) Bool.noConfusion, ?_⟩ | refine ⟨fun h => (absurd (Eq.trans (Eq.symm h) (by assumption) : true = false) Bool.noConfusion : False), ?_⟩ | refine ⟨_, w64 (by (show (_ : Prop)); first | omega | ((try dsimp only at *); (try simp only [lns] at *); omega)), ?_⟩ | refine ⟨fun _ => ⟨by (show (_ : Prop)); first | omega | ((try dsimp only at *); (try simp only [lns] at *); omega), by (show (_ : Prop)); first | omega | ((try dsimp only at *); (try simp only [lns] at *); omega), by (show (_ : Prop)); first | omega | ((try dsimp only at *); (try simp only [lns] at *); omega)⟩, ?_⟩ | refine ⟨by (show (_ : Prop)); first | omega | ((try dsimp only at *); (try simp only [lns] at *); omega), ?_⟩ | refine ⟨fun h => ⟨by (show (_ : Prop)); first | omega | ((try dsimp only at *); (try simp only [lns] at *); omega), by (show (_ : Prop)); first | omega | ((try dsimp only at *); (try simp only [lns] at *); omega)⟩, ?_⟩ | refine ⟨fun (r : List AV) hr c hc => by simp [encS] at hr; (try subst hr); simp at hc; (try subst hc); rfl, ?_⟩ | refine ⟨noOwn (by rfl), ?_⟩)
  refine ⟨(((opsOf s).getD []).length, 1), by refine argRK ?_; simp; rw [List.take_of_length_le (by simp), toRdRows_mk (f := encO) (fun _ => rfl)], fun _ => ⟨hdl, by show (0 : Int) ≤ 1; decide, by show (1 : Int) ≤ 1099511627776; decide⟩, ?_⟩
  repeat ((conv => whnf); first | refine ⟨fun h => h, ?_⟩ | refine ⟨(by kernel_rfl : drawOk _ _ = true), ?_⟩ | refine ⟨fun (h : gtrue _) => by first | assumption | exact absurd (Eq.trans (Eq.symm h) (by assumption) : true = false) Bool.noConfusion, ?_⟩ | refine ⟨fun h => (absurd (Eq.trans (Eq.symm h) (by assumption) : true = false) Bool.noConfusion : False), ?_⟩ | refine ⟨_, w64 (by (show (_ : Prop)); first | omega | ((try dsimp only at *); (try simp only [lns] at *); omega)), ?_⟩ | refine ⟨fun _ => ⟨by (show (_ : Prop)); first | omega | ((try dsimp only at *); (try simp only [lns] at *); omega), by (show (_ : Prop)); first | omega | ((try dsimp only at *); (try simp only [lns] at *); omega), by (show (_ : Prop)); first | omega | ((try dsimp only at *); (try simp only [lns] at *); omega)⟩, ?_⟩ | refine ⟨by (show (_ : Prop)); first | omega | ((try dsimp only at *); (try simp only [lns] at *); omega), ?_⟩ | refine ⟨fun h => ⟨by (show (_ : Prop)); first | omega | ((try dsimp only at *); (try simp only [lns] at *); omega), by (show (_ : Prop)); first | omega | ((try dsimp only at *); (try simp only [lns] at *); omega)⟩, ?_⟩ | refine ⟨fun (r : List AV) hr c hc => by simp [encS] at hr; (try subst hr); simp at hc; (try subst hc); rfl, ?_⟩ | refine ⟨noOwn (by rfl), ?_⟩)
  conv => whnf
  refine ⟨fun h => ?_, fun _ => ?_⟩
  · have h : decide (1 + 6 * (((opsOf s).getD []).length : Int) < 0) = true := h
    simp at h
    omega
  repeat ((conv => whnf); first | refine ⟨fun h => h, ?_⟩ | refine ⟨(by kernel_rfl : drawOk _ _ = true), ?_⟩ | refine ⟨fun (h : gtrue _) => by first | assumption | exact absurd (Eq.trans (Eq.symm h) (by assumption) : true = false) Bool.noConfusion, ?_⟩ | refine ⟨fun h => (absurd (Eq.trans (Eq.symm h) (by assumption) : true = false) Bool.noConfusion : False), ?_⟩ | refine ⟨_, w64 (by (show (_ : Prop)); first | omega | ((try dsimp only at *); (try simp only [lns] at *); omega)), ?_⟩ | refine ⟨fun _ => ⟨by (show (_ : Prop)); first | omega | ((try dsimp only at *); (try simp only [lns] at *); omega), by (show (_ : Prop)); first | omega | ((try dsimp only at *); (try simp only [lns] at *); omega), by (show (_ : Prop)); first | omega | ((try dsimp only at *); (try simp only [lns] at *); omega)⟩, ?_⟩ | refine ⟨by (show (_ : Prop)); first | omega | ((try dsimp only at *); (try simp only [lns] at *); omega), ?_⟩ | refine ⟨fun h => ⟨by (show (_ : Prop)); first | omega | ((try dsimp only at *); (try simp only [lns] at *); omega), by (show (_ : Prop)); first | omega | ((try dsimp only at *); (try simp only [lns] at *); omega)⟩, ?_⟩ | refine ⟨fun (r : List AV) hr c hc => by simp [encS] at hr; (try subst hr); simp at hc; (try subst hc); rfl, ?_⟩ | refine ⟨noOwn (by rfl), ?_⟩)
  conv => whnf
  refine ⟨fun h => ?_, fun _ => ?_⟩
  · have h : ((1 + 6 * (((opsOf s).getD []).length : Int)) != (1 + 6 * (((opsOf s).getD []).length : Int))) = true := h
    simp at h
  repeat ((conv => whnf); first | refine ⟨fun h => h, ?_⟩ | refine ⟨(by kernel_rfl : drawOk _ _ = true), ?_⟩ | refine ⟨fun (h : gtrue _) => by first | assumption | exact absurd (Eq.trans (Eq.symm h) (by assumption) : true = false) Bool.noConfusion, ?_⟩ | refine ⟨fun h => (absurd (Eq.trans (Eq.symm h) (by assumption) : true = false) Bool.noConfusion : False), ?_⟩ | refine ⟨_, w64 (by (show (_ : Prop)); first | omega | ((try dsimp only at *); (try simp only [lns] at *); omega)), ?_⟩ | refine ⟨fun _ => ⟨by (show (_ : Prop)); first | omega | ((try dsimp only at *); (try simp only [lns] at *); omega), by (show (_ : Prop)); first | omega | ((try dsimp only at *); (try simp only [lns] at *); omega), by (show (_ : Prop)); first | omega | ((try dsimp only at *); (try simp only [lns] at *); omega)⟩, ?_⟩ | refine ⟨by (show (_ : Prop)); first | omega | ((try dsimp only at *); (try simp only [lns] at *); omega), ?_⟩ | refine ⟨fun h => ⟨by (show (_ : Prop)); first | omega | ((try dsimp only at *); (try simp only [lns] at *); omega), by (show (_ : Prop)); first | omega | ((try dsimp only at *); (try simp only [lns] at *); omega)⟩, ?_⟩ | refine ⟨fun (r : List AV) hr c hc => by simp [encS] at hr; (try subst hr); simp at hc; (try subst hc); rfl, ?_⟩ | refine ⟨noOwn (by rfl), ?_⟩)
  exact ⟨trivial, rfl⟩
theorem ok_laws_FnExactOpsOf : ConOk Tryd.prog 6 c_laws_FnExactOpsOf := meets_ok (tabT _ _) (FOk.cons ok_laws_eqOpS (FOk.cons ok_spec_OpsOf (FOk.cons ok_impl_OpsOf (FOk.cons ok_laws_markOpS (FOk.cons ok_laws_heldOpS FOk.nil))))) mixed Tryd.func6 rfl Tryd.call6 (by decide) (by kernel_rfl) m_laws_FnExactOpsOf (by intro _ (y : Str) _; exact ⟨by simp [c_laws_FnExactOpsOf, con, conG, conW, AV.noRd, noRdCells, noRdRows, noRdRows_map', encS, encO], by simp [c_laws_FnExactOpsOf, con, conG, conW, AV.noRd, noRdCells, noRdRows, noRdRows_map', encS, encO]⟩) (by intro (y : Str) _; first | (simp [c_laws_FnExactOpsOf, con, conG, conW, conP, AV.free, freeCells, freeRows, freeRows_map, encS, encO]; done) | (obtain ⟨_, _⟩ := y; simp [c_laws_FnExactOpsOf, con, conG, conW, conP, AV.free, freeCells, freeRows, freeRows_map, encS, encO]; done) | (obtain ⟨_, _, _⟩ := y; simp [c_laws_FnExactOpsOf, con, conG, conW, conP, AV.free, freeCells, freeRows, freeRows_map, encS, encO]; done))
end Go.GH

