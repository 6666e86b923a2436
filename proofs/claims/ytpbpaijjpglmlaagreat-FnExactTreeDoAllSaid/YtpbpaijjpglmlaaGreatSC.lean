import Derived.Test.YtpbpaijjpglmlaaGreatSB
import Derived.Lib.Strings
set_option linter.unusedVariables false
set_option linter.unusedSimpArgs false
set_option linter.unusedSimpArgs false
namespace Go.GH
open Go Go.Proofs
noncomputable def c_impl_treeDrop : PCon := con [.co [some 4], .rd [none, none, none, none, none, none]] false (Tr × OpR) (fun ⟨t, o⟩ => [.agg [.own 4 (t.map encI)], .agg (encO o)]) (fun x => treeOk x.1 = true ∧ smT x.1 ∧ smO x.2 ∧ badP x.2.path = false) (fun x => .tup [.agg [.own 4 ((tDrop x.1 x.2).1.map encI)], .int .i64 (tDrop x.1 x.2).2])
noncomputable def E_impl_treeDrop : Env := ⟨lookup tyTab, lookup [(47, c_impl_itemAt), (142, c_slices_ContainsFunc_Item), (144, c_slices_Delete_Item)], [0, 1, 2, 3, 4, 5, 6, 11, 15, 28]⟩
set_option maxRecDepth 100000 in
set_option maxHeartbeats 4000000 in
theorem m_impl_treeDrop : Meets E_impl_treeDrop (codeOf Tryz.f109) Tryz.f109.results.toList c_impl_treeDrop := by
  rintro ⟨t, o⟩ hs
  obtain ⟨ok, hs1, hs2, hs3⟩ : treeOk t = true ∧ smT t ∧ smO o ∧ badP o.path = false := hs
  have hl := treeOk_len ok
  have hsrt := treeOk_srt ok
  have ho1 := hs2.1
  have hg := fnd_some (t := t) hs3
  refine ⟨trivial, ?_⟩
  skip
  refine ⟨(t, o.path), by refine congrArg (fun x => [AV.agg [AV.rd 4 x], AV.str o.path]) ?_; simp [rdI], fun _ => hs1, ?_⟩
  skip
  (conv => whnf); refine ⟨fun h1 => ?_, fun h1 => ?_⟩
  · have h1 : fnd (fun y => y.path == o.path) t < 0 := by simpa using h1
    have hx : treeGet t o.path = none := by
      have : (treeGet t o.path).isSome = false := by rw [hg, decide_eq_false]; omega
      simpa using this
    have hr : tDrop t o = (t, 2) := by simp [tDrop, hx]
    rw [show c_impl_treeDrop.res (t, o) = .tup [.agg [.own 4 (t.map encI)], .int .i64 2] by show AV.tup [.agg [.own 4 ((tDrop t o).1.map encI)], .int .i64 (tDrop t o).2] = _; rw [hr]]
    skip
    exact ⟨trivial, ⟨⟨rfl, by first | (simp; done) | (simp; rfl)⟩, trivial⟩, rfl, trivial⟩
  have h1 : ¬ fnd (fun y => y.path == o.path) t < 0 := by simpa using h1
  obtain ⟨x, hx⟩ : ∃ x, treeGet t o.path = some x := by
    rw [decide_eq_true (show fnd (fun y : It => y.path == o.path) t ≥ 0 by omega)] at hg
    exact Option.isSome_iff_exists.1 hg
  obtain ⟨hat, h0, hxp⟩ := fnd_at hs3 hx
  have hlt : fnd (fun y => y.path == o.path) t < t.length := by
    have := (List.getElem?_eq_some_iff.1 hat).1
    omega
  have hlt2 : fnd (fun y => y.path == o.path) t < ((List.map encI t).length : Nat) := by rw [List.length_map]; exact hlt
  have hcell : (List.take (List.map encI t).length (List.drop 0 (List.map encI t)))[0 + (fnd (fun y => y.path == o.path) t).toNat]? = some (encI x) := by
    rw [List.drop_zero, List.take_length, Nat.zero_add]
    exact get_map hat
  have hbusy := busy_eq (p := o.path) ok
  have hdrop := drop_at hsrt hat
  rw [hxp] at hdrop
  repeat ((conv => whnf); first | refine ⟨(by kernel_rfl : drawOk _ _ = true), ?_⟩ | refine ⟨by (show (_ : Prop)); first | omega | ((try dsimp only at *); (try simp only [lns] at *); omega), ?_⟩ | refine ⟨encI x, fun _ => hcell, ?_⟩)
  (conv => whnf); refine ⟨fun h2 => ?_, fun h2 => ?_⟩
  · have h2 : ((x.kind == 2) != (o.kind == 7)) = true := h2
    have hr : tDrop t o = (t, 4) := by simp only [tDrop, hx]; rw [if_pos h2]
    rw [show c_impl_treeDrop.res (t, o) = .tup [.agg [.own 4 (t.map encI)], .int .i64 4] by show AV.tup [.agg [.own 4 ((tDrop t o).1.map encI)], .int .i64 (tDrop t o).2] = _; rw [hr]]
    skip
    exact ⟨trivial, ⟨⟨rfl, by first | (simp; done) | (simp; rfl)⟩, trivial⟩, rfl, trivial⟩
  have h2 : ((x.kind == 2) != (o.kind == 7)) = false := h2
  skip
  refine ⟨(t, o), by refine congrArg (fun x => [AV.rd 4 x, AV.fn 143 [.pin (encO o)]]) ?_; simp [rdI], fun _ => hs1, ?_⟩
  skip
  (conv => whnf); refine ⟨fun h3 => ?_, fun h3 => ?_⟩
  · have h3 : (t.any fun y => above y.path == o.path) = true := h3
    have hr : tDrop t o = (t, 8) := by simp only [tDrop, hx]; rw [if_neg (by rw [h2]; decide), if_pos (by rw [hbusy]; exact h3)]
    rw [show c_impl_treeDrop.res (t, o) = .tup [.agg [.own 4 (t.map encI)], .int .i64 8] by show AV.tup [.agg [.own 4 ((tDrop t o).1.map encI)], .int .i64 (tDrop t o).2] = _; rw [hr]]
    skip
    exact ⟨trivial, ⟨⟨rfl, by first | (simp; done) | (simp; rfl)⟩, trivial⟩, rfl, trivial⟩
  have h3 : (t.any fun y => above y.path == o.path) = false := h3
  have hr : tDrop t o = (delT t (fnd (fun y => y.path == o.path) t).toNat, 0) := by simp only [tDrop, hx]; rw [if_neg (by rw [h2]; decide), if_neg (by rw [hbusy, h3]; decide), hdrop]; rfl
  repeat ((conv => whnf); refine ⟨_, w64 (by (show (_ : Prop)); first | omega | ((try dsimp only at *); (try simp only [lns] at *); omega)), ?_⟩)
  refine ⟨(t, (fnd (fun y => y.path == o.path) t).toNat), by
    have e : ((fnd (fun y => y.path == o.path) t).toNat : Int) = fnd (fun y => y.path == o.path) t := Int.toNat_of_nonneg h0
    show [AV.own 4 _, AV.int .i64 (fnd (fun y => y.path == o.path) t), AV.int .i64 (fnd (fun y => y.path == o.path) t + 1)] = [AV.own 4 (t.map encI), AV.int .i64 ((fnd (fun y => y.path == o.path) t).toNat : Int), AV.int .i64 (((fnd (fun y => y.path == o.path) t).toNat + 1 : Nat) : Int)]
    rw [Int.natCast_add, e]
    simp, fun _ => ⟨by show (fnd (fun y => y.path == o.path) t).toNat < t.length; omega, hs1.1⟩, ?_⟩
  rw [show c_impl_treeDrop.res (t, o) = .tup [.agg [.own 4 ((delT t (fnd (fun y => y.path == o.path) t).toNat).map encI)], .int .i64 0] by show AV.tup [.agg [.own 4 ((tDrop t o).1.map encI)], .int .i64 (tDrop t o).2] = _; rw [hr]]
  skip
  exact ⟨trivial, ⟨⟨rfl, by first | (simp; done) | (simp; rfl)⟩, trivial⟩, rfl, trivial⟩
theorem ok_impl_treeDrop : ConOk Tryz.prog 109 c_impl_treeDrop := meets_ok (tabT _ _) (FOk.cons ok_impl_itemAt (FOk.cons ok_slices_ContainsFunc_Item (FOk.cons ok_slices_Delete_Item FOk.nil))) mixed Tryz.func109 rfl Tryz.call109 (by decide) (by kernel_rfl) m_impl_treeDrop (by intro _ (y : (Tr × OpR)) _; exact ⟨by simp [c_impl_treeDrop, con, conG, conW, AV.noRd, noRdCells, noRdRows, noRdRows_map', encS, encI, encO], by simp [c_impl_treeDrop, con, conG, conW, AV.noRd, noRdCells, noRdRows, noRdRows_map', encS, encI, encO]⟩) (by intro (y : (Tr × OpR)) _; first | (simp [c_impl_treeDrop, con, conG, conW, conP, AV.free, freeCells, freeRows, freeRows_map, encS, encI, encO]; done) | (obtain ⟨_, _⟩ := y; simp [c_impl_treeDrop, con, conG, conW, conP, AV.free, freeCells, freeRows, freeRows_map, encS, encI, encO]; done) | (obtain ⟨_, _, _⟩ := y; simp [c_impl_treeDrop, con, conG, conW, conP, AV.free, freeCells, freeRows, freeRows_map, encS, encI, encO]; done))
end Go.GH

set_option linter.unusedVariables false
set_option linter.unusedSimpArgs false
namespace Go.GH
open Go
def impI (o : OpR) (x : It) : It := ⟨o.to ++ x.path.drop o.path.length, x.kind, x.data, x.time⟩
def junk (o : OpR) : Tr → Tr
  | [] => []
  | x :: l => if stuck o x then impI o x :: l else moved o x :: junk o l
theorem junk_at {o : OpR} {y : It} : ∀ {t : Tr} {i : Nat}, (t.take i).any (stuck o) = false → t[i]? = some y → stuck o y = true → junk o t = (t.take i).map (moved o) ++ impI o y :: t.drop (i + 1)
  | [], i, h1, h2, h3 => by simp at h2
  | x :: t, 0, h1, h2, h3 => by
    simp only [List.getElem?_cons_zero, Option.some.injEq] at h2
    subst h2
    simp [junk, h3]
  | x :: t, i + 1, h1, h2, h3 => by
    simp only [List.take_succ_cons, List.any_cons, Bool.or_eq_false_iff] at h1
    simp only [List.getElem?_cons_succ] at h2
    simp [junk, h1.1, junk_at h1.2 h2 h3]
def mixT (t : Tr) (o : OpR) (i : Nat) : Tr := (t.take i).map (moved o) ++ t.drop i
theorem mixT_len {t : Tr} {o : OpR} {i : Nat} : (mixT t o i).length = t.length := by simp [mixT]; omega
theorem mixT_at {t : Tr} {o : OpR} {i : Nat} {y : It} (h : t[i]? = some y) : (mixT t o i)[i]? = some y ∧ (∀ z, (mixT t o i).set i z = (t.take i).map (moved o) ++ z :: t.drop (i + 1)) ∧ (mixT t o i).set i (moved o y) = mixT t o (i + 1) := by
  have hl := (List.getElem?_eq_some_iff.1 h).1
  have hd : t.drop i = y :: t.drop (i + 1) := by rw [List.drop_eq_getElem_cons hl, (List.getElem?_eq_some_iff.1 h).2]
  have h1 : ((t.take i).map (moved o)).length = i := by simp; omega
  have hs : ∀ z, (mixT t o i).set i z = (t.take i).map (moved o) ++ z :: t.drop (i + 1) := fun z => by
    rw [mixT, List.set_append_right _ _ (by omega), h1, Nat.sub_self, hd, List.set_cons_zero]
  refine ⟨?_, hs, ?_⟩
  · rw [mixT, List.getElem?_append_right (by omega), h1, Nat.sub_self, hd]; rfl
  · rw [hs, mixT, take_succ' h, List.map_append, List.append_assoc]; rfl
theorem mixT_all {t : Tr} {o : OpR} : mixT t o t.length = t.map (moved o) := by simp [mixT]
def renI (t : Tr) (o : OpR) : Tr × Int :=
  if !(treeGet t o.path).isSome then (t, 2)
  else if roomC t o.to != 0 then (t, roomC t o.to)
  else if t.any (stuck o) then (junk o t, 1)
  else (sortT (t.map (moved o)), 0)
theorem renI_spec {t : Tr} {o : OpR} (ok : treeOk t = true) (ho : badP o.path = false) (ht : badP o.to = false) : (renI t o).2 = (tRen t o).2 ∧ ((tRen t o).2 = 0 → (renI t o).1 = (tRen t o).1) ∧ ((tRen t o).2 ≠ 0 → (tRen t o).1 = t) := by
  unfold renI tRen
  cases h1 : !(treeGet t o.path).isSome with
  | true => simp
  | false =>
    simp only [if_neg (Bool.false_ne_true)]
    cases h2 : (roomC t o.to != 0) with
    | true =>
      simp only [if_pos rfl]
      have hne : roomC t o.to ≠ 0 := by simpa using h2
      rcases room_bad h2 with ⟨h3, h4⟩ | ⟨h3, h4, h5⟩
      · simp only [h3, if_pos rfl, h4]
        exact ⟨rfl, fun h => absurd (h4 ▸ h) (h4 ▸ hne), fun _ => rfl⟩
      · simp only [h3, if_neg (Bool.false_ne_true), h4, if_pos rfl, h5]
        exact ⟨rfl, fun h => by simp at h, fun _ => rfl⟩
    | false =>
      obtain ⟨h3, h4⟩ := room_ok h2
      simp only [if_neg (Bool.false_ne_true), h3, h4]
      cases h5 : t.any (stuck o) with
      | true => simp
      | false =>
        simp only [if_neg (Bool.false_ne_true)]
        exact ⟨by first | rfl | trivial, fun _ => (fold_sort (moved_dst ok ho ht h4 h5)).symm, fun h => by simp at h⟩
theorem within_pre {o : OpR} {x : It} (ho : badP o.path = false) (h : withinP x.path o.path = true) : o.path.isPrefixOf x.path = true := by
  simp only [badP, Bool.or_eq_false_iff] at ho
  obtain ⟨r, h1, h2, _⟩ := below_cat ho.2 h
  rw [h2]
  simp
theorem set_self {l : Tr} {i : Nat} {y : It} (h : l[i]? = some y) : l.set i y = l := by
  obtain ⟨h1, h2⟩ := List.getElem?_eq_some_iff.1 h
  rw [← h2, List.set_getElem_self]
theorem item_len {t : Tr} (ok : treeOk t = true) {x : It} (hx : x ∈ t) : x.path.length ≤ 100 := by
  have hi := treeOk_item ok hx
  have hsl := item_path hi
  simp only [itemOk, Bool.and_eq_true] at hi
  have h1 := (cat_names hi.1.1.1 hsl).1
  have h2 := cat_len (names x.path)
  have h3 := names_len (p := x.path)
  have h4 := names_sum (p := x.path)
  rw [← h1] at h2
  omega
theorem new_keep {t : Tr} {o : OpR} (h : (tNew t o).2 ≠ 0) : (tNew t o).1 = t := by
  unfold tNew at h ⊢
  split at h
  · rw [if_pos (by assumption)]
  rw [if_neg (by assumption)]
  split at h
  · rw [if_pos (by assumption)]
  rw [if_neg (by assumption)]
  split at h
  · rw [if_pos (by assumption)]
  rw [if_neg (by assumption)]
  split at h
  · rw [if_pos (by assumption)]
  exact absurd rfl h
theorem set_keep {t : Tr} {o : OpR} (h : (tSet t o).2 ≠ 0) : (tSet t o).1 = t := by
  unfold tSet at h ⊢
  cases hx : treeGet t o.path with
  | none => rfl
  | some x =>
    rw [hx] at h
    dsimp only at h ⊢
    split at h
    · rw [if_pos (by assumption)]
    rw [if_neg (by assumption)]
    split at h
    · rw [if_pos (by assumption)]
    exact absurd rfl h
theorem drop_keep {t : Tr} {o : OpR} (h : (tDrop t o).2 ≠ 0) : (tDrop t o).1 = t := by
  unfold tDrop at h ⊢
  cases hx : treeGet t o.path with
  | none => rfl
  | some x =>
    rw [hx] at h
    dsimp only at h ⊢
    split at h
    · rw [if_pos (by assumption)]
    rw [if_neg (by assumption)]
    split at h
    · rw [if_pos (by assumption)]
    exact absurd rfl h
theorem argTP {s s2 : Nat} {x x' y y' : List (List AV)} (h1 : x = x') (h2 : y = y') : [AV.agg [AV.rd s x], AV.rd s2 y] = [AV.agg [AV.rd s x'], AV.rd s2 y'] := by rw [h1, h2]
theorem doAll_fin {t : Tr} {l : List OpR} (ht : smT t) (hl : smOL l) : smT (doAll t l).1 ∧ (doAll t l).2.length = l.length := by
  have := doAll_sm ht hl l.length (Nat.le_refl _)
  rw [List.take_length] at this
  exact this
end Go.GH

set_option linter.unusedVariables false
set_option linter.unusedSimpArgs false
namespace Go.GH
open Go Go.Proofs
def c_strings_TrimPrefix : PCon := con [mC, mC] true (Str × Str) (fun ⟨p, q⟩ => [.str p, .str q]) (fun x => x.2.isPrefixOf x.1 = true) (fun x => .str (x.1.drop x.2.length))
theorem ok_strings_TrimPrefix : ConOk Tryz.prog 145 c_strings_TrimPrefix := by
  refine con_of_calls rfl (fun _ => rfl) (fun _ => rfl) (fun _ => rfl) (fun ⟨_, _⟩ _ => ⟨trivial, trivial, trivial⟩) Tryz.call145 ?_
  rintro ⟨l, p⟩ hpre y w args ρ hw hR hsz hs
  have hpre : p.isPrefixOf l = true := hpre
  have h0 := srep_str (hs 0 _ rfl)
  have h1 := srep_str (hs 1 _ rfl)
  have ha := args_two hsz h0 h1
  rw [ha]
  refine (Tryz.strings_TrimPrefix (toB l) (toB p) w).mono ?_
  rintro e w' ⟨rfl, rfl⟩
  refine ⟨?_, RowKit.Below.refl _ _⟩
  have : Lib.trimPrefix l p = l.drop p.length := by
    unfold Lib.trimPrefix
    rw [if_pos]
    exact hpre
  show Ending.returned (.string ⟨(Lib.trimPrefix l p).toArray⟩) = _
  rw [this]
  rfl
noncomputable def c_impl_treeRename : PCon := con [.co [some 4], .rd [none, none, none, none, none, none]] false (Tr × OpR) (fun ⟨t, o⟩ => [.agg [.own 4 (t.map encI)], .agg (encO o)]) (fun x => treeOk x.1 = true ∧ smT x.1 ∧ smO x.2 ∧ badP x.2.path = false ∧ badP x.2.to = false) (fun x => .tup [.agg [.own 4 ((renI x.1 x.2).1.map encI)], .int .i64 (renI x.1 x.2).2])
noncomputable def E_impl_treeRename : Env := ⟨lookup tyTab, lookup [(44, c_impl_Within), (47, c_impl_itemAt), (66, c_slices_SortFunc_Item), (83, c_impl_PathOk), (139, c_impl_room), (145, c_strings_TrimPrefix)], [0, 1, 2, 3, 4, 5, 6, 7, 8, 13, 20, 24, 25, 26, 27, 35, 56]⟩
set_option maxRecDepth 100000 in
set_option maxHeartbeats 4000000 in
theorem m_impl_treeRename : Meets E_impl_treeRename (codeOf Tryz.f110) Tryz.f110.results.toList c_impl_treeRename := by
  rintro ⟨t, o⟩ hs
  obtain ⟨ok, hs1, hs2, hs3, hs4⟩ : treeOk t = true ∧ smT t ∧ smO o ∧ badP o.path = false ∧ badP o.to = false := hs
  have hl := treeOk_len ok
  have hsrt := treeOk_srt ok
  have ho1 := hs2.1
  have ho2 := hs2.2.1
  have hg := fnd_some (t := t) hs3
  refine ⟨trivial, ?_⟩
  skip
  refine ⟨(t, o.path), by refine congrArg (fun x => [AV.agg [AV.rd 4 x], AV.str o.path]) ?_; simp [rdI], fun _ => hs1, ?_⟩
  skip
  (conv => whnf); refine ⟨fun h1 => ?_, fun h1 => ?_⟩
  · have h1 : decide (fnd (fun y => y.path == o.path) t ≥ 0) = false := by simpa using h1
    have hr : renI t o = (t, 2) := by rw [renI, hg, h1]; rfl
    rw [show c_impl_treeRename.res (t, o) = .tup [.agg [.own 4 (t.map encI)], .int .i64 2] by show AV.tup [.agg [.own 4 ((renI t o).1.map encI)], .int .i64 (renI t o).2] = _; rw [hr]]
    skip
    exact ⟨trivial, ⟨⟨rfl, by first | (simp; done) | (simp; rfl)⟩, trivial⟩, rfl, trivial⟩
  have h1 : decide (fnd (fun y => y.path == o.path) t ≥ 0) = true := by simpa using h1
  skip
  refine ⟨(t, o.to), by refine congrArg (fun x => [AV.agg [AV.rd 4 x], AV.str o.to]) ?_; simp [rdI], fun _ => ⟨hs1, by show o.to.length ≤ _; omega, hs4⟩, ?_⟩
  skip
  (conv => whnf); refine ⟨fun h2 => ?_, fun h2 => ?_⟩
  · have h2 : (roomC t o.to != 0) = true := h2
    have hr : renI t o = (t, roomC t o.to) := by rw [renI, hg, h1, h2]; rfl
    rw [show c_impl_treeRename.res (t, o) = .tup [.agg [.own 4 (t.map encI)], .int .i64 (roomC t o.to)] by show AV.tup [.agg [.own 4 ((renI t o).1.map encI)], .int .i64 (renI t o).2] = _; rw [hr]]
    skip
    exact ⟨trivial, ⟨⟨rfl, by first | (simp; done) | (simp; rfl)⟩, trivial⟩, rfl, trivial⟩
  have h2 : (roomC t o.to != 0) = false := h2
  have hren : renI t o = if t.any (stuck o) then (junk o t, 1) else (sortT (t.map (moved o)), 0) := by rw [renI, hg, h1, h2]; rfl
  obtain ⟨_, hno⟩ := room_ok h2
  skip
  refine loop_rule (fun i : Nat => ⟨[(2, ⟨none, .bx 1 0⟩), (3, ⟨none, .bx 2 0⟩), (4, ⟨none, .bx 3 0⟩), (5, ⟨none, .int .i64 0⟩), (24, ⟨none, .view 1 [(0, 0)] 0 t.length⟩), (25, ⟨none, .int .i64 t.length⟩), (26, ⟨none, .int .i64 i⟩)], [(3, .own 1 [[.own 4 []]]), (2, .own 6 [encO o]), (1, .own 1 [[.own 4 ((mixT t o i).map encI)]])], 4⟩)
    (fun i => i ≤ t.length ∧ (t.take i).any (stuck o) = false) (fun i => t.length - i) 0 ?_ ⟨by omega, rfl⟩ ?_
  · (refine ⟨?_, ?_, rfl⟩ <;> repeat' (first | exact rfl | exact trivial | refine ⟨?_, ?_⟩ | fail) <;> (conv => whnf))
    all_goals simp [mixT]
  rintro i ⟨hi, hI⟩
  (conv => whnf); refine ⟨fun h3 => ?_, fun h3 => ?_⟩
  · have h3 : i < t.length := by simpa using h3
    obtain ⟨y, hy⟩ := get_lt h3
    have hym := List.mem_of_getElem? hy
    have hyl := (hs1.2 y hym).1
    obtain ⟨m1, m2, m3⟩ := mixT_at (o := o) hy
    have hml := mixT_len (t := t) (o := o) (i := i)
    have hcell : ((mixT t o i).map encI)[0 + (i : Int).toNat]? = some (encI y) := by rw [Nat.zero_add, Int.toNat_natCast]; exact get_map m1
    have hidx : 0 + (i : Int).toNat < ((mixT t o i).map encI).length := by rw [List.length_map, hml]; omega
    have hlen2 : ((mixT t o i).map encI).length = t.length := by rw [List.length_map, hml]
    repeat ((conv => whnf); first | refine ⟨by (show (_ : Prop)); first | omega | ((try dsimp only at *); (try simp only [lns] at *); omega), ?_⟩ | refine ⟨encI y, fun _ => hcell, ?_⟩)
    refine ⟨(y.path, o.path), rfl, fun _ => ⟨hyl, by show o.path.length ≤ _; omega⟩, ?_⟩
    skip
    (conv => whnf); refine ⟨fun h4 => ?_, fun h4 => ?_⟩
    · have h4 : withinP y.path o.path = true := h4
      have hmi := moved_impl hs3 hs4 h4
      have hb : (0 : Int) ≤ (i : Int) ∧ (i : Int) < ((((mixT t o i).map encI).length : Nat) : Int) := ⟨by omega, by rw [hlen2]; omega⟩
      repeat ((conv => whnf); first | refine ⟨(by kernel_rfl : drawOk _ _ = true), ?_⟩ | refine ⟨fun (h : gtrue _) => by first | assumption | exact absurd (Eq.trans (Eq.symm h) (by assumption) : true = false) Bool.noConfusion, ?_⟩ | refine ⟨by (show (_ : Prop)); first | omega | ((try dsimp only at *); (try simp only [lns] at *); omega), ?_⟩ | refine ⟨(y.path, o.path), rfl, fun _ => within_pre hs3 h4, ?_⟩ | refine ⟨encI y, hcell, ?_⟩ | refine ⟨_, fun _ => set_get hidx, ?_⟩ | refine ⟨fun _ => ⟨hb.1, by rw [List.length_set]; exact hb.2⟩, ?_⟩)
      have hpl := item_len ok hym
      refine ⟨o.to ++ y.path.drop o.path.length, rfl, fun _ => by show (o.to ++ y.path.drop o.path.length).length ≤ 4194304; simp; omega, ?_⟩
      skip
      (conv => whnf); refine ⟨fun h5 => ?_, fun h5 => ?_⟩
      · have h5 : (!pathOk (o.to ++ y.path.drop o.path.length)) = true := h5
        have hst : stuck o y = true := by rw [hmi.1] at h5; simpa using h5
        have hr : renI t o = (junk o t, 1) := by rw [hren, if_pos (List.any_eq_true.2 ⟨y, hym, hst⟩)]
        have hj := junk_at hI hy hst
        rw [show c_impl_treeRename.res (t, o) = .tup [.agg [.own 4 (((mixT t o i).set i (impI o y)).map encI)], .int .i64 1] by show AV.tup [.agg [.own 4 ((renI t o).1.map encI)], .int .i64 (renI t o).2] = _; rw [hr, m2, hj]]
        skip
        refine ⟨trivial, ⟨⟨rfl, ?_⟩, trivial⟩, rfl, trivial⟩
        simp only [List.drop_zero, List.take_length, Nat.zero_add, Int.toNat_natCast, List.map_set]
        rfl
      have h5 : (!pathOk (o.to ++ y.path.drop o.path.length)) = false := h5
      have hst : stuck o y = false := by rw [hmi.1] at h5; simpa using h5
      have hmv : moved o y = ⟨o.to ++ y.path.drop o.path.length, y.kind, y.data, y.time⟩ := by
        rw [hmi.2 hst, moved, if_pos h4]
      repeat ((conv => whnf); refine ⟨_, w64 (by (show (_ : Prop)); first | omega | ((try dsimp only at *); (try simp only [lns] at *); omega)), ?_⟩)
      refine again (i + 1) ?_ ⟨h3, by rw [take_succ' hy, List.any_append, hI]; simp [hst]⟩ (by first | omega | (simp; done) | (simp; omega))
      (refine ⟨?_, ?_, rfl⟩ <;> repeat' (first | exact rfl | exact trivial | refine ⟨?_, ?_⟩ | fail) <;> (conv => whnf))
      rw [← m3, hmv]
      show [[AV.own 4 _]] = _
      rw [List.map_set, Nat.zero_add, Int.toNat_natCast]
      rfl
    have h4 : withinP y.path o.path = false := h4
    have hmo := moved_out (o := o) h4
    repeat ((conv => whnf); refine ⟨_, w64 (by (show (_ : Prop)); first | omega | ((try dsimp only at *); (try simp only [lns] at *); omega)), ?_⟩)
    refine again (i + 1) ?_ ⟨h3, by rw [take_succ' hy, List.any_append, hI]; simp [hmo.2]⟩ (by first | omega | (simp; done) | (simp; omega))
    (refine ⟨?_, ?_, rfl⟩ <;> repeat' (first | exact rfl | exact trivial | refine ⟨?_, ?_⟩ | fail) <;> (conv => whnf))
    rw [← m3, hmo.1, set_self m1]
  · have h3 : i = t.length := by
      have : ¬ i < t.length := by simpa using h3
      omega
    subst h3
    rw [List.take_length] at hI
    have hr : renI t o = (sortT (t.map (moved o)), 0) := by rw [hren, hI]; rfl
    have hd := moved_dst ok hs3 hs4 hno hI
    repeat ((conv => whnf); refine ⟨by (show (_ : Prop)); first | omega | ((try dsimp only at *); (try simp only [lns] at *); omega), ?_⟩)
    refine ⟨t.map (moved o), by refine congrArg (fun x => [AV.own 4 x, AV.fn 67 []]) ?_; rw [mixT_all], fun _ => ⟨hd, by rw [List.length_map]; exact hs1.1⟩, ?_⟩
    rw [show c_impl_treeRename.res (t, o) = .tup [.agg [.own 4 ((sortT (t.map (moved o))).map encI)], .int .i64 0] by show AV.tup [.agg [.own 4 ((renI t o).1.map encI)], .int .i64 (renI t o).2] = _; rw [hr]]
    skip
    exact ⟨trivial, ⟨⟨rfl, by first | (simp; done) | (simp; rfl)⟩, trivial⟩, rfl, trivial⟩
theorem ok_impl_treeRename : ConOk Tryz.prog 110 c_impl_treeRename := meets_ok (tabT _ _) (FOk.cons ok_impl_Within (FOk.cons ok_impl_itemAt (FOk.cons ok_slices_SortFunc_Item (FOk.cons ok_impl_PathOk (FOk.cons ok_impl_room (FOk.cons ok_strings_TrimPrefix FOk.nil)))))) mixed Tryz.func110 rfl Tryz.call110 (by decide) (by kernel_rfl) m_impl_treeRename (by intro _ (y : (Tr × OpR)) _; exact ⟨by simp [c_impl_treeRename, con, conG, conW, AV.noRd, noRdCells, noRdRows, noRdRows_map', encS, encI, encO], by simp [c_impl_treeRename, con, conG, conW, AV.noRd, noRdCells, noRdRows, noRdRows_map', encS, encI, encO]⟩) (by intro (y : (Tr × OpR)) _; first | (simp [c_impl_treeRename, con, conG, conW, conP, AV.free, freeCells, freeRows, freeRows_map, encS, encI, encO]; done) | (obtain ⟨_, _⟩ := y; simp [c_impl_treeRename, con, conG, conW, conP, AV.free, freeCells, freeRows, freeRows_map, encS, encI, encO]; done) | (obtain ⟨_, _, _⟩ := y; simp [c_impl_treeRename, con, conG, conW, conP, AV.free, freeCells, freeRows, freeRows_map, encS, encI, encO]; done))
end Go.GH

set_option linter.unusedVariables false
set_option linter.unusedSimpArgs false
namespace Go.GH
open Go Go.Proofs
noncomputable def c_impl_TreeDo : PCon := con [mS 4, .rd [none, none, none, none, none, none]] false (Tr × OpR) (fun ⟨t, o⟩ => [rdT t, .agg (encO o)]) (fun x => smT x.1 ∧ smO x.2) (fun x => .tup [.agg [.own 4 ((treeDo x.1 x.2).1.map encI)], .int .i64 (treeDo x.1 x.2).2])
noncomputable def E_impl_TreeDo : Env := ⟨lookup tyTab, lookup [(32, c_impl_TreeOk), (44, c_impl_Within), (58, c_impl_cloneTree), (105, c_impl_OpOk), (106, c_impl_TreeDo_1), (107, c_impl_treeAdd), (108, c_impl_treeSet), (109, c_impl_treeDrop), (110, c_impl_treeRename)], [0, 1, 2, 3, 4, 5, 6, 7, 8, 16, 40, 46, 47, 57, 67, 76, 85]⟩
set_option maxRecDepth 100000 in
set_option maxHeartbeats 4000000 in
theorem m_impl_TreeDo : Meets E_impl_TreeDo (codeOf Tryz.f59) Tryz.f59.results.toList c_impl_TreeDo := by
  rintro ⟨t, o⟩ hs
  obtain ⟨hs1, hs2⟩ : smT t ∧ smO o := hs
  have ho1 := hs2.1
  have ho2 := hs2.2.1
  refine ⟨trivial, ?_⟩
  skip
  refine ⟨t, rfl, fun _ => hs1, ?_⟩
  repeat ((conv => whnf); refine ⟨fun h => h, ?_⟩)
  refine ⟨o, rfl, fun _ => trivial, ?_⟩
  repeat ((conv => whnf); refine ⟨fun h => h, ?_⟩)
  (conv => whnf); refine ⟨fun h1 => ?_, fun h1 => ?_⟩
  · have h1 : (!treeOk t || !numsOk o) = true := h1
    have hr : treeDo t o = (t, 10) := by rw [treeDo, if_pos h1]
    skip
    refine ⟨t, rfl, fun _ => hs1, ?_⟩
    rw [show c_impl_TreeDo.res (t, o) = .tup [.agg [.own 4 (t.map encI)], .int .i64 10] by show AV.tup [.agg [.own 4 ((treeDo t o).1.map encI)], .int .i64 (treeDo t o).2] = _; rw [hr]]
    skip
    exact ⟨trivial, ⟨⟨rfl, by simp⟩, trivial⟩, rfl, trivial⟩
  have h1 : (!treeOk t || !numsOk o) = false := h1
  have ok : treeOk t = true := by revert h1; cases treeOk t <;> simp
  have hno : numsOk o = true := by revert h1; cases numsOk o <;> simp
  skip
  refine ⟨o.path, rfl, fun _ => by show o.path.length ≤ _; omega, ?_⟩
  repeat ((conv => whnf); refine ⟨fun h => h, ?_⟩)
  (conv => whnf); refine ⟨fun h2 => ?_, fun h2 => ?_⟩
  · have h2 : (!badP o.path && o.kind == 8) = true := h2
    have hp : badP o.path = false := by revert h2; cases badP o.path <;> simp
    have hk : (o.kind == 8) = true := by revert h2; cases badP o.path <;> simp
    have hne : ∀ n : Int, n ≠ 8 → (o.kind == n) = false := fun n hn => by
      rw [beq_eq_false_iff_ne, beq_iff_eq.1 hk]
      exact fun e => hn e.symm
    have k0 := hne 0 (by decide)
    have k1 := hne 1 (by decide)
    have k2 := hne 2 (by decide)
    have k3 := hne 3 (by decide)
    have k4 := hne 4 (by decide)
    have k5 := hne 5 (by decide)
    have k6 := hne 6 (by decide)
    have k7 := hne 7 (by decide)
    have hd0 : treeDo t o = if badP o.to || withinP o.to o.path then (t, 1) else tRen t o := by
      rw [treeDo, if_neg (by rw [h1]; decide), if_neg (by rw [hp]; decide), k0, k1, k2, k3, k4, k5, k6, k7]
      rfl
    repeat ((conv => whnf); refine ⟨fun (h : gtrue _) => by first | assumption | exact absurd (Eq.trans (Eq.symm h) (by assumption) : true = false) Bool.noConfusion, ?_⟩)
    refine ⟨o.to, rfl, fun _ => by show o.to.length ≤ _; omega, ?_⟩
    repeat ((conv => whnf); refine ⟨fun h => h, ?_⟩)
    refine ⟨(o.to, o.path), rfl, fun _ => ⟨by show o.to.length ≤ _; omega, by show o.path.length ≤ _; omega⟩, ?_⟩
    repeat ((conv => whnf); refine ⟨fun h => h, ?_⟩)
    (conv => whnf); refine ⟨fun h3 => ?_, fun h3 => ?_⟩
    · have h3 : (badP o.path || (o.kind == 8 && (badP o.to || withinP o.to o.path))) = true := h3
      rw [hp, hk] at h3
      have h3 : (badP o.to || withinP o.to o.path) = true := h3
      have hr : treeDo t o = (t, 1) := by rw [hd0, if_pos h3]
      skip
      refine ⟨t, rfl, fun _ => hs1, ?_⟩
      rw [show c_impl_TreeDo.res (t, o) = .tup [.agg [.own 4 (t.map encI)], .int .i64 1] by show AV.tup [.agg [.own 4 ((treeDo t o).1.map encI)], .int .i64 (treeDo t o).2] = _; rw [hr]]
      skip
      exact ⟨trivial, ⟨⟨rfl, by simp⟩, trivial⟩, rfl, trivial⟩
    have h3 : (badP o.path || (o.kind == 8 && (badP o.to || withinP o.to o.path))) = false := h3
    rw [hp, hk] at h3
    have h3 : (badP o.to || withinP o.to o.path) = false := h3
    have hto : badP o.to = false := (Bool.or_eq_false_iff.1 h3).1
    have hd : treeDo t o = tRen t o := by rw [hd0, if_neg (by rw [h3]; decide)]
    obtain ⟨e1, e2, e3⟩ := renI_spec ok hp hto
    skip
    refine ⟨t, rfl, fun _ => hs1, ?_⟩
    skip
    (conv => whnf); refine ⟨fun h => Bool.noConfusion (Eq.trans (Eq.symm h) k0), fun _ => ?_⟩
    conv => whnf
    (conv => whnf); refine ⟨fun h => Bool.noConfusion (Eq.trans (Eq.symm h) k1), fun _ => ?_⟩
    conv => whnf
    (conv => whnf); refine ⟨fun h => Bool.noConfusion (Eq.trans (Eq.symm h) k2), fun _ => ?_⟩
    conv => whnf
    (conv => whnf); refine ⟨fun h => Bool.noConfusion (Eq.trans (Eq.symm h) k3), fun _ => ?_⟩
    conv => whnf
    (conv => whnf); refine ⟨fun h => Bool.noConfusion (Eq.trans (Eq.symm h) k4), fun _ => ?_⟩
    conv => whnf
    (conv => whnf); refine ⟨fun h => Bool.noConfusion (Eq.trans (Eq.symm h) k5), fun _ => ?_⟩
    conv => whnf
    (conv => whnf); refine ⟨fun h => Bool.noConfusion (Eq.trans (Eq.symm h) k6), fun _ => ?_⟩
    conv => whnf
    (conv => whnf); refine ⟨fun h => Bool.noConfusion (Eq.trans (Eq.symm h) k7), fun _ => ?_⟩
    conv => whnf
    (conv => whnf); refine ⟨fun _ => ?_, fun h => Bool.noConfusion (Eq.trans (Eq.symm hk) h)⟩
    skip
    refine ⟨(t, o), by refine congrArg (fun x => [AV.agg [AV.own 4 x], AV.agg (encO o)]) ?_; simp, fun _ => ⟨ok, hs1, hs2, hp, hto⟩, ?_⟩
    skip
    (conv => whnf); refine ⟨fun h9 => ?_, fun h9 => ?_⟩
    · have h9 : ((renI t o).2 != 0) = true := h9
      have hr : treeDo t o = (t, (renI t o).2) := by
        have h10 : (renI t o).2 ≠ 0 := by simpa using h9
        rw [hd]
        exact (Prod.ext (e3 (e1 ▸ h10)) e1.symm)
      skip
      refine ⟨t, rfl, fun _ => hs1, ?_⟩
      rw [show c_impl_TreeDo.res (t, o) = .tup [.agg [.own 4 (t.map encI)], .int .i64 (renI t o).2] by show AV.tup [.agg [.own 4 ((treeDo t o).1.map encI)], .int .i64 (treeDo t o).2] = _; rw [hr]]
      skip
      exact ⟨trivial, ⟨⟨rfl, by simp⟩, trivial⟩, rfl, trivial⟩
    have h9 : ((renI t o).2 != 0) = false := h9
    have hr : treeDo t o = ((renI t o).1, 0) := by
      have h10 : (renI t o).2 = 0 := by simpa using h9
      rw [hd]
      exact (Prod.ext (e2 (e1 ▸ h10)).symm (e1 ▸ h10))
    rw [show c_impl_TreeDo.res (t, o) = .tup [.agg [.own 4 ((renI t o).1.map encI)], .int .i64 0] by show AV.tup [.agg [.own 4 ((treeDo t o).1.map encI)], .int .i64 (treeDo t o).2] = _; rw [hr]]
    skip
    exact ⟨trivial, ⟨⟨rfl, by simp⟩, trivial⟩, rfl, trivial⟩
  have h2 : (!badP o.path && o.kind == 8) = false := h2
  repeat ((conv => whnf); first | refine ⟨fun h => h, ?_⟩ | refine ⟨fun h => (absurd (Eq.trans (Eq.symm h) (by assumption) : true = false) Bool.noConfusion : False), ?_⟩)
  refine ⟨(o.to, o.path), rfl, fun _ => ⟨by show o.to.length ≤ _; omega, by show o.path.length ≤ _; omega⟩, ?_⟩
  repeat ((conv => whnf); first | refine ⟨fun h => h, ?_⟩ | refine ⟨fun (h : gtrue _) => by first | assumption | exact absurd (Eq.trans (Eq.symm h) (by assumption) : true = false) Bool.noConfusion, ?_⟩ | refine ⟨fun h => (absurd (Eq.trans (Eq.symm h) (by assumption) : true = false) Bool.noConfusion : False), ?_⟩)
  (conv => whnf); refine ⟨fun h3 => ?_, fun h3 => ?_⟩
  · have hp : badP o.path = true := by
      have h3 : (badP o.path || false) = true := h3
      revert h3
      cases badP o.path <;> simp
    have hr : treeDo t o = (t, 1) := by rw [treeDo, if_neg (by rw [h1]; decide), if_pos hp]
    skip
    refine ⟨t, rfl, fun _ => hs1, ?_⟩
    rw [show c_impl_TreeDo.res (t, o) = .tup [.agg [.own 4 (t.map encI)], .int .i64 1] by show AV.tup [.agg [.own 4 ((treeDo t o).1.map encI)], .int .i64 (treeDo t o).2] = _; rw [hr]]
    skip
    exact ⟨trivial, ⟨⟨rfl, by simp⟩, trivial⟩, rfl, trivial⟩
  have hp : badP o.path = false := by
    have h3 : (badP o.path || false) = false := h3
    revert h3
    cases badP o.path <;> simp
  have k8 : (o.kind == 8) = false := by
    rw [hp] at h2
    exact h2
  have hd0 : treeDo t o = if o.kind == 0 || o.kind == 1 || o.kind == 2 then tNew t o
    else if o.kind == 3 || o.kind == 4 || o.kind == 5 then tSet t o
    else if o.kind == 6 || o.kind == 7 then tDrop t o
    else if badP o.to || withinP o.to o.path then (t, 1)
    else tRen t o := by rw [treeDo, if_neg (by rw [h1]; decide), if_neg (by rw [hp]; decide)]
  skip
  refine ⟨t, rfl, fun _ => hs1, ?_⟩
  conv => whnf
  (conv => whnf); refine ⟨fun k0 => ?_, fun k0 => ?_⟩
  · have k0 : (o.kind == 0) = true := k0
    have hd : treeDo t o = tNew t o := by rw [hd0, k0]; rfl
    (conv => whnf); refine ⟨fun _ => ?_, fun h => Bool.noConfusion (Eq.trans (Eq.symm k0) h)⟩
    skip
    refine ⟨(t, o), by refine congrArg (fun x => [AV.agg [AV.own 4 x], AV.agg (encO o)]) ?_; simp, fun _ => ⟨ok, hs1, hs2, hp⟩, ?_⟩
    skip
    (conv => whnf); refine ⟨fun h9 => ?_, fun h9 => ?_⟩
    · have h9 : ((tNew t o).2 != 0) = true := h9
      have hr : treeDo t o = (t, (tNew t o).2) := by
        have h10 : (tNew t o).2 ≠ 0 := by simpa using h9
        rw [hd]
        exact (Prod.ext (new_keep h10) rfl)
      skip
      refine ⟨t, rfl, fun _ => hs1, ?_⟩
      rw [show c_impl_TreeDo.res (t, o) = .tup [.agg [.own 4 (t.map encI)], .int .i64 (tNew t o).2] by show AV.tup [.agg [.own 4 ((treeDo t o).1.map encI)], .int .i64 (treeDo t o).2] = _; rw [hr]]
      skip
      exact ⟨trivial, ⟨⟨rfl, by simp⟩, trivial⟩, rfl, trivial⟩
    have h9 : ((tNew t o).2 != 0) = false := h9
    have hr : treeDo t o = ((tNew t o).1, 0) := by
      have h10 : (tNew t o).2 = 0 := by simpa using h9
      rw [hd]
      exact (Prod.ext rfl h10)
    rw [show c_impl_TreeDo.res (t, o) = .tup [.agg [.own 4 ((tNew t o).1.map encI)], .int .i64 0] by show AV.tup [.agg [.own 4 ((treeDo t o).1.map encI)], .int .i64 (treeDo t o).2] = _; rw [hr]]
    skip
    exact ⟨trivial, ⟨⟨rfl, by simp⟩, trivial⟩, rfl, trivial⟩
  have k0 : (o.kind == 0) = false := k0
  conv => whnf
  (conv => whnf); refine ⟨fun k1 => ?_, fun k1 => ?_⟩
  · have k1 : (o.kind == 1) = true := k1
    have hd : treeDo t o = tNew t o := by rw [hd0, k1, k0]; rfl
    (conv => whnf); refine ⟨fun _ => ?_, fun h => Bool.noConfusion (Eq.trans (Eq.symm k1) h)⟩
    skip
    refine ⟨(t, o), by refine congrArg (fun x => [AV.agg [AV.own 4 x], AV.agg (encO o)]) ?_; simp, fun _ => ⟨ok, hs1, hs2, hp⟩, ?_⟩
    skip
    (conv => whnf); refine ⟨fun h9 => ?_, fun h9 => ?_⟩
    · have h9 : ((tNew t o).2 != 0) = true := h9
      have hr : treeDo t o = (t, (tNew t o).2) := by
        have h10 : (tNew t o).2 ≠ 0 := by simpa using h9
        rw [hd]
        exact (Prod.ext (new_keep h10) rfl)
      skip
      refine ⟨t, rfl, fun _ => hs1, ?_⟩
      rw [show c_impl_TreeDo.res (t, o) = .tup [.agg [.own 4 (t.map encI)], .int .i64 (tNew t o).2] by show AV.tup [.agg [.own 4 ((treeDo t o).1.map encI)], .int .i64 (treeDo t o).2] = _; rw [hr]]
      skip
      exact ⟨trivial, ⟨⟨rfl, by simp⟩, trivial⟩, rfl, trivial⟩
    have h9 : ((tNew t o).2 != 0) = false := h9
    have hr : treeDo t o = ((tNew t o).1, 0) := by
      have h10 : (tNew t o).2 = 0 := by simpa using h9
      rw [hd]
      exact (Prod.ext rfl h10)
    rw [show c_impl_TreeDo.res (t, o) = .tup [.agg [.own 4 ((tNew t o).1.map encI)], .int .i64 0] by show AV.tup [.agg [.own 4 ((treeDo t o).1.map encI)], .int .i64 (treeDo t o).2] = _; rw [hr]]
    skip
    exact ⟨trivial, ⟨⟨rfl, by simp⟩, trivial⟩, rfl, trivial⟩
  have k1 : (o.kind == 1) = false := k1
  conv => whnf
  (conv => whnf); refine ⟨fun k2 => ?_, fun k2 => ?_⟩
  · have k2 : (o.kind == 2) = true := k2
    have hd : treeDo t o = tNew t o := by rw [hd0, k2, k1, k0]; rfl
    skip
    refine ⟨(t, o), by refine congrArg (fun x => [AV.agg [AV.own 4 x], AV.agg (encO o)]) ?_; simp, fun _ => ⟨ok, hs1, hs2, hp⟩, ?_⟩
    skip
    (conv => whnf); refine ⟨fun h9 => ?_, fun h9 => ?_⟩
    · have h9 : ((tNew t o).2 != 0) = true := h9
      have hr : treeDo t o = (t, (tNew t o).2) := by
        have h10 : (tNew t o).2 ≠ 0 := by simpa using h9
        rw [hd]
        exact (Prod.ext (new_keep h10) rfl)
      skip
      refine ⟨t, rfl, fun _ => hs1, ?_⟩
      rw [show c_impl_TreeDo.res (t, o) = .tup [.agg [.own 4 (t.map encI)], .int .i64 (tNew t o).2] by show AV.tup [.agg [.own 4 ((treeDo t o).1.map encI)], .int .i64 (treeDo t o).2] = _; rw [hr]]
      skip
      exact ⟨trivial, ⟨⟨rfl, by simp⟩, trivial⟩, rfl, trivial⟩
    have h9 : ((tNew t o).2 != 0) = false := h9
    have hr : treeDo t o = ((tNew t o).1, 0) := by
      have h10 : (tNew t o).2 = 0 := by simpa using h9
      rw [hd]
      exact (Prod.ext rfl h10)
    rw [show c_impl_TreeDo.res (t, o) = .tup [.agg [.own 4 ((tNew t o).1.map encI)], .int .i64 0] by show AV.tup [.agg [.own 4 ((treeDo t o).1.map encI)], .int .i64 (treeDo t o).2] = _; rw [hr]]
    skip
    exact ⟨trivial, ⟨⟨rfl, by simp⟩, trivial⟩, rfl, trivial⟩
  have k2 : (o.kind == 2) = false := k2
  have hd2 := hd0
  rw [k0, k1, k2] at hd2
  conv => whnf
  (conv => whnf); refine ⟨fun k3 => ?_, fun k3 => ?_⟩
  · have k3 : (o.kind == 3) = true := k3
    have hd : treeDo t o = tSet t o := by rw [hd2, k3]; rfl
    (conv => whnf); refine ⟨fun _ => ?_, fun h => Bool.noConfusion (Eq.trans (Eq.symm k3) h)⟩
    have hkk : (o.kind == 3 || o.kind == 4 || o.kind == 5) = true := by rw [k3]; rfl
    skip
    refine ⟨(t, o), by refine congrArg (fun x => [AV.agg [AV.own 4 x], AV.agg (encO o)]) ?_; simp, fun _ => ⟨ok, hno, hs1, hs2, hp, hkk⟩, ?_⟩
    skip
    (conv => whnf); refine ⟨fun h9 => ?_, fun h9 => ?_⟩
    · have h9 : ((tSet t o).2 != 0) = true := h9
      have hr : treeDo t o = (t, (tSet t o).2) := by
        have h10 : (tSet t o).2 ≠ 0 := by simpa using h9
        rw [hd]
        exact (Prod.ext (set_keep h10) rfl)
      skip
      refine ⟨t, rfl, fun _ => hs1, ?_⟩
      rw [show c_impl_TreeDo.res (t, o) = .tup [.agg [.own 4 (t.map encI)], .int .i64 (tSet t o).2] by show AV.tup [.agg [.own 4 ((treeDo t o).1.map encI)], .int .i64 (treeDo t o).2] = _; rw [hr]]
      skip
      exact ⟨trivial, ⟨⟨rfl, by simp⟩, trivial⟩, rfl, trivial⟩
    have h9 : ((tSet t o).2 != 0) = false := h9
    have hr : treeDo t o = ((tSet t o).1, 0) := by
      have h10 : (tSet t o).2 = 0 := by simpa using h9
      rw [hd]
      exact (Prod.ext rfl h10)
    rw [show c_impl_TreeDo.res (t, o) = .tup [.agg [.own 4 ((tSet t o).1.map encI)], .int .i64 0] by show AV.tup [.agg [.own 4 ((treeDo t o).1.map encI)], .int .i64 (treeDo t o).2] = _; rw [hr]]
    skip
    exact ⟨trivial, ⟨⟨rfl, by simp⟩, trivial⟩, rfl, trivial⟩
  have k3 : (o.kind == 3) = false := k3
  conv => whnf
  (conv => whnf); refine ⟨fun k4 => ?_, fun k4 => ?_⟩
  · have k4 : (o.kind == 4) = true := k4
    have hd : treeDo t o = tSet t o := by rw [hd2, k4, k3]; rfl
    (conv => whnf); refine ⟨fun _ => ?_, fun h => Bool.noConfusion (Eq.trans (Eq.symm k4) h)⟩
    have hkk : (o.kind == 3 || o.kind == 4 || o.kind == 5) = true := by rw [k3, k4]; rfl
    skip
    refine ⟨(t, o), by refine congrArg (fun x => [AV.agg [AV.own 4 x], AV.agg (encO o)]) ?_; simp, fun _ => ⟨ok, hno, hs1, hs2, hp, hkk⟩, ?_⟩
    skip
    (conv => whnf); refine ⟨fun h9 => ?_, fun h9 => ?_⟩
    · have h9 : ((tSet t o).2 != 0) = true := h9
      have hr : treeDo t o = (t, (tSet t o).2) := by
        have h10 : (tSet t o).2 ≠ 0 := by simpa using h9
        rw [hd]
        exact (Prod.ext (set_keep h10) rfl)
      skip
      refine ⟨t, rfl, fun _ => hs1, ?_⟩
      rw [show c_impl_TreeDo.res (t, o) = .tup [.agg [.own 4 (t.map encI)], .int .i64 (tSet t o).2] by show AV.tup [.agg [.own 4 ((treeDo t o).1.map encI)], .int .i64 (treeDo t o).2] = _; rw [hr]]
      skip
      exact ⟨trivial, ⟨⟨rfl, by simp⟩, trivial⟩, rfl, trivial⟩
    have h9 : ((tSet t o).2 != 0) = false := h9
    have hr : treeDo t o = ((tSet t o).1, 0) := by
      have h10 : (tSet t o).2 = 0 := by simpa using h9
      rw [hd]
      exact (Prod.ext rfl h10)
    rw [show c_impl_TreeDo.res (t, o) = .tup [.agg [.own 4 ((tSet t o).1.map encI)], .int .i64 0] by show AV.tup [.agg [.own 4 ((treeDo t o).1.map encI)], .int .i64 (treeDo t o).2] = _; rw [hr]]
    skip
    exact ⟨trivial, ⟨⟨rfl, by simp⟩, trivial⟩, rfl, trivial⟩
  have k4 : (o.kind == 4) = false := k4
  conv => whnf
  (conv => whnf); refine ⟨fun k5 => ?_, fun k5 => ?_⟩
  · have k5 : (o.kind == 5) = true := k5
    have hd : treeDo t o = tSet t o := by rw [hd2, k5, k4, k3]; rfl
    have hkk : (o.kind == 3 || o.kind == 4 || o.kind == 5) = true := by rw [k3, k4, k5]; rfl
    skip
    refine ⟨(t, o), by refine congrArg (fun x => [AV.agg [AV.own 4 x], AV.agg (encO o)]) ?_; simp, fun _ => ⟨ok, hno, hs1, hs2, hp, hkk⟩, ?_⟩
    skip
    (conv => whnf); refine ⟨fun h9 => ?_, fun h9 => ?_⟩
    · have h9 : ((tSet t o).2 != 0) = true := h9
      have hr : treeDo t o = (t, (tSet t o).2) := by
        have h10 : (tSet t o).2 ≠ 0 := by simpa using h9
        rw [hd]
        exact (Prod.ext (set_keep h10) rfl)
      skip
      refine ⟨t, rfl, fun _ => hs1, ?_⟩
      rw [show c_impl_TreeDo.res (t, o) = .tup [.agg [.own 4 (t.map encI)], .int .i64 (tSet t o).2] by show AV.tup [.agg [.own 4 ((treeDo t o).1.map encI)], .int .i64 (treeDo t o).2] = _; rw [hr]]
      skip
      exact ⟨trivial, ⟨⟨rfl, by simp⟩, trivial⟩, rfl, trivial⟩
    have h9 : ((tSet t o).2 != 0) = false := h9
    have hr : treeDo t o = ((tSet t o).1, 0) := by
      have h10 : (tSet t o).2 = 0 := by simpa using h9
      rw [hd]
      exact (Prod.ext rfl h10)
    rw [show c_impl_TreeDo.res (t, o) = .tup [.agg [.own 4 ((tSet t o).1.map encI)], .int .i64 0] by show AV.tup [.agg [.own 4 ((treeDo t o).1.map encI)], .int .i64 (treeDo t o).2] = _; rw [hr]]
    skip
    exact ⟨trivial, ⟨⟨rfl, by simp⟩, trivial⟩, rfl, trivial⟩
  have k5 : (o.kind == 5) = false := k5
  rw [k3, k4, k5] at hd2
  conv => whnf
  (conv => whnf); refine ⟨fun k6 => ?_, fun k6 => ?_⟩
  · have k6 : (o.kind == 6) = true := k6
    have hd : treeDo t o = tDrop t o := by rw [hd2, k6]; rfl
    (conv => whnf); refine ⟨fun _ => ?_, fun h => Bool.noConfusion (Eq.trans (Eq.symm k6) h)⟩
    skip
    refine ⟨(t, o), by refine congrArg (fun x => [AV.agg [AV.own 4 x], AV.agg (encO o)]) ?_; simp, fun _ => ⟨ok, hs1, hs2, hp⟩, ?_⟩
    skip
    (conv => whnf); refine ⟨fun h9 => ?_, fun h9 => ?_⟩
    · have h9 : ((tDrop t o).2 != 0) = true := h9
      have hr : treeDo t o = (t, (tDrop t o).2) := by
        have h10 : (tDrop t o).2 ≠ 0 := by simpa using h9
        rw [hd]
        exact (Prod.ext (drop_keep h10) rfl)
      skip
      refine ⟨t, rfl, fun _ => hs1, ?_⟩
      rw [show c_impl_TreeDo.res (t, o) = .tup [.agg [.own 4 (t.map encI)], .int .i64 (tDrop t o).2] by show AV.tup [.agg [.own 4 ((treeDo t o).1.map encI)], .int .i64 (treeDo t o).2] = _; rw [hr]]
      skip
      exact ⟨trivial, ⟨⟨rfl, by simp⟩, trivial⟩, rfl, trivial⟩
    have h9 : ((tDrop t o).2 != 0) = false := h9
    have hr : treeDo t o = ((tDrop t o).1, 0) := by
      have h10 : (tDrop t o).2 = 0 := by simpa using h9
      rw [hd]
      exact (Prod.ext rfl h10)
    rw [show c_impl_TreeDo.res (t, o) = .tup [.agg [.own 4 ((tDrop t o).1.map encI)], .int .i64 0] by show AV.tup [.agg [.own 4 ((treeDo t o).1.map encI)], .int .i64 (treeDo t o).2] = _; rw [hr]]
    skip
    exact ⟨trivial, ⟨⟨rfl, by simp⟩, trivial⟩, rfl, trivial⟩
  have k6 : (o.kind == 6) = false := k6
  conv => whnf
  (conv => whnf); refine ⟨fun k7 => ?_, fun k7 => ?_⟩
  · have k7 : (o.kind == 7) = true := k7
    have hd : treeDo t o = tDrop t o := by rw [hd2, k7, k6]; rfl
    skip
    refine ⟨(t, o), by refine congrArg (fun x => [AV.agg [AV.own 4 x], AV.agg (encO o)]) ?_; simp, fun _ => ⟨ok, hs1, hs2, hp⟩, ?_⟩
    skip
    (conv => whnf); refine ⟨fun h9 => ?_, fun h9 => ?_⟩
    · have h9 : ((tDrop t o).2 != 0) = true := h9
      have hr : treeDo t o = (t, (tDrop t o).2) := by
        have h10 : (tDrop t o).2 ≠ 0 := by simpa using h9
        rw [hd]
        exact (Prod.ext (drop_keep h10) rfl)
      skip
      refine ⟨t, rfl, fun _ => hs1, ?_⟩
      rw [show c_impl_TreeDo.res (t, o) = .tup [.agg [.own 4 (t.map encI)], .int .i64 (tDrop t o).2] by show AV.tup [.agg [.own 4 ((treeDo t o).1.map encI)], .int .i64 (treeDo t o).2] = _; rw [hr]]
      skip
      exact ⟨trivial, ⟨⟨rfl, by simp⟩, trivial⟩, rfl, trivial⟩
    have h9 : ((tDrop t o).2 != 0) = false := h9
    have hr : treeDo t o = ((tDrop t o).1, 0) := by
      have h10 : (tDrop t o).2 = 0 := by simpa using h9
      rw [hd]
      exact (Prod.ext rfl h10)
    rw [show c_impl_TreeDo.res (t, o) = .tup [.agg [.own 4 ((tDrop t o).1.map encI)], .int .i64 0] by show AV.tup [.agg [.own 4 ((treeDo t o).1.map encI)], .int .i64 (treeDo t o).2] = _; rw [hr]]
    skip
    exact ⟨trivial, ⟨⟨rfl, by simp⟩, trivial⟩, rfl, trivial⟩
  have k7 : (o.kind == 7) = false := k7
  exfalso
  obtain ⟨⟨n1, n2⟩, _⟩ := numsOk_iff hno
  simp only [beq_eq_false_iff_ne] at k0 k1 k2 k3 k4 k5 k6 k7 k8
  omega
theorem ok_impl_TreeDo : ConOk Tryz.prog 59 c_impl_TreeDo := meets_ok (tabT _ _) (FOk.cons ok_impl_TreeOk (FOk.cons ok_impl_Within (FOk.cons ok_impl_cloneTree (FOk.cons ok_impl_OpOk (FOk.cons ok_impl_TreeDo_1 (FOk.cons ok_impl_treeAdd (FOk.cons ok_impl_treeSet (FOk.cons ok_impl_treeDrop (FOk.cons ok_impl_treeRename FOk.nil))))))))) mixed Tryz.func59 rfl Tryz.call59 (by decide) (by kernel_rfl) m_impl_TreeDo (by intro _ (y : (Tr × OpR)) _; exact ⟨by simp [c_impl_TreeDo, con, conG, conW, AV.noRd, noRdCells, noRdRows, noRdRows_map', encS, encI, encO], by simp [c_impl_TreeDo, con, conG, conW, AV.noRd, noRdCells, noRdRows, noRdRows_map', encS, encI, encO]⟩) (by intro (y : (Tr × OpR)) _; first | (simp [c_impl_TreeDo, con, conG, conW, conP, AV.free, freeCells, freeRows, freeRows_map, encS, rdT, encI, encO]; done) | (obtain ⟨_, _⟩ := y; simp [c_impl_TreeDo, con, conG, conW, conP, AV.free, freeCells, freeRows, freeRows_map, encS, rdT, encI, encO]; done) | (obtain ⟨_, _, _⟩ := y; simp [c_impl_TreeDo, con, conG, conW, conP, AV.free, freeCells, freeRows, freeRows_map, encS, rdT, encI, encO]; done))
end Go.GH

set_option linter.unusedVariables false
set_option linter.unusedSimpArgs false
namespace Go.GH
open Go Go.Proofs
noncomputable def c_impl_TreeDoAll : PCon := con [mS 4, mS 6] false (Tr × List OpR) (fun ⟨t, l⟩ => [rdT t, .rd 6 (l.map encO)]) (fun x => smT x.1 ∧ smOL x.2) (fun x => .tup [.agg [.own 4 ((doAll x.1 x.2).1.map encI)], .own 1 ((doAll x.1 x.2).2.map encN)])
noncomputable def E_impl_TreeDoAll : Env := ⟨lookup tyTab, lookup [(58, c_impl_cloneTree), (59, c_impl_TreeDo)], [0, 1, 2, 4, 5, 6, 7, 9, 10, 11, 15, 16, 17, 18]⟩
set_option maxRecDepth 100000 in
set_option maxHeartbeats 4000000 in
theorem m_impl_TreeDoAll : Meets E_impl_TreeDoAll (codeOf Tryz.f20) Tryz.f20.results.toList c_impl_TreeDoAll := by
  rintro ⟨t, l⟩ hs
  obtain ⟨hs1, hs2⟩ : smT t ∧ smOL l := hs
  have hl1 := hs2.1
  refine ⟨trivial, ?_⟩
  skip
  refine ⟨t, rfl, fun _ => hs1, ?_⟩
  skip
  refine loop_rule (fun i : Nat => ⟨[(4, ⟨none, .bx 1 0⟩), (6, ⟨none, .bx 2 0⟩), (7, ⟨none, .view 3 [] 0 (doAll t (l.take i)).2.length⟩), (15, ⟨none, .rd 6 (l.map encO)⟩), (16, ⟨none, .int .i64 l.length⟩), (17, ⟨none, .int .i64 i⟩)], [(3, .own 1 ((doAll t (l.take i)).2.map encN)), (2, .own 1 [[.own 4 ((doAll t (l.take i)).1.map encI)]]), (1, .own 1 [[.own 4 []]])], 4⟩)
    (fun i => i ≤ l.length) (fun i => l.length - i) 0 ?_ (by omega) ?_
  · (refine ⟨?_, ?_, rfl⟩ <;> repeat' (first | exact rfl | exact trivial | refine ⟨?_, ?_⟩ | fail) <;> (conv => whnf))
    all_goals simp [setCells, doAll]
  intro i hi
  have hi : i ≤ l.length := hi
  obtain ⟨hsm, hln⟩ := doAll_sm hs1 hs2 i hi
  have hnext : ∀ {o : OpR}, l[i]? = some o → doAll t (l.take (i + 1)) = doStep (doAll t (l.take i)) o := fun h => doAll_take h
  generalize hout : doAll t (l.take i) = out at hsm hln hnext ⊢
  obtain ⟨out, cs⟩ := out
  have hsm : smT out := hsm
  have hln : cs.length = i := hln
  (conv => whnf); refine ⟨fun h2 => ?_, fun h2 => ?_⟩
  · have h2 : i < l.length := by simpa using h2
    obtain ⟨o, ho⟩ := get_lt h2
    have hso := hs2.2 o (List.mem_of_getElem? ho)
    repeat ((conv => whnf); refine ⟨encO o, fun _ => ⟨by omega, get_map ho⟩, ?_⟩)
    refine ⟨(out, o), by refine congrArg (fun x => [AV.agg [AV.rd 4 x], AV.agg (encO o)]) ?_; simp [rdI], fun _ => ⟨hsm, hso⟩, ?_⟩
    repeat ((conv => whnf); first | refine ⟨_, w64 (by (show (_ : Prop)); first | omega | ((try dsimp only at *); (try simp only [lns] at *); omega)), ?_⟩ | refine ⟨by (show (_ : Prop)); first | omega | ((try dsimp only at *); (try simp only [lns] at *); omega), ?_⟩ | refine ⟨fun (r : List AV) hr c hc => by simp [encS] at hr; (try subst hr); simp at hc; (try subst hc); rfl, ?_⟩)
    refine again (i + 1) ?_ h2 (by first | omega | (simp; done) | (simp; omega))
    rw [hnext ho]
    (refine ⟨?_, ?_, rfl⟩ <;> repeat' (first | exact rfl | exact trivial | refine ⟨?_, ?_⟩ | fail) <;> (conv => whnf))
    · show _ + 1 = (cs ++ [_]).length
      simp
    · show _ ++ _ = (cs ++ [(treeDo out o).2]).map encN
      simp [encN]
    · show [[AV.own 4 _]] = [[AV.own 4 ((treeDo out o).1.map encI)]]
      simp
  · have h2 : i = l.length := by
      have : ¬ i < l.length := by simpa using h2
      omega
    subst h2
    rw [List.take_length] at hout
    rw [show c_impl_TreeDoAll.res (t, l) = .tup [.agg [.own 4 (out.map encI)], .own 1 (cs.map encN)] by show AV.tup [.agg [.own 4 ((doAll t l).1.map encI)], .own 1 ((doAll t l).2.map encN)] = _; rw [hout]]
    skip
    exact ⟨trivial, ⟨⟨rfl, by simp⟩, trivial⟩, eqOwn (by (try simp only [List.drop_zero, List.take_length, take_app]); simp), trivial⟩
theorem ok_impl_TreeDoAll : ConOk Tryz.prog 20 c_impl_TreeDoAll := meets_ok (tabT _ _) (FOk.cons ok_impl_cloneTree (FOk.cons ok_impl_TreeDo FOk.nil)) mixed Tryz.func20 rfl Tryz.call20 (by decide) (by kernel_rfl) m_impl_TreeDoAll (by intro _ (y : (Tr × List OpR)) _; exact ⟨by simp [c_impl_TreeDoAll, con, conG, conW, AV.noRd, noRdCells, noRdRows, noRdRows_map', encS, encI, encO, encN], by simp [c_impl_TreeDoAll, con, conG, conW, AV.noRd, noRdCells, noRdRows, noRdRows_map', encS, encI, encO, encN]⟩) (by intro (y : (Tr × List OpR)) _; first | (simp [c_impl_TreeDoAll, con, conG, conW, conP, AV.free, freeCells, freeRows, freeRows_map, encS, rdT, encI, encO, encN]; done) | (obtain ⟨_, _⟩ := y; simp [c_impl_TreeDoAll, con, conG, conW, conP, AV.free, freeCells, freeRows, freeRows_map, encS, rdT, encI, encO, encN]; done) | (obtain ⟨_, _, _⟩ := y; simp [c_impl_TreeDoAll, con, conG, conW, conP, AV.free, freeCells, freeRows, freeRows_map, encS, rdT, encI, encO, encN]; done))
end Go.GH

set_option linter.unusedVariables false
set_option linter.unusedSimpArgs false
namespace Go.GH
open Go Go.Proofs
noncomputable def c_laws_markText : PCon := con [mC] true Int (fun k => [.int .i64 k]) (fun k => k ≤ 1152921504606846976) (fun k => .str (mkT k))
noncomputable def E_laws_markText : Env := ⟨lookup tyTab, lookup [], [0, 2, 3, 5, 7]⟩
set_option maxRecDepth 100000 in
set_option maxHeartbeats 4000000 in
theorem m_laws_markText : Meets E_laws_markText (codeOf Tryz.f63) Tryz.f63.results.toList c_laws_markText := by
  intro (k : Int) (hk : k ≤ 1152921504606846976)
  refine ⟨trivial, ?_⟩
  (conv => whnf); refine ⟨fun h1 => ?_, fun h1 => ?_⟩
  · have h1 : k ≤ 0 := by simpa using h1
    skip
    exact ⟨trivial, eqS (by show _ = mkT k; rw [mkT_eq]; simp [markT, h1])⟩
  have h1 : 0 < k := by simp at h1; omega
  obtain ⟨n, rfl⟩ : ∃ n : Nat, k = n := ⟨k.toNat, by omega⟩
  skip
  refine loop_rule (fun ((m, out) : Nat × Str) => ⟨[(0, ⟨none, .int .i64 m⟩), (3, ⟨none, .str out⟩)], [], 0⟩)
    (fun (m, out) => m ≤ n ∧ digs 64 n [] = digs 64 m out ∧ out.length ≤ n - m) (fun x => x.1) (n, []) ?_ ⟨by omega, rfl, by simp⟩ ?_
  · (refine ⟨?_, ?_, rfl⟩ <;> repeat' (first | exact rfl | exact trivial | refine ⟨?_, ?_⟩ | fail) <;> (conv => whnf))
  rintro ⟨m, out⟩ ⟨hm, hd, hl⟩
  (conv => whnf); refine ⟨fun h2 => ?_, fun h2 => ?_⟩
  · have h2 : 0 < m := by simp at h2; omega
    repeat ((conv => whnf); refine ⟨by (show (_ : Prop)); first | omega | ((try dsimp only at *); (try simp only [lns] at *); omega), ?_⟩)
    refine ⟨((m % 10 : Nat) : Int), rfl, ?_⟩
    repeat ((conv => whnf); refine ⟨_, w64 (by (show (_ : Prop)); first | omega | ((try dsimp only at *); (try simp only [lns] at *); omega)), ?_⟩)
    refine ⟨((48 + m % 10 : Nat) : Int), by show Int.ofNat ((48 + m % 10) % 256) = _; rw [Nat.mod_eq_of_lt (by omega)]; rfl, ?_⟩
    skip
    refine ⟨[UInt8.ofNat (48 + m % 10)], by
      have e : (UInt8.ofNat (48 + m % 10)).toNat = 48 + m % 10 := by rw [UInt8.toNat_ofNat']; omega
      rw [List.map_cons, List.map_nil, e]; rfl, ?_⟩
    repeat ((conv => whnf); refine ⟨by (show (_ : Prop)); first | omega | ((try dsimp only at *); (try simp only [lns] at *); omega), ?_⟩)
    refine ⟨((m / 10 : Nat) : Int), w64 (a := ((m / 10 : Nat) : Int)) (by omega), ?_⟩
    skip
    refine again (m / 10, UInt8.ofNat (48 + m % 10) :: out) ?_ ⟨by omega, by rw [hd, digs_step h2 (by omega)], by simp; omega⟩ (by show m / 10 < m; omega)
    (refine ⟨?_, ?_, rfl⟩ <;> repeat' (first | exact rfl | exact trivial | refine ⟨?_, ?_⟩ | fail) <;> (conv => whnf))
  · have h2 : m = 0 := by simp at h2; omega
    subst h2
    rw [digs_zero] at hd
    repeat ((conv => whnf); refine ⟨by (show (_ : Prop)); first | omega | ((try dsimp only at *); (try simp only [lns] at *); omega), ?_⟩)
    exact ⟨trivial, eqS (by show _ = mkT n; rw [mkT_eq, markT, if_neg (by omega), Int.toNat_natCast, hd]; rfl)⟩
theorem ok_laws_markText : ConOk Tryz.prog 63 c_laws_markText := meets_ok (tabT _ _) FOk.nil mixed Tryz.func63 rfl Tryz.call63 (by decide) (by kernel_rfl) m_laws_markText (by intro _ (y : Int) _; exact ⟨by simp [c_laws_markText, con, conG, conW, AV.noRd, noRdCells, noRdRows, noRdRows_map', encS, encI, encO], by simp [c_laws_markText, con, conG, conW, AV.noRd, noRdCells, noRdRows, noRdRows_map', encS, encI, encO]⟩) (by intro (y : Int) _; first | (simp [c_laws_markText, con, conG, conW, conP, AV.free, freeCells, freeRows, freeRows_map, encS, encI, encO]; done) | (obtain ⟨_, _⟩ := y; simp [c_laws_markText, con, conG, conW, conP, AV.free, freeCells, freeRows, freeRows_map, encS, encI, encO]; done) | (obtain ⟨_, _, _⟩ := y; simp [c_laws_markText, con, conG, conW, conP, AV.free, freeCells, freeRows, freeRows_map, encS, encI, encO]; done))
noncomputable def c_laws_markItemS : PCon := ⟨[.mv, mC], false, false, Tr × Int, fun ⟨t, k⟩ => [.own 4 (t.map encI), .int .i64 k], fun x => smT x.1 ∧ 0 ≤ x.2 ∧ x.2 ≤ 1099511627776, fun x => .int .i64 (x.2 + 4 * x.1.length), fun ⟨t, k⟩ => [.own 4 ((List.range t.length).map fun i => encI (mkI k i))], fun _ => True, false⟩
noncomputable def E_laws_markItemS : Env := ⟨lookup tyTab, lookup [(63, c_laws_markText)], [0, 1, 4, 5, 9]⟩
set_option maxRecDepth 100000 in
set_option maxHeartbeats 4000000 in
theorem m_laws_markItemS : Meets E_laws_markItemS (codeOf Tryz.f62) Tryz.f62.results.toList c_laws_markItemS := by
  rintro ⟨t, k⟩ hs
  obtain ⟨⟨hs1, hs2⟩, hk1, hk2⟩ : smT t ∧ 0 ≤ k ∧ k ≤ 1099511627776 := hs
  refine ⟨⟨⟨_, _, _, rfl, rfl, by simp⟩, trivial⟩, ?_⟩
  skip
  refine loop_rule (fun i : Nat => ⟨[(0, ⟨none, .view 0 [] 0 t.length⟩), (1, ⟨none, .int .i64 (k + 4 * i)⟩), (5, ⟨none, .int .i64 i⟩)], [(0, .own 4 (marked encI (mkI k) t i))], 1⟩)
    (fun i => i ≤ t.length) (fun i => t.length - i) 0 ?_ (by omega) ?_
  · (refine ⟨?_, ?_, rfl⟩ <;> repeat' (first | exact rfl | exact trivial | refine ⟨?_, ?_⟩ | fail) <;> (conv => whnf))
    all_goals simp [marked]
  intro i hi
  have hi : i ≤ t.length := hi
  (conv => whnf); refine ⟨fun h2 => ?_, fun h2 => ?_⟩
  · have h2 : i < t.length := by simpa using h2
    have hml := marked_len (f := encI) (mk := mkI k) (l := t) (i := i) hi
    obtain ⟨x, hx⟩ := get_lt h2
    repeat ((conv => whnf); first | refine ⟨_, w64 (by (show (_ : Prop)); first | omega | ((try dsimp only at *); (try simp only [lns] at *); omega)), ?_⟩ | refine ⟨by (show (_ : Prop)); first | omega | ((try dsimp only at *); (try simp only [lns] at *); omega), ?_⟩ | refine ⟨(_ : Int), rfl, fun _ => (show (_ : Int) ≤ (1152921504606846976 : Int) from by omega), ?_⟩ | refine ⟨encI x, by rw [Nat.zero_add, Int.toNat_natCast]; exact marked_get hx, ?_⟩ | refine ⟨_, set_get (by simp only [List.length_set, hml, Nat.zero_add, Int.toNat_natCast]; exact h2), ?_⟩)
    refine again (i + 1) ?_ h2 (by first | omega | (simp; done) | (simp; omega))
    (refine ⟨?_, ?_, rfl⟩ <;> repeat' (first | exact rfl | exact trivial | refine ⟨?_, ?_⟩ | fail) <;> (conv => whnf))
    · omega
    · rw [← marked_set hx]
      simp only [Nat.zero_add, Int.toNat_natCast, set_set]
      congr 1
      simp [encI, mkI, hide_eq, c_laws_markText, con, Int.add_assoc]
  · have h2 : i = t.length := by
      have : ¬ i < t.length := by simpa using h2
      omega
    subst h2
    skip
    exact ⟨⟨congrArg some (congrArg (AV.own 4) marked_all), trivial⟩, rfl⟩
theorem ok_laws_markItemS : ConOk Tryz.prog 62 c_laws_markItemS := meets_ok (tabT _ _) (FOk.cons ok_laws_markText FOk.nil) mixed Tryz.func62 rfl Tryz.call62 (by decide) (by kernel_rfl) m_laws_markItemS (by intro _ (y : _) _; exact ⟨by simp [c_laws_markItemS, con, conG, conW, AV.noRd, noRdCells, noRdRows, noRdRows_map', encS, encI, encO], by simp [c_laws_markItemS, con, conG, conW, AV.noRd, noRdCells, noRdRows, noRdRows_map', encS, encI, encO]⟩) (by intro (y : _) _; first | (simp [c_laws_markItemS, con, conG, conW, conP, AV.free, freeCells, freeRows, freeRows_map, encS, encI, encO]; done) | (obtain ⟨_, _⟩ := y; simp [c_laws_markItemS, con, conG, conW, conP, AV.free, freeCells, freeRows, freeRows_map, encS, encI, encO]; done) | (obtain ⟨_, _, _⟩ := y; simp [c_laws_markItemS, con, conG, conW, conP, AV.free, freeCells, freeRows, freeRows_map, encS, encI, encO]; done))
noncomputable def c_laws_heldItemS : PCon := con [mS 4, mC] true (Nat × Int) (fun ⟨n, k⟩ => [.rd 4 ((List.range n).map fun i => encI (mkI k i)), .int .i64 k]) (fun x => x.1 ≤ 4194304 ∧ 0 ≤ x.2 ∧ x.2 ≤ 1099511627776) (fun x => .int .i64 (x.2 + 4 * x.1))
noncomputable def E_laws_heldItemS : Env := ⟨lookup tyTab, lookup [(63, c_laws_markText)], [0, 1, 4, 5, 9, 19, 28, 38, 47]⟩
set_option maxRecDepth 100000 in
set_option maxHeartbeats 4000000 in
theorem m_laws_heldItemS : Meets E_laws_heldItemS (codeOf Tryz.f64) Tryz.f64.results.toList c_laws_heldItemS := by
  rintro ⟨n, k⟩ hs
  obtain ⟨hs1, hk1, hk2⟩ : n ≤ 4194304 ∧ 0 ≤ k ∧ k ≤ 1099511627776 := hs
  refine ⟨trivial, ?_⟩
  skip
  refine loop_rule (fun i : Nat => ⟨[(0, ⟨none, .rd 4 ((List.range n).map fun i => encI (mkI k i))⟩), (1, ⟨none, .int .i64 (k + 4 * i)⟩), (5, ⟨none, .int .i64 i⟩)], [], 0⟩)
    (fun i => i ≤ n) (fun i => n - i) 0 ?_ (by omega) ?_
  · (refine ⟨?_, ?_, rfl⟩ <;> repeat' (first | exact rfl | exact trivial | refine ⟨?_, ?_⟩ | fail) <;> (conv => whnf))
    all_goals simp
  intro i hi
  have hi : i ≤ n := hi
  (conv => whnf); refine ⟨fun h2 => ?_, fun h2 => ?_⟩
  · have h2 : i < n := by simpa using h2
    have hx : ((List.range n).map fun i => encI (mkI k i))[(i : Int).toNat]? = some (encI (mkI k i)) := by simp [h2]
    repeat ((conv => whnf); first | refine ⟨(by kernel_rfl : drawOk _ _ = true), ?_⟩ | refine ⟨(_ : Int), rfl, fun _ => (show (_ : Int) ≤ (1152921504606846976 : Int) from by omega), ?_⟩ | refine ⟨encI (mkI k i), fun _ => ⟨by omega, hx⟩, ?_⟩)
    conv => whnf
    refine ⟨fun h => ?_, fun _ => ?_⟩
    · exfalso
      simp [mkI, hide_eq, c_laws_markText, con, Int.add_assoc] at h
    repeat ((conv => whnf); first | refine ⟨_, w64 (by (show (_ : Prop)); first | omega | ((try dsimp only at *); (try simp only [lns] at *); omega)), ?_⟩ | refine ⟨encI (mkI k i), fun _ => ⟨by omega, hx⟩, ?_⟩)
    conv => whnf
    refine ⟨fun h => ?_, fun _ => ?_⟩
    · exfalso
      simp [mkI, hide_eq, c_laws_markText, con, Int.add_assoc] at h
    repeat ((conv => whnf); first | refine ⟨(by kernel_rfl : drawOk _ _ = true), ?_⟩ | refine ⟨_, w64 (by (show (_ : Prop)); first | omega | ((try dsimp only at *); (try simp only [lns] at *); omega)), ?_⟩ | refine ⟨(_ : Int), rfl, fun _ => (show (_ : Int) ≤ (1152921504606846976 : Int) from by omega), ?_⟩ | refine ⟨encI (mkI k i), fun _ => ⟨by omega, hx⟩, ?_⟩)
    conv => whnf
    refine ⟨fun h => ?_, fun _ => ?_⟩
    · exfalso
      simp [mkI, hide_eq, c_laws_markText, con, Int.add_assoc] at h
    repeat ((conv => whnf); first | refine ⟨_, w64 (by (show (_ : Prop)); first | omega | ((try dsimp only at *); (try simp only [lns] at *); omega)), ?_⟩ | refine ⟨encI (mkI k i), fun _ => ⟨by omega, hx⟩, ?_⟩)
    conv => whnf
    refine ⟨fun h => ?_, fun _ => ?_⟩
    · exfalso
      simp [mkI, hide_eq, c_laws_markText, con, Int.add_assoc] at h
    repeat ((conv => whnf); refine ⟨_, w64 (by (show (_ : Prop)); first | omega | ((try dsimp only at *); (try simp only [lns] at *); omega)), ?_⟩)
    refine again (i + 1) ?_ h2 (by first | omega | (simp; done) | (simp; omega))
    (refine ⟨?_, ?_, rfl⟩ <;> repeat' (first | exact rfl | exact trivial | refine ⟨?_, ?_⟩ | fail) <;> (conv => whnf))
    omega
  · have h2 : i = n := by
      have : ¬ i < n := by simpa using h2
      omega
    subst h2
    skip
    exact ⟨trivial, rfl⟩
theorem ok_laws_heldItemS : ConOk Tryz.prog 64 c_laws_heldItemS := meets_ok (tabT _ _) (FOk.cons ok_laws_markText FOk.nil) mixed Tryz.func64 rfl Tryz.call64 (by decide) (by kernel_rfl) m_laws_heldItemS (by intro _ (y : (Nat × Int)) _; exact ⟨by simp [c_laws_heldItemS, con, conG, conW, AV.noRd, noRdCells, noRdRows, noRdRows_map', encS, encI, encO], by simp [c_laws_heldItemS, con, conG, conW, AV.noRd, noRdCells, noRdRows, noRdRows_map', encS, encI, encO]⟩) (by intro (y : (Nat × Int)) _; first | (simp [c_laws_heldItemS, con, conG, conW, conP, AV.free, freeCells, freeRows, freeRows_map, encS, encI, encO]; done) | (obtain ⟨_, _⟩ := y; simp [c_laws_heldItemS, con, conG, conW, conP, AV.free, freeCells, freeRows, freeRows_map, encS, encI, encO]; done) | (obtain ⟨_, _, _⟩ := y; simp [c_laws_heldItemS, con, conG, conW, conP, AV.free, freeCells, freeRows, freeRows_map, encS, encI, encO]; done))
end Go.GH

set_option linter.unusedVariables false
set_option linter.unusedSimpArgs false
namespace Go.GH
open Go Go.Proofs
noncomputable def c_laws_markTree : PCon := ⟨[.ma, mC], false, false, Tr × Int, fun ⟨t, k⟩ => [.agg [.own 4 (t.map encI)], .int .i64 k], fun x => smT x.1 ∧ 0 ≤ x.2 ∧ x.2 ≤ 1099511627776, fun x => .int .i64 (x.2 + 4 * x.1.length), fun ⟨t, k⟩ => [.own 4 ((List.range t.length).map fun i => encI (mkI k i))], fun _ => True, false⟩
noncomputable def E_laws_markTree : Env := ⟨lookup tyTab, lookup [(62, c_laws_markItemS)], [0, 1, 2, 4]⟩
set_option maxRecDepth 100000 in
set_option maxHeartbeats 4000000 in
theorem m_laws_markTree : Meets E_laws_markTree (codeOf Tryz.f24) Tryz.f24.results.toList c_laws_markTree := by
  rintro ⟨t, k⟩ hs
  refine ⟨⟨⟨_, _, _, rfl, rfl, by simp⟩, trivial⟩, ?_⟩
  skip
  refine ⟨rfl, rfl, (t, k), rfl, fun _ => hs, ?_⟩
  skip
  exact ⟨⟨rfl, trivial⟩, rfl⟩
theorem ok_laws_markTree : ConOk Tryz.prog 24 c_laws_markTree := meets_ok (tabT _ _) (FOk.cons ok_laws_markItemS FOk.nil) mixed Tryz.func24 rfl Tryz.call24 (by decide) (by kernel_rfl) m_laws_markTree (by intro _ (y : _) _; exact ⟨by simp [c_laws_markTree, con, conG, conW, AV.noRd, noRdCells, noRdRows, noRdRows_map', encS, encI, encO], by simp [c_laws_markTree, con, conG, conW, AV.noRd, noRdCells, noRdRows, noRdRows_map', encS, encI, encO]⟩) (by intro (y : _) _; first | (simp [c_laws_markTree, con, conG, conW, conP, AV.free, freeCells, freeRows, freeRows_map, encS, encI, encO]; done) | (obtain ⟨_, _⟩ := y; simp [c_laws_markTree, con, conG, conW, conP, AV.free, freeCells, freeRows, freeRows_map, encS, encI, encO]; done) | (obtain ⟨_, _, _⟩ := y; simp [c_laws_markTree, con, conG, conW, conP, AV.free, freeCells, freeRows, freeRows_map, encS, encI, encO]; done))
noncomputable def c_laws_heldTree : PCon := con [mS 4, mC] true (Nat × Int) (fun ⟨n, k⟩ => [.agg [.rd 4 ((List.range n).map fun i => encI (mkI k i))], .int .i64 k]) (fun x => x.1 ≤ 4194304 ∧ 0 ≤ x.2 ∧ x.2 ≤ 1099511627776) (fun x => .int .i64 (x.2 + 4 * x.1))
noncomputable def E_laws_heldTree : Env := ⟨lookup tyTab, lookup [(64, c_laws_heldItemS)], [0, 1, 2, 4, 10]⟩
set_option maxRecDepth 100000 in
set_option maxHeartbeats 4000000 in
theorem m_laws_heldTree : Meets E_laws_heldTree (codeOf Tryz.f27) Tryz.f27.results.toList c_laws_heldTree := by
  rintro ⟨n, k⟩ hs
  obtain ⟨hs1, hk1, hk2⟩ : n ≤ 4194304 ∧ 0 ≤ k ∧ k ≤ 1099511627776 := hs
  refine ⟨trivial, ?_⟩
  skip
  refine ⟨(n, k), by refine argRK ?_; simp [toRdRows_mk (f := encI) (fun _ => rfl)], fun _ => ⟨hs1, hk1, hk2⟩, ?_⟩
  skip
  conv => whnf
  refine ⟨fun h => ?_, fun _ => ?_⟩
  · have h : decide (k + 4 * (n : Int) < 0) = true := h
    simp at h
    omega
  skip
  exact ⟨trivial, rfl⟩
theorem ok_laws_heldTree : ConOk Tryz.prog 27 c_laws_heldTree := meets_ok (tabT _ _) (FOk.cons ok_laws_heldItemS FOk.nil) mixed Tryz.func27 rfl Tryz.call27 (by decide) (by kernel_rfl) m_laws_heldTree (by intro _ (y : (Nat × Int)) _; exact ⟨by simp [c_laws_heldTree, con, conG, conW, AV.noRd, noRdCells, noRdRows, noRdRows_map', encS, encI, encO], by simp [c_laws_heldTree, con, conG, conW, AV.noRd, noRdCells, noRdRows, noRdRows_map', encS, encI, encO]⟩) (by intro (y : (Nat × Int)) _; first | (simp [c_laws_heldTree, con, conG, conW, conP, AV.free, freeCells, freeRows, freeRows_map, encS, encI, encO]; done) | (obtain ⟨_, _⟩ := y; simp [c_laws_heldTree, con, conG, conW, conP, AV.free, freeCells, freeRows, freeRows_map, encS, encI, encO]; done) | (obtain ⟨_, _, _⟩ := y; simp [c_laws_heldTree, con, conG, conW, conP, AV.free, freeCells, freeRows, freeRows_map, encS, encI, encO]; done))
end Go.GH

set_option linter.unusedVariables false
set_option linter.unusedSimpArgs false
namespace Go.GH
open Go Go.Proofs
noncomputable def c_laws_markOpS : PCon := ⟨[.mv, mC], false, false, List OpR × Int, fun ⟨t, k⟩ => [.own 6 (t.map encO), .int .i64 k], fun x => x.1.length ≤ 4194304 ∧ 0 ≤ x.2 ∧ x.2 ≤ 1099511627776, fun x => .int .i64 (x.2 + 6 * x.1.length), fun ⟨t, k⟩ => [.own 6 ((List.range t.length).map fun i => encO (mkO k i))], fun _ => True, false⟩
noncomputable def E_laws_markOpS : Env := ⟨lookup tyTab, lookup [(63, c_laws_markText)], [0, 1, 4, 5, 9]⟩
set_option maxRecDepth 100000 in
set_option maxHeartbeats 4000000 in
theorem m_laws_markOpS : Meets E_laws_markOpS (codeOf Tryz.f25) Tryz.f25.results.toList c_laws_markOpS := by
  rintro ⟨t, k⟩ hs
  obtain ⟨hs1, hk1, hk2⟩ : t.length ≤ 4194304 ∧ 0 ≤ k ∧ k ≤ 1099511627776 := hs
  refine ⟨⟨⟨_, _, _, rfl, rfl, by simp⟩, trivial⟩, ?_⟩
  skip
  refine loop_rule (fun i : Nat => ⟨[(0, ⟨none, .view 0 [] 0 t.length⟩), (1, ⟨none, .int .i64 (k + 6 * i)⟩), (5, ⟨none, .int .i64 i⟩)], [(0, .own 6 (marked encO (mkO k) t i))], 1⟩)
    (fun i => i ≤ t.length) (fun i => t.length - i) 0 ?_ (by omega) ?_
  · (refine ⟨?_, ?_, rfl⟩ <;> repeat' (first | exact rfl | exact trivial | refine ⟨?_, ?_⟩ | fail) <;> (conv => whnf))
    all_goals simp [marked]
  intro i hi
  have hi : i ≤ t.length := hi
  (conv => whnf); refine ⟨fun h2 => ?_, fun h2 => ?_⟩
  · have h2 : i < t.length := by simpa using h2
    have hml := marked_len (f := encO) (mk := mkO k) (l := t) (i := i) hi
    obtain ⟨x, hx⟩ := get_lt h2
    repeat ((conv => whnf); first | refine ⟨_, w64 (by (show (_ : Prop)); first | omega | ((try dsimp only at *); (try simp only [lns] at *); omega)), ?_⟩ | refine ⟨by (show (_ : Prop)); first | omega | ((try dsimp only at *); (try simp only [lns] at *); omega), ?_⟩ | refine ⟨(_ : Int), rfl, fun _ => (show (_ : Int) ≤ (1152921504606846976 : Int) from by omega), ?_⟩ | refine ⟨encO x, by rw [Nat.zero_add, Int.toNat_natCast]; exact marked_get hx, ?_⟩ | refine ⟨_, set_get (by simp only [List.length_set, hml, Nat.zero_add, Int.toNat_natCast]; exact h2), ?_⟩)
    refine again (i + 1) ?_ h2 (by first | omega | (simp; done) | (simp; omega))
    (refine ⟨?_, ?_, rfl⟩ <;> repeat' (first | exact rfl | exact trivial | refine ⟨?_, ?_⟩ | fail) <;> (conv => whnf))
    · omega
    · rw [← marked_set hx]
      simp only [Nat.zero_add, Int.toNat_natCast, set_set]
      congr 1
      simp [encO, mkO, hide_eq, c_laws_markText, con, Int.add_assoc]
  · have h2 : i = t.length := by
      have : ¬ i < t.length := by simpa using h2
      omega
    subst h2
    skip
    exact ⟨⟨congrArg some (congrArg (AV.own 6) marked_all), trivial⟩, rfl⟩
theorem ok_laws_markOpS : ConOk Tryz.prog 25 c_laws_markOpS := meets_ok (tabT _ _) (FOk.cons ok_laws_markText FOk.nil) mixed Tryz.func25 rfl Tryz.call25 (by decide) (by kernel_rfl) m_laws_markOpS (by intro _ (y : _) _; exact ⟨by simp [c_laws_markOpS, con, conG, conW, AV.noRd, noRdCells, noRdRows, noRdRows_map', encS, encI, encO], by simp [c_laws_markOpS, con, conG, conW, AV.noRd, noRdCells, noRdRows, noRdRows_map', encS, encI, encO]⟩) (by intro (y : _) _; first | (simp [c_laws_markOpS, con, conG, conW, conP, AV.free, freeCells, freeRows, freeRows_map, encS, encI, encO]; done) | (obtain ⟨_, _⟩ := y; simp [c_laws_markOpS, con, conG, conW, conP, AV.free, freeCells, freeRows, freeRows_map, encS, encI, encO]; done) | (obtain ⟨_, _, _⟩ := y; simp [c_laws_markOpS, con, conG, conW, conP, AV.free, freeCells, freeRows, freeRows_map, encS, encI, encO]; done))
noncomputable def c_laws_eqOp : PCon := con [.rd [none, none, none, none, none, none], .rd [none, none, none, none, none, none]] true OpR (fun x => [.agg (encO x), .agg (encO x)]) (fun _ => True) (fun _ => .bool true)
noncomputable def E_laws_eqOp : Env := ⟨lookup tyTab, lookup [], [0, 1, 2, 3, 4, 9, 14, 19, 24, 29, 34]⟩
set_option maxRecDepth 100000 in
set_option maxHeartbeats 4000000 in
theorem m_laws_eqOp : Meets E_laws_eqOp (codeOf Tryz.f61) Tryz.f61.results.toList c_laws_eqOp := by
  intro (x : OpR) hs
  refine ⟨trivial, ?_⟩
  conv => whnf
  refine ⟨fun h => ?_, fun _ => ?_⟩
  · exfalso; simp at h
  conv => whnf
  refine ⟨fun h => ?_, fun _ => ?_⟩
  · exfalso; simp at h
  conv => whnf
  refine ⟨fun h => ?_, fun _ => ?_⟩
  · exfalso; simp at h
  conv => whnf
  refine ⟨fun h => ?_, fun _ => ?_⟩
  · exfalso; simp at h
  conv => whnf
  refine ⟨fun h => ?_, fun _ => ?_⟩
  · exfalso; simp at h
  conv => whnf
  refine ⟨fun h => ?_, fun _ => ?_⟩
  · exfalso; simp at h
  conv => whnf
  exact ⟨trivial, rfl⟩
theorem ok_laws_eqOp : ConOk Tryz.prog 61 c_laws_eqOp := meets_ok (tabT _ _) FOk.nil mixed Tryz.func61 rfl Tryz.call61 (by decide) (by kernel_rfl) m_laws_eqOp (by intro _ (y : OpR) _; exact ⟨by simp [c_laws_eqOp, con, conG, conW, AV.noRd, noRdCells, noRdRows, noRdRows_map', encS, encI, encO], by simp [c_laws_eqOp, con, conG, conW, AV.noRd, noRdCells, noRdRows, noRdRows_map', encS, encI, encO]⟩) (by intro (y : OpR) _; first | (simp [c_laws_eqOp, con, conG, conW, conP, AV.free, freeCells, freeRows, freeRows_map, encS, encI, encO]; done) | (obtain ⟨_, _⟩ := y; simp [c_laws_eqOp, con, conG, conW, conP, AV.free, freeCells, freeRows, freeRows_map, encS, encI, encO]; done) | (obtain ⟨_, _, _⟩ := y; simp [c_laws_eqOp, con, conG, conW, conP, AV.free, freeCells, freeRows, freeRows_map, encS, encI, encO]; done))
noncomputable def c_laws_eqOpS : PCon := con [mS 6, mS 6] true (List OpR) (fun t => [.rd 6 (t.map encO), .rd 6 (t.map encO)]) (fun t => t.length ≤ 4194304) (fun _ => .bool true)
noncomputable def E_laws_eqOpS : Env := ⟨lookup tyTab, lookup [(61, c_laws_eqOp)], [0, 1, 4, 5, 10, 14, 26]⟩
set_option maxRecDepth 100000 in
set_option maxHeartbeats 4000000 in
theorem m_laws_eqOpS : Meets E_laws_eqOpS (codeOf Tryz.f23) Tryz.f23.results.toList c_laws_eqOpS := by
  intro (t : List OpR) (hs1 : t.length ≤ 4194304)
  refine ⟨trivial, ?_⟩
  conv => whnf
  refine ⟨fun h => ?_, fun _ => ?_⟩
  · simp at h
  skip
  refine loop_rule (fun i : Nat => ⟨[(0, ⟨none, .rd 6 (t.map encO)⟩), (1, ⟨none, .rd 6 (t.map encO)⟩), (5, ⟨none, .int .i64 i⟩)], [], 0⟩)
    (fun i => i ≤ t.length) (fun i => t.length - i) 0 ?_ (by omega) ?_
  · (refine ⟨?_, ?_, rfl⟩ <;> repeat' (first | exact rfl | exact trivial | refine ⟨?_, ?_⟩ | fail) <;> (conv => whnf))
  intro i hi
  have hi : i ≤ t.length := hi
  (conv => whnf); refine ⟨fun h6 => ?_, fun h6 => ?_⟩
  · have h6 : i < t.length := by simpa using h6
    obtain ⟨b, hb⟩ := get_lt h6
    repeat ((conv => whnf); first | refine ⟨(by kernel_rfl : drawOk _ _ = true), ?_⟩ | refine ⟨encO b, fun _ => ⟨by omega, get_map hb⟩, ?_⟩ | refine ⟨b, rfl, fun _ => trivial, ?_⟩)
    conv => whnf
    refine ⟨fun h => absurd h (by decide), fun _ => ?_⟩
    repeat ((conv => whnf); refine ⟨_, w64 (by (show (_ : Prop)); first | omega | ((try dsimp only at *); (try simp only [lns] at *); omega)), ?_⟩)
    refine again (i + 1) ?_ h6 (by first | omega | (simp; done) | (simp; omega))
    (refine ⟨?_, ?_, rfl⟩ <;> repeat' (first | exact rfl | exact trivial | refine ⟨?_, ?_⟩ | fail) <;> (conv => whnf))
  · conv => whnf
    exact ⟨trivial, rfl⟩
theorem ok_laws_eqOpS : ConOk Tryz.prog 23 c_laws_eqOpS := meets_ok (tabT _ _) (FOk.cons ok_laws_eqOp FOk.nil) mixed Tryz.func23 rfl Tryz.call23 (by decide) (by kernel_rfl) m_laws_eqOpS (by intro _ (y : (List OpR)) _; exact ⟨by simp [c_laws_eqOpS, con, conG, conW, AV.noRd, noRdCells, noRdRows, noRdRows_map', encS, encI, encO], by simp [c_laws_eqOpS, con, conG, conW, AV.noRd, noRdCells, noRdRows, noRdRows_map', encS, encI, encO]⟩) (by intro (y : (List OpR)) _; first | (simp [c_laws_eqOpS, con, conG, conW, conP, AV.free, freeCells, freeRows, freeRows_map, encS, encI, encO]; done) | (obtain ⟨_, _⟩ := y; simp [c_laws_eqOpS, con, conG, conW, conP, AV.free, freeCells, freeRows, freeRows_map, encS, encI, encO]; done) | (obtain ⟨_, _, _⟩ := y; simp [c_laws_eqOpS, con, conG, conW, conP, AV.free, freeCells, freeRows, freeRows_map, encS, encI, encO]; done))
end Go.GH

set_option linter.unusedVariables false
set_option linter.unusedSimpArgs false
namespace Go.GH
open Go Go.Proofs
noncomputable def c_laws_markIntS : PCon := conW false [.mv, mC] (List Int × Int) (fun ⟨t, k⟩ => [.own 1 (t.map encN), .int .i64 k]) (fun x => x.1.length ≤ 4194304 ∧ 0 ≤ x.2 ∧ x.2 ≤ 1099511627776) (fun x => .int .i64 (x.2 + x.1.length)) (fun ⟨t, k⟩ => [.own 1 ((List.range t.length).map fun i : Nat => encN (k + i))])
noncomputable def E_laws_markIntS : Env := ⟨lookup tyTab, lookup [], [0, 1, 4, 5, 9]⟩
set_option maxRecDepth 100000 in
set_option maxHeartbeats 4000000 in
theorem m_laws_markIntS : Meets E_laws_markIntS (codeOf Tryz.f26) Tryz.f26.results.toList c_laws_markIntS := by
  rintro ⟨t, k⟩ hs
  obtain ⟨hs1, hk1, hk2⟩ : t.length ≤ 4194304 ∧ 0 ≤ k ∧ k ≤ 1099511627776 := hs
  refine ⟨⟨⟨_, _, _, rfl, rfl, by simp⟩, trivial⟩, ?_⟩
  skip
  refine loop_rule (fun i : Nat => ⟨[(0, ⟨none, .view 0 [] 0 t.length⟩), (1, ⟨none, .int .i64 (k + i)⟩), (5, ⟨none, .int .i64 i⟩)], [(0, .own 1 (marked encN (fun i => k + i) t i))], 1⟩)
    (fun i => i ≤ t.length) (fun i => t.length - i) 0 ?_ (by omega) ?_
  · (refine ⟨?_, ?_, rfl⟩ <;> repeat' (first | exact rfl | exact trivial | refine ⟨?_, ?_⟩ | fail) <;> (conv => whnf))
    all_goals simp [marked]
  intro i hi
  have hi : i ≤ t.length := hi
  (conv => whnf); refine ⟨fun h2 => ?_, fun h2 => ?_⟩
  · have h2 : i < t.length := by simpa using h2
    have hml := marked_len (f := encN) (mk := fun i => k + i) (l := t) (i := i) hi
    obtain ⟨x, hx⟩ := get_lt h2
    repeat ((conv => whnf); first | refine ⟨_, w64 (by (show (_ : Prop)); first | omega | ((try dsimp only at *); (try simp only [lns] at *); omega)), ?_⟩ | refine ⟨by (show (_ : Prop)); first | omega | ((try dsimp only at *); (try simp only [lns] at *); omega), ?_⟩ | refine ⟨encN x, by rw [Nat.zero_add, Int.toNat_natCast]; exact marked_get hx, ?_⟩)
    refine again (i + 1) ?_ h2 (by first | omega | (simp; done) | (simp; omega))
    (refine ⟨?_, ?_, rfl⟩ <;> repeat' (first | exact rfl | exact trivial | refine ⟨?_, ?_⟩ | fail) <;> (conv => whnf))
    · omega
    · rw [← marked_set hx]
      simp only [Nat.zero_add, Int.toNat_natCast]
      rfl
  · have h2 : i = t.length := by
      have : ¬ i < t.length := by simpa using h2
      omega
    subst h2
    skip
    exact ⟨⟨congrArg some (congrArg (AV.own 1) marked_all), trivial⟩, rfl⟩
theorem ok_laws_markIntS : ConOk Tryz.prog 26 c_laws_markIntS := meets_ok (tabT _ _) FOk.nil mixed Tryz.func26 rfl Tryz.call26 (by decide) (by kernel_rfl) m_laws_markIntS (by intro _ (y : (List Int × Int)) _; exact ⟨by simp [c_laws_markIntS, con, conG, conW, AV.noRd, noRdCells, noRdRows, noRdRows_map', encS, encN], by simp [c_laws_markIntS, con, conG, conW, AV.noRd, noRdCells, noRdRows, noRdRows_map', encS, encN]⟩) (by intro (y : (List Int × Int)) _; first | (simp [c_laws_markIntS, con, conG, conW, conP, AV.free, freeCells, freeRows, freeRows_map, encS, encN]; done) | (obtain ⟨_, _⟩ := y; simp [c_laws_markIntS, con, conG, conW, conP, AV.free, freeCells, freeRows, freeRows_map, encS, encN]; done) | (obtain ⟨_, _, _⟩ := y; simp [c_laws_markIntS, con, conG, conW, conP, AV.free, freeCells, freeRows, freeRows_map, encS, encN]; done))
noncomputable def c_laws_heldIntS : PCon := con [mS 1, mC] true (Nat × Int) (fun ⟨n, k⟩ => [.rd 1 ((List.range n).map fun i : Nat => encN (k + i)), .int .i64 k]) (fun x => x.1 ≤ 4194304 ∧ 0 ≤ x.2 ∧ x.2 ≤ 1099511627776) (fun x => .int .i64 (x.2 + x.1))
noncomputable def E_laws_heldIntS : Env := ⟨lookup tyTab, lookup [], [0, 1, 4, 5, 9, 17]⟩
set_option maxRecDepth 100000 in
set_option maxHeartbeats 4000000 in
theorem m_laws_heldIntS : Meets E_laws_heldIntS (codeOf Tryz.f28) Tryz.f28.results.toList c_laws_heldIntS := by
  rintro ⟨n, k⟩ hs
  obtain ⟨hs1, hk1, hk2⟩ : n ≤ 4194304 ∧ 0 ≤ k ∧ k ≤ 1099511627776 := hs
  refine ⟨trivial, ?_⟩
  skip
  refine loop_rule (fun i : Nat => ⟨[(0, ⟨none, .rd 1 ((List.range n).map fun i : Nat => encN (k + i))⟩), (1, ⟨none, .int .i64 (k + i)⟩), (5, ⟨none, .int .i64 i⟩)], [], 0⟩)
    (fun i => i ≤ n) (fun i => n - i) 0 ?_ (by omega) ?_
  · (refine ⟨?_, ?_, rfl⟩ <;> repeat' (first | exact rfl | exact trivial | refine ⟨?_, ?_⟩ | fail) <;> (conv => whnf))
    all_goals simp
  intro i hi
  have hi : i ≤ n := hi
  (conv => whnf); refine ⟨fun h2 => ?_, fun h2 => ?_⟩
  · have h2 : i < n := by simpa using h2
    have hx : ((List.range n).map fun i : Nat => encN (k + i))[(i : Int).toNat]? = some (encN (k + i)) := by simp [h2]
    repeat ((conv => whnf); refine ⟨encN (k + i), fun _ => ⟨by omega, hx⟩, ?_⟩)
    (conv => whnf); refine ⟨fun h3 => ?_, fun h3 => ?_⟩
    · exfalso; simp at h3
    repeat ((conv => whnf); refine ⟨_, w64 (by (show (_ : Prop)); first | omega | ((try dsimp only at *); (try simp only [lns] at *); omega)), ?_⟩)
    refine again (i + 1) ?_ h2 (by first | omega | (simp; done) | (simp; omega))
    (refine ⟨?_, ?_, rfl⟩ <;> repeat' (first | exact rfl | exact trivial | refine ⟨?_, ?_⟩ | fail) <;> (conv => whnf))
    omega
  · have h2 : i = n := by
      have : ¬ i < n := by simpa using h2
      omega
    subst h2
    skip
    exact ⟨trivial, rfl⟩
theorem ok_laws_heldIntS : ConOk Tryz.prog 28 c_laws_heldIntS := meets_ok (tabT _ _) FOk.nil mixed Tryz.func28 rfl Tryz.call28 (by decide) (by kernel_rfl) m_laws_heldIntS (by intro _ (y : (Nat × Int)) _; exact ⟨by simp [c_laws_heldIntS, con, conG, conW, AV.noRd, noRdCells, noRdRows, noRdRows_map', encS, encN], by simp [c_laws_heldIntS, con, conG, conW, AV.noRd, noRdCells, noRdRows, noRdRows_map', encS, encN]⟩) (by intro (y : (Nat × Int)) _; first | (simp [c_laws_heldIntS, con, conG, conW, conP, AV.free, freeCells, freeRows, freeRows_map, encS, encN]; done) | (obtain ⟨_, _⟩ := y; simp [c_laws_heldIntS, con, conG, conW, conP, AV.free, freeCells, freeRows, freeRows_map, encS, encN]; done) | (obtain ⟨_, _, _⟩ := y; simp [c_laws_heldIntS, con, conG, conW, conP, AV.free, freeCells, freeRows, freeRows_map, encS, encN]; done))
noncomputable def c_laws_eqIntS : PCon := con [mS 1, mS 1] true (List Int) (fun t => [.rd 1 (t.map encN), .rd 1 (t.map encN)]) (fun t => t.length ≤ 4194304) (fun _ => .bool true)
noncomputable def E_laws_eqIntS : Env := ⟨lookup tyTab, lookup [], [0, 1, 4, 5, 10, 14, 25]⟩
set_option maxRecDepth 100000 in
set_option maxHeartbeats 4000000 in
theorem m_laws_eqIntS : Meets E_laws_eqIntS (codeOf Tryz.f22) Tryz.f22.results.toList c_laws_eqIntS := by
  intro (t : List Int) (hs1 : t.length ≤ 4194304)
  refine ⟨trivial, ?_⟩
  conv => whnf
  refine ⟨fun h => ?_, fun _ => ?_⟩
  · simp at h
  skip
  refine loop_rule (fun i : Nat => ⟨[(0, ⟨none, .rd 1 (t.map encN)⟩), (1, ⟨none, .rd 1 (t.map encN)⟩), (5, ⟨none, .int .i64 i⟩)], [], 0⟩)
    (fun i => i ≤ t.length) (fun i => t.length - i) 0 ?_ (by omega) ?_
  · (refine ⟨?_, ?_, rfl⟩ <;> repeat' (first | exact rfl | exact trivial | refine ⟨?_, ?_⟩ | fail) <;> (conv => whnf))
  intro i hi
  have hi : i ≤ t.length := hi
  (conv => whnf); refine ⟨fun h6 => ?_, fun h6 => ?_⟩
  · have h6 : i < t.length := by simpa using h6
    obtain ⟨b, hb⟩ := get_lt h6
    repeat ((conv => whnf); first | refine ⟨(by kernel_rfl : drawOk _ _ = true), ?_⟩ | refine ⟨encN b, fun _ => ⟨by omega, get_map hb⟩, ?_⟩)
    (conv => whnf); refine ⟨fun h7 => ?_, fun h7 => ?_⟩
    · exfalso; simp at h7
    repeat ((conv => whnf); refine ⟨_, w64 (by (show (_ : Prop)); first | omega | ((try dsimp only at *); (try simp only [lns] at *); omega)), ?_⟩)
    refine again (i + 1) ?_ h6 (by first | omega | (simp; done) | (simp; omega))
    (refine ⟨?_, ?_, rfl⟩ <;> repeat' (first | exact rfl | exact trivial | refine ⟨?_, ?_⟩ | fail) <;> (conv => whnf))
  · conv => whnf
    exact ⟨trivial, rfl⟩
theorem ok_laws_eqIntS : ConOk Tryz.prog 22 c_laws_eqIntS := meets_ok (tabT _ _) FOk.nil mixed Tryz.func22 rfl Tryz.call22 (by decide) (by kernel_rfl) m_laws_eqIntS (by intro _ (y : (List Int)) _; exact ⟨by simp [c_laws_eqIntS, con, conG, conW, AV.noRd, noRdCells, noRdRows, noRdRows_map', encS, encN], by simp [c_laws_eqIntS, con, conG, conW, AV.noRd, noRdCells, noRdRows, noRdRows_map', encS, encN]⟩) (by intro (y : (List Int)) _; first | (simp [c_laws_eqIntS, con, conG, conW, conP, AV.free, freeCells, freeRows, freeRows_map, encS, encN]; done) | (obtain ⟨_, _⟩ := y; simp [c_laws_eqIntS, con, conG, conW, conP, AV.free, freeCells, freeRows, freeRows_map, encS, encN]; done) | (obtain ⟨_, _, _⟩ := y; simp [c_laws_eqIntS, con, conG, conW, conP, AV.free, freeCells, freeRows, freeRows_map, encS, encN]; done))
end Go.GH

set_option linter.unusedVariables false
set_option linter.unusedSimpArgs false
namespace Go.GH
open Go Go.Proofs
theorem rdN (l : List Int) : toRdRows (l.map encN) = l.map encN := toRdRows_map (fun _ => rfl) l
noncomputable def c_laws_FnExactTreeDoAll : PCon := con [mS 4, mS 6] true (Tr × List OpR) (fun ⟨t, l⟩ => [rdT t, .rd 6 (l.map encO)]) (fun x => (x.1.length ≤ 9223372036854775807 ∧ ∀ y, y ∈ x.1 → y.path.length ≤ 9223372036854775807 ∧ y.data.length ≤ 9223372036854775807) ∧ x.2.length ≤ 9223372036854775807 ∧ ∀ y, y ∈ x.2 → bigO y) (fun _ => .bool true)
noncomputable def E_laws_FnExactTreeDoAll : Env := ⟨lookup tyTab, lookup [(15, c_laws_szTree), (16, c_laws_szOpS), (17, c_spec_TreeDoAll), (18, c_laws_toTree), (19, c_laws_toOpS), (20, c_impl_TreeDoAll), (21, c_laws_eqTree), (22, c_laws_eqIntS), (23, c_laws_eqOpS), (24, c_laws_markTree), (25, c_laws_markOpS), (26, c_laws_markIntS), (27, c_laws_heldTree), (28, c_laws_heldIntS)], [0, 1, 2, 4, 5, 6, 7, 8, 9, 10, 11, 12, 13, 14, 15, 16, 21, 26, 54, 59, 64, 84, 95, 100, 103, 121, 126, 131, 134]⟩
set_option maxRecDepth 100000 in
set_option maxHeartbeats 4000000 in
theorem m_laws_FnExactTreeDoAll : Meets E_laws_FnExactTreeDoAll (codeOf Tryz.f4) Tryz.f4.results.toList c_laws_FnExactTreeDoAll := by
  rintro ⟨t, l⟩ hs
  obtain ⟨hs1, hs2⟩ := hs
  refine ⟨trivial, ?_⟩
  skip
  refine ⟨(t, 1048576), rfl, fun _ => ⟨by show (0:Int) ≤ 1048576; decide, by show (1048576:Int) ≤ 4194304; decide, hs1⟩, ?_⟩
  (conv => whnf); refine ⟨fun h1 => ?_, fun h1 => ?_⟩
  · conv => whnf
    exact ⟨trivial, rfl⟩
  have h1 : ¬ szR 1048576 (szT t) < 0 := by simpa using h1
  have k1 := szR_ok h1
  have hst : smT t := szT_sm (n := 1048576) (by omega) (by omega)
  skip
  refine ⟨(l, szR 1048576 (szT t)), rfl, fun _ => ⟨by show 0 ≤ szR 1048576 (szT t); omega, by show szR 1048576 (szT t) ≤ 4194304; unfold szR; split <;> omega, hs2⟩, ?_⟩
  (conv => whnf); refine ⟨fun h2 => ?_, fun h2 => ?_⟩
  · conv => whnf
    exact ⟨trivial, rfl⟩
  have h2 : ¬ szR (szR 1048576 (szT t)) (szOL l) < 0 := by simpa using h2
  have k2 := szR_ok h2
  have hsl : smOL l := szOL_sm (n := 1048576) (by unfold szR at k2; split at k2 <;> omega) (by omega)
  obtain ⟨hmg, hcl⟩ := doAll_fin hst hsl
  have hlt : t.length ≤ 4194304 := hst.1
  have hll : l.length ≤ 1048576 := hsl.1
  skip
  refine ⟨t, rfl, fun _ => hst, ?_⟩
  skip
  refine ⟨l, rfl, fun _ => hsl, ?_⟩
  skip
  refine ⟨(t, l), by refine argTP ?_ ?_ <;> simp [rdI, rdO], fun _ => ⟨hst, hsl⟩, ?_⟩
  skip
  have hm1 : (doAll t l).1.length ≤ 4194304 := hmg.1
  have hc1 : (doAll t l).2.length ≤ 4194304 := by omega
  refine ⟨t, rfl, fun _ => hst, ?_⟩
  skip
  refine ⟨l, rfl, fun _ => hsl, ?_⟩
  skip
  refine ⟨(t, l), by refine argTP ?_ ?_ <;> simp [rdI, rdO], fun _ => ⟨hst, hsl⟩, ?_⟩
  skip
  refine ⟨(doAll t l).1, by refine argTT ?_ ?_ <;> simp [rdI], fun _ => hmg, ?_⟩
  repeat ((conv => whnf); refine ⟨fun h => h, ?_⟩)
  refine ⟨(doAll t l).2, by refine argPP ?_ ?_ <;> simp [rdN], fun _ => hc1, ?_⟩
  repeat ((conv => whnf); refine ⟨fun h => h, ?_⟩)
  conv => whnf
  refine ⟨fun h => ?_, fun _ => ?_⟩
  · exfalso; simp at h
  skip
  refine ⟨t, rfl, fun _ => hst, ?_⟩
  skip
  refine ⟨t, by refine argTT ?_ ?_ <;> simp [rdI], fun _ => hst, ?_⟩
  repeat ((conv => whnf); refine ⟨(by kernel_rfl : drawOk _ _ = true), ?_⟩)
  conv => whnf
  refine ⟨fun h => absurd h (by decide), fun _ => ?_⟩
  skip
  refine ⟨l, rfl, fun _ => hsl, ?_⟩
  skip
  refine ⟨l, by refine argPP ?_ ?_ <;> simp [rdO], fun _ => by show l.length ≤ _; omega, ?_⟩
  skip
  conv => whnf
  refine ⟨fun h => absurd h (by decide), fun _ => ?_⟩
  repeat ((conv => whnf); refine ⟨by (show (_ : Prop)); first | omega | ((try dsimp only at *); (try simp only [lns] at *); omega), ?_⟩)
  refine ⟨(t, 1), by refine argCK ?_; simp, fun _ => ⟨hst, by show (0 : Int) ≤ 1; decide, by show (1 : Int) ≤ 1099511627776; decide⟩, ?_⟩
  repeat ((conv => whnf); refine ⟨by (show (_ : Prop)); first | omega | ((try dsimp only at *); (try simp only [lns] at *); omega), ?_⟩)
  refine ⟨(l, 1 + 4 * (t.length : Int)), rfl, fun _ => ⟨by show l.length ≤ _; omega, by show (0 : Int) ≤ 1 + 4 * (t.length : Int); omega, by show 1 + 4 * (t.length : Int) ≤ 1099511627776; omega⟩, ?_⟩
  repeat ((conv => whnf); refine ⟨fun h => h, ?_⟩)
  refine ⟨(doAll t l).1, by refine argTT ?_ ?_ <;> simp [rdI], fun _ => hmg, ?_⟩
  repeat ((conv => whnf); refine ⟨fun h => h, ?_⟩)
  refine ⟨(doAll t l).2, by refine argPP ?_ ?_ <;> simp [rdN], fun _ => hc1, ?_⟩
  repeat ((conv => whnf); refine ⟨fun h => h, ?_⟩)
  conv => whnf
  refine ⟨fun h => ?_, fun _ => ?_⟩
  · have h : ((decide (1 + 4 * (t.length : Int) + 6 * (l.length : Int) < 0) || !true) || !true) = true := h
    simp at h
    omega
  repeat ((conv => whnf); refine ⟨by (show (_ : Prop)); first | omega | ((try dsimp only at *); (try simp only [lns] at *); omega), ?_⟩)
  refine ⟨((doAll t l).1, 1), by refine argCK ?_; simp, fun _ => ⟨hmg, by show (0 : Int) ≤ 1; decide, by show (1 : Int) ≤ 1099511627776; decide⟩, ?_⟩
  repeat ((conv => whnf); refine ⟨by (show (_ : Prop)); first | omega | ((try dsimp only at *); (try simp only [lns] at *); omega), ?_⟩)
  refine ⟨((doAll t l).2, 1 + 4 * ((doAll t l).1.length : Int)), rfl, fun _ => ⟨hc1, by show (0 : Int) ≤ 1 + 4 * ((doAll t l).1.length : Int); omega, by show 1 + 4 * ((doAll t l).1.length : Int) ≤ 1099511627776; omega⟩, ?_⟩
  skip
  refine ⟨((doAll t l).1.length, 1), by refine argCR ?_; simp; rw [List.take_of_length_le (by simp), toRdRows_mk (f := encI) (fun _ => rfl)], fun _ => ⟨hm1, by show (0 : Int) ≤ 1; decide, by show (1 : Int) ≤ 1099511627776; decide⟩, ?_⟩
  skip
  conv => whnf
  refine ⟨fun h => ?_, fun _ => ?_⟩
  · have h : decide (1 + 4 * ((doAll t l).1.length : Int) < 0) = true := h
    simp at h
    omega
  skip
  refine ⟨((doAll t l).2.length, 1 + 4 * ((doAll t l).1.length : Int)), by refine argRK ?_; simp; rw [List.take_of_length_le (by simp), toRdRows_mk (f := encN) (fun _ => rfl)], fun _ => ⟨hc1, by show (0 : Int) ≤ 1 + 4 * ((doAll t l).1.length : Int); omega, by show 1 + 4 * ((doAll t l).1.length : Int) ≤ 1099511627776; omega⟩, ?_⟩
  skip
  conv => whnf
  refine ⟨fun h => ?_, fun _ => ?_⟩
  · have h : decide (1 + 4 * ((doAll t l).1.length : Int) + ((doAll t l).2.length : Int) < 0) = true := h
    simp at h
    omega
  skip
  conv => whnf
  refine ⟨fun h => ?_, fun _ => ?_⟩
  · have h : ((1 + 4 * ((doAll t l).1.length : Int) + ((doAll t l).2.length : Int)) != (1 + 4 * ((doAll t l).1.length : Int) + ((doAll t l).2.length : Int))) = true := h
    simp at h
  skip
  refine ⟨t, rfl, fun _ => hst, ?_⟩
  skip
  refine ⟨l, rfl, fun _ => hsl, ?_⟩
  skip
  refine ⟨(t, l), by refine argTP ?_ ?_ <;> simp [rdI, rdO], fun _ => ⟨hst, hsl⟩, ?_⟩
  skip
  refine ⟨(doAll t l).1, by refine argTT ?_ ?_ <;> simp [rdI], fun _ => hmg, ?_⟩
  repeat ((conv => whnf); refine ⟨fun h => h, ?_⟩)
  refine ⟨(doAll t l).2, by refine argPP ?_ ?_ <;> simp [rdN], fun _ => hc1, ?_⟩
  repeat ((conv => whnf); refine ⟨fun h => h, ?_⟩)
  conv => whnf
  refine ⟨fun h => ?_, fun _ => ?_⟩
  · exfalso; simp at h
  skip
  refine ⟨((doAll t l).1.length, 1), by refine argCR ?_; simp; rw [List.take_of_length_le (by simp), toRdRows_mk (f := encI) (fun _ => rfl)], fun _ => ⟨hm1, by show (0 : Int) ≤ 1; decide, by show (1 : Int) ≤ 1099511627776; decide⟩, ?_⟩
  skip
  conv => whnf
  refine ⟨fun h => ?_, fun _ => ?_⟩
  · have h : decide (1 + 4 * ((doAll t l).1.length : Int) < 0) = true := h
    simp at h
    omega
  skip
  refine ⟨((doAll t l).2.length, 1 + 4 * ((doAll t l).1.length : Int)), by refine argRK ?_; simp; rw [List.take_of_length_le (by simp), toRdRows_mk (f := encN) (fun _ => rfl)], fun _ => ⟨hc1, by show (0 : Int) ≤ 1 + 4 * ((doAll t l).1.length : Int); omega, by show 1 + 4 * ((doAll t l).1.length : Int) ≤ 1099511627776; omega⟩, ?_⟩
  skip
  conv => whnf
  refine ⟨fun h => ?_, fun _ => ?_⟩
  · have h : decide (1 + 4 * ((doAll t l).1.length : Int) + ((doAll t l).2.length : Int) < 0) = true := h
    simp at h
    omega
  skip
  conv => whnf
  refine ⟨fun h => ?_, fun _ => ?_⟩
  · have h : ((1 + 4 * ((doAll t l).1.length : Int) + ((doAll t l).2.length : Int)) != (1 + 4 * ((doAll t l).1.length : Int) + ((doAll t l).2.length : Int))) = true := h
    simp at h
  skip
  exact ⟨trivial, rfl⟩
theorem ok_laws_FnExactTreeDoAll : ConOk Tryz.prog 4 c_laws_FnExactTreeDoAll := meets_ok (tabT _ _) (FOk.cons ok_laws_szTree (FOk.cons ok_laws_szOpS (FOk.cons ok_spec_TreeDoAll (FOk.cons ok_laws_toTree (FOk.cons ok_laws_toOpS (FOk.cons ok_impl_TreeDoAll (FOk.cons ok_laws_eqTree (FOk.cons ok_laws_eqIntS (FOk.cons ok_laws_eqOpS (FOk.cons ok_laws_markTree (FOk.cons ok_laws_markOpS (FOk.cons ok_laws_markIntS (FOk.cons ok_laws_heldTree (FOk.cons ok_laws_heldIntS FOk.nil)))))))))))))) mixed Tryz.func4 rfl Tryz.call4 (by decide) (by kernel_rfl) m_laws_FnExactTreeDoAll (by intro _ (y : (Tr × List OpR)) _; exact ⟨by simp [c_laws_FnExactTreeDoAll, con, conG, conW, AV.noRd, noRdCells, noRdRows, noRdRows_map', encS, encI, encO, encN], by simp [c_laws_FnExactTreeDoAll, con, conG, conW, AV.noRd, noRdCells, noRdRows, noRdRows_map', encS, encI, encO, encN]⟩) (by intro (y : (Tr × List OpR)) _; first | (simp [c_laws_FnExactTreeDoAll, con, conG, conW, conP, AV.free, freeCells, freeRows, freeRows_map, encS, rdT, encI, encO, encN]; done) | (obtain ⟨_, _⟩ := y; simp [c_laws_FnExactTreeDoAll, con, conG, conW, conP, AV.free, freeCells, freeRows, freeRows_map, encS, rdT, encI, encO, encN]; done) | (obtain ⟨_, _, _⟩ := y; simp [c_laws_FnExactTreeDoAll, con, conG, conW, conP, AV.free, freeCells, freeRows, freeRows_map, encS, rdT, encI, encO, encN]; done))
end Go.GH

