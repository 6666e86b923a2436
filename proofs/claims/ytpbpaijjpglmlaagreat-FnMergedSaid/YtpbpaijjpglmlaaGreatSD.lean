import Derived.Test.YtpbpaijjpglmlaaGreatSC
import Derived.Shelf.SlSortCmp.NoneTotal
import Derived.Test.YtpbpaijjpglmlaaGreatChecked
set_option linter.unusedVariables false
set_option linter.unusedSimpArgs false
namespace Go.Proofs
open Go.Shelf
def Tryz.sortItem_ren : Go.Shelf.Ren := ⟨fun | 6 => 66 | 15 => 114 | 14 => 113 | 28 => 155 | 29 => 156 | 20 => 147 | 21 => 148 | 22 => 149 | 23 => 150 | 24 => 151 | 25 => 152 | 26 => 153 | 27 => 154 | 46 => 178 | 47 => 179 | 48 => 180 | 49 => 181 | 50 => 182 | 57 => 199 | n => n, fun | 22 => 24 | 24 => 32 | 25 => 92 | 3 => 3 | 39 => 124 | 0 => 0 | 53 => 165 | 55 => 167 | 4 => 4 | 46 => 158 | 45 => 157 | 50 => 162 | 5 => 5 | 9 => 9 | 66 => 190 | 70 => 194 | 76 => 213 | 77 => 214 | n => n, fun | n => n⟩
theorem Tryz.sortItem : Go.Proofs.SlLaysF0.n6 Tryz.prog Tryz.sortItem_ren := {
  mixed := by kernel_rfl
  f6 := ⟨Tryz.f66.name, by decide, Tryz.func66.trans (congrArg some (by kernel_rfl))⟩
  f14 := ⟨Tryz.f113.name, by decide, Tryz.func113.trans (congrArg some (by kernel_rfl))⟩
  f15 := Tryz.func114.trans (congrArg some (by kernel_rfl))
  f20 := ⟨Tryz.f147.name, by decide, Tryz.func147.trans (congrArg some (by kernel_rfl))⟩
  f21 := ⟨Tryz.f148.name, by decide, Tryz.func148.trans (congrArg some (by kernel_rfl))⟩
  f22 := ⟨Tryz.f149.name, by decide, Tryz.func149.trans (congrArg some (by kernel_rfl))⟩
  f23 := ⟨Tryz.f150.name, by decide, Tryz.func150.trans (congrArg some (by kernel_rfl))⟩
  f24 := ⟨Tryz.f151.name, by decide, Tryz.func151.trans (congrArg some (by kernel_rfl))⟩
  f25 := ⟨Tryz.f152.name, by decide, Tryz.func152.trans (congrArg some (by kernel_rfl))⟩
  f26 := ⟨Tryz.f153.name, by decide, Tryz.func153.trans (congrArg some (by kernel_rfl))⟩
  f27 := ⟨Tryz.f154.name, by decide, Tryz.func154.trans (congrArg some (by kernel_rfl))⟩
  f28 := Tryz.func155.trans (congrArg some (by kernel_rfl))
  f29 := Tryz.func156.trans (congrArg some (by kernel_rfl))
  f46 := ⟨Tryz.f178.name, by decide, Tryz.func178.trans (congrArg some (by kernel_rfl))⟩
  f47 := Tryz.func179.trans (congrArg some (by kernel_rfl))
  f48 := Tryz.func180.trans (congrArg some (by kernel_rfl))
  f49 := ⟨Tryz.f181.name, by decide, Tryz.func181.trans (congrArg some (by kernel_rfl))⟩
  f50 := ⟨Tryz.f182.name, by decide, Tryz.func182.trans (congrArg some (by kernel_rfl))⟩
  f57 := ⟨Tryz.f199.name, by decide, Tryz.func199.trans (congrArg some (by kernel_rfl))⟩
  t0 := Tryz.underlying0
  a0 := Tryz.isAgg0
  z0 := Tryz.sizeOf0
  v0 := Tryz.zeroValue0
  t3 := Tryz.underlying3
  a3 := Tryz.isAgg3
  z3 := Tryz.sizeOf3
  v3 := Tryz.zeroValue3
  t4 := Tryz.underlying4
  a4 := Tryz.isAgg4
  z4 := Tryz.sizeOf4
  v4 := Tryz.zeroValue4
  t5 := Tryz.underlying5
  a5 := Tryz.isAgg5
  z5 := Tryz.sizeOf5
  v5 := Tryz.zeroValue5
  t9 := Tryz.underlying9
  a9 := Tryz.isAgg9
  z9 := Tryz.sizeOf9
  v9 := Tryz.zeroValue9
  t22 := Tryz.underlying24
  a22 := Tryz.isAgg24
  z22 := Tryz.sizeOf24
  v22 := Tryz.zeroValue24
  t25 := Tryz.underlying92
  a25 := Tryz.isAgg92
  z25 := Tryz.sizeOf92
  v25 := Tryz.zeroValue92
  t39 := Tryz.underlying124
  a39 := Tryz.isAgg124
  z39 := Tryz.sizeOf124
  v39 := Tryz.zeroValue124
  t45 := Tryz.underlying157
  a45 := Tryz.isAgg157
  z45 := Tryz.sizeOf157
  v45 := Tryz.zeroValue157
  t46 := Tryz.underlying158
  a46 := Tryz.isAgg158
  z46 := Tryz.sizeOf158
  v46 := Tryz.zeroValue158
  t50 := Tryz.underlying162
  a50 := Tryz.isAgg162
  z50 := Tryz.sizeOf162
  v50 := Tryz.zeroValue162
  t53 := Tryz.underlying165
  a53 := Tryz.isAgg165
  z53 := Tryz.sizeOf165
  v53 := Tryz.zeroValue165
  t55 := Tryz.underlying167
  a55 := Tryz.isAgg167
  z55 := Tryz.sizeOf167
  v55 := Tryz.zeroValue167
  t66 := Tryz.underlying190
  a66 := Tryz.isAgg190
  z66 := Tryz.sizeOf190
  v66 := Tryz.zeroValue190
  t70 := Tryz.underlying194
  a70 := Tryz.isAgg194
  z70 := Tryz.sizeOf194
  v70 := Tryz.zeroValue194
  t76 := Tryz.underlying213
  a76 := Tryz.isAgg213
  z76 := Tryz.sizeOf213
  v76 := Tryz.zeroValue213
  t77 := Tryz.underlying214
  a77 := Tryz.isAgg214
  z77 := Tryz.sizeOf214
  v77 := Tryz.zeroValue214 }
end Go.Proofs


set_option linter.unusedVariables false
set_option linter.unusedSimpArgs false
namespace Go.GH
open Go Go.Proofs Go.Sort
instance : Inhabited It := ⟨It.none⟩
def B08 (x : It) : List Value := [E6 x.path, .int .i64 x.kind, E6 x.data, .int .i64 x.time]
theorem B85 (x : It) : (Ac x).map Xv = B08 x := rfl
theorem Zt (l : Tr) : Qj 4 (l.map Ac) := by
  intro r hr
  obtain ⟨x, _, rfl⟩ := List.mem_map.1 hr
  refine ⟨rfl, fun c hc => ?_⟩
  simp only [Ac, List.mem_cons, List.not_mem_nil, or_false] at hc
  rcases hc with rfl | rfl | rfl | rfl <;> rfl
theorem B66 {l : Tr} {i f : Nat} {d : AV} (h : Aq (l.map Ac) i f = some d) : ∃ x, l[i]? = some x ∧ (Ac x)[f]? = some d := by
  unfold Aq at h
  rw [List.getElem?_map] at h
  cases hx : l[i]? with
  | none => rw [hx] at h; simp at h
  | some x => rw [hx] at h; exact ⟨x, rfl, by simpa using h⟩
theorem C0j : ∀ (a b : Str), decide (Lib.compareBytes a b < 0) = Co a b
  | [], [] => rfl
  | [], _ :: _ => rfl
  | _ :: _, [] => rfl
  | x :: a, y :: b => by
    simp only [Lib.compareBytes, Co]
    have ih := C0j a b
    by_cases h1 : x < y
    · simp [h1]
    · by_cases h2 : y < x
      · have hxy : (x == y) = false := by rw [beq_eq_false_iff_ne]; rintro rfl; exact h1 h2
        simp [h1, h2, hxy]
      · have hxy : x = y := UInt8.le_antisymm (UInt8.not_lt.1 h2) (UInt8.not_lt.1 h1)
        subst hxy
        simpa [h1] using ih
def cfI (x y : It) : Int := Lib.compareBytes x.path y.path
theorem ltI (x y : It) : ltOf cfI x y = Co x.path y.path := C0j x.path y.path
theorem C41 : Sort.SWO (ltOf cfI) where
  irrefl x := by rw [ltI]; exact Jd _
  trans x y z h1 h2 := by rw [ltI] at *; exact N8 h1 h2
  ntrans x y z h1 h2 := by
    rw [ltI] at *
    have := A95 z y x (by simp [leB, h2]) (by simp [leB, h1])
    simpa [leB] using this
theorem B0k {l : Tr} {i : Nat} {x : It} (h : l[i]? = some x) : l.toArray[i]! = x := by
  simp [Array.getElem!_eq_getD, Array.getD_eq_getD_getElem?, h]
theorem B7t {l : Tr} {i f : Nat} {x : It} {d : AV} (hx : l[i]? = some x) (hd : (Ac x)[f]? = some d) : i * 4 + f < l.toArray.size * 4 ∧ (flatK B08 4 l.toArray)[i * 4 + f]! = Xv d := by
  have hi := F5 hx
  have hf : f < 4 := by
    have := F5 hd
    exact this
  have hlt : i * 4 + f < l.toArray.size * 4 := by simp; omega
  refine ⟨hlt, ?_⟩
  rw [get_flatK _ _ _ _ hlt, show (i * 4 + f) / 4 = i by omega, show (i * 4 + f) % 4 = f by omega, B0k hx, ← B85]
  rw [getElem!_def, List.getElem?_map, hd]
  rfl
theorem C16 {l : Tr} {t : Nat} (h : t < (flatK B08 4 l.toArray).size) : ∃ i f x d, t = i * 4 + f ∧ l[i]? = some x ∧ (Ac x)[f]? = some d := by
  have h : t < l.length * 4 := by simpa using h
  obtain ⟨x, hx⟩ := B8 (l := l) (i := t / 4) (by omega)
  obtain ⟨d, hd⟩ := B8 (l := Ac x) (i := t % 4) (by show t % 4 < 4; omega)
  exact ⟨t / 4, t % 4, x, d, by omega, hx, hd⟩
def J4 : Bi := ⟨[.mv, mC], false, false, Tr, fun l => [.own 4 (l.map Ac), .fn 67 []], fun l => dst l ∧ l.length ≤ 4194304, fun _ => .tup [], fun l => [.own 4 ((Ld l).map Ac)], fun _ => True, false⟩
set_option maxRecDepth 100000 in
set_option maxHeartbeats 2000000 in
theorem Qy : Av Tryz.prog 66 J4 := by
  refine B5h (c := J4) (s := 4) (rows := fun l => l.map Ac) (rows' := fun l => (Ld l).map Ac) (snd := fun _ => .fn 67 []) rfl (fun _ => rfl) (fun _ => rfl) (fun _ => rfl) (fun l => Zt l) (fun l => Zt _) (fun (l : Tr) => by rw [List.length_map, List.length_map, Ys]) Tryz.call66 (fun _ => trivial) ?_ ?_ ?_
  · intro (l : Tr) _ _ y w a cap v ρ _
    refine (AnyF.slices_SortFunc_none Tryz.sortItem a cap v w).mono ?_
    rintro e w' ⟨rfl, rfl⟩
    exact ⟨rfl, RowKit.Below.refl _ _⟩
  · intro (l : Tr) y w h n ρ v hs
    cases hs with
    | cell hr => cases hr
    | fn hl hc => exact .fn hl (by simp)
  · intro (l : Tr) hpre hne y w b o cap v ρ hb hv hrow
    obtain ⟨hd, hl⟩ : dst l ∧ l.length ≤ 4194304 := hpre
    have hv : v = .func (.func 67) #[] #[] := by
      cases hv with
      | cell hr => cases hr
      | fn hl hc =>
        rename_i us
        have : us = #[] := Array.eq_empty_of_size_eq_zero hl
        rw [this]
    subst hv
    obtain ⟨c, e, fz, h1, h2, h3⟩ := hrow
    have hH : HoldsK B08 4 w b o l.toArray := by
      intro t ht
      obtain ⟨i, f, x, d, rfl, hx, hd'⟩ := C16 ht
      have hc := h3 i f d (by unfold Aq; simp [hx, hd'])
      have hlt := (Array.getElem?_eq_some_iff.1 hc).1
      refine ⟨?_, ?_⟩
      · rw [(B7t hx hd').2]
        simp only [World.cell?, h1]
        exact hc
      · simp only [World.frozen?, h1]
        rcases h2 with h2 | h2
        · simp; omega
        · simp; omega
    have hcon := AnyQ.slices_SortFunc Tryz.sortItem 4 Tryz.isAgg32 Tryz.sizeOf32 B08 (fun _ => rfl) (fun x v hv => by
      simp [B08] at hv
      rcases hv with rfl | rfl | rfl | rfl <;> rfl) cfI C41 67 #[] b o cap l.toArray w Tryz.call67 (fun m os dk hs x y => Tryz.byPath_calls _ _ _ _ _ _ _ _ _) hH hb (by simp; omega)
    change Calls Tryz.prog 66 _ _ _ at hcon
    have ez : (l.map Ac).length = l.toArray.size := by simp
    show Calls Tryz.prog 66 #[.slice (some ⟨b, o, none⟩) (l.map Ac).length cap, .func (.func 67) #[] #[]] w _
    rw [ez]
    refine hcon.mono ?_
    clear hcon hH
    rintro e' w' ⟨rfl, d', n, os, hp, hsrt, rfl⟩
    refine ⟨rfl, ?_⟩
    obtain ⟨p1, _, p3⟩ := hp
    have hsz : d'.size = l.length := by simpa using p1
    have hperm : d'.toList.Perm l := by
      have e1 : d'.extract 0 l.toArray.size = d' := by
        rw [show l.toArray.size = d'.size by rw [hsz]; simp]; exact Array.extract_size
      have e2 : l.toArray.extract 0 l.toArray.size = l.toArray := Array.extract_size
      rw [e1, e2] at p3
      simpa using p3
    have hpw : d'.toList.Pairwise fun a b => leB a b = true := by
      refine List.pairwise_iff_getElem.2 fun i j hi hj hij => ?_
      have := hsrt i j (Nat.zero_le _) hij (by simpa [hsz] using hj)
      rw [ltI] at this
      simp only [Array.length_toList] at hi hj
      rw [getElem!_pos d' j hj, getElem!_pos d' i hi] at this
      simp [leB, this]
    have hm : d'.toList = Ld l := C05 hd hpw hperm
    have hd' : d' = (Ld l).toArray := by rw [← hm]
    subst hd'
    have hheap : (sortWorldK B08 4 w b o n (Ld l).toArray os).heap = w.heap.modify b (onCells (putCells id o (flatK B08 4 (Ld l).toArray))) ++ os := rfl
    refine ⟨rfl, rfl, rfl, ?_, fun k hk hkb => ?_, fun c1 e1 fz1 hc1 => ?_⟩
    · rw [hheap]; simp
    · rw [hheap, Array.getElem?_append_left (by simpa using hk), Array.getElem?_modify, if_neg (Ne.symm hkb)]
    · rw [h1] at hc1
      simp only [Option.some.injEq, Obj.cells.injEq] at hc1
      obtain ⟨rfl, rfl, rfl⟩ := hc1
      refine ⟨putCells id o (flatK B08 4 (Ld l).toArray) c, ?_, by simp [putCells], fun i f d hid => ?_⟩
      · rw [hheap, Array.getElem?_append_left (by simpa using hb), Array.getElem?_modify, if_pos rfl, h1]
        rfl
      · obtain ⟨x, hx, hxd⟩ := B66 hid
        obtain ⟨q1, q2⟩ := B7t hx hxd
        have hi := F5 hx
        have hf : f < 4 := F5 hxd
        rw [Ys] at hi
        obtain ⟨x0, hx0⟩ := B8 (l := l) (i := i) hi
        obtain ⟨d0, hd0⟩ := B8 (l := Ac x0) (i := f) hf
        have hc0 := h3 i f d0 (by unfold Aq; simp [hx0, hd0])
        have hlt := (Array.getElem?_eq_some_iff.1 hc0).1
        unfold putCells
        rw [Array.getElem?_mapIdx, Array.getElem?_eq_getElem hlt]
        simp only [Option.map_some, size_flatK]
        rw [if_pos ⟨by omega, by omega⟩, show o + (i * 4 + f) - o = i * 4 + f by omega, q2]
        rfl
end Go.GH


set_option linter.unusedVariables false
set_option linter.unusedSimpArgs false
namespace Go.GH
open Go Go.Proofs
noncomputable def F1 : Bi := con [mS 4, mS 4] false (Tr × Tr) (fun ⟨a, b⟩ => [rdT a, rdT b]) (fun x => smT x.1 ∧ smT x.2) (fun x => .tup [.agg [.own 4 ((C8 x.1 x.2).1.map Ac)], .bool (C8 x.1 x.2).2])
noncomputable def B0m : Env := ⟨A4 Ba, A4 [(32, Gi), (47, Gb), (58, F6), (66, J4)], [0, 1, 2, 3, 4, 5, 6, 8, 16, 21, 22, 23, 24, 31, 44]⟩
set_option maxRecDepth 100000 in
set_option maxHeartbeats 4000000 in
theorem B1p : Bb B0m (Ax Tryz.f30) Tryz.f30.results.toList F1 := by
  rintro ⟨a, b⟩ hs
  obtain ⟨ha, hb⟩ : smT a ∧ smT b := hs
  refine ⟨trivial, ?_⟩
  skip
  refine ⟨a, rfl, fun _ => ha, ?_⟩
  repeat ((conv => whnf); refine ⟨fun h => h, ?_⟩)
  refine ⟨b, rfl, fun _ => hb, ?_⟩
  repeat ((conv => whnf); refine ⟨fun h => h, ?_⟩)
  (conv => whnf); refine ⟨fun h1 => ?_, fun h1 => ?_⟩
  · have h1 : (!Bj a || !Bj b) = true := h1
    skip
    have h0 : C8 a b = ([], false) := by unfold C8; revert h1; cases Bj a <;> cases Bj b <;> simp
    rw [show F1.res (a, b) = .tup [.agg [.own 4 []], .bool false] by show AV.tup [.agg [.own 4 ((C8 a b).1.map Ac)], .bool (C8 a b).2] = _; rw [h0]; rfl]
    exact ⟨trivial, ⟨⟨rfl, rfl⟩, trivial⟩, rfl, trivial⟩
  have h1 : (!Bj a || !Bj b) = false := h1
  have oa : Bj a = true := by revert h1; cases Bj a <;> simp
  have ob : Bj b = true := by revert h1; cases Bj b <;> simp
  have la := L8 oa
  have lb := L8 ob
  skip
  refine ⟨a, by refine C29 ?_; simp [rdI], fun _ => ha, ?_⟩
  skip
  refine B0 (fun i : Nat => ⟨[(2, ⟨none, .bx 0 0⟩), (3, ⟨none, .bx 1 0⟩), (4, ⟨none, .bx 2 0⟩), (5, ⟨none, .bool false⟩), (6, ⟨none, .bx 3 0⟩), (21, ⟨none, .rd 4 (b.map Ac)⟩), (22, ⟨none, .int .i64 b.length⟩), (23, ⟨none, .int .i64 i⟩)], [(3, .own 1 [[.own 4 ((a ++ (b.take i).filter fun y => !inT a y).map Ac)]]), (2, .own 1 [[.own 4 []]]), (1, .own 1 [[.rd 4 (b.map Ac)]]), (0, .own 1 [[.rd 4 (a.map Ac)]])], 4⟩)
    (fun i => i ≤ b.length) (fun i => b.length - i) 0 ?_ (by omega) ?_
  · (refine ⟨?_, ?_, rfl⟩ <;> repeat' (first | exact rfl | exact trivial | refine ⟨?_, ?_⟩ | fail) <;> (conv => whnf))
    all_goals simp [Bc]
  intro i hi
  have hi : i ≤ b.length := hi
  have hO : (a ++ (b.take i).filter fun y => !inT a y).length ≤ 80 := by
    rw [List.length_append]
    have := List.length_filter_le (fun y => !inT a y) (b.take i)
    rw [List.length_take] at this
    omega
  have hnext : ∀ {y : It}, b[i]? = some y → (a ++ (b.take (i + 1)).filter fun y => !inT a y) = (a ++ (b.take i).filter fun y => !inT a y) ++ [y].filter fun y => !inT a y := fun hy => by
    rw [Bs hy, List.filter_append, List.append_assoc]
  generalize hout : (a ++ (b.take i).filter fun y => !inT a y) = out at hO hnext ⊢
  (conv => whnf); refine ⟨fun h2 => ?_, fun h2 => ?_⟩
  · have h2 : i < b.length := by simpa using h2
    obtain ⟨y, hy⟩ := B8 h2
    have hyb : y ∈ b := List.mem_of_getElem? hy
    have hin : decide (fnd (fun z => z.path == y.path) a < 0) = !inT a y := by
      rcases C20 (a := a) ob hyb with ⟨h4, h5⟩ | ⟨x, h4, h5, _, h6, _⟩
      · rw [inT, h4, h5]; rfl
      · rw [inT, h4, decide_eq_false (by omega)]; rfl
    repeat ((conv => whnf); refine ⟨Ac y, fun _ => ⟨by omega, Am hy⟩, ?_⟩)
    refine ⟨(a, y.path), rfl, fun _ => by first | exact ha.1 | exact ha, ?_⟩
    skip
    (conv => whnf); refine ⟨fun h3 => ?_, fun h3 => ?_⟩
    · have h3 : inT a y = false := by simpa using hin.symm.trans h3
      repeat ((conv => whnf); first | refine ⟨_, w64 (bb), ?_⟩ | refine ⟨bb, ?_⟩ | refine ⟨Vl (by rfl), ?_⟩)
      refine C2 (i + 1) ?_ h2 (by first | omega | (simp; done) | (simp; omega))
      rw [hnext hy]
      (refine ⟨?_, ?_, rfl⟩ <;> repeat' (first | exact rfl | exact trivial | refine ⟨?_, ?_⟩ | fail) <;> (conv => whnf))
      all_goals first | (simp [h3, Bc, Ac]; done) | (simp [h3, Bc, Ac]; rw [List.take_of_length_le (by simp)]; rfl)
    · have h3 : inT a y = true := by simpa using hin.symm.trans h3
      repeat ((conv => whnf); refine ⟨_, w64 (bb), ?_⟩)
      refine C2 (i + 1) ?_ h2 (by first | omega | (simp; done) | (simp; omega))
      rw [hnext hy]
      (refine ⟨?_, ?_, rfl⟩ <;> repeat' (first | exact rfl | exact trivial | refine ⟨?_, ?_⟩ | fail) <;> (conv => whnf))
      all_goals simp [h3, Bc]
  · have h2 : i = b.length := by
      have : ¬ i < b.length := by simpa using h2
      omega
    subst h2
    rw [List.take_length] at hout
    have hout : B70 a b = out := hout
    obtain ⟨hd, hm0⟩ := B6g oa ob
    rw [hout] at hd hm0
    have hsm := (A2l oa ob ha hb b.length).2
    rw [List.take_length, show b.foldl (D8 a) a = Rm a b from rfl, hm0] at hsm
    have hsm : smT (Ld out) := ⟨by rw [Ys]; omega, hsm⟩
    repeat ((conv => whnf); refine ⟨bb, ?_⟩)
    refine ⟨out, rfl, fun _ => ⟨hd, by omega⟩, ?_⟩
    skip
    refine ⟨Ld out, by refine C29 ?_; simp [rdI], fun _ => hsm, ?_⟩
    skip
    (conv => whnf); refine ⟨fun h4 => ?_, fun h4 => ?_⟩
    · have h4 : (!Bj (Ld out)) = true := h4
      have hm : C8 a b = ([], false) := by
        unfold C8
        rw [hm0]
        revert h4; cases Bj (Ld out) <;> simp
      rw [show F1.res (a, b) = .tup [.agg [.own 4 []], .bool false] by show AV.tup [.agg [.own 4 ((C8 a b).1.map Ac)], .bool (C8 a b).2] = _; rw [hm]; rfl]
      skip
      exact ⟨trivial, ⟨⟨rfl, rfl⟩, trivial⟩, rfl, trivial⟩
    · have h4 : (!Bj (Ld out)) = false := h4
      have hm : C8 a b = (Ld out, true) := by
        unfold C8
        rw [hm0, oa, ob]
        revert h4; cases Bj (Ld out) <;> simp
      rw [show F1.res (a, b) = .tup [.agg [.own 4 ((Ld out).map Ac)], .bool true] by show AV.tup [.agg [.own 4 ((C8 a b).1.map Ac)], .bool (C8 a b).2] = _; rw [hm]]
      skip
      exact ⟨trivial, ⟨⟨rfl, by simp⟩, trivial⟩, rfl, trivial⟩
theorem A79 : Av Tryz.prog 30 F1 := Ao (Ca _ _) (FOk.cons U7 (FOk.cons U9 (FOk.cons Xl (FOk.cons Qy FOk.nil)))) mixed Tryz.func30 rfl Tryz.call30 (by decide) (by kernel_rfl) B1p (by intro _ (y : (Tr × Tr)) _; exact ⟨by simp [F1, con, A9, A8, AV.noRd, A7, Ab, A5, A6, Ac], by simp [F1, con, A9, A8, AV.noRd, A7, Ab, A5, A6, Ac]⟩) (by intro (y : (Tr × Tr)) _; first | (simp [F1, con, A9, A8, Ad, AV.free, A2, A3, A1, A6, rdT, Ac]; done) | (obtain ⟨_, _⟩ := y; simp [F1, con, A9, A8, Ad, AV.free, A2, A3, A1, A6, rdT, Ac]; done) | (obtain ⟨_, _, _⟩ := y; simp [F1, con, A9, A8, Ad, AV.free, A2, A3, A1, A6, rdT, Ac]; done))
end Go.GH


set_option linter.unusedVariables false
set_option linter.unusedSimpArgs false
namespace Go.GH
open Go Go.Proofs
noncomputable def Fk : Bi := con [mS 4, mS 4] false (Tr × Tr) (fun ⟨a, b⟩ => [rdT a, rdT b]) (fun x => smT x.1 ∧ smT x.2) (fun x => .tup [.agg [.own 4 ((C8 x.1 x.2).1.map Ac)], .bool (C8 x.1 x.2).2])
noncomputable def B0i : Env := ⟨A4 Ba, A4 [(38, Fa), (45, Ck), (54, D3), (68, Ef)], [0, 1, 2, 3, 4, 5, 6, 7, 9, 17, 25, 40, 52]⟩
set_option maxRecDepth 100000 in
set_option maxHeartbeats 4000000 in
theorem B0z : Bb B0i (Ax Tryz.f31) Tryz.f31.results.toList Fk := by
  rintro ⟨a, b⟩ hs
  obtain ⟨ha, hb⟩ : smT a ∧ smT b := hs
  refine ⟨trivial, ?_⟩
  skip
  refine ⟨a, rfl, fun _ => ha, ?_⟩
  repeat ((conv => whnf); refine ⟨fun h => h, ?_⟩)
  refine ⟨b, rfl, fun _ => hb, ?_⟩
  repeat ((conv => whnf); refine ⟨fun h => h, ?_⟩)
  (conv => whnf); refine ⟨fun h1 => ?_, fun h1 => ?_⟩
  · have h1 : (!Bj a || !Bj b) = true := h1
    skip
    have h0 : C8 a b = ([], false) := by unfold C8; revert h1; cases Bj a <;> cases Bj b <;> simp
    rw [show Fk.res (a, b) = .tup [.agg [.own 4 []], .bool false] by show AV.tup [.agg [.own 4 ((C8 a b).1.map Ac)], .bool (C8 a b).2] = _; rw [h0]; rfl]
    exact ⟨trivial, ⟨⟨rfl, rfl⟩, trivial⟩, rfl, trivial⟩
  have h1 : (!Bj a || !Bj b) = false := h1
  have oa : Bj a = true := by revert h1; cases Bj a <;> simp
  have ob : Bj b = true := by revert h1; cases Bj b <;> simp
  have la := L8 oa
  have lb := L8 ob
  skip
  refine ⟨a, by refine C29 ?_; simp [rdI], fun _ => ha, ?_⟩
  skip
  refine B0 (fun i : Nat => ⟨[(2, ⟨none, .bx 0 0⟩), (3, ⟨none, .bx 1 0⟩), (4, ⟨none, .bx 2 0⟩), (5, ⟨none, .bool false⟩), (6, ⟨none, .bx 3 0⟩), (7, ⟨none, .int .i64 i⟩)], [(3, .own 1 [[.own 4 (((b.take i).foldl (D8 a) a).map Ac)]]), (2, .own 1 [[.own 4 []]]), (1, .own 1 [[.rd 4 (b.map Ac)]]), (0, .own 1 [[.rd 4 (a.map Ac)]])], 4⟩)
    (fun i => i ≤ b.length) (fun i => b.length - i) 0 ?_ (by omega) ?_
  · (refine ⟨?_, ?_, rfl⟩ <;> repeat' (first | exact rfl | exact trivial | refine ⟨?_, ?_⟩ | fail) <;> (conv => whnf))
    all_goals simp [Bc]
  intro i hi
  have hi : i ≤ b.length := hi
  have hO := A2l oa ob ha hb i
  have hnext : ∀ {y : It}, b[i]? = some y → (b.take (i + 1)).foldl (D8 a) a = D8 a ((b.take i).foldl (D8 a) a) y := fun hy => Wd hy
  have hfin : Rm a b = b.foldl (D8 a) a := rfl
  generalize hout : (b.take i).foldl (D8 a) a = out at hO hnext ⊢
  obtain ⟨hO1, hO2⟩ := hO
  have hsm : smT out := ⟨by omega, hO2⟩
  (conv => whnf); refine ⟨fun h2 => ?_, fun h2 => ?_⟩
  · have h2 : i < b.length := by simpa using h2
    obtain ⟨y, hy⟩ := B8 h2
    repeat ((conv => whnf); refine ⟨Ac y, fun _ => ⟨by omega, Am hy⟩, ?_⟩)
    refine ⟨(a, y.path), rfl, fun _ => ha, ?_⟩
    repeat ((conv => whnf); refine ⟨(by kernel_rfl : Bw _ _ = true), ?_⟩)
    (conv => whnf); refine ⟨fun h3 => ?_, fun h3 => ?_⟩
    · have h3 : inT a y = false := by
        have h3 : (!(Al a y.path).isSome) = true := h3
        simpa [inT] using h3
      repeat ((conv => whnf); refine ⟨Ac y, fun _ => ⟨by omega, Am hy⟩, ?_⟩)
      refine ⟨(out, y), by refine A54 ?_; simp [rdI], fun _ => hsm, ?_⟩
      repeat ((conv => whnf); first | refine ⟨(by kernel_rfl : Bw _ _ = true), ?_⟩ | refine ⟨_, w64 (bb), ?_⟩)
      refine C2 (i + 1) ?_ h2 (by first | omega | (simp; done) | (simp; omega))
      rw [hnext hy, show D8 a out y = Id out y by simp [D8, h3]]
      (refine ⟨?_, ?_, rfl⟩ <;> repeat' (first | exact rfl | exact trivial | refine ⟨?_, ?_⟩ | fail) <;> (conv => whnf))
      all_goals simp [Bc]
    · have h3 : inT a y = true := by
        have h3 : (!(Al a y.path).isSome) = false := h3
        simpa [inT] using h3
      repeat ((conv => whnf); refine ⟨_, w64 (bb), ?_⟩)
      refine C2 (i + 1) ?_ h2 (by first | omega | (simp; done) | (simp; omega))
      rw [hnext hy, show D8 a out y = out by simp [D8, h3]]
      (refine ⟨?_, ?_, rfl⟩ <;> repeat' (first | exact rfl | exact trivial | refine ⟨?_, ?_⟩ | fail) <;> (conv => whnf))
      all_goals simp
  · have h2 : i = b.length := by
      have : ¬ i < b.length := by simpa using h2
      omega
    subst h2
    rw [List.take_length] at hout
    skip
    refine ⟨out, by refine C29 ?_; simp [rdI], fun _ => hsm, ?_⟩
    skip
    (conv => whnf); refine ⟨fun h4 => ?_, fun h4 => ?_⟩
    · have h4 : (!Bj out) = true := h4
      have hm : C8 a b = ([], false) := by
        unfold C8
        rw [hfin, hout]
        revert h4; cases Bj out <;> simp
      rw [show Fk.res (a, b) = .tup [.agg [.own 4 []], .bool false] by show AV.tup [.agg [.own 4 ((C8 a b).1.map Ac)], .bool (C8 a b).2] = _; rw [hm]; rfl]
      skip
      exact ⟨trivial, ⟨⟨rfl, rfl⟩, trivial⟩, rfl, trivial⟩
    · have h4 : (!Bj out) = false := h4
      have hm : C8 a b = (out, true) := by
        unfold C8
        rw [hfin, hout, oa, ob]
        revert h4; cases Bj out <;> simp
      rw [show Fk.res (a, b) = .tup [.agg [.own 4 (out.map Ac)], .bool true] by show AV.tup [.agg [.own 4 ((C8 a b).1.map Ac)], .bool (C8 a b).2] = _; rw [hm]]
      skip
      exact ⟨trivial, ⟨⟨rfl, by simp⟩, trivial⟩, rfl, trivial⟩
theorem A7h : Av Tryz.prog 31 Fk := Ao (Ca _ _) (FOk.cons Ov (FOk.cons Fz (FOk.cons H4 (FOk.cons K4 FOk.nil)))) mixed Tryz.func31 rfl Tryz.call31 (by decide) (by kernel_rfl) B0z (by intro _ (y : (Tr × Tr)) _; exact ⟨by simp [Fk, con, A9, A8, AV.noRd, A7, Ab, A5, A6, Ac], by simp [Fk, con, A9, A8, AV.noRd, A7, Ab, A5, A6, Ac]⟩) (by intro (y : (Tr × Tr)) _; first | (simp [Fk, con, A9, A8, Ad, AV.free, A2, A3, A1, A6, rdT, Ac]; done) | (obtain ⟨_, _⟩ := y; simp [Fk, con, A9, A8, Ad, AV.free, A2, A3, A1, A6, rdT, Ac]; done) | (obtain ⟨_, _, _⟩ := y; simp [Fk, con, A9, A8, Ad, AV.free, A2, A3, A1, A6, rdT, Ac]; done))
end Go.GH


set_option linter.unusedVariables false
set_option linter.unusedSimpArgs false
namespace Go.GH
open Go Go.Proofs
noncomputable def Ve : Bi := { F1 with sh := true, res := fun (x : Tr × Tr) => .tup [.agg [.rd 4 ((C8 x.1 x.2).1.map Ac)], .bool (C8 x.1 x.2).2] }
theorem A3q : Av Tryz.prog 30 Ve := J6 _ A79 (fun _ => rfl) rfl (fun x _ => ⟨rfl, by show 1 ≤ 16; omega, by simp only [F1, con, frz, M6, List.map_cons, List.map_nil, Mj, rdI]⟩)
noncomputable def Eb : Bi := con [mS 1] true Str (fun s => [.rd 1 (s.map Ag)]) (fun s => s.length ≤ 9223372036854775807) (fun s => .bool true)
noncomputable def A0s : Env := ⟨A4 Ba, A4 [(7, K1), (11, Ev), (29, Cy), (30, Ve), (31, Fk), (32, Gi), (33, Fw)], [0, 2, 3, 4, 5, 6, 8, 9, 10, 11, 12, 13, 14, 16, 17, 18, 20, 40, 42, 51, 75, 80, 119]⟩
set_option maxRecDepth 100000 in
set_option maxHeartbeats 4000000 in
theorem A0x : Bb A0s (Ax Tryz.f5) Tryz.f5.results.toList Eb := by
  intro (s : Str) hs0
  refine ⟨trivial, ?_⟩
  skip
  refine ⟨s, rfl, fun _ => trivial, ?_⟩
  skip
  (conv => whnf); refine ⟨fun h0 => ?_, fun h0 => ?_⟩
  · skip
    exact ⟨trivial, rfl⟩
  have hs : s.length ≤ 1048576 := by
    have h0 : decide (1048576 < s.length) = false := h0
    simp at h0; omega
  have hc0 := B7g hs
  obtain ⟨sa, sb⟩ := C1v hc0
  skip
  refine ⟨s, rfl, fun _ => hs, ?_⟩
  generalize hA : (Zk (K9 s)).1 = a at sa
  generalize hB : (Zk (K9 s)).2 = b at sb
  have sal := sa.1
  have sbl := sb.1
  skip
  refine ⟨(a, b), by rw [← hA, ← hB]; rfl, fun _ => ⟨sa, sb⟩, ?_⟩
  skip
  refine ⟨(a, b), by rw [← hA, ← hB]; rfl, fun _ => ⟨sa, sb⟩, ?_⟩
  skip
  (conv => whnf); refine ⟨fun h1 => ?_, fun h1 => ?_⟩
  · exfalso
    have h1 : (!((C8 a b).2 == (C8 a b).2)) = true := h1
    simp at h1
  skip
  (conv => whnf); refine ⟨fun h2 => ?_, fun h2 => ?_⟩
  · have h2 : (C8 a b).2 = false := by
      have h2 : (!(C8 a b).2) = true := h2
      simpa using h2
    have hz := C0z h2
    skip
    refine ⟨trivial, eqB ?_⟩
    show (((((C8 a b).1.map Ac).length : Nat) : Int) == 0) = true
    rw [hz]; rfl
  have h2 : (C8 a b).2 = true := by
    have h2 : (!(C8 a b).2) = false := h2
    simpa using h2
  obtain ⟨oa, om, ma, mb, ml⟩ := C2z h2
  have sm := B8s sa sb
  generalize hM : (C8 a b).1 = m at om ma mb ml sm
  skip
  refine B0 (fun i : Nat => ⟨[(3, ⟨none, .bx 0 0⟩), (4, ⟨none, .bx 1 0⟩), (5, ⟨none, .bx 2 0⟩), (9, ⟨none, .int .i64 i⟩)], [(0, .own 1 [[.rd 4 (a.map Ac)]]), (1, .own 1 [[.rd 4 (b.map Ac)]]), (2, .own 1 [[.rd 4 (m.map Ac)]])], 3⟩) (fun i => i ≤ a.length) (fun i => a.length - i) 0 ?_ (Nat.zero_le _) ?_
  · (refine ⟨?_, ?_, rfl⟩ <;> repeat' (first | exact rfl | exact trivial | refine ⟨?_, ?_⟩ | fail) <;> (conv => whnf))
    all_goals first | rfl | (rw [← hA]; rfl) | (rw [← hB]; rfl) | (rw [← hM]; rfl)
  intro i hi
  have hi : i ≤ a.length := hi
  (conv => whnf); refine ⟨fun h3 => ?_, fun h3 => ?_⟩
  · have h3 : i < a.length := by simpa using h3
    obtain ⟨x, hx⟩ := B8 h3
    have hg := ma x (List.mem_of_getElem? hx)
    have hg1 : (Al m x.path).isSome = true := by rw [hg]; rfl
    have hg2 : (Al m x.path).getD It.none = x := by rw [hg]; rfl
    repeat ((conv => whnf); refine ⟨Ac x, fun _ => ⟨by omega, Am hx⟩, ?_⟩)
    refine ⟨(m, x.path), rfl, fun _ => sm, ?_⟩
    repeat ((conv => whnf); first | refine ⟨fun h => h, ?_⟩ | refine ⟨(by kernel_rfl : Bw _ _ = true), ?_⟩ | refine ⟨Ac x, fun _ => ⟨by omega, Am hx⟩, ?_⟩)
    (conv => whnf); refine ⟨fun h4 => ?_, fun h4 => ?_⟩
    · exfalso
      have h4 : (!(Al m x.path).isSome || !(((Al m x.path).getD It.none).path == x.path && (((Al m x.path).getD It.none).kind == x.kind && (((Al m x.path).getD It.none).data == x.data && (((Al m x.path).getD It.none).time == x.time && true))))) = true := h4
      rw [hg1, hg2] at h4
      simp at h4
    repeat ((conv => whnf); refine ⟨_, w64 (bb), ?_⟩)
    refine C2 (i + 1) ?_ h3 (by first | omega | (simp; done) | (simp; omega))
    (refine ⟨?_, ?_, rfl⟩ <;> repeat' (first | exact rfl | exact trivial | refine ⟨?_, ?_⟩ | fail) <;> (conv => whnf))
  have h3 : i = a.length := by have : ¬ i < a.length := by simpa using h3
                               omega
  subst h3
  skip
  refine B0 (fun i : Nat => ⟨[(3, ⟨none, .bx 0 0⟩), (4, ⟨none, .bx 1 0⟩), (5, ⟨none, .bx 2 0⟩), (12, ⟨none, .int .i64 i⟩)], [(0, .own 1 [[.rd 4 (a.map Ac)]]), (1, .own 1 [[.rd 4 (b.map Ac)]]), (2, .own 1 [[.rd 4 (m.map Ac)]])], 3⟩) (fun i => i ≤ b.length) (fun i => b.length - i) 0 ?_ (Nat.zero_le _) ?_
  · (refine ⟨?_, ?_, rfl⟩ <;> repeat' (first | exact rfl | exact trivial | refine ⟨?_, ?_⟩ | fail) <;> (conv => whnf))
  intro i hi
  have hi : i ≤ b.length := hi
  (conv => whnf); refine ⟨fun h3 => ?_, fun h3 => ?_⟩
  · have h3 : i < b.length := by simpa using h3
    obtain ⟨y, hy⟩ := B8 h3
    obtain ⟨z, hz1, hz2⟩ := mb y (List.mem_of_getElem? hy)
    have hg1 : (Al m y.path).isSome = true := by rw [hz1]; rfl
    have hg2 : (Al m y.path).getD It.none = z := by rw [hz1]; rfl
    repeat ((conv => whnf); refine ⟨Ac y, fun _ => ⟨by omega, Am hy⟩, ?_⟩)
    refine ⟨(m, y.path), rfl, fun _ => sm, ?_⟩
    repeat ((conv => whnf); first | refine ⟨(by kernel_rfl : Bw _ _ = true), ?_⟩ | refine ⟨Ac y, fun _ => ⟨by omega, Am hy⟩, ?_⟩)
    refine ⟨(a, y.path), rfl, fun _ => sa, ?_⟩
    repeat ((conv => whnf); first | refine ⟨fun h => h, ?_⟩ | refine ⟨(by kernel_rfl : Bw _ _ = true), ?_⟩ | refine ⟨Ac y, fun _ => ⟨by omega, Am hy⟩, ?_⟩)
    (conv => whnf); refine ⟨fun h4 => ?_, fun h4 => ?_⟩
    · exfalso
      have h4 : (!(Al m y.path).isSome || (!(Al a y.path).isSome && !(((Al m y.path).getD It.none).path == y.path && (((Al m y.path).getD It.none).kind == y.kind && (((Al m y.path).getD It.none).data == y.data && (((Al m y.path).getD It.none).time == y.time && true)))))) = true := h4
      rw [hg1, hg2] at h4
      cases hq : (Al a y.path).isSome with
      | true => rw [hq] at h4; simp at h4
      | false => rw [hz2 hq] at h4; simp at h4
    repeat ((conv => whnf); refine ⟨_, w64 (bb), ?_⟩)
    refine C2 (i + 1) ?_ h3 (by first | omega | (simp; done) | (simp; omega))
    (refine ⟨?_, ?_, rfl⟩ <;> repeat' (first | exact rfl | exact trivial | refine ⟨?_, ?_⟩ | fail) <;> (conv => whnf))
  have h3 : i = b.length := by have : ¬ i < b.length := by simpa using h3
                               omega
  subst h3
  have hself := B5l oa
  have hs1 : (C8 a a).1 = a := by rw [hself]
  have hs2 : (C8 a a).2 = true := by rw [hself]
  have hss := B7v a
  skip
  refine ⟨(a, a), rfl, fun _ => ⟨sa, sa⟩, ?_⟩
  skip
  refine ⟨m, rfl, fun _ => sm, ?_⟩
  repeat ((conv => whnf); refine ⟨fun h => h, ?_⟩)
  refine ⟨((C8 a a).1, a), rfl, fun _ => ⟨by rw [hs1]; exact sa, sa⟩, ?_⟩
  repeat ((conv => whnf); first | refine ⟨fun h => h, ?_⟩ | refine ⟨_, w64 (bb), ?_⟩)
  refine ⟨trivial, eqB ?_⟩
  show (Bj m && (C8 a a).2 && Tp (C8 a a).1 a && decide ((((m.map Ac).length : Nat) : Int) ≤ (((a.map Ac).length : Nat) : Int) + (((b.map Ac).length : Nat) : Int))) = true
  rw [om, hs2, hs1, hss]
  simp
  omega
theorem Yq : Av Tryz.prog 5 Eb := Ao (Ca _ _) (FOk.cons B4m (FOk.cons Sg (FOk.cons Xn (FOk.cons A3q (FOk.cons A7h (FOk.cons U7 (FOk.cons Z5 FOk.nil))))))) mixed Tryz.func5 rfl Tryz.call5 (by decide) (by kernel_rfl) A0x (by intro _ (y : Str) _; exact ⟨by simp [Eb, con, A9, A8, AV.noRd, A7, Ab, A5, A6, Ae, Ag, B4, Ac], by simp [Eb, con, A9, A8, AV.noRd, A7, Ab, A5, A6, Ae, Ag, B4, Ac]⟩) (by intro (y : Str) _; first | (simp [Eb, con, A9, A8, Ad, AV.free, A2, A3, A1, A6, Ac, Ae, Ag, B4]; done) | (obtain ⟨_, _⟩ := y; simp [Eb, con, A9, A8, Ad, AV.free, A2, A3, A1, A6, Ac, Ae, Ag, B4]; done) | (obtain ⟨_, _, _⟩ := y; simp [Eb, con, A9, A8, Ad, AV.free, A2, A3, A1, A6, Ac, Ae, Ag, B4]; done))
end Go.GH


