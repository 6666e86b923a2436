import Derived.Test.YtijkfhkjnhceoaaDoorGD
import Derived.Test.YtijkfhkjnhceoaaDoorChecked
import Derived.Shelf.Strings.Builder1
import Derived.Shelf.Strings.Builder2
import Derived.Shelf.Strings.OnBuilder
import Derived.Shelf.LaysM
import Derived.Shelf.Strconv.Itoa3
import Derived.Lib.ItoaNum
import Derived.Lib.LaidTab
import Derived.Test.YtijkfhkjnhceoaaDoorTie
import Derived.Test.YtijkfhkjnhceoaaDoorCards
import Derived.WalkKit
import Derived.ProofKit
import Derived.OpenShut
import Derived.ChangeOld
import Derived.Below
import Derived.SizedLaws
import Derived.LaidMore
import Derived.Stop.Joined
import Derived.Stop.LaidErr
import Derived.SevenTiedAt
import Derived.Lib.AtoiAll
import Derived.Lib.Bytealg
import Derived.Shelf.Small.Strs
import Derived.Shelf.LaysC
import Derived.Shelf.Strconv.AtoiAll
import Derived.Shelf.Strings.Search1
set_option linter.unusedVariables false
set_option linter.unusedSimpArgs false
namespace Go.GH
open Go Go.Proofs
def tyTab : List (Nat × Ty) := [
 (2, ⟨.int .i64, 1, 8, [.int .i64 0], [none]⟩),
 (3, ⟨.int .i64, 1, 8, [.int .i64 0], [none]⟩),
 (4, ⟨.bool, 1, 1, [.bool false], [none]⟩),
 (5, ⟨.int .u8, 1, 1, [.int .u8 0], [none]⟩),
 (6, ⟨.int .u8, 1, 1, [.int .u8 0], [none]⟩),
 (7, ⟨.struct [(0, 2), (1, 3), (2, 4), (3, 6)], 4, 24, [.int .i64 0, .int .i64 0, .bool false, .int .u8 0], [none, none, none, none]⟩),
 (8, ⟨.struct [(0, 2), (1, 3), (2, 4), (3, 6)], 4, 24, [.int .i64 0, .int .i64 0, .bool false, .int .u8 0], [none, none, none, none]⟩),
 (9, ⟨.str, 1, 16, [.str []], [none]⟩),
 (10, ⟨.str, 1, 16, [.str []], [none]⟩),
 (11, ⟨.str, 1, 16, [.str []], [none]⟩),
 (12, ⟨.int .u64, 1, 8, [.int .u64 0], [none]⟩),
 (15, ⟨.ptr 132, 1, 8, [.undef], [none]⟩),
 (16, ⟨.ptr 135, 1, 8, [.undef], [none]⟩),
 (17, ⟨.ptr 143, 1, 8, [.undef], [none]⟩),
 (20, ⟨.iface, 1, 16, [.nilI], [none]⟩),
 (21, ⟨.int .i32, 1, 4, [.int .i32 0], [none]⟩),
 (22, ⟨.struct [(0, 3), (1, 9), (2, 9), (3, 3), (4, 9), (5, 3)], 6, 72, [.int .i64 0, .str [], .str [], .int .i64 0, .str [], .int .i64 0], [none, none, none, none, none, none]⟩),
 (23, ⟨.struct [(0, 3), (1, 9), (2, 9), (3, 3), (4, 9), (5, 3)], 6, 72, [.int .i64 0, .str [], .str [], .int .i64 0, .str [], .int .i64 0], [none, none, none, none, none, none]⟩),
 (26, ⟨.struct [(0, 3), (1, 9), (2, 9), (3, 3), (4, 9), (5, 3)], 6, 72, [.int .i64 0, .str [], .str [], .int .i64 0, .str [], .int .i64 0], [none, none, none, none, none, none]⟩),
 (29, ⟨.slice 23, 1, 24, [.own 6 []], [some 6]⟩),
 (32, ⟨.slice 26, 1, 24, [.own 6 []], [some 6]⟩),
 (43, ⟨.slice 5, 1, 24, [.own 1 []], [some 1]⟩),
 (53, ⟨.slice 9, 1, 24, [.own 1 []], [some 1]⟩),
 (63, ⟨.ptr 85, 1, 8, [.undef], [none]⟩),
 (67, ⟨.slice 3, 1, 24, [.own 1 []], [some 1]⟩),
 (73, ⟨.ptr 75, 1, 8, [.undef], [none]⟩),
 (74, ⟨.struct [(0, 73), (1, 43)], 2, 32, [.undef, .own 1 []], [none, some 1]⟩),
 (75, ⟨.struct [(0, 73), (1, 43)], 2, 32, [.undef, .own 1 []], [none, some 1]⟩),
 (77, ⟨.iface, 1, 16, [.nilI], [none]⟩),
 (78, ⟨.iface, 1, 16, [.nilI], [none]⟩),
 (81, ⟨.int .u64, 1, 8, [.int .u64 0], [none]⟩),
 (84, ⟨.struct [(0, 43), (1, 3), (2, 3)], 3, 40, [.own 1 [], .int .i64 0, .int .i64 0], [some 1, none, none]⟩),
 (85, ⟨.struct [(0, 43), (1, 3), (2, 3)], 3, 40, [.own 1 [], .int .i64 0, .int .i64 0], [some 1, none, none]⟩),
 (88, ⟨.ptr 5, 1, 8, [.undef], [none]⟩),
 (97, ⟨.int .i64, 1, 8, [.int .i64 0], [none]⟩),
 (100, ⟨.ptr 114, 1, 8, [.undef], [none]⟩),
 (106, ⟨.int .u64, 1, 8, [.int .u64 0], [none]⟩),
 (116, ⟨.int .u32, 1, 4, [.int .u32 0], [none]⟩),
 (125, ⟨.ptr 127, 1, 8, [.undef], [none]⟩),
 (126, ⟨.struct [(0, 9)], 1, 16, [.str []], [none]⟩),
 (127, ⟨.struct [(0, 9)], 1, 16, [.str []], [none]⟩),
 (137, ⟨.int .u8, 1, 1, [.int .u8 0], [none]⟩),
 (138, ⟨.int .u8, 1, 1, [.int .u8 0], [none]⟩),
 (140, ⟨.int .i32, 1, 4, [.int .i32 0], [none]⟩),
 (141, ⟨.int .i32, 1, 4, [.int .i32 0], [none]⟩)]
theorem tab_ok : tabOk Tryd.prog tyTab = true := by kernel_rfl
theorem tabT (F : Nat → Option PCon) (kp : List Nat) : TOk Tryd.prog ⟨lookup tyTab, F, kp⟩ := fun t ty h => tabOk_T tab_ok t ty h
theorem mixed : Tryd.prog.follows .mixedOrders = true := by kernel_rfl
def codeOf (f : Func) : Code := match f.body with
  | some c => c
  | none => .skip
end Go.GH

namespace Go.Proofs
open Go.Shelf
def Tryd.lays156_ren : Go.Shelf.Ren := ⟨fun | 156 => 34 | 165 => 55 | 166 => 56 | 169 => 57 | 240 => 70 | 241 => 71 | 276 => 80 | 277 => 81 | n => n, fun | 31 => 53 | 9 => 9 | 3 => 3 | 4 => 4 | 0 => 0 | 20 => 20 | 72 => 75 | 76 => 79 | 70 => 73 | 37 => 43 | 75 => 78 | 127 => 88 | 164 => 93 | 5 => 5 | 80 => 50 | n => n, fun | n => n⟩
theorem Tryd.lays156 : Go.Proofs.Lays.n156 Tryd.prog Tryd.lays156_ren := {
  mixed := by kernel_rfl
  f156 := Tryd.func34.trans (congrArg some (by kernel_rfl))
  f165 := Tryd.func55.trans (congrArg some (by kernel_rfl))
  f166 := Tryd.func56.trans (congrArg some (by kernel_rfl))
  f169 := Tryd.func57.trans (congrArg some (by kernel_rfl))
  f240 := Tryd.func70.trans (congrArg some (by kernel_rfl))
  f241 := Tryd.func71.trans (congrArg some (by kernel_rfl))
  f276 := Tryd.func80.trans (congrArg some (by kernel_rfl))
  f277 := Tryd.func81.trans (congrArg some (by kernel_rfl))
  t0 := Tryd.underlying0
  a0 := Tryd.isAgg0
  z0 := Tryd.sizeOf0
  v0 := Tryd.zeroValue0
  t3 := Tryd.underlying3
  a3 := Tryd.isAgg3
  z3 := Tryd.sizeOf3
  v3 := Tryd.zeroValue3
  t4 := Tryd.underlying4
  a4 := Tryd.isAgg4
  z4 := Tryd.sizeOf4
  v4 := Tryd.zeroValue4
  t9 := Tryd.underlying9
  a9 := Tryd.isAgg9
  z9 := Tryd.sizeOf9
  v9 := Tryd.zeroValue9
  t20 := Tryd.underlying20
  a20 := Tryd.isAgg20
  z20 := Tryd.sizeOf20
  v20 := Tryd.zeroValue20
  t31 := Tryd.underlying53
  a31 := Tryd.isAgg53
  z31 := Tryd.sizeOf53
  v31 := Tryd.zeroValue53
  t37 := Tryd.underlying43
  a37 := Tryd.isAgg43
  z37 := Tryd.sizeOf43
  v37 := Tryd.zeroValue43
  t70 := Tryd.underlying73
  a70 := Tryd.isAgg73
  z70 := Tryd.sizeOf73
  v70 := Tryd.zeroValue73
  t72 := Tryd.underlying75
  a72 := Tryd.isAgg75
  z72 := Tryd.sizeOf75
  v72 := Tryd.zeroValue75
  t75 := Tryd.underlying78
  a75 := Tryd.isAgg78
  z75 := Tryd.sizeOf78
  v75 := Tryd.zeroValue78
  t76 := Tryd.underlying79
  a76 := Tryd.isAgg79
  z76 := Tryd.sizeOf79
  v76 := Tryd.zeroValue79
  t127 := Tryd.underlying88
  a127 := Tryd.isAgg88
  z127 := Tryd.sizeOf88
  v127 := Tryd.zeroValue88
  t164 := Tryd.underlying93
  a164 := Tryd.isAgg93
  z164 := Tryd.sizeOf93
  v164 := Tryd.zeroValue93 }
theorem Tryd.Builder_Extra_156 : Builder.Extra Tryd.prog Tryd.lays156_ren := {
  sizeBuilder := by kernel_rfl
  liesBuilder := by kernel_rfl
  t5 := Tryd.underlying5
  a5 := Tryd.isAgg5
  z5 := Tryd.sizeOf5
  v5 := Tryd.zeroValue5
  infoByte := by kernel_rfl
  cellsByte := by kernel_rfl
  sizeByte := by kernel_rfl
  neB5 := by decide }
open Go.RowKit in
theorem Tryd.strings_Join_none (a : Option Addr) (c : Nat) (sep : ByteArray) (w : World) :
    Calls Tryd.prog 34 #[.slice a 0 c, .string sep] w fun e w' => e = .returned (.string ⟨#[]⟩) ∧ w' = w := Any.strings_Join_none Tryd.lays156 Tryd.Builder_Extra_156 a c sep w
open Go.RowKit in
theorem Tryd.strings_Join (bk o c : Nat) (xs : List ByteArray) (sep : ByteArray) (w : World) (hcells : ∀ (j : Nat) x, xs[j]? = some x → w.cell? ⟨bk, o + j, none⟩ = some (.string x)) (hbk : bk < w.heap.size) (hN : xs.length ≤ 140737488355328) (hcap : xs.length ≤ c) (hlen : (Lib.join (xs.map (·.data.toList)) sep.data.toList).length ≤ 140737488355328) :
    Calls Tryd.prog 34 #[.slice (some ⟨bk, o, none⟩) xs.length c, .string sep] w fun e w' => e = .returned (.string ⟨(Lib.join (xs.map (·.data.toList)) sep.data.toList).toArray⟩) ∧ Below w.heap.size w w' := Any.strings_Join Tryd.lays156 Tryd.Builder_Extra_156 bk o c xs sep w hcells hbk hN hcap hlen
def Tryd.laysM171_ren : Go.Shelf.Ren := ⟨fun | 171 => 58 | 243 => 72 | 246 => 82 | 283 => 93 | 284 => 94 | 285 => 95 | 286 => 96 | 129 => 102 | 317 => 101 | 318 => 103 | 319 => 104 | 320 => 105 | 337 => 108 | 338 => 109 | n => n, fun | 3 => 3 | 9 => 9 | 2 => 2 | 4 => 4 | 171 => 105 | 0 => 0 | 53 => 106 | 37 => 43 | 5 => 5 | 173 => 109 | 212 => 120 | 51 => 116 | 20 => 20 | 213 => 121 | 46 => 81 | 232 => 129 | 233 => 130 | n => n, fun | 17 => 3 | 18 => 4 | 19 => 5 | n => n⟩
theorem Tryd.laysM171 : Go.Proofs.LaysM.n171 Tryd.prog Tryd.laysM171_ren := {
  mixed := by kernel_rfl
  f129 := Tryd.func102.trans (congrArg some (by kernel_rfl))
  f171 := Tryd.func58.trans (congrArg some (by kernel_rfl))
  f243 := Tryd.func72.trans (congrArg some (by kernel_rfl))
  f246 := Tryd.func82.trans (congrArg some (by kernel_rfl))
  f283 := Tryd.func93.trans (congrArg some (by kernel_rfl))
  f284 := Tryd.func94.trans (congrArg some (by kernel_rfl))
  f285 := Tryd.func95.trans (congrArg some (by kernel_rfl))
  f286 := Tryd.func96.trans (congrArg some (by kernel_rfl))
  f317 := Tryd.func101.trans (congrArg some (by kernel_rfl))
  f318 := Tryd.func103.trans (congrArg some (by kernel_rfl))
  f319 := Tryd.func104.trans (congrArg some (by kernel_rfl))
  f320 := Tryd.func105.trans (congrArg some (by kernel_rfl))
  f337 := Tryd.func108.trans (congrArg some (by kernel_rfl))
  f338 := Tryd.func109.trans (congrArg some (by kernel_rfl))
  t0 := Tryd.underlying0
  a0 := Tryd.isAgg0
  z0 := Tryd.sizeOf0
  v0 := Tryd.zeroValue0
  t2 := Tryd.underlying2
  a2 := Tryd.isAgg2
  z2 := Tryd.sizeOf2
  v2 := Tryd.zeroValue2
  t3 := Tryd.underlying3
  a3 := Tryd.isAgg3
  z3 := Tryd.sizeOf3
  v3 := Tryd.zeroValue3
  t4 := Tryd.underlying4
  a4 := Tryd.isAgg4
  z4 := Tryd.sizeOf4
  v4 := Tryd.zeroValue4
  t5 := Tryd.underlying5
  a5 := Tryd.isAgg5
  z5 := Tryd.sizeOf5
  v5 := Tryd.zeroValue5
  t9 := Tryd.underlying9
  a9 := Tryd.isAgg9
  z9 := Tryd.sizeOf9
  v9 := Tryd.zeroValue9
  t20 := Tryd.underlying20
  a20 := Tryd.isAgg20
  z20 := Tryd.sizeOf20
  v20 := Tryd.zeroValue20
  t37 := Tryd.underlying43
  a37 := Tryd.isAgg43
  z37 := Tryd.sizeOf43
  v37 := Tryd.zeroValue43
  t46 := Tryd.underlying81
  a46 := Tryd.isAgg81
  z46 := Tryd.sizeOf81
  v46 := Tryd.zeroValue81
  t51 := Tryd.underlying116
  a51 := Tryd.isAgg116
  z51 := Tryd.sizeOf116
  v51 := Tryd.zeroValue116
  t53 := Tryd.underlying106
  a53 := Tryd.isAgg106
  z53 := Tryd.sizeOf106
  v53 := Tryd.zeroValue106
  t171 := Tryd.underlying105
  a171 := Tryd.isAgg105
  z171 := Tryd.sizeOf105
  v171 := Tryd.zeroValue105
  t173 := Tryd.underlying109
  a173 := Tryd.isAgg109
  z173 := Tryd.sizeOf109
  v173 := Tryd.zeroValue109
  t212 := Tryd.underlying120
  a212 := Tryd.isAgg120
  z212 := Tryd.sizeOf120
  v212 := Tryd.zeroValue120
  t213 := Tryd.underlying121
  a213 := Tryd.isAgg121
  z213 := Tryd.sizeOf121
  t232 := Tryd.underlying129
  a232 := Tryd.isAgg129
  z232 := Tryd.sizeOf129
  v232 := Tryd.zeroValue129
  t233 := Tryd.underlying130
  a233 := Tryd.isAgg130
  z233 := Tryd.sizeOf130
  v233 := Tryd.zeroValue130
  g17 := by kernel_rfl
  g18 := by kernel_rfl
  g19 := by kernel_rfl
  i0 := by kernel_rfl
  i2 := by kernel_rfl
  i3 := by kernel_rfl
  i4 := by kernel_rfl
  i5 := by kernel_rfl
  i9 := by kernel_rfl
  i20 := by kernel_rfl
  i37 := by kernel_rfl
  i46 := by kernel_rfl
  i51 := by kernel_rfl
  i53 := by kernel_rfl
  i171 := by kernel_rfl
  i173 := by kernel_rfl
  i212 := by kernel_rfl
  i232 := by kernel_rfl
  i233 := by kernel_rfl
  m17 := by kernel_rfl
  m18 := by kernel_rfl
  m19 := by kernel_rfl }
open Go.RowKit Go.Sort Go.Lib in
theorem Tryd.strconv_Itoa (n : Int) (h0 : -9223372036854775808 ≤ n) (h1 : n ≤ 9223372036854775807) (w : World) (htab : Lib.TabIs Tryd.prog w "internal/strconv.uint64pow10" .u64 Lib.pow10Tab) :
    Calls Tryd.prog 58 #[.int .i64 n] w fun e w' => e = .returned (.string ⟨(Lib.itoa n).toArray⟩) ∧ ∃ k os, w' = grow (w.drewN k) os := Any.strconv_Itoa Tryd.laysM171 n h0 h1 w htab
end Go.Proofs

set_option linter.unusedVariables false
namespace Go.GH
open Go
abbrev Str := List UInt8
def mC : Mode := .rd [none]
def mS (k : Nat) : Mode := .rd [some k]
def con (ms : List Mode) (sc : Bool) (α : Type) (enc : α → List AV) (pre : α → Prop) (res : α → AV) : PCon := ⟨ms, sc, false, α, enc, pre, res, fun _ => [], fun _ => True, false⟩
def conG (gw : World → Prop) (ms : List Mode) (sc : Bool) (α : Type) (enc : α → List AV) (pre : α → Prop) (res : α → AV) : PCon := ⟨ms, sc, false, α, enc, pre, res, fun _ => [], gw, false⟩
def conW (sh : Bool) (ms : List Mode) (α : Type) (enc : α → List AV) (pre : α → Prop) (res : α → AV) (out : α → List AV) : PCon := ⟨ms, false, sh, α, enc, pre, res, out, fun _ => True, false⟩
def conP (ms : List Mode) (α : Type) (enc : α → List AV) (pre : α → Prop) (res : α → AV) : PCon := ⟨ms, false, true, α, enc, pre, res, fun _ => [], fun _ => True, true⟩
def encS (s : Str) : List AV := [.str s]
def inB (x lo hi : Int) : Bool := decide (x ≥ lo) && decide (x ≤ hi)
def splitBy (c : UInt8) : Str → List Str
  | [] => [[]]
  | x :: r => if x = c then [] :: splitBy c r else match splitBy c r with
    | h :: t => (x :: h) :: t
    | [] => [[x]]
theorem splitBy_ne (c : UInt8) : ∀ s, splitBy c s ≠ []
  | [] => by simp [splitBy]
  | x :: r => by
    unfold splitBy
    split
    · simp
    · split <;> simp
theorem splitBy_none {c : UInt8} : ∀ {a : Str}, (∀ x, x ∈ a → x ≠ c) → splitBy c a = [a]
  | [], _ => rfl
  | x :: r, h => by
    rw [splitBy, if_neg (h x (by simp)), splitBy_none (a := r) fun y hy => h y (by simp [hy])]
theorem splitBy_at {c : UInt8} {b : Str} : ∀ {a : Str}, (∀ x, x ∈ a → x ≠ c) → splitBy c (a ++ c :: b) = a :: splitBy c b
  | [], _ => by simp [splitBy]
  | x :: r, h => by
    rw [List.cons_append, splitBy, if_neg (h x (by simp)), splitBy_at (a := r) fun y hy => h y (by simp [hy])]
theorem splitBy_len {c : UInt8} : ∀ (s : Str), (splitBy c s).length ≤ s.length + 1
  | [] => by simp [splitBy]
  | x :: r => by
    have := splitBy_len (c := c) r
    unfold splitBy
    split
    · simp; omega
    · split
      · rename_i h t heq; rw [heq] at this; simp at this ⊢; omega
      · simp
theorem splitBy_mem {c : UInt8} : ∀ (s : Str) (p : Str), p ∈ splitBy c s → p.length ≤ s.length
  | [], p, h => by simp [splitBy] at h; subst h; simp
  | x :: r, p, h => by
    unfold splitBy at h
    split at h
    · rcases List.mem_cons.1 h with rfl | h
      · simp
      · have := splitBy_mem r p h; simp; omega
    · split at h
      · rename_i h' t heq
        rcases List.mem_cons.1 h with rfl | h
        · have := splitBy_mem (c := c) r h' (by rw [heq]; simp)
          simp; omega
        · have := splitBy_mem (c := c) r p (by rw [heq]; simp [h])
          simp; omega
      · simp at h; subst h; simp
def isNm (b : UInt8) : Bool := (decide ((b.toNat : Int) ≥ 97) && decide ((b.toNat : Int) ≤ 122)) || (decide ((b.toNat : Int) ≥ 48) && decide ((b.toNat : Int) ≤ 57))
theorem isNm' (b : UInt8) : ((decide ((b.toNat : Int) < 97) || decide ((b.toNat : Int) > 122)) && (decide ((b.toNat : Int) < 48) || decide ((b.toNat : Int) > 57))) = !isNm b := by
  unfold isNm
  by_cases h1 : (b.toNat : Int) < 97 <;> by_cases h2 : (b.toNat : Int) > 122 <;> by_cases h3 : (b.toNat : Int) < 48 <;> by_cases h4 : (b.toNat : Int) > 57 <;> simp [h1, h2, h3, h4, Int.not_le.2, Int.not_lt.1] <;> omega
def nameOk (s : Str) : Bool := inB s.length 1 6 && s.all isNm
theorem take_succ' {α : Type} {l : List α} {i : Nat} {x : α} (h : l[i]? = some x) : l.take (i + 1) = l.take i ++ [x] := by
  rw [List.take_add_one, h]; rfl
@[simp] theorem take_map_len {α β : Type} (f : α → β) (l : List α) : (l.map f).take l.length = l.map f := by
  rw [List.take_of_length_le (by simp)]
theorem take_app {α : Type} {a b : List α} : (a ++ b).take (a.length + b.length) = a ++ b := by
  rw [List.take_of_length_le (by simp)]
@[simp] theorem take_rest {α : Type} {l : List α} {k : Nat} : (l.drop k).take (l.length - k) = l.drop k := by
  rw [List.take_of_length_le (by simp)]
theorem get_lt {α : Type} {l : List α} {i : Nat} (h : i < l.length) : ∃ x, l[i]? = some x := ⟨l[i], List.getElem?_eq_getElem h⟩
theorem lt_of_get {α : Type} {l : List α} {i : Nat} {x : α} (h : l[i]? = some x) : i < l.length := by
  rcases Nat.lt_or_ge i l.length with hl | hl
  · exact hl
  · rw [List.getElem?_eq_none hl] at h; cases h
theorem get_map {α β : Type} {l : List α} {f : α → β} {i : Nat} {x : α} (h : l[i]? = some x) : (l.map f)[i]? = some (f x) := by simp [h]
theorem noRdRows_map {α : Type} {f : α → List AV} (h : ∀ a, noRdCells (f a)) : ∀ (l : List α), noRdRows (l.map f)
  | [] => trivial
  | a :: l => ⟨h a, noRdRows_map h l⟩
theorem noRdRows_map' {α : Type} {f : α → List AV} {l : List α} : noRdRows (l.map f) ↔ ∀ a, a ∈ l → noRdCells (f a) := by
  induction l with
  | nil => simp [noRdRows]
  | cons a l ih => simp [noRdRows, ih]
theorem encS_noRd (s : Str) : noRdCells (encS s) := ⟨trivial, trivial⟩
theorem toRdRows_map {α : Type} {f : α → List AV} (h : ∀ a, toRdCells (f a) = f a) (l : List α) : toRdRows (l.map f) = l.map f := by
  induction l with
  | nil => rfl
  | cons a l ih => simp [toRdRows, ih, h]
theorem rdS (l : List Str) : toRdRows (l.map encS) = l.map encS := toRdRows_map (fun _ => rfl) l
theorem cutS (l : List Str) (a b : Nat) : toRdRows (((l.map encS).drop a).take b) = ((l.drop a).take b).map encS := by
  rw [← List.map_drop, ← List.map_take, rdS]
theorem eqB {a b : Bool} (h : a = b) : leVal (.bool a) (.bool b) := by subst h; rfl
theorem eqN' {k : IntKind} {a b : Int} (h : a = b) : leVal (.int k a) (.int k b) := by subst h; rfl
theorem eqS {a b : Str} (h : a = b) : leVal (.str a) (.str b) := by subst h; rfl
theorem noOwn {rows : List (List AV)} (h : (rows.all fun r => r.all fun c => !c.isOwn) = true) : ∀ (r : List AV), r ∈ rows → ∀ c, c ∈ r → c.isOwn = false := by
  intro r hr c hc
  have := List.all_eq_true.1 (List.all_eq_true.1 h r hr) c hc
  simpa using this
theorem lns : (∀ {α : Type} (n : Nat) (l : List α), (l.take n).length = min n l.length) ∧ (∀ {α : Type} (n : Nat) (l : List α), (l.drop n).length = l.length - n) ∧ (∀ {α β : Type} (f : α → β) (l : List α), (l.map f).length = l.length) ∧ (∀ {α : Type} (a b : List α), (a ++ b).length = a.length + b.length) ∧
    (∀ {α : Type} (a : α) (l : List α), (a :: l).length = l.length + 1) ∧ (∀ {α : Type}, ([] : List α).length = 0) ∧ (∀ {α : Type} (n : Nat) (a : α), (List.replicate n a).length = n) :=
  ⟨fun _ _ => List.length_take, fun _ _ => List.length_drop, fun _ _ => List.length_map _, fun _ _ => List.length_append, fun _ _ => List.length_cons, List.length_nil, fun _ _ => List.length_replicate⟩
theorem fin_tup {vs us : List AV} {res : AV} (h : res = .tup us) (hl : leVals vs us) : match res with
    | .tup us => leVals vs us
    | _ => False := by subst h; exact hl
theorem eqNil {s : Nat} {b : List (List AV)} (h : b = []) : leVal .nils (.own s b) := by subst h; rfl
theorem eqOwn {s : Nat} {a b : List (List AV)} (h : a = b) : leVal (.own s a) (.own s b) := by subst h; exact ⟨rfl, rfl⟩
end Go.GH

set_option linter.unusedVariables false
namespace Go.GH
open Go
structure SplitInv (c : UInt8) (s : Str) (i fr : Nat) (out : List Str) : Prop where
  le : fr ≤ i
  il : i ≤ s.length
  no : ∀ x, x ∈ (s.drop fr).take (i - fr) → x ≠ c
  eq : splitBy c s = out ++ splitBy c (s.drop fr)
  len : out.length ≤ fr
theorem drop_cut {α : Type} {s : List α} {fr i : Nat} {b : α} (h : fr ≤ i) (hb : s[i]? = some b) : s.drop fr = (s.drop fr).take (i - fr) ++ b :: s.drop (i + 1) := by
  have hi := lt_of_get hb
  rw [← List.take_append_drop (i - fr) (s.drop fr)]
  congr 1
  · rw [List.take_append_drop]
  · rw [List.drop_drop, show fr + (i - fr) = i by omega, ← List.getElem_cons_drop hi]
    congr 1
    rw [List.getElem?_eq_getElem hi] at hb
    exact Option.some.inj hb
theorem SplitInv.zero (c : UInt8) (s : Str) : SplitInv c s 0 0 [] := ⟨by omega, by omega, by simp, rfl, by simp⟩
theorem SplitInv.pass {c : UInt8} {s : Str} {i fr : Nat} {out : List Str} (h : SplitInv c s i fr out) {b : UInt8} (hb : s[i]? = some b) (hc : b ≠ c) : SplitInv c s (i + 1) fr out := by
  have hi := lt_of_get hb
  have hle := h.le
  refine ⟨by omega, by omega, fun x hx => ?_, h.eq, h.len⟩
  rw [show i + 1 - fr = (i - fr) + 1 by omega, List.take_add_one, List.mem_append] at hx
  rcases hx with hx | hx
  · exact h.no x hx
  · rw [List.getElem?_drop, show fr + (i - fr) = i by omega, hb] at hx
    simp at hx
    exact hx ▸ hc
theorem SplitInv.hit {c : UInt8} {s : Str} {i fr : Nat} {out : List Str} (h : SplitInv c s i fr out) {b : UInt8} (hb : s[i]? = some b) (hc : b = c) : SplitInv c s (i + 1) (i + 1) (out ++ [(s.drop fr).take (i - fr)]) := by
  have hi := lt_of_get hb
  have hle := h.le
  have hlen := h.len
  subst hc
  refine ⟨by omega, by omega, by simp, ?_, by simp; omega⟩
  rw [h.eq, drop_cut hle hb, splitBy_at h.no]
  have e : ((s.drop fr).take (i - fr) ++ b :: s.drop (i + 1)).take (i - fr) = (s.drop fr).take (i - fr) := by
    rw [← drop_cut hle hb]
  simp [e]
theorem SplitInv.fin {c : UInt8} {s : Str} {fr : Nat} {out : List Str} (h : SplitInv c s s.length fr out) : splitBy c s = out ++ [(s.drop fr).take (s.length - fr)] := by
  have e : (s.drop fr).take (s.length - fr) = s.drop fr := by rw [List.take_of_length_le (by simp)]
  have hn := h.no
  rw [e] at hn
  rw [h.eq, e, splitBy_none hn]
theorem SplitInv.fin' {c : UInt8} {s : Str} {fr : Nat} {out : List Str} (h : SplitInv c s s.length fr out) : splitBy c s = out ++ [s.drop fr] := by
  rw [h.fin, List.take_of_length_le (by simp)]
theorem byteEq {a b : UInt8} : (((a.toNat : Int) == (b.toNat : Int)) = true) ↔ a = b := by
  rw [beq_iff_eq]
  constructor
  · intro h
    have h : a.toNat = b.toNat := by omega
    exact UInt8.toNat_inj.1 h
  · rintro rfl; rfl
def sml (n : Nat) : Prop := n ≤ 4194304
def sml1 (n : Nat) : Prop := n ≤ 4194305
end Go.GH

set_option linter.unusedVariables false
set_option linter.unusedSimpArgs false
namespace Go.GH
open Go
def sl : Str := [47]
def pathOk (p : Str) : Bool := (p == sl) || (inB (splitBy 47 p).length 2 5 && ((splitBy 47 p).headD [] == []) && ((splitBy 47 p).drop 1).all nameOk)
def names (p : Str) : List Str := if pathOk p && !(p == sl) then (splitBy 47 p).drop 1 else []
def cat : List Str → Str
  | [] => []
  | a :: r => 47 :: (a ++ cat r)
def cat1 (l : List Str) : Str := match l with
  | [] => sl
  | l => cat l
def pathOf (l : List Str) : Str := if decide (l.length ≤ 4) && l.all nameOk then cat1 l else []
def above (p : Str) : Str := if pathOk p then pathOf ((names p).take ((names p).length - 1)) else []
theorem cat_append : ∀ (a b : List Str), cat (a ++ b) = cat a ++ cat b
  | [], b => rfl
  | x :: a, b => by simp [cat, cat_append a b]
theorem nameOk_no {s : Str} (h : nameOk s = true) : ∀ x, x ∈ s → x ≠ 47 := by
  simp only [nameOk, Bool.and_eq_true, List.all_eq_true] at h
  rintro x hx rfl
  have := h.2 _ hx
  revert this; decide
theorem split_first {c : UInt8} : ∀ (a b : Str), ∃ x, splitBy c (a ++ c :: b) = splitBy c a ++ x :: ((splitBy c b).drop 1) ∧ x = (splitBy c b).headD []
  | [], b => by
    have := splitBy_ne c b
    cases h : splitBy c b with
    | nil => exact absurd h this
    | cons y r => exact ⟨y, by simp [splitBy, h], rfl⟩
  | y :: a, b => by
    obtain ⟨x, h1, h2⟩ := split_first (c := c) a b
    refine ⟨x, ?_, h2⟩
    simp only [List.cons_append, splitBy]
    split
    · rw [h1]; rfl
    · rw [h1]
      have := splitBy_ne c a
      cases h : splitBy c a with
      | nil => exact absurd h this
      | cons z r => rfl
theorem split_cons {c : UInt8} (a b : Str) : splitBy c (a ++ c :: b) = splitBy c a ++ splitBy c b := by
  obtain ⟨x, h1, h2⟩ := split_first (c := c) a b
  rw [h1, h2]
  have := splitBy_ne c b
  cases h : splitBy c b with
  | nil => exact absurd h this
  | cons y r => rfl
theorem split_cat_len : ∀ (l : List Str), (splitBy 47 (cat l)).length = 1 + (l.map fun a => (splitBy 47 a).length).sum ∨ l = [] := by
  intro l
  induction l with
  | nil => exact .inr rfl
  | cons a r ih =>
    left
    simp only [cat, splitBy, if_pos, List.length_cons, List.map_cons, List.sum_cons]
    rcases ih with ih | rfl
    · cases r with
      | nil => simp [cat]; omega
      | cons b r =>
        simp only [cat] at ih ⊢
        rw [split_cons, List.length_append]
        simp only [splitBy, if_pos, List.length_cons] at ih
        simp only [List.map_cons, List.sum_cons] at ih ⊢
        omega
    · simp [cat]; omega
theorem split_cat {l : List Str} (h : ∀ a, a ∈ l → ∀ x, x ∈ a → x ≠ 47) (hl : l ≠ []) : splitBy 47 (cat l) = [] :: l := by
  induction l with
  | nil => exact absurd rfl hl
  | cons a r ih =>
    simp only [cat, splitBy, if_pos]
    congr 1
    cases r with
    | nil => simp only [cat, List.append_nil]; exact splitBy_none (h a (by simp))
    | cons b r =>
      have := ih (fun x hx => h x (by simp [hx])) (by simp)
      simp only [cat] at this ⊢
      rw [splitBy_at (h a (by simp))]
      simp only [splitBy, if_pos, List.cons.injEq, true_and] at this
      rw [this]
theorem split_pos (c : UInt8) (s : Str) : 1 ≤ (splitBy c s).length := by
  have := splitBy_ne c s
  cases h : splitBy c s with
  | nil => exact absurd h this
  | cons => simp
theorem split_one {c : UInt8} : ∀ {s : Str}, (splitBy c s).length = 1 → ∀ x, x ∈ s → x ≠ c
  | [], _, x, hx => by cases hx
  | y :: r, h, x, hx => by
    unfold splitBy at h
    split at h
    · have := split_pos c r; simp only [List.length_cons] at h; omega
    · rename_i hy
      have hr : (splitBy c r).length = 1 := by
        split at h
        · rename_i heq; rw [heq]; simpa using h
        · rename_i heq; exact absurd heq (splitBy_ne c r)
      rcases List.mem_cons.1 hx with rfl | hx
      · exact hy
      · exact split_one hr x hx
theorem sum_ones : ∀ {l : List Str} {f : Str → Nat}, (∀ a, 1 ≤ f a) → (l.map f).sum = l.length → ∀ a, a ∈ l → f a = 1
  | [], _, _, _, a, ha => by cases ha
  | b :: r, f, hf, h, a, ha => by
    have hge : ∀ (r : List Str), r.length ≤ (r.map f).sum := by
      intro r
      induction r with
      | nil => simp
      | cons x r ih => have := hf x; simp; omega
    have h1 := hge r
    have h2 := hf b
    simp only [List.map_cons, List.sum_cons, List.length_cons] at h
    rcases List.mem_cons.1 ha with rfl | ha
    · omega
    · exact sum_ones hf (by omega) a ha
theorem pathOf_spec (l : List Str) : pathOf l = if pathOk (cat1 l) && decide ((names (cat1 l)).length = l.length) then cat1 l else [] := by
  cases l with
  | nil => rfl
  | cons a r =>
    show pathOf (a :: r) = if pathOk (cat (a :: r)) && decide ((names (cat (a :: r))).length = (a :: r).length) then cat (a :: r) else []
    have hlen := split_cat_len (a :: r)
    generalize hl : a :: r = l at *
    have hne : l ≠ [] := by rw [← hl]; simp
    have hlen : (splitBy 47 (cat l)).length = 1 + (l.map fun a => (splitBy 47 a).length).sum := hlen.resolve_right hne
    have hc : cat1 l = cat l := by subst hl; rfl
    by_cases hg : (decide (l.length ≤ 4) && l.all nameOk) = true
    · rw [pathOf, if_pos hg, hc]
      simp only [Bool.and_eq_true, decide_eq_true_eq, List.all_eq_true] at hg
      have hs := split_cat (fun a ha => nameOk_no (hg.2 a ha)) hne
      have hne' : (cat l == sl) = false := by
        subst hl
        rw [beq_eq_false_iff_ne]
        intro e
        have ha := hg.2 a (by simp)
        have : 1 ≤ a.length := by
          simp only [nameOk, inB, Bool.and_eq_true, decide_eq_true_eq] at ha
          omega
        have e2 := congrArg List.length e
        simp only [cat, sl, List.length_cons, List.length_append, List.length_nil] at e2
        omega
      have hl1 : 1 ≤ l.length := by subst hl; simp
      have hp : pathOk (cat l) = true := by
        simp only [pathOk, hne', hs, Bool.false_or, Bool.and_eq_true, inB, decide_eq_true_eq]
        refine ⟨⟨⟨by simp; omega, by simp; omega⟩, rfl⟩, by simpa using hg.2⟩
      rw [if_pos]
      simp [hp, names, hne', hs]
    · rw [pathOf, if_neg hg, if_neg]
      intro h
      apply hg
      simp only [Bool.and_eq_true, decide_eq_true_eq] at h
      obtain ⟨h1, h2⟩ := h
      simp only [names, h1, Bool.true_and] at h2
      have hl1 : 1 ≤ l.length := by subst hl; simp
      by_cases he : (cat l == sl) = true
      · simp [he] at h2; omega
      · have he : (cat l == sl) = false := by simpa using he
        rw [he] at h2
        simp only [Bool.not_false, if_true, List.length_drop] at h2
        have hsum : (l.map fun a => (splitBy 47 a).length).sum = l.length := by omega
        have hno : ∀ a, a ∈ l → ∀ x, x ∈ a → x ≠ 47 := fun a ha => split_one (sum_ones (fun a => split_pos 47 a) hsum a ha)
        have hs := split_cat hno hne
        simp only [pathOk, he, hs, Bool.false_or, Bool.and_eq_true, inB, decide_eq_true_eq] at h1
        simp only [Bool.and_eq_true, decide_eq_true_eq]
        refine ⟨?_, by simpa using h1.2⟩
        have := h1.1.1.2
        simp at this
        omega
theorem cat_len : ∀ (l : List Str), (cat l).length = l.length + (l.map List.length).sum
  | [] => rfl
  | a :: r => by simp [cat, cat_len r]; omega
theorem cat1_len (l : List Str) : (cat1 l).length ≤ l.length + (l.map List.length).sum + 1 := by
  cases l with
  | nil => simp [cat1, sl]
  | cons a r => simp only [cat1]; rw [cat_len]; omega
theorem pathOf_len (l : List Str) : (pathOf l).length ≤ l.length + (l.map List.length).sum + 1 := by
  unfold pathOf
  split
  · exact cat1_len l
  · simp
theorem names_all {p : Str} : (names p).all nameOk = true := by
  unfold names
  split
  · rename_i h
    simp only [Bool.and_eq_true, pathOk, Bool.or_eq_true, Bool.not_eq_true'] at h
    rcases h.1 with h1 | h1
    · rw [h.2] at h1; cases h1
    · exact h1.2
  · rfl
theorem names_len {p : Str} : (names p).length ≤ 4 := by
  unfold names
  split
  · rename_i h
    simp only [Bool.and_eq_true, pathOk, Bool.or_eq_true, Bool.not_eq_true', inB, decide_eq_true_eq] at h
    rcases h.1 with h1 | h1
    · rw [h.2] at h1; cases h1
    · have := h1.1.1.2
      simp; omega
  · simp
theorem nameOk_len {s : Str} (h : nameOk s = true) : s.length ≤ 6 := by
  simp only [nameOk, inB, Bool.and_eq_true, decide_eq_true_eq] at h
  omega
theorem sum_len {l : List Str} {k : Nat} (h : ∀ a, a ∈ l → a.length ≤ k) : (l.map List.length).sum ≤ l.length * k := by
  induction l with
  | nil => simp
  | cons a r ih =>
    have := ih fun x hx => h x (by simp [hx])
    have := h a (by simp)
    simp only [List.map_cons, List.sum_cons, List.length_cons, Nat.add_mul]
    omega
theorem names_sum {p : Str} : ((names p).map List.length).sum ≤ 24 := by
  have h := sum_len (l := names p) (k := 6) fun a ha => nameOk_len (List.all_eq_true.1 names_all a ha)
  have := names_len (p := p)
  omega
theorem sum_take (l : List Str) (k : Nat) : ((l.take k).map List.length).sum ≤ (l.map List.length).sum := by
  induction l generalizing k with
  | nil => simp
  | cons a r ih =>
    cases k with
    | zero => simp
    | succ k => have := ih k; simp only [List.take_succ_cons, List.map_cons, List.sum_cons]; omega
theorem drop1_snoc {α : Type} {l : List α} {i : Nat} {x : α} (h1 : 1 ≤ i) (h : l[i]? = some x) : (l.take (i + 1)).drop 1 = (l.take i).drop 1 ++ [x] := by
  rw [take_succ' h, List.drop_append_of_le_length]
  have := lt_of_get h
  simp; omega
end Go.GH

set_option linter.unusedVariables false
set_option linter.unusedSimpArgs false
namespace Go.GH
open Go Go.Proofs
noncomputable def c_spec_l1In : PCon := con [mC, mC, mC] true (Int × Int × Int) (fun x => [.int .i64 x.1, .int .i64 x.2.1, .int .i64 x.2.2]) (fun _ => True) (fun x => .bool (inB x.1 x.2.1 x.2.2))
noncomputable def E_spec_l1In : Env := ⟨lookup tyTab, lookup [], [0, 1, 2, 6]⟩
set_option maxRecDepth 100000 in
set_option maxHeartbeats 4000000 in
theorem m_spec_l1In : Meets E_spec_l1In (codeOf Tryd.f51) Tryd.f51.results.toList c_spec_l1In := by
  rintro ⟨x, lo, hi⟩ _
  refine ⟨trivial, ?_⟩
  repeat ((conv => whnf); refine ⟨fun h => h, ?_⟩)
  exact ⟨trivial, rfl⟩
theorem ok_spec_l1In : ConOk Tryd.prog 51 c_spec_l1In := meets_ok (tabT _ _) FOk.nil mixed Tryd.func51 rfl Tryd.call51 (by decide) (by kernel_rfl) m_spec_l1In (by intro _ (y : (Int × Int × Int)) _; exact ⟨by simp [c_spec_l1In, con, conG, conW, AV.noRd, noRdCells, noRdRows, noRdRows_map', encS], by simp [c_spec_l1In, con, conG, conW, AV.noRd, noRdCells, noRdRows, noRdRows_map', encS]⟩) (by intro (y : (Int × Int × Int)) _; first | (simp [c_spec_l1In, con, conG, conW, conP, AV.free, freeCells, freeRows, freeRows_map, encS]; done) | (obtain ⟨_, _⟩ := y; simp [c_spec_l1In, con, conG, conW, conP, AV.free, freeCells, freeRows, freeRows_map, encS]; done) | (obtain ⟨_, _, _⟩ := y; simp [c_spec_l1In, con, conG, conW, conP, AV.free, freeCells, freeRows, freeRows_map, encS]; done))
noncomputable def c_impl_within : PCon := con [mC, mC, mC] true (Int × Int × Int) (fun x => [.int .i64 x.1, .int .i64 x.2.1, .int .i64 x.2.2]) (fun _ => True) (fun x => .bool (inB x.1 x.2.1 x.2.2))
noncomputable def E_impl_within : Env := ⟨lookup tyTab, lookup [], [0, 1, 2, 6]⟩
set_option maxRecDepth 100000 in
set_option maxHeartbeats 4000000 in
theorem m_impl_within : Meets E_impl_within (codeOf Tryd.f53) Tryd.f53.results.toList c_impl_within := by
  rintro ⟨x, lo, hi⟩ _
  refine ⟨trivial, ?_⟩
  repeat ((conv => whnf); refine ⟨fun h => h, ?_⟩)
  exact ⟨trivial, rfl⟩
theorem ok_impl_within : ConOk Tryd.prog 53 c_impl_within := meets_ok (tabT _ _) FOk.nil mixed Tryd.func53 rfl Tryd.call53 (by decide) (by kernel_rfl) m_impl_within (by intro _ (y : (Int × Int × Int)) _; exact ⟨by simp [c_impl_within, con, conG, conW, AV.noRd, noRdCells, noRdRows, noRdRows_map', encS], by simp [c_impl_within, con, conG, conW, AV.noRd, noRdCells, noRdRows, noRdRows_map', encS]⟩) (by intro (y : (Int × Int × Int)) _; first | (simp [c_impl_within, con, conG, conW, conP, AV.free, freeCells, freeRows, freeRows_map, encS]; done) | (obtain ⟨_, _⟩ := y; simp [c_impl_within, con, conG, conW, conP, AV.free, freeCells, freeRows, freeRows_map, encS]; done) | (obtain ⟨_, _, _⟩ := y; simp [c_impl_within, con, conG, conW, conP, AV.free, freeCells, freeRows, freeRows_map, encS]; done))
noncomputable def c_spec_NameOk : PCon := con [mC] true Str encS (fun s => s.length ≤ 4611686018427387904) (fun s => .bool (nameOk s))
noncomputable def E_spec_NameOk : Env := ⟨lookup tyTab, lookup [(51, c_spec_l1In)], [0, 2, 3, 7, 11, 36]⟩
set_option maxRecDepth 100000 in
set_option maxHeartbeats 4000000 in
theorem m_spec_NameOk : Meets E_spec_NameOk (codeOf Tryd.f66) Tryd.f66.results.toList c_spec_NameOk := by
  intro (s : Str) hs
  have hs : s.length ≤ 4611686018427387904 := hs
  refine ⟨trivial, ?_⟩
  conv => whnf
  refine ⟨(s.length, 1, 6), rfl, fun _ => trivial, ?_⟩
  conv => whnf
  refine ⟨fun h => ?_, fun h => ?_⟩
  · conv => whnf
    have h : inB s.length 1 6 = false := by simpa using h
    exact ⟨trivial, eqB (by simp [nameOk, h])⟩
  have h : inB s.length 1 6 = true := by simpa using h
  conv => whnf
  refine loop_rule (fun i : Nat => ⟨[(0, ⟨none, .str s⟩), (3, ⟨none, .int .i64 i⟩)], [], 0⟩) (fun i => i ≤ s.length ∧ (s.take i).all isNm = true) (fun i => s.length - i) 0 ?_ ⟨by omega, rfl⟩ ?_
  · exact ⟨⟨rfl, rfl, trivial⟩, trivial, rfl⟩
  rintro i ⟨hi, ha⟩
  conv => whnf
  refine ⟨fun h1 => ?_, fun h1 => ?_⟩
  · have h1 : i < s.length := by simpa using h1
    obtain ⟨b, hb⟩ := get_lt h1
    repeat first
      | ((conv => whnf); refine ⟨fun h => h, ?_⟩)
      | ((conv => whnf); refine ⟨b, fun _ => ⟨Int.natCast_nonneg _, hb⟩, ?_⟩)
    refine ⟨fun h2 => ?_, fun h2 => ?_⟩
    · conv => whnf
      have h2 : (!isNm b) = true := h2
      refine ⟨trivial, eqB (Eq.symm ?_)⟩
      have hm : b ∈ s := List.mem_of_getElem? hb
      simp only [nameOk, Bool.and_eq_false_iff]
      exact .inr (by rw [List.all_eq_false]; exact ⟨b, hm, by simpa using h2⟩)
    · have h2 : isNm b = true := by have : (!isNm b) = false := h2; simpa using this
      conv => whnf
      refine ⟨_, w64 (by omega), ?_⟩
      conv => whnf
      refine again (i + 1) ?_ ⟨by omega, ?_⟩ (by omega)
      · exact ⟨⟨rfl, rfl, trivial⟩, trivial, rfl⟩
      · rw [take_succ' hb]; simp [ha, h2]
  · have h1 : i = s.length := by have : ¬ (i < s.length) := by simpa using h1
                                 omega
    subst h1
    conv => whnf
    rw [List.take_length] at ha
    exact ⟨trivial, eqB (by simp [nameOk, h, ha])⟩
theorem ok_spec_NameOk : ConOk Tryd.prog 66 c_spec_NameOk := meets_ok (tabT _ _) (FOk.cons ok_spec_l1In FOk.nil) mixed Tryd.func66 rfl Tryd.call66 (by decide) (by kernel_rfl) m_spec_NameOk (by intro _ (y : Str) _; exact ⟨by simp [c_spec_NameOk, con, conG, conW, AV.noRd, noRdCells, noRdRows, noRdRows_map', encS], by simp [c_spec_NameOk, con, conG, conW, AV.noRd, noRdCells, noRdRows, noRdRows_map', encS]⟩) (by intro (y : Str) _; first | (simp [c_spec_NameOk, con, conG, conW, conP, AV.free, freeCells, freeRows, freeRows_map, encS]; done) | (obtain ⟨_, _⟩ := y; simp [c_spec_NameOk, con, conG, conW, conP, AV.free, freeCells, freeRows, freeRows_map, encS]; done) | (obtain ⟨_, _, _⟩ := y; simp [c_spec_NameOk, con, conG, conW, conP, AV.free, freeCells, freeRows, freeRows_map, encS]; done))
noncomputable def c_impl_NameOk : PCon := con [mC] true Str encS (fun s => s.length ≤ 4611686018427387904) (fun s => .bool (nameOk s))
noncomputable def E_impl_NameOk : Env := ⟨lookup tyTab, lookup [(53, c_impl_within)], [0, 2, 3, 7, 9, 10, 11, 34]⟩
set_option maxRecDepth 100000 in
set_option maxHeartbeats 4000000 in
theorem m_impl_NameOk : Meets E_impl_NameOk (codeOf Tryd.f69) Tryd.f69.results.toList c_impl_NameOk := by
  intro (s : Str) hs
  have hs : s.length ≤ 4611686018427387904 := hs
  refine ⟨trivial, ?_⟩
  conv => whnf
  refine ⟨(s.length, 1, 6), rfl, fun _ => trivial, ?_⟩
  conv => whnf
  refine ⟨fun h => ?_, fun h => ?_⟩
  · conv => whnf
    have h : inB s.length 1 6 = false := by simpa using h
    exact ⟨trivial, eqB (by simp [nameOk, h])⟩
  have h : inB s.length 1 6 = true := by simpa using h
  conv => whnf
  refine loop_rule (fun i : Nat => ⟨[(0, ⟨none, .str s⟩), (9, ⟨none, .int .i64 s.length⟩), (10, ⟨none, .int .i64 i⟩)], [], 0⟩) (fun i => i ≤ s.length ∧ (s.take i).all isNm = true) (fun i => s.length - i) 0 ?_ ⟨by omega, rfl⟩ ?_
  · exact ⟨⟨rfl, rfl, rfl, trivial⟩, trivial, rfl⟩
  rintro i ⟨hi, ha⟩
  conv => whnf
  refine ⟨fun h1 => ?_, fun h1 => ?_⟩
  · have h1 : i < s.length := by simpa using h1
    obtain ⟨b, hb⟩ := get_lt h1
    repeat first
      | ((conv => whnf); refine ⟨fun h => h, ?_⟩)
      | ((conv => whnf); refine ⟨b, fun _ => ⟨Int.natCast_nonneg _, hb⟩, ?_⟩)
    refine ⟨fun h2 => ?_, fun h2 => ?_⟩
    · conv => whnf
      have h2 : (!isNm b) = true := (isNm' b).symm.trans h2
      refine ⟨trivial, eqB (Eq.symm ?_)⟩
      have hm : b ∈ s := List.mem_of_getElem? hb
      simp only [nameOk, Bool.and_eq_false_iff]
      exact .inr (by rw [List.all_eq_false]; exact ⟨b, hm, by simpa using h2⟩)
    · have h2 : isNm b = true := by have : (!isNm b) = false := (isNm' b).symm.trans h2
                                    simpa using this
      conv => whnf
      refine ⟨_, w64 (by omega), ?_⟩
      conv => whnf
      refine again (i + 1) ?_ ⟨by omega, ?_⟩ (by omega)
      · exact ⟨⟨rfl, rfl, rfl, trivial⟩, trivial, rfl⟩
      · rw [take_succ' hb]; simp [ha, h2]
  · have h1 : i = s.length := by have : ¬ (i < s.length) := by simpa using h1
                                 omega
    subst h1
    conv => whnf
    rw [List.take_length] at ha
    exact ⟨trivial, eqB (by simp [nameOk, h, ha])⟩
theorem ok_impl_NameOk : ConOk Tryd.prog 69 c_impl_NameOk := meets_ok (tabT _ _) (FOk.cons ok_impl_within FOk.nil) mixed Tryd.func69 rfl Tryd.call69 (by decide) (by kernel_rfl) m_impl_NameOk (by intro _ (y : Str) _; exact ⟨by simp [c_impl_NameOk, con, conG, conW, AV.noRd, noRdCells, noRdRows, noRdRows_map', encS], by simp [c_impl_NameOk, con, conG, conW, AV.noRd, noRdCells, noRdRows, noRdRows_map', encS]⟩) (by intro (y : Str) _; first | (simp [c_impl_NameOk, con, conG, conW, conP, AV.free, freeCells, freeRows, freeRows_map, encS]; done) | (obtain ⟨_, _⟩ := y; simp [c_impl_NameOk, con, conG, conW, conP, AV.free, freeCells, freeRows, freeRows_map, encS]; done) | (obtain ⟨_, _, _⟩ := y; simp [c_impl_NameOk, con, conG, conW, conP, AV.free, freeCells, freeRows, freeRows_map, encS]; done))
end Go.GH

set_option linter.unusedVariables false
set_option linter.unusedSimpArgs false
namespace Go.GH
open Go Go.Proofs
noncomputable def c_spec_Parts : PCon := con [mC, mC] false (Str × UInt8) (fun x => [.str x.1, .int .u8 x.2.toNat]) (fun x => sml x.1.length) (fun x => .own 1 ((splitBy x.2 x.1).map encS))
noncomputable def E_spec_Parts : Env := ⟨lookup tyTab, lookup [], [0, 1, 4, 5, 6, 7, 12, 25]⟩
set_option maxRecDepth 100000 in
set_option maxHeartbeats 4000000 in
theorem m_spec_Parts : Meets E_spec_Parts (codeOf Tryd.f37) Tryd.f37.results.toList c_spec_Parts := by
  rintro ⟨s, c⟩ hs
  have hs : s.length ≤ 4194304 := hs
  refine ⟨trivial, ?_⟩
  conv => whnf
  refine loop_rule (fun ((i, fr, out) : Nat × Nat × List Str) => ⟨[(0, ⟨none, .str s⟩), (1, ⟨none, .int .u8 c.toNat⟩), (5, ⟨none, .view 0 [] 0 (out.map encS).length⟩), (6, ⟨none, .int .i64 fr⟩), (7, ⟨none, .int .i64 i⟩)], [(0, .own 1 (out.map encS))], 1⟩)
    (fun (i, fr, out) => SplitInv c s i fr out ∨ (i = s.length + 1 ∧ out = splitBy c s)) (fun x => s.length + 2 - x.1) (0, 0, []) ?_ (.inl (SplitInv.zero c s)) ?_
  · (refine ⟨?_, ?_, rfl⟩ <;> repeat' (first | exact rfl | exact trivial | refine ⟨?_, ?_⟩ | fail) <;> (conv => whnf))
  rintro ⟨i, fr, out⟩ hI
  (conv => whnf); refine ⟨fun h1 => ?_, fun h1 => ?_⟩
  · have h1 : i ≤ s.length := by simpa using h1
    have hI : SplitInv c s i fr out := by
      rcases hI with h | h
      · exact h
      · omega
    have hle := hI.le
    have hlen := hI.len
    repeat ((conv => whnf); refine ⟨fun h => h, ?_⟩)
    conv => whnf
    rcases Nat.lt_or_ge i s.length with hi | hi
    · obtain ⟨b, hb⟩ := get_lt hi
      refine ⟨b, fun _ => ⟨Int.natCast_nonneg _, hb⟩, ?_⟩
      repeat ((conv => whnf); refine ⟨fun h => h, ?_⟩)
      (conv => whnf); refine ⟨fun h2 => ?_, fun h2 => ?_⟩
      · have h2 : b = c := by
          have h2 : ((i : Int) == (s.length : Int) || ((b.toNat : Int) == (c.toNat : Int))) = true := h2
          rcases Bool.or_eq_true _ _ ▸ h2 with h | h
          · simp at h; omega
          · exact byteEq.1 h
        repeat ((conv => whnf); first | refine ⟨_, w64 (by (show (_ : Prop)); first | omega | ((try dsimp only at *); (try simp only [lns] at *); omega)), ?_⟩ | refine ⟨fun _ => ⟨by (show (_ : Prop)); first | omega | ((try dsimp only at *); (try simp only [lns] at *); omega), by (show (_ : Prop)); first | omega | ((try dsimp only at *); (try simp only [lns] at *); omega), by (show (_ : Prop)); first | omega | ((try dsimp only at *); (try simp only [lns] at *); omega)⟩, ?_⟩ | refine ⟨by (show (_ : Prop)); first | omega | ((try dsimp only at *); (try simp only [lns] at *); omega), ?_⟩ | refine ⟨fun (r : List AV) hr c hc => by simp [encS] at hr; (try subst hr); simp at hc; (try subst hc); rfl, ?_⟩)
        refine again (i + 1, i + 1, _) ?_ (.inl (hI.hit hb h2)) (by first | omega | (simp; done) | (simp; omega))
        (refine ⟨?_, ?_, rfl⟩ <;> repeat' (first | exact rfl | exact trivial | refine ⟨?_, ?_⟩ | fail) <;> (conv => whnf))
        all_goals simp [encS]
      · have h2 : b ≠ c := by
          have h2 : ((i : Int) == (s.length : Int) || ((b.toNat : Int) == (c.toNat : Int))) = false := h2
          simp at h2
          exact fun e => h2.2 (by rw [e])
        conv => whnf
        refine ⟨_, w64 (by omega), ?_⟩
        conv => whnf
        refine again (i + 1, fr, out) ?_ (.inl (hI.pass hb h2)) (by first | omega | (simp; done) | (simp; omega))
        (refine ⟨?_, ?_, rfl⟩ <;> repeat' (first | exact rfl | exact trivial | refine ⟨?_, ?_⟩ | fail) <;> (conv => whnf))
    · have e : i = s.length := by omega
      subst e
      refine ⟨0, fun h => by simp [gtrue] at h, ?_⟩
      repeat ((conv => whnf); refine ⟨fun h => h, ?_⟩)
      (conv => whnf); refine ⟨fun h2 => ?_, fun h2 => ?_⟩
      · repeat ((conv => whnf); first | refine ⟨_, w64 (by (show (_ : Prop)); first | omega | ((try dsimp only at *); (try simp only [lns] at *); omega)), ?_⟩ | refine ⟨fun _ => ⟨by (show (_ : Prop)); first | omega | ((try dsimp only at *); (try simp only [lns] at *); omega), by (show (_ : Prop)); first | omega | ((try dsimp only at *); (try simp only [lns] at *); omega), by (show (_ : Prop)); first | omega | ((try dsimp only at *); (try simp only [lns] at *); omega)⟩, ?_⟩ | refine ⟨by (show (_ : Prop)); first | omega | ((try dsimp only at *); (try simp only [lns] at *); omega), ?_⟩ | refine ⟨fun (r : List AV) hr c hc => by simp [encS] at hr; (try subst hr); simp at hc; (try subst hc); rfl, ?_⟩)
        refine again (s.length + 1, s.length + 1, _) ?_ (.inr ⟨rfl, hI.fin.symm⟩) (by first | omega | (simp; done) | (simp; omega))
        (refine ⟨?_, ?_, rfl⟩ <;> repeat' (first | exact rfl | exact trivial | refine ⟨?_, ?_⟩ | fail) <;> (conv => whnf))
        all_goals simp [encS]
      · simp at h2
  · have h1 : s.length < i := by simpa using h1
    have hI : out = splitBy c s := by
      rcases hI with h | h
      · have := h.il; omega
      · exact h.2
    conv => whnf
    exact ⟨trivial, eqOwn (by simp [hI])⟩
theorem ok_spec_Parts : ConOk Tryd.prog 37 c_spec_Parts := meets_ok (tabT _ _) FOk.nil mixed Tryd.func37 rfl Tryd.call37 (by decide) (by kernel_rfl) m_spec_Parts (by intro _ (y : (Str × UInt8)) _; exact ⟨by simp [c_spec_Parts, con, conG, conW, AV.noRd, noRdCells, noRdRows, noRdRows_map', encS], by simp [c_spec_Parts, con, conG, conW, AV.noRd, noRdCells, noRdRows, noRdRows_map', encS]⟩) (by intro (y : (Str × UInt8)) _; first | (simp [c_spec_Parts, con, conG, conW, conP, AV.free, freeCells, freeRows, freeRows_map, encS]; done) | (obtain ⟨_, _⟩ := y; simp [c_spec_Parts, con, conG, conW, conP, AV.free, freeCells, freeRows, freeRows_map, encS]; done) | (obtain ⟨_, _, _⟩ := y; simp [c_spec_Parts, con, conG, conW, conP, AV.free, freeCells, freeRows, freeRows_map, encS]; done))
noncomputable def c_impl_Parts : PCon := con [mC, mC] false (Str × UInt8) (fun x => [.str x.1, .int .u8 x.2.toNat]) (fun x => sml x.1.length) (fun x => .own 1 ((splitBy x.2 x.1).map encS))
noncomputable def E_impl_Parts : Env := ⟨lookup tyTab, lookup [], [0, 1, 4, 5, 6, 7, 12, 19]⟩
set_option maxRecDepth 100000 in
set_option maxHeartbeats 4000000 in
theorem m_impl_Parts : Meets E_impl_Parts (codeOf Tryd.f40) Tryd.f40.results.toList c_impl_Parts := by
  rintro ⟨s, c⟩ hs
  have hs : s.length ≤ 4194304 := hs
  refine ⟨trivial, ?_⟩
  conv => whnf
  refine loop_rule (fun ((i, fr, out) : Nat × Nat × List Str) => ⟨[(0, ⟨none, .str s⟩), (1, ⟨none, .int .u8 c.toNat⟩), (5, ⟨none, .view 0 [] 0 (out.map encS).length⟩), (6, ⟨none, .int .i64 fr⟩), (7, ⟨none, .int .i64 i⟩)], [(0, .own 1 (out.map encS))], 1⟩)
    (fun (i, fr, out) => SplitInv c s i fr out) (fun x => s.length - x.1) (0, 0, []) ?_ (SplitInv.zero c s) ?_
  · (refine ⟨?_, ?_, rfl⟩ <;> repeat' (first | exact rfl | exact trivial | refine ⟨?_, ?_⟩ | fail) <;> (conv => whnf))
  rintro ⟨i, fr, out⟩ hI
  have hI : SplitInv c s i fr out := hI
  have hle := hI.le
  have hlen := hI.len
  have hil := hI.il
  (conv => whnf); refine ⟨fun h1 => ?_, fun h1 => ?_⟩
  · have h1 : i < s.length := by simpa using h1
    obtain ⟨b, hb⟩ := get_lt h1
    conv => whnf
    refine ⟨b, fun _ => ⟨Int.natCast_nonneg _, hb⟩, ?_⟩
    (conv => whnf); refine ⟨fun h2 => ?_, fun h2 => ?_⟩
    · have h2 : b = c := byteEq.1 h2
      repeat ((conv => whnf); first | refine ⟨_, w64 (by (show (_ : Prop)); first | omega | ((try dsimp only at *); (try simp only [lns] at *); omega)), ?_⟩ | refine ⟨fun _ => ⟨by (show (_ : Prop)); first | omega | ((try dsimp only at *); (try simp only [lns] at *); omega), by (show (_ : Prop)); first | omega | ((try dsimp only at *); (try simp only [lns] at *); omega), by (show (_ : Prop)); first | omega | ((try dsimp only at *); (try simp only [lns] at *); omega)⟩, ?_⟩ | refine ⟨by (show (_ : Prop)); first | omega | ((try dsimp only at *); (try simp only [lns] at *); omega), ?_⟩ | refine ⟨fun (r : List AV) hr c hc => by simp [encS] at hr; (try subst hr); simp at hc; (try subst hc); rfl, ?_⟩)
      refine again (i + 1, i + 1, _) ?_ (hI.hit hb h2) (by first | omega | (simp; done) | (simp; omega))
      (refine ⟨?_, ?_, rfl⟩ <;> repeat' (first | exact rfl | exact trivial | refine ⟨?_, ?_⟩ | fail) <;> (conv => whnf))
      all_goals simp [encS]
    · have h2 : b ≠ c := fun e => by rw [byteEq.2 e] at h2; cases h2
      repeat ((conv => whnf); refine ⟨_, w64 (by (show (_ : Prop)); first | omega | ((try dsimp only at *); (try simp only [lns] at *); omega)), ?_⟩)
      refine again (i + 1, fr, out) ?_ (hI.pass hb h2) (by first | omega | (simp; done) | (simp; omega))
      (refine ⟨?_, ?_, rfl⟩ <;> repeat' (first | exact rfl | exact trivial | refine ⟨?_, ?_⟩ | fail) <;> (conv => whnf))
  · have h1 : i = s.length := by
      have : ¬ i < s.length := by simpa using h1
      omega
    subst h1
    repeat ((conv => whnf); first | refine ⟨fun _ => ⟨by (show (_ : Prop)); first | omega | ((try dsimp only at *); (try simp only [lns] at *); omega), by (show (_ : Prop)); first | omega | ((try dsimp only at *); (try simp only [lns] at *); omega), by (show (_ : Prop)); first | omega | ((try dsimp only at *); (try simp only [lns] at *); omega)⟩, ?_⟩ | refine ⟨by (show (_ : Prop)); first | omega | ((try dsimp only at *); (try simp only [lns] at *); omega), ?_⟩ | refine ⟨fun (r : List AV) hr c hc => by simp [encS] at hr; (try subst hr); simp at hc; (try subst hc); rfl, ?_⟩)
    exact ⟨trivial, eqOwn (by (try simp only [List.drop_zero, List.take_length, take_app]); simp [hI.fin', encS])⟩
theorem ok_impl_Parts : ConOk Tryd.prog 40 c_impl_Parts := meets_ok (tabT _ _) FOk.nil mixed Tryd.func40 rfl Tryd.call40 (by decide) (by kernel_rfl) m_impl_Parts (by intro _ (y : (Str × UInt8)) _; exact ⟨by simp [c_impl_Parts, con, conG, conW, AV.noRd, noRdCells, noRdRows, noRdRows_map', encS], by simp [c_impl_Parts, con, conG, conW, AV.noRd, noRdCells, noRdRows, noRdRows_map', encS]⟩) (by intro (y : (Str × UInt8)) _; first | (simp [c_impl_Parts, con, conG, conW, conP, AV.free, freeCells, freeRows, freeRows_map, encS]; done) | (obtain ⟨_, _⟩ := y; simp [c_impl_Parts, con, conG, conW, conP, AV.free, freeCells, freeRows, freeRows_map, encS]; done) | (obtain ⟨_, _, _⟩ := y; simp [c_impl_Parts, con, conG, conW, conP, AV.free, freeCells, freeRows, freeRows_map, encS]; done))
end Go.GH

set_option linter.unusedVariables false
set_option linter.unusedSimpArgs false
namespace Go.GH
open Go Go.Proofs
noncomputable def c_spec_PathOk : PCon := con [mC] true Str encS (fun s => sml s.length) (fun s => .bool (pathOk s))
noncomputable def E_spec_PathOk : Env := ⟨lookup tyTab, lookup [(37, c_spec_Parts), (51, c_spec_l1In), (66, c_spec_NameOk)], [0, 2, 3, 4, 6, 18, 22, 30]⟩
set_option maxRecDepth 100000 in
set_option maxHeartbeats 4000000 in
theorem m_spec_PathOk : Meets E_spec_PathOk (codeOf Tryd.f52) Tryd.f52.results.toList c_spec_PathOk := by
  intro (s : Str) hs
  have hs : s.length ≤ 4194304 := hs
  refine ⟨trivial, ?_⟩
  (conv => whnf); refine ⟨fun h1 => ?_, fun h1 => ?_⟩
  · conv => whnf
    exact ⟨trivial, eqB (by have h1 : (s == sl) = true := h1; simp [pathOk, h1])⟩
  have h1 : (s == sl) = false := h1
  conv => whnf
  refine ⟨(s, 47), rfl, fun _ => hs, ?_⟩
  conv => whnf
  have hq := splitBy_len (c := 47) s
  have hp := split_pos 47 s
  have hd : pathOk s = (inB (splitBy 47 s).length 2 5 && ((splitBy 47 s).headD [] == []) && ((splitBy 47 s).drop 1).all nameOk) := by simp [pathOk, h1]
  refine ⟨((splitBy 47 s).length, 2, 5), by (try simp only [List.length_map]); rfl, fun _ => trivial, ?_⟩
  obtain ⟨a, ha⟩ := get_lt hp
  have hh : (splitBy 47 s).headD [] = a := by
    cases hx : splitBy 47 s with
    | nil => rw [hx] at ha; cases ha
    | cons y r => rw [hx] at ha; simpa using ha
  rw [hh] at hd
  repeat ((conv => whnf); first | refine ⟨fun h => h, ?_⟩ | refine ⟨by (show (_ : Prop)); first | omega | ((try dsimp only at *); (try simp only [lns] at *); omega), ?_⟩ | refine ⟨encS a, fun _ => get_map ha, ?_⟩)
  (conv => whnf); refine ⟨fun h2 => ?_, fun h2 => ?_⟩
  · conv => whnf
    exact ⟨trivial, eqB (by
      have h2 : ((!inB (splitBy 47 s).length 2 5) || !(a == [])) = true := h2
      rw [hd]
      revert h2
      cases inB (splitBy 47 s).length 2 5 <;> cases (a == []) <;> simp)⟩
  have h2 : inB (splitBy 47 s).length 2 5 = true ∧ (a == []) = true := by
    have h2 : ((!inB (splitBy 47 s).length 2 5) || !(a == [])) = false := h2
    revert h2
    cases inB (splitBy 47 s).length 2 5 <;> cases (a == []) <;> simp
  rw [h2.1, h2.2, Bool.true_and, Bool.true_and] at hd
  conv => whnf
  refine loop_rule (fun i : Nat => ⟨[(3, ⟨none, .view 0 [] 0 ((splitBy 47 s).map encS).length⟩), (4, ⟨none, .int .i64 i⟩)], [(0, .own 1 ((splitBy 47 s).map encS))], 1⟩)
    (fun i => 1 ≤ i ∧ i ≤ (splitBy 47 s).length ∧ (((splitBy 47 s).take i).drop 1).all nameOk = true) (fun i => (splitBy 47 s).length - i) 1 ?_ ⟨by omega, hp, by
      have : ((splitBy 47 s).take 1).drop 1 = [] := by rw [List.drop_eq_nil_iff]; simp; omega
      rw [this]; rfl⟩ ?_
  · (refine ⟨?_, ?_, rfl⟩ <;> repeat' (first | exact rfl | exact trivial | refine ⟨?_, ?_⟩ | fail) <;> (conv => whnf))
  rintro i ⟨hi1, hi, hI⟩
  (conv => whnf); refine ⟨fun h3 => ?_, fun h3 => ?_⟩
  · have h3 : i < (splitBy 47 s).length := by simpa using h3
    obtain ⟨b, hb⟩ := get_lt h3
    repeat ((conv => whnf); first | refine ⟨by (show (_ : Prop)); first | omega | ((try dsimp only at *); (try simp only [lns] at *); omega), ?_⟩ | refine ⟨encS b, fun _ => by simp [hb], ?_⟩)
    conv => whnf
    refine ⟨b, rfl, fun _ => ?_, ?_⟩
    · have := splitBy_mem s b (List.mem_of_getElem? hb)
      show b.length ≤ 4611686018427387904
      omega
    (conv => whnf); refine ⟨fun h4 => ?_, fun h4 => ?_⟩
    · conv => whnf
      exact ⟨trivial, eqB (by
        have h4 : (!nameOk b) = true := h4
        rw [hd]
        refine (List.all_eq_false.2 ⟨b, ?_, by simpa using h4⟩).symm
        have : ((splitBy 47 s).drop 1)[i - 1]? = some b := by rw [List.getElem?_drop, show 1 + (i - 1) = i by omega, hb]
        exact List.mem_of_getElem? this)⟩
    · repeat ((conv => whnf); refine ⟨_, w64 (by (show (_ : Prop)); first | omega | ((try dsimp only at *); (try simp only [lns] at *); omega)), ?_⟩)
      refine again (i + 1) ?_ ⟨by omega, h3, ?_⟩ (by first | omega | (simp; done) | (simp; omega))
      · (refine ⟨?_, ?_, rfl⟩ <;> repeat' (first | exact rfl | exact trivial | refine ⟨?_, ?_⟩ | fail) <;> (conv => whnf))
      · have h4 : (!nameOk b) = false := h4
        rw [drop1_snoc hi1 hb, List.all_append, hI]; simpa using h4
  · have h3 : i = (splitBy 47 s).length := by
      have : ¬ i < (splitBy 47 s).length := by simpa using h3
      omega
    subst h3
    rw [List.take_length] at hI
    conv => whnf
    exact ⟨trivial, eqB (by rw [hd, hI])⟩
theorem ok_spec_PathOk : ConOk Tryd.prog 52 c_spec_PathOk := meets_ok (tabT _ _) (FOk.cons ok_spec_Parts (FOk.cons ok_spec_l1In (FOk.cons ok_spec_NameOk FOk.nil))) mixed Tryd.func52 rfl Tryd.call52 (by decide) (by kernel_rfl) m_spec_PathOk (by intro _ (y : Str) _; exact ⟨by simp [c_spec_PathOk, con, conG, conW, AV.noRd, noRdCells, noRdRows, noRdRows_map', encS], by simp [c_spec_PathOk, con, conG, conW, AV.noRd, noRdCells, noRdRows, noRdRows_map', encS]⟩) (by intro (y : Str) _; first | (simp [c_spec_PathOk, con, conG, conW, conP, AV.free, freeCells, freeRows, freeRows_map, encS]; done) | (obtain ⟨_, _⟩ := y; simp [c_spec_PathOk, con, conG, conW, conP, AV.free, freeCells, freeRows, freeRows_map, encS]; done) | (obtain ⟨_, _, _⟩ := y; simp [c_spec_PathOk, con, conG, conW, conP, AV.free, freeCells, freeRows, freeRows_map, encS]; done))
end Go.GH

set_option linter.unusedVariables false
set_option linter.unusedSimpArgs false
namespace Go.GH
open Go
structure It where
  path : Str
  kind : Int
  data : Str
  time : Int
def It.none : It := ⟨[], 0, [], 0⟩
def It.top : It := ⟨sl, 2, [], 0⟩
abbrev Tr := List It
def encI (x : It) : List AV := [.str x.path, .int .i64 x.kind, .str x.data, .int .i64 x.time]
def rdT (t : Tr) : AV := .agg [.rd 4 (t.map encI)]
theorem rdI (l : List It) : toRdRows (l.map encI) = l.map encI := toRdRows_map (fun _ => rfl) l
def idx (t : Tr) (p : Str) : Option Nat := t.findIdx? fun x => x.path == p
def treeGet (t : Tr) (p : Str) : Option It := if p == sl then some It.top else t.find? fun x => x.path == p
def resGet (o : Option It) : AV := .tup [.agg (encI (o.getD It.none)), .bool o.isSome]
def itemOk (x : It) : Bool := pathOk x.path && !(x.path == sl) && inB x.kind 1 3 && (if x.kind == 2 then x.data == [] && x.time == 0 else decide ((x.data.length : Int) ≤ 80) && inB x.time 0 100000)
def dirAt (t : Tr) (p : Str) : Bool := (treeGet t p).isSome && ((treeGet t p).getD It.none).kind == 2
def chk (t : Tr) (i : Nat) : Bool := match t[i]? with
  | some x => itemOk x && (i == 0 || strLt ((t.getD (i - 1) It.none).path) x.path) && dirAt t (above x.path)
  | none => true
def treeOk (t : Tr) : Bool := decide (t.length ≤ 40) && (List.range t.length).all (chk t)
def smT (t : Tr) : Prop := t.length ≤ 4194304 ∧ ∀ x, x ∈ t → x.path.length ≤ 4194304 ∧ x.data.length ≤ 4194304
theorem strLt_irrefl : ∀ a, strLt a a = false
  | [] => rfl
  | x :: a => by simp [strLt, strLt_irrefl a]
theorem strLt_total : ∀ a b, strLt a b = true ∨ a = b ∨ strLt b a = true
  | [], [] => .inr (.inl rfl)
  | [], _ :: _ => .inl rfl
  | _ :: _, [] => .inr (.inr rfl)
  | x :: a, y :: b => by
    simp only [strLt]
    have tri : x < y ∨ x = y ∨ y < x := by
      rcases Nat.lt_trichotomy x.toNat y.toNat with h | h | h
      · exact .inl h
      · exact .inr (.inl (UInt8.toNat_inj.1 h))
      · exact .inr (.inr h)
    rcases tri with h | rfl | h
    · left; simp [h]
    · rcases strLt_total a b with h | rfl | h
      · left; simp [h]
      · right; left; rfl
      · right; right; simp [h]
    · right; right; simp [h]
theorem strLt_asymm : ∀ a b, strLt a b = true → strLt b a = false
  | [], [], h => by cases h
  | [], _ :: _, _ => rfl
  | _ :: _, [], h => by cases h
  | x :: a, y :: b, h => by
    simp only [strLt, Bool.or_eq_true, Bool.and_eq_true, decide_eq_true_eq, beq_iff_eq] at h
    simp only [strLt, Bool.or_eq_false_iff, Bool.and_eq_false_iff, decide_eq_false_iff_not, beq_eq_false_iff_ne]
    rcases h with h | ⟨rfl, h⟩
    · exact ⟨UInt8.not_lt.2 (UInt8.le_of_lt h), .inl fun e => by subst e; exact UInt8.lt_irrefl _ h⟩
    · exact ⟨UInt8.lt_irrefl _, .inr (strLt_asymm a b h)⟩
theorem strLe_not (a b : Str) : (strLt b a || b == a) = !strLt a b := by
  rcases strLt_total a b with h | rfl | h
  · rw [h, strLt_asymm _ _ h]
    have : (b == a) = false := by
      rw [beq_eq_false_iff_ne]; rintro rfl; rw [strLt_irrefl] at h; cases h
    rw [this]; rfl
  · simp [strLt_irrefl]
  · rw [h, strLt_asymm _ _ h]; rfl
theorem find_take_none {α : Type} {p : α → Bool} {l : List α} {i : Nat} {x : α} (h : (l.take i).find? p = none) (hx : l[i]? = some x) (hp : p x = true) : l.find? p = some x := by
  rw [← List.take_append_drop i l, List.find?_append, h]
  have hi := lt_of_get hx
  rw [← List.getElem_cons_drop hi, List.find?_cons]
  rw [List.getElem?_eq_getElem hi] at hx
  rw [Option.some.inj hx, hp]; rfl
theorem find_take_succ {α : Type} {p : α → Bool} {l : List α} {i : Nat} {x : α} (h : (l.take i).find? p = none) (hx : l[i]? = some x) (hp : p x = false) : (l.take (i + 1)).find? p = none := by
  rw [take_succ' hx, List.find?_append, h]
  simp [hp]
theorem chk_all {t : Tr} {f : Nat → Bool} {n : Nat} : (List.range n).all f = true ↔ ∀ j, j < n → f j = true := by simp
theorem treeOk_bad {t : Tr} {i : Nat} (hi : i < t.length) (h : chk t i = false) : treeOk t = false := by
  have : (List.range t.length).all (chk t) = false := by
    rw [List.all_eq_false]; exact ⟨i, List.mem_range.2 hi, by simp [h]⟩
  rw [treeOk, this, Bool.and_false]
theorem treeOk_good {t : Tr} (h : t.length ≤ 40) (h2 : ∀ j, j < t.length → chk t j = true) : treeOk t = true := by
  rw [treeOk, Bool.and_eq_true]
  exact ⟨by simpa using h, chk_all (t := t).2 h2⟩
end Go.GH
namespace Go.GH
open Go
section
variable {t : Tr} {i : Nat} {b pv : It}
def bad1 (i : Nat) (b pv : It) : Bool := !pathOk b.path || b.path == sl || (decide ((i : Int) > 0) && (strLt b.path pv.path || b.path == pv.path)) || !inB b.kind 1 3 || decide ((b.data.length : Int) > 80) || !inB b.time 0 100000
def bad2 (b : It) : Bool := (b.kind == 2) && (!(b.data == []) || b.time != 0)
theorem chk_eq (hb : t[i]? = some b) (hp : t.getD (i - 1) It.none = pv) : chk t i = (itemOk b && (i == 0 || strLt pv.path b.path) && dirAt t (above b.path)) := by
  unfold chk; rw [hb]; simp only [hp]
theorem item_bad : (itemOk b && (i == 0 || strLt pv.path b.path)) = (!bad1 i b pv && !bad2 b) := by
  unfold bad1 bad2 itemOk
  rw [strLe_not]
  have e1 : decide ((i : Int) > 0) = !(i == 0) := by
    rw [Bool.eq_iff_iff]
    simp
    omega
  have e2 : (b.data == []) = true → decide ((b.data.length : Int) > 80) = false := by
    intro h
    have : b.data = [] := by simpa using h
    rw [this]; rfl
  have e3 : (b.time == 0) = true → inB b.time 0 100000 = true := by
    intro h
    have : b.time = 0 := by simpa using h
    rw [this]; rfl
  have e4 : decide ((b.data.length : Int) ≤ 80) = !decide ((b.data.length : Int) > 80) := by
    rw [Bool.eq_iff_iff]
    simp
  have e5 : (b.time != 0) = !(b.time == 0) := rfl
  rw [e1, e4, e5]
  revert e2 e3
  generalize pathOk b.path = P; generalize (b.path == sl) = S; generalize (i == 0) = I; generalize strLt pv.path b.path = O; generalize inB b.kind 1 3 = K
  generalize (b.kind == 2) = D; generalize (b.data == []) = E; generalize (b.time == 0) = Z; generalize decide ((b.data.length : Int) > 80) = L; generalize inB b.time 0 100000 = T
  revert P S I O K D E Z L T
  decide
theorem chk_bad1 (hb : t[i]? = some b) (hp : t.getD (i - 1) It.none = pv) (h : bad1 i b pv = true) : chk t i = false := by
  rw [chk_eq hb hp, item_bad, h]; rfl
theorem chk_bad2 (hb : t[i]? = some b) (h : bad2 b = true) : chk t i = false := by
  rw [chk_eq hb rfl, item_bad, h]; simp
theorem chk_bad3 (hb : t[i]? = some b) (h : dirAt t (above b.path) = false) : chk t i = false := by
  rw [chk_eq hb rfl, h]; simp
theorem chk_good (hb : t[i]? = some b) (hp : t.getD (i - 1) It.none = pv) (h1 : bad1 i b pv = false) (h2 : bad2 b = false) (h3 : dirAt t (above b.path) = true) : chk t i = true := by
  rw [chk_eq hb hp, item_bad, h1, h2, h3]; rfl
theorem above_len (p : Str) : (above p).length ≤ 4194304 := by
  unfold above
  split
  · have := pathOf_len ((names p).take ((names p).length - 1))
    have h2 := sum_take (names p) ((names p).length - 1)
    have h3 := names_sum (p := p)
    have h4 := names_len (p := p)
    rw [List.length_take] at this
    omega
  · simp
theorem treeGet_none {p : Str} : treeGet t p = none ∨ ∃ x, treeGet t p = some x := by
  cases treeGet t p with
  | none => exact .inl rfl
  | some x => exact .inr ⟨x, rfl⟩
end
end Go.GH
namespace Go.GH
open Go
def heavy (a : Str × Int) (x : It) : Str × Int := if x.kind != 2 && decide ((x.data.length : Int) > a.2) then (x.path, x.data.length) else a
def heaviest (t : Tr) : Str := if treeOk t then (t.foldl heavy ([], -1)).1 else []
theorem foldl_take {α β : Type} {f : β → α → β} {l : List α} {i : Nat} {x : α} {b : β} (h : l[i]? = some x) : (l.take (i + 1)).foldl f b = f ((l.take i).foldl f b) x := by
  rw [take_succ' h, List.foldl_append]; rfl
end Go.GH

set_option linter.unusedVariables false
set_option linter.unusedSimpArgs false
namespace Go.GH
open Go
def fnd {α : Type} (p : α → Bool) (l : List α) : Int := if l.any p then (l.findIdx p : Int) else -1
theorem fnd_hit {α : Type} {p : α → Bool} {l : List α} {i : Nat} {x : α} (h : (l.take i).any p = false) (hx : l[i]? = some x) (px : p x = true) : fnd p l = i := by
  have hi := lt_of_get hx
  have ha : l.any p = true := List.any_eq_true.2 ⟨x, List.mem_of_getElem? hx, px⟩
  rw [fnd, if_pos ha]
  congr 1
  have e : l = l.take i ++ x :: l.drop (i + 1) := by
    have := drop_cut (fr := 0) (Nat.zero_le i) hx
    simpa using this
  have h2 : (l.take i).findIdx p = i := by
    rw [List.findIdx_eq_length_of_false]
    · simp; omega
    · intro y hy
      have := List.any_eq_false.1 h y hy
      simpa using this
  conv => lhs; rw [e]
  rw [List.findIdx_append, h2]
  simp [List.findIdx_cons, px]
  omega
theorem fnd_none {α : Type} {p : α → Bool} {l : List α} (h : l.any p = false) : fnd p l = -1 := by
  rw [fnd, if_neg]; simp [h]
theorem any_take_succ {α : Type} {p : α → Bool} {l : List α} {i : Nat} {x : α} (h : (l.take i).any p = false) (hx : l[i]? = some x) (px : p x = false) : (l.take (i + 1)).any p = false := by
  rw [take_succ' hx, List.any_append, h]
  simp [px]
theorem fnd_pos {α : Type} {p : α → Bool} {l : List α} : (decide (fnd p l ≥ 0)) = l.any p := by
  rw [fnd]
  split
  · rename_i h; rw [h]; simp
  · rename_i h
    have : l.any p = false := by simpa using h
    rw [this]; rfl
theorem fnd_ge {α : Type} {p : α → Bool} {l : List α} : -1 ≤ fnd p l ∧ fnd p l ≤ l.length := by
  rw [fnd]
  split
  · have := List.findIdx_le_length (p := p) (xs := l)
    omega
  · omega
theorem fnd_get {α : Type} {p : α → Bool} {l : List α} (h : l.any p = true) : ∃ x, l[(fnd p l).toNat]? = some x ∧ l.find? p = some x := by
  rw [fnd, if_pos h]
  have hl : l.findIdx p < l.length := List.findIdx_lt_length_of_exists (by simpa using h)
  refine ⟨l[l.findIdx p], by simp [hl], ?_⟩
  rw [List.find?_eq_some_iff_getElem]
  refine ⟨List.findIdx_getElem (w := hl), l.findIdx p, hl, rfl, fun j hj => ?_⟩
  have := List.not_of_lt_findIdx hj
  simpa using this
theorem any_find {α : Type} {p : α → Bool} {l : List α} (h : l.any p = false) : l.find? p = none := by
  rw [List.find?_eq_none]
  intro x hx
  exact List.any_eq_false.1 h x hx
end Go.GH
namespace Go.GH
def smL (l : List Str) : Prop := l.length ≤ 4194304 ∧ ∀ s, s ∈ l → s.length ≤ 4194304
end Go.GH

set_option linter.unusedVariables false
set_option linter.unusedSimpArgs false
namespace Go.GH
open Go Go.Proofs
def toB (s : Str) : ByteArray := ⟨⟨s⟩⟩
theorem rd_strs {y : Ctx} {w : World} {h : Heap} {n : Nat → Prop} {ρ : Option Nat → Place} {l : List Str} {v : Value} (hs : SRep y w h n ρ (.rd 1 (l.map encS)) v) (hw : y.wr = w) :
    ∃ a cap, v = .slice a l.length cap ∧ l.length ≤ cap ∧ (l ≠ [] → ∃ b o, a = some ⟨b, o, none⟩ ∧ y.R b ∧ ∀ (j : Nat) s, l[j]? = some s → w.cell? ⟨b, o + j, none⟩ = some (bytesV s)) := by
  cases hs with
  | cell hr =>
    cases hr with
    | rd u hcap hrow hc hr =>
      rename_i a cap
      refine ⟨a, cap, by simp, by simpa using hcap, fun hne => ?_⟩
      have at_ : ∀ (j : Nat) s, l[j]? = some s → cellAt (l.map encS) j 0 = some (.str s) := by
        intro j s hj
        simp [cellAt, hj, encS]
      obtain ⟨x, hx⟩ : ∃ x, l[0]? = some x := get_lt (List.length_pos_iff.2 hne)
      obtain ⟨b, o, ha, hR, _, _⟩ := hc 0 0 _ (at_ 0 x hx)
      refine ⟨b, o, ha, hR, fun j s hj => ?_⟩
      obtain ⟨b', o', ha', _, _, hcell⟩ := hc j 0 _ (at_ j s hj)
      have hrep := hr j 0 _ (at_ j s hj)
      rw [ha] at ha'
      simp only [Option.some.injEq, Addr.mk.injEq, and_true] at ha'
      obtain ⟨rfl, rfl⟩ := ha'
      have hu : u j 0 = bytesV s := srep_str (h := h) (n := n) (ρ := ρ) (.cell hrep)
      rw [hw, hu] at hcell
      simpa using hcell
theorem le_sum : ∀ {l : List Str} {s : Str}, s ∈ l → s.length ≤ (l.map List.length).sum
  | a :: r, s, h => by
    rcases List.mem_cons.1 h with rfl | h
    · simp
    · have := le_sum h; simp; omega
theorem join_cat (l : List Str) : sl ++ Lib.join l sl = cat1 l := by
  cases l with
  | nil => rfl
  | cons a r =>
    have : ∀ (r : List Str), Lib.joinTail sl r = cat r := by
      intro r
      induction r with
      | nil => rfl
      | cons b r ih =>
        rw [cat, ← ih]
        simp [Lib.joinTail, sl]
    rw [Lib.join_cons, this]
    simp [cat1, cat, sl]
end Go.GH

set_option linter.unusedVariables false
set_option linter.unusedSimpArgs false
namespace Go.GH
open Go Go.Proofs
noncomputable def c_impl_readPath_1 : PCon := con [mC] true Str encS (fun s => s.length ≤ 4611686018427387904) (fun s => .bool (!nameOk s))
noncomputable def E_impl_readPath_1 : Env := ⟨lookup tyTab, lookup [(69, c_impl_NameOk)], [0, 2]⟩
set_option maxRecDepth 100000 in
set_option maxHeartbeats 4000000 in
theorem m_impl_readPath_1 : Meets E_impl_readPath_1 (codeOf Tryd.f68) Tryd.f68.results.toList c_impl_readPath_1 := by
  intro (s : Str) hs
  have hs : s.length ≤ 4611686018427387904 := hs
  refine ⟨trivial, ?_⟩
  conv => whnf
  refine ⟨s, rfl, fun _ => hs, ?_⟩
  conv => whnf
  exact ⟨trivial, rfl⟩
theorem ok_impl_readPath_1 : ConOk Tryd.prog 68 c_impl_readPath_1 := meets_ok (tabT _ _) (FOk.cons ok_impl_NameOk FOk.nil) mixed Tryd.func68 rfl Tryd.call68 (by decide) (by kernel_rfl) m_impl_readPath_1 (by intro _ (y : Str) _; exact ⟨by simp [c_impl_readPath_1, con, conG, conW, AV.noRd, noRdCells, noRdRows, noRdRows_map', encS], by simp [c_impl_readPath_1, con, conG, conW, AV.noRd, noRdCells, noRdRows, noRdRows_map', encS]⟩) (by intro (y : Str) _; first | (simp [c_impl_readPath_1, con, conG, conW, conP, AV.free, freeCells, freeRows, freeRows_map, encS]; done) | (obtain ⟨_, _⟩ := y; simp [c_impl_readPath_1, con, conG, conW, conP, AV.free, freeCells, freeRows, freeRows_map, encS]; done) | (obtain ⟨_, _, _⟩ := y; simp [c_impl_readPath_1, con, conG, conW, conP, AV.free, freeCells, freeRows, freeRows_map, encS]; done))
noncomputable def c_slices_IndexFunc_string : PCon := con [mS 1, mC] true (List Str × Bool) (fun x => [.rd 1 (x.1.map encS), .fn (bif x.2 then 68 else 68) []]) (fun x => smL x.1) (fun x => .int .i64 (fnd (fun s => !nameOk s) x.1))
noncomputable def E_slices_IndexFunc_string : Env := ⟨lookup tyTab, lookup [(68, c_impl_readPath_1)], [0, 1, 4, 5, 7, 8, 9, 16]⟩
set_option maxRecDepth 100000 in
set_option maxHeartbeats 4000000 in
theorem m_slices_IndexFunc_string : Meets E_slices_IndexFunc_string (codeOf Tryd.f79) Tryd.f79.results.toList c_slices_IndexFunc_string := by
  rintro ⟨l, q⟩ hs
  obtain ⟨hs1, hs2⟩ : smL l := hs
  cases q with
  | true =>
    refine ⟨trivial, ?_⟩
    conv => whnf
    refine loop_rule (fun i : Nat => ⟨[(0, ⟨none, .rd 1 (l.map encS)⟩), (1, ⟨none, .fn 68 []⟩), (7, ⟨none, .int .i64 l.length⟩), (8, ⟨none, .int .i64 i⟩)], [], 0⟩)
      (fun i => i ≤ l.length ∧ (l.take i).any (fun s => !nameOk s) = false) (fun i => l.length - i) 0 ?_ ⟨by omega, rfl⟩ ?_
    · (refine ⟨?_, ?_, rfl⟩ <;> repeat' (first | exact rfl | exact trivial | refine ⟨?_, ?_⟩ | fail) <;> (conv => whnf))
      all_goals simp
    rintro i ⟨hi, hI⟩
    (conv => whnf); refine ⟨fun h1 => ?_, fun h1 => ?_⟩
    · have h1 : i < l.length := by simpa using h1
      obtain ⟨b, hb⟩ := get_lt h1
      have hbs := hs2 b (List.mem_of_getElem? hb)
      repeat ((conv => whnf); refine ⟨encS b, fun _ => ⟨by omega, by simp [hb]⟩, ?_⟩)
      refine ⟨b, rfl, fun _ => by show _ ≤ _; omega, ?_⟩
      (conv => whnf); refine ⟨fun h2 => ?_, fun h2 => ?_⟩
      · have h2 : (!nameOk b) = true := h2
        conv => whnf
        exact ⟨trivial, eqN' (fnd_hit hI hb h2).symm⟩
      · have h2 : (!nameOk b) = false := h2
        repeat ((conv => whnf); refine ⟨_, w64 (by (show (_ : Prop)); first | omega | ((try dsimp only at *); (try simp only [lns] at *); omega)), ?_⟩)
        refine again (i + 1) ?_ ⟨h1, any_take_succ hI hb h2⟩ (by first | omega | (simp; done) | (simp; omega))
        (refine ⟨?_, ?_, rfl⟩ <;> repeat' (first | exact rfl | exact trivial | refine ⟨?_, ?_⟩ | fail) <;> (conv => whnf))
    · have h1 : i = l.length := by
        have : ¬ i < l.length := by simpa using h1
        omega
      subst h1
      rw [List.take_length] at hI
      conv => whnf
      exact ⟨trivial, eqN' (fnd_none hI).symm⟩
  | false =>
    refine ⟨trivial, ?_⟩
    conv => whnf
    refine loop_rule (fun i : Nat => ⟨[(0, ⟨none, .rd 1 (l.map encS)⟩), (1, ⟨none, .fn 68 []⟩), (7, ⟨none, .int .i64 l.length⟩), (8, ⟨none, .int .i64 i⟩)], [], 0⟩)
      (fun i => i ≤ l.length ∧ (l.take i).any (fun s => !nameOk s) = false) (fun i => l.length - i) 0 ?_ ⟨by omega, rfl⟩ ?_
    · (refine ⟨?_, ?_, rfl⟩ <;> repeat' (first | exact rfl | exact trivial | refine ⟨?_, ?_⟩ | fail) <;> (conv => whnf))
      all_goals simp
    rintro i ⟨hi, hI⟩
    (conv => whnf); refine ⟨fun h1 => ?_, fun h1 => ?_⟩
    · have h1 : i < l.length := by simpa using h1
      obtain ⟨b, hb⟩ := get_lt h1
      have hbs := hs2 b (List.mem_of_getElem? hb)
      repeat ((conv => whnf); refine ⟨encS b, fun _ => ⟨by omega, by simp [hb]⟩, ?_⟩)
      refine ⟨b, rfl, fun _ => by show _ ≤ _; omega, ?_⟩
      (conv => whnf); refine ⟨fun h2 => ?_, fun h2 => ?_⟩
      · have h2 : (!nameOk b) = true := h2
        conv => whnf
        exact ⟨trivial, eqN' (fnd_hit hI hb h2).symm⟩
      · have h2 : (!nameOk b) = false := h2
        repeat ((conv => whnf); refine ⟨_, w64 (by (show (_ : Prop)); first | omega | ((try dsimp only at *); (try simp only [lns] at *); omega)), ?_⟩)
        refine again (i + 1) ?_ ⟨h1, any_take_succ hI hb h2⟩ (by first | omega | (simp; done) | (simp; omega))
        (refine ⟨?_, ?_, rfl⟩ <;> repeat' (first | exact rfl | exact trivial | refine ⟨?_, ?_⟩ | fail) <;> (conv => whnf))
    · have h1 : i = l.length := by
        have : ¬ i < l.length := by simpa using h1
        omega
      subst h1
      rw [List.take_length] at hI
      conv => whnf
      exact ⟨trivial, eqN' (fnd_none hI).symm⟩
theorem ok_slices_IndexFunc_string : ConOk Tryd.prog 79 c_slices_IndexFunc_string := meets_ok (tabT _ _) (FOk.cons ok_impl_readPath_1 FOk.nil) mixed Tryd.func79 rfl Tryd.call79 (by decide) (by kernel_rfl) m_slices_IndexFunc_string (by intro _ (y : (List Str × Bool)) _; exact ⟨by simp [c_slices_IndexFunc_string, con, conG, conW, AV.noRd, noRdCells, noRdRows, noRdRows_map', encS], by simp [c_slices_IndexFunc_string, con, conG, conW, AV.noRd, noRdCells, noRdRows, noRdRows_map', encS]⟩) (by intro (y : (List Str × Bool)) _; first | (simp [c_slices_IndexFunc_string, con, conG, conW, conP, AV.free, freeCells, freeRows, freeRows_map, encS]; done) | (obtain ⟨_, _⟩ := y; simp [c_slices_IndexFunc_string, con, conG, conW, conP, AV.free, freeCells, freeRows, freeRows_map, encS]; done) | (obtain ⟨_, _, _⟩ := y; simp [c_slices_IndexFunc_string, con, conG, conW, conP, AV.free, freeCells, freeRows, freeRows_map, encS]; done))
end Go.GH

set_option linter.unusedVariables false
set_option linter.unusedSimpArgs false
namespace Go.GH
open Go Go.Proofs
def c_strings_Join : PCon := con [mS 1, mC] true (List Str × Str) (fun x => [.rd 1 (x.1.map encS), .str x.2]) (fun x => (Lib.join x.1 x.2).length ≤ 16777216 ∧ x.1.length ≤ 4194304) (fun x => .str (Lib.join x.1 x.2))
theorem ok_strings_Join : ConOk Tryd.prog 34 c_strings_Join := by
  refine con_of_calls rfl (fun _ => rfl) (fun _ => rfl) (fun _ => rfl) (fun x _ => ⟨freeRows_map.2 fun _ _ => ⟨trivial, trivial⟩, trivial, trivial⟩) Tryd.call34 ?_
  rintro ⟨l, p⟩ hpre y w args ρ hw hR hsz hs
  obtain ⟨hp1, hp2⟩ : (Lib.join l p).length ≤ 16777216 ∧ l.length ≤ 4194304 := hpre
  have h0 := hs 0 _ rfl
  have h1 := srep_str (hs 1 _ rfl)
  obtain ⟨a, cap, e0, hcap, hcell⟩ := rd_strs h0 hw
  have hsz : args.size = 2 := hsz
  have ha : args = #[.slice a l.length cap, .string (toB p)] := by
    apply Array.ext
    · simp [hsz]
    · intro i hi1 hi2
      have : i = 0 ∨ i = 1 := by omega
      rcases this with rfl | rfl
      · rw [Array.getD_eq_getD_getElem?, Array.getElem?_eq_getElem hi1] at e0; simpa using e0
      · rw [Array.getD_eq_getD_getElem?, Array.getElem?_eq_getElem hi1] at h1; simpa [bytesV, toB] using h1
  rw [ha]
  cases l with
  | nil =>
    refine (Tryd.strings_Join_none a cap (toB p) w).mono ?_
    rintro e w' ⟨rfl, rfl⟩
    exact ⟨rfl, RowKit.Below.refl _ _⟩
  | cons x r =>
    obtain ⟨b, o, rfl, hb, hc⟩ := hcell (by simp)
    have e : ((x :: r).map toB).map (fun z => z.data.toList) = x :: r := by
      rw [List.map_map]; simp [Function.comp_def, toB]
    have hJ := Tryd.strings_Join b o cap ((x :: r).map toB) (toB p) w (fun j z hz => by
      rw [List.getElem?_map] at hz
      cases hq : (x :: r)[j]? with
      | none => rw [hq] at hz; cases hz
      | some s0 =>
        rw [hq] at hz
        simp only [Option.map_some, Option.some.injEq] at hz
        subst hz
        exact hc j s0 hq) (hR b hb) (by simp at hp2 ⊢; omega) (by simpa using hcap) (by
          rw [e]; simp only [toB]; omega)
    rw [e] at hJ
    rw [List.length_map] at hJ
    exact hJ
noncomputable def c_slices_ContainsFunc_string : PCon := con [mS 1, mC] true (List Str × Bool) (fun x => [.rd 1 (x.1.map encS), .fn (bif x.2 then 68 else 68) []]) (fun x => smL x.1) (fun x => .bool (x.1.any fun s => !nameOk s))
noncomputable def E_slices_ContainsFunc_string : Env := ⟨lookup tyTab, lookup [(79, c_slices_IndexFunc_string), (68, c_impl_readPath_1)], [0, 1, 4]⟩
set_option maxRecDepth 100000 in
set_option maxHeartbeats 4000000 in
theorem m_slices_ContainsFunc_string : Meets E_slices_ContainsFunc_string (codeOf Tryd.f67) Tryd.f67.results.toList c_slices_ContainsFunc_string := by
  rintro ⟨l, q⟩ hs
  refine ⟨trivial, ?_⟩
  cases q with
  | true =>
    conv => whnf
    refine ⟨(l, true), rfl, fun _ => hs, ?_⟩
    conv => whnf
    exact ⟨trivial, eqB fnd_pos⟩
  | false =>
    conv => whnf
    refine ⟨(l, false), rfl, fun _ => hs, ?_⟩
    conv => whnf
    exact ⟨trivial, eqB fnd_pos⟩
theorem ok_slices_ContainsFunc_string : ConOk Tryd.prog 67 c_slices_ContainsFunc_string := meets_ok (tabT _ _) (FOk.cons ok_slices_IndexFunc_string (FOk.cons ok_impl_readPath_1 FOk.nil)) mixed Tryd.func67 rfl Tryd.call67 (by decide) (by kernel_rfl) m_slices_ContainsFunc_string (by intro _ (y : (List Str × Bool)) _; exact ⟨by simp [c_slices_ContainsFunc_string, con, conG, conW, AV.noRd, noRdCells, noRdRows, noRdRows_map', encS], by simp [c_slices_ContainsFunc_string, con, conG, conW, AV.noRd, noRdCells, noRdRows, noRdRows_map', encS]⟩) (by intro (y : (List Str × Bool)) _; first | (simp [c_slices_ContainsFunc_string, con, conG, conW, conP, AV.free, freeCells, freeRows, freeRows_map, encS]; done) | (obtain ⟨_, _⟩ := y; simp [c_slices_ContainsFunc_string, con, conG, conW, conP, AV.free, freeCells, freeRows, freeRows_map, encS]; done) | (obtain ⟨_, _, _⟩ := y; simp [c_slices_ContainsFunc_string, con, conG, conW, conP, AV.free, freeCells, freeRows, freeRows_map, encS]; done))
noncomputable def c_impl_readPath : PCon := con [mC] false Str encS (fun s => sml s.length) (fun s => .tup [.own 1 ((names s).map encS), .bool (pathOk s)])
noncomputable def E_impl_readPath : Env := ⟨lookup tyTab, lookup [(40, c_impl_Parts), (53, c_impl_within), (67, c_slices_ContainsFunc_string), (68, c_impl_readPath_1)], [0, 2, 3, 4, 6, 18, 21]⟩
set_option maxRecDepth 100000 in
set_option maxHeartbeats 4000000 in
theorem m_impl_readPath : Meets E_impl_readPath (codeOf Tryd.f54) Tryd.f54.results.toList c_impl_readPath := by
  intro (s : Str) hs
  have hs : s.length ≤ 4194304 := hs
  refine ⟨trivial, ?_⟩
  (conv => whnf); refine ⟨fun h1 => ?_, fun h1 => ?_⟩
  · have h1 : (s == sl) = true := h1
    have hp : pathOk s = true := by simp [pathOk, h1]
    have hn : names s = [] := by simp [names, h1]
    conv => whnf
    exact ⟨trivial, eqNil (by rw [hn]; rfl), eqB hp.symm, trivial⟩
  have h1 : (s == sl) = false := h1
  conv => whnf
  refine ⟨(s, 47), rfl, fun _ => hs, ?_⟩
  conv => whnf
  have hq := splitBy_len (c := 47) s
  have hp := split_pos 47 s
  have hd : pathOk s = (inB (splitBy 47 s).length 2 5 && ((splitBy 47 s).headD [] == []) && ((splitBy 47 s).drop 1).all nameOk) := by simp [pathOk, h1]
  have hn : names s = if pathOk s then (splitBy 47 s).drop 1 else [] := by simp [names, h1]
  obtain ⟨a, ha⟩ := get_lt hp
  have hh : (splitBy 47 s).headD [] = a := by
    cases hx : splitBy 47 s with
    | nil => rw [hx] at ha; cases ha
    | cons y r => rw [hx] at ha; simpa using ha
  rw [hh] at hd
  repeat ((conv => whnf); first | refine ⟨fun h => h, ?_⟩ | refine ⟨by (show (_ : Prop)); first | omega | ((try dsimp only at *); (try simp only [lns] at *); omega), ?_⟩ | refine ⟨encS a, fun _ => get_map ha, ?_⟩)
  refine ⟨((splitBy 47 s).length, 2, 5), by (try simp only [List.length_map]); rfl, fun _ => trivial, ?_⟩
  repeat ((conv => whnf); refine ⟨fun h => h, ?_⟩)
  (conv => whnf); refine ⟨fun h2 => ?_, fun h2 => ?_⟩
  · have hf : pathOk s = false := by
      have h2 : (!(a == []) || (!inB (splitBy 47 s).length 2 5)) = true := h2
      rw [hd]
      revert h2
      cases inB (splitBy 47 s).length 2 5 <;> cases (a == []) <;> simp
    rw [hf] at hn
    conv => whnf
    exact ⟨trivial, eqNil (by rw [hn]; rfl), eqB hf.symm, trivial⟩
  have h2 : inB (splitBy 47 s).length 2 5 = true ∧ (a == []) = true := by
    have h2 : (!(a == []) || (!inB (splitBy 47 s).length 2 5)) = false := h2
    revert h2
    cases inB (splitBy 47 s).length 2 5 <;> cases (a == []) <;> simp
  rw [h2.1, h2.2, Bool.true_and, Bool.true_and] at hd
  repeat ((conv => whnf); refine ⟨fun _ => ⟨by (show (_ : Prop)); first | omega | ((try dsimp only at *); (try simp only [lns] at *); omega), by (show (_ : Prop)); first | omega | ((try dsimp only at *); (try simp only [lns] at *); omega), by (show (_ : Prop)); first | omega | ((try dsimp only at *); (try simp only [lns] at *); omega)⟩, ?_⟩)
  refine ⟨((splitBy 47 s).drop 1, true), ?_, fun _ => ?_, ?_⟩
  · refine congrArg (fun x => [AV.rd 1 x, AV.fn 68 []]) ?_
    rw [cutS, List.take_of_length_le (by simp)]; rfl
  · refine ⟨by simp; omega, fun x hx => ?_⟩
    have := splitBy_mem s x (List.mem_of_mem_drop hx)
    omega
  have hany : ((splitBy 47 s).drop 1).any (fun s => !nameOk s) = !pathOk s := by rw [hd, List.not_all_eq_any_not]
  (conv => whnf); refine ⟨fun h3 => ?_, fun h3 => ?_⟩
  · have h3 : ((splitBy 47 s).drop 1).any (fun s => !nameOk s) = true := h3
    have hf : pathOk s = false := by rw [hany] at h3; simpa using h3
    rw [hf] at hn
    conv => whnf
    exact ⟨trivial, eqNil (by rw [hn]; rfl), eqB hf.symm, trivial⟩
  · have h3 : ((splitBy 47 s).drop 1).any (fun s => !nameOk s) = false := h3
    have hf : pathOk s = true := by rw [hany] at h3; simpa using h3
    rw [hf, if_pos rfl] at hn
    repeat ((conv => whnf); refine ⟨fun _ => ⟨by (show (_ : Prop)); first | omega | ((try dsimp only at *); (try simp only [lns] at *); omega), by (show (_ : Prop)); first | omega | ((try dsimp only at *); (try simp only [lns] at *); omega), by (show (_ : Prop)); first | omega | ((try dsimp only at *); (try simp only [lns] at *); omega)⟩, ?_⟩)
    refine ⟨trivial, ?_, eqB hf.symm, trivial⟩
    refine eqOwn ?_
    rw [hn]
    simp
    rw [List.take_of_length_le (by simp)]
theorem ok_impl_readPath : ConOk Tryd.prog 54 c_impl_readPath := meets_ok (tabT _ _) (FOk.cons ok_impl_Parts (FOk.cons ok_impl_within (FOk.cons ok_slices_ContainsFunc_string (FOk.cons ok_impl_readPath_1 FOk.nil)))) mixed Tryd.func54 rfl Tryd.call54 (by decide) (by kernel_rfl) m_impl_readPath (by intro _ (y : Str) _; exact ⟨by simp [c_impl_readPath, con, conG, conW, AV.noRd, noRdCells, noRdRows, noRdRows_map', encS], by simp [c_impl_readPath, con, conG, conW, AV.noRd, noRdCells, noRdRows, noRdRows_map', encS]⟩) (by intro (y : Str) _; first | (simp [c_impl_readPath, con, conG, conW, conP, AV.free, freeCells, freeRows, freeRows_map, encS]; done) | (obtain ⟨_, _⟩ := y; simp [c_impl_readPath, con, conG, conW, conP, AV.free, freeCells, freeRows, freeRows_map, encS]; done) | (obtain ⟨_, _, _⟩ := y; simp [c_impl_readPath, con, conG, conW, conP, AV.free, freeCells, freeRows, freeRows_map, encS]; done))
end Go.GH

set_option linter.unusedVariables false
set_option linter.unusedSimpArgs false
namespace Go.GH
open Go
def szR (left : Int) (n : Nat) : Int := if left - n < 0 then -1 else left - n
def szI (x : It) : Nat := x.path.length + x.data.length
def szT (t : Tr) : Nat := t.length + (t.map szI).sum
theorem sum_take' {α : Type} {f : α → Nat} {l : List α} {i : Nat} {x : α} (h : l[i]? = some x) : ((l.take (i + 1)).map f).sum = ((l.take i).map f).sum + f x := by
  rw [take_succ' h]; simp
theorem sum_take_le {α : Type} {f : α → Nat} {l : List α} {i : Nat} : ((l.take i).map f).sum ≤ (l.map f).sum := by
  conv => rhs; rw [← List.take_append_drop i l, List.map_append, List.sum_append]
  omega
theorem szT_sm {t : Tr} {n : Nat} (h : szT t ≤ n) (hn : n ≤ 4194304) : smT t := by
  unfold szT at h
  refine ⟨by omega, fun x hx => ?_⟩
  have h2 : szI x ≤ (t.map szI).sum := by
    obtain ⟨i, hi⟩ := List.mem_iff_getElem?.1 hx
    have h3 := sum_take' (f := szI) hi
    have h4 := sum_take_le (f := szI) (l := t) (i := i + 1)
    omega
  have h5 : szI x = x.path.length + x.data.length := rfl
  omega
theorem szR_ok {left : Int} {n : Nat} (h : ¬ szR left n < 0) : (n : Int) ≤ left := by
  unfold szR at h
  split at h <;> omega
def filled {α : Type} (f : α → List AV) (z : List AV) (l : List α) (i : Nat) : List (List AV) := (l.take i).map f ++ List.replicate (l.length - i) z
theorem filled_len {α : Type} {f : α → List AV} {z : List AV} {l : List α} {i : Nat} (hi : i ≤ l.length) : (filled f z l i).length = l.length := by
  simp [filled]; omega
theorem filled_zero {α : Type} {f : α → List AV} {z : List AV} {l : List α} : filled f z l 0 = List.replicate l.length z := by simp [filled]
theorem filled_all {α : Type} {f : α → List AV} {z : List AV} {l : List α} : filled f z l l.length = l.map f := by simp [filled]
theorem filled_get {α : Type} {f : α → List AV} {z : List AV} {l : List α} {i : Nat} (hi : i < l.length) : (filled f z l i)[i]? = some z := by
  unfold filled
  rw [List.getElem?_append_right (by simp; omega)]
  simp [List.getElem?_replicate]
  omega
theorem filled_set {α : Type} {f : α → List AV} {z : List AV} {l : List α} {i : Nat} {x : α} (hx : l[i]? = some x) : (filled f z l i).set i (f x) = filled f z l (i + 1) := by
  have hi := lt_of_get hx
  unfold filled
  rw [take_succ' hx, List.set_append_right _ _ (by simp; omega)]
  have e : l.length - i = (l.length - (i + 1)) + 1 := by omega
  have e2 : i - ((l.take i).map f).length = 0 := by simp; omega
  rw [e2, e, List.replicate_succ, List.set_cons_zero]
  simp
theorem argT {s : Nat} {x x' : List (List AV)} (h1 : x = x') : [AV.agg [AV.rd s x]] = [AV.agg [AV.rd s x']] := by rw [h1]
theorem argTT {s s2 : Nat} {x x' y y' : List (List AV)} (h1 : x = x') (h2 : y = y') : [AV.agg [AV.rd s x], AV.agg [AV.rd s2 y]] = [AV.agg [AV.rd s x'], AV.agg [AV.rd s2 y']] := by rw [h1, h2]
def itEq (a b : It) : Bool := a.path == b.path && a.kind == b.kind && a.data == b.data && a.time == b.time
theorem itEq_self (a : It) : itEq a a = true := by simp [itEq]
end Go.GH

set_option linter.unusedVariables false
set_option linter.unusedSimpArgs false
namespace Go.GH
open Go
def withinP (p q : Str) : Bool := pathOk p && pathOk q && (names q).isPrefixOf (names p)
theorem splitBy_head {p : Str} (h : (splitBy 47 p).headD [] = []) (h2 : 2 ≤ (splitBy 47 p).length) : ∃ r, p = 47 :: r ∧ splitBy 47 r = (splitBy 47 p).drop 1 := by
  cases p with
  | nil => simp [splitBy] at h2
  | cons x r =>
    by_cases hx : x = 47
    · subst hx; exact ⟨r, rfl, by simp [splitBy]⟩
    · simp only [splitBy, if_neg hx] at h
      split at h
      · simp at h
      · simp at h
theorem cat_split : ∀ (s : Str), cat (splitBy 47 s) = 47 :: s
  | [] => rfl
  | x :: r => by
    unfold splitBy
    have ih := cat_split r
    split
    · rename_i hx; rw [cat, ih, hx]; rfl
    · have := splitBy_ne 47 r
      cases h : splitBy 47 r with
      | nil => exact absurd h this
      | cons y t =>
        rw [h] at ih
        simp only [cat, List.cons_append] at ih ⊢
        rw [List.cons.injEq] at ih
        rw [← ih.2]
theorem cat_names {p : Str} (h : pathOk p = true) (h2 : (p == sl) = false) : p = cat (names p) ∧ names p ≠ [] := by
  have hn : names p = (splitBy 47 p).drop 1 := by simp [names, h, h2]
  simp only [pathOk, h2, Bool.false_or, Bool.and_eq_true, inB, decide_eq_true_eq, beq_iff_eq] at h
  obtain ⟨⟨⟨h3, h4⟩, h5⟩, h6⟩ := h
  obtain ⟨r, hr, hs⟩ := splitBy_head h5 (by omega)
  rw [hn, ← hs]
  exact ⟨by rw [cat_split, hr], splitBy_ne _ _⟩
theorem names_no {p : Str} : ∀ a, a ∈ names p → ∀ x, x ∈ a → x ≠ 47 := fun a ha => nameOk_no (List.all_eq_true.1 names_all a ha)
theorem names_sl : names sl = [] := by simp [names]
theorem withinP_impl {p q : Str} (hp : pathOk p = true) (hq : pathOk q = true) : ((p == q) || (q == sl) || (q ++ sl).isPrefixOf p) = withinP p q := by
  have e0 : withinP p q = (names q).isPrefixOf (names p) := by simp [withinP, hp, hq]
  rw [e0]
  by_cases h1 : (p == q) = true
  · have : p = q := by simpa using h1
    subst this
    rw [h1]
    simp
  have h1 : (p == q) = false := by simpa using h1
  by_cases h2 : (q == sl) = true
  · rw [h2]
    have : q = sl := by simpa using h2
    subst this
    rw [names_sl]
    simp
  have h2 : (q == sl) = false := by simpa using h2
  obtain ⟨cq, nq⟩ := cat_names hq h2
  rw [h1, h2, Bool.false_or, Bool.false_or]
  by_cases h3 : (p == sl) = true
  · have : p = sl := by simpa using h3
    subst this
    rw [names_sl]
    have hl : 1 ≤ q.length := by
      rw [cq, cat_len]
      have := List.length_pos_iff.2 nq
      omega
    have e1 : (q ++ sl).isPrefixOf sl = false := by
      rw [Bool.eq_false_iff]
      intro h
      have := (List.isPrefixOf_iff_prefix.1 h).length_le
      simp [sl] at this
      subst this
      simp at hl
    rw [e1]
    cases hn : names q with
    | nil => exact absurd hn nq
    | cons x r => rfl
  have h3 : (p == sl) = false := by simpa using h3
  obtain ⟨cp, np⟩ := cat_names hp h3
  have sp := split_cat (names_no (p := p)) np
  have sq := split_cat (names_no (p := q)) nq
  rw [← cp] at sp
  rw [← cq] at sq
  rw [Bool.eq_iff_iff, List.isPrefixOf_iff_prefix, List.isPrefixOf_iff_prefix]
  constructor
  · rintro ⟨t, ht⟩
    have ht : q ++ 47 :: t = p := by rw [← ht]; simp [sl]
    have sp2 : splitBy 47 (q ++ 47 :: t) = [] :: names p := by rw [ht]; exact sp
    rw [split_cons, sq, List.cons_append, List.cons.injEq] at sp2
    exact ⟨_, sp2.2⟩
  · rintro ⟨r, hr⟩
    cases r with
    | nil =>
      rw [List.append_nil] at hr
      rw [← hr, ← cq] at cp
      subst cp
      simp at h1
    | cons a r =>
      rw [← hr, cat_append, ← cq] at cp
      refine ⟨a ++ cat r, ?_⟩
      rw [cp]
      simp [cat, sl]
theorem isPrefix_take {a b : List Str} : (decide ((b.length : Int) ≤ a.length) && (a.take b.length == b)) = b.isPrefixOf a := by
  rw [Bool.eq_iff_iff, List.isPrefixOf_iff_prefix, List.prefix_iff_eq_take]
  simp only [Bool.and_eq_true, decide_eq_true_eq, beq_iff_eq]
  constructor
  · rintro ⟨_, h⟩; exact h.symm
  · intro h
    refine ⟨?_, h.symm⟩
    have := congrArg List.length h
    simp at this
    omega
theorem argRR {s s2 : Nat} {x x' y y' : List (List AV)} (h1 : x = x') (h2 : y = y') : [AV.rd s x, AV.rd s2 y] = [AV.rd s x', AV.rd s2 y'] := by rw [h1, h2]
theorem args_two {args : Array Value} {p q : Str} (hsz : args.size = 2) (h0 : args.getD 0 undef = bytesV p) (h1 : args.getD 1 undef = bytesV q) : args = #[.string (toB p), .string (toB q)] := by
  apply Array.ext
  · simp [hsz]
  · intro i hi1 hi2
    have : i = 0 ∨ i = 1 := by omega
    rcases this with rfl | rfl
    · rw [Array.getD_eq_getD_getElem?, Array.getElem?_eq_getElem hi1] at h0; simpa [bytesV, toB] using h0
    · rw [Array.getD_eq_getD_getElem?, Array.getElem?_eq_getElem hi1] at h1; simpa [bytesV, toB] using h1
theorem names_sm {p : Str} : smL (names p) := by
  refine ⟨by have := names_len (p := p); omega, fun s hs => ?_⟩
  have := nameOk_len (List.all_eq_true.1 (names_all (p := p)) s hs)
  omega
theorem smL_take {l : List Str} {k : Nat} (h : smL l) : smL (l.take k) := by
  refine ⟨by have := h.1; simp; omega, fun s hs => h.2 s (List.mem_of_mem_take hs)⟩
theorem argTs {s : Nat} {x x' : List (List AV)} {p : Str} (h1 : x = x') : [AV.agg [AV.rd s x], .str p] = [AV.agg [AV.rd s x'], .str p] := by rw [h1]
def useP (t : Tr) (p : Str) : Bool × Nat × Nat :=
  if treeOk t && (treeGet t p).isSome then (true, (t.filter fun x => x.kind != 2 && withinP x.path p).length, ((t.filter fun x => x.kind != 2 && withinP x.path p).map fun x => x.data.length).sum) else (false, 0, 0)
def useRes (t : Tr) (p : Str) : AV := .tup [.int .i64 (useP t p).2.1, .int .i64 (useP t p).2.2, .bool (useP t p).1]
def lyP (p : Str) (x : It) : Bool := x.kind != 2 && withinP x.path p
def cnt (p : Str) (l : Tr) : Nat := (l.filter (lyP p)).length
def byt (p : Str) (l : Tr) : Nat := ((l.filter (lyP p)).map fun x => x.data.length).sum
theorem cnt_hit {p : Str} {l : Tr} {i : Nat} {x : It} (h : l[i]? = some x) (hx : lyP p x = true) : cnt p (l.take (i + 1)) = cnt p (l.take i) + 1 := by
  unfold cnt; rw [take_succ' h, List.filter_append]; simp [hx]
theorem cnt_pass {p : Str} {l : Tr} {i : Nat} {x : It} (h : l[i]? = some x) (hx : lyP p x = false) : cnt p (l.take (i + 1)) = cnt p (l.take i) := by
  unfold cnt; rw [take_succ' h, List.filter_append]; simp [hx]
theorem byt_hit {p : Str} {l : Tr} {i : Nat} {x : It} (h : l[i]? = some x) (hx : lyP p x = true) : byt p (l.take (i + 1)) = byt p (l.take i) + x.data.length := by
  unfold byt; rw [take_succ' h, List.filter_append]; simp [hx]
theorem byt_pass {p : Str} {l : Tr} {i : Nat} {x : It} (h : l[i]? = some x) (hx : lyP p x = false) : byt p (l.take (i + 1)) = byt p (l.take i) := by
  unfold byt; rw [take_succ' h, List.filter_append]; simp [hx]
theorem cnt_le {p : Str} {l : Tr} {i : Nat} : cnt p (l.take i) ≤ i := by
  unfold cnt
  have := List.length_filter_le (lyP p) (l.take i)
  simp at this
  omega
theorem byt_le {p : Str} {l : Tr} (h : ∀ x, x ∈ l → x.data.length ≤ 4194304) {i : Nat} : byt p (l.take i) ≤ i * 4194304 := by
  unfold byt
  generalize 4194304 = B at *
  have h1 : ∀ (m : Tr), (∀ x, x ∈ m → x.data.length ≤ B) → (m.map fun x => x.data.length).sum ≤ m.length * B := by
    intro m hm
    induction m with
    | nil => exact Nat.zero_le _
    | cons a r ih =>
      have := ih fun x hx => hm x (by simp [hx])
      have := hm a (by simp)
      simp only [List.map_cons, List.sum_cons, List.length_cons, Nat.add_mul]
      omega
  have h2 := h1 ((l.take i).filter (lyP p)) fun x hx => h x (List.mem_of_mem_take (List.mem_filter.1 hx).1)
  have h3 := List.length_filter_le (lyP p) (l.take i)
  simp at h3
  have h4 : ((l.take i).filter (lyP p)).length * B ≤ i * B := Nat.mul_le_mul_right _ (by omega)
  omega
theorem use_no {t : Tr} {p : Str} (h : (treeOk t && (treeGet t p).isSome) = false) : useRes t p = .tup [.int .i64 0, .int .i64 0, .bool false] := by
  simp [useRes, useP, h]
theorem use_yes {t : Tr} {p : Str} (h : (treeOk t && (treeGet t p).isSome) = true) : useRes t p = .tup [.int .i64 (cnt p t), .int .i64 (byt p t), .bool true] := by
  simp only [useRes, useP, h, if_true, cnt, byt]
  rfl
end Go.GH

set_option linter.unusedVariables false
set_option linter.unusedSimpArgs false
namespace Go.GH
open Go
structure OpR where
  kind : Int
  path : Str
  to : Str
  at_ : Int
  data : Str
  time : Int
def encO (o : OpR) : List AV := [.int .i64 o.kind, .str o.path, .str o.to, .int .i64 o.at_, .str o.data, .int .i64 o.time]
def OpR.zero : OpR := ⟨0, [], [], 0, [], 0⟩
theorem rdO (l : List OpR) : toRdRows (l.map encO) = l.map encO := toRdRows_map (fun _ => rfl) l
def differ (x : It) (o : Option It) : Bool := match o with
  | none => true
  | some y => y.kind != x.kind || ((x.kind == 3) && !(y.data == x.data))
def goes (x : It) (b : Tr) : Bool := differ x (treeGet b x.path)
def newO (y : It) : OpR := if y.kind == 2 then ⟨0, y.path, [], 0, [], 0⟩ else if y.kind == 3 then ⟨2, y.path, [], 0, y.data, y.time⟩ else ⟨1, y.path, [], 0, y.data, y.time⟩
def goneO (x : It) : OpR := ⟨if x.kind == 2 then 7 else 6, x.path, [], 0, [], 0⟩
def stepO (a b : Tr) (y : It) : List OpR :=
  if !(treeGet a y.path).isSome || goes ((treeGet a y.path).getD It.none) b then [newO y]
  else if !(((treeGet a y.path).getD It.none).data == y.data) then [⟨3, y.path, [], 0, y.data, y.time⟩, ⟨4, y.path, [], y.data.length, [], y.time⟩]
  else if ((treeGet a y.path).getD It.none).time != y.time then [⟨5, y.path, [], 0, [], y.time⟩] else []
def downO (a b : Tr) (l : Tr) : List OpR := ((l.filter fun x => goes x b).map goneO)
def delta (a b : Tr) : List OpR := if treeOk a && treeOk b then downO a b a.reverse ++ b.flatMap (stepO a b) else []
theorem strLt_trans : ∀ {a b c : Str}, strLt a b = true → strLt b c = true → strLt a c = true
  | [], [], _, h, _ => by cases h
  | [], _ :: _, [], _, h => by cases h
  | [], _ :: _, _ :: _, _, _ => rfl
  | _ :: _, [], _, h, _ => by cases h
  | _ :: _, _ :: _, [], _, h => by cases h
  | x :: a, y :: b, z :: c, h1, h2 => by
    simp only [strLt, Bool.or_eq_true, Bool.and_eq_true, decide_eq_true_eq, beq_iff_eq] at h1 h2 ⊢
    rcases h1 with h1 | ⟨rfl, h1⟩
    · rcases h2 with h2 | ⟨rfl, h2⟩
      · exact .inl (UInt8.lt_trans h1 h2)
      · exact .inl h1
    · rcases h2 with h2 | ⟨rfl, h2⟩
      · exact .inl h2
      · exact .inr ⟨rfl, strLt_trans h1 h2⟩
section
variable {t : Tr}
theorem treeOk_chk (h : treeOk t = true) {i : Nat} (hi : i < t.length) : chk t i = true := by
  rw [treeOk, Bool.and_eq_true] at h
  exact (chk_all (t := t)).1 h.2 i hi
theorem treeOk_len (h : treeOk t = true) : t.length ≤ 40 := by
  rw [treeOk, Bool.and_eq_true] at h
  simpa using h.1
theorem treeOk_get (h : treeOk t = true) {i : Nat} {x : It} (hx : t[i]? = some x) : itemOk x = true ∧ (i = 0 ∨ strLt (t.getD (i - 1) It.none).path x.path = true) ∧ dirAt t (above x.path) = true := by
  have := treeOk_chk h (lt_of_get hx)
  rw [chk_eq hx rfl] at this
  simp only [Bool.and_eq_true, Bool.or_eq_true, beq_iff_eq] at this
  exact ⟨this.1.1, this.1.2, this.2⟩
theorem treeOk_item (h : treeOk t = true) {x : It} (hx : x ∈ t) : itemOk x = true := by
  obtain ⟨i, hi⟩ := List.mem_iff_getElem?.1 hx
  exact (treeOk_get h hi).1
theorem treeOk_lt (h : treeOk t = true) : ∀ {j i : Nat} {x y : It}, t[i]? = some x → t[j]? = some y → i < j → strLt x.path y.path = true
  | 0, i, x, y, hx, hy, hij => by omega
  | j + 1, i, x, y, hx, hy, hij => by
    have hj := lt_of_get hy
    obtain ⟨z, hz⟩ := get_lt (l := t) (i := j) (by omega)
    have h1 : strLt z.path y.path = true := by
      have := (treeOk_get h hy).2.1
      rcases this with h0 | h0
      · omega
      · rw [Nat.add_sub_cancel, List.getD_eq_getElem?_getD, hz] at h0; exact h0
    rcases Nat.lt_or_ge i j with hi | hi
    · exact strLt_trans (treeOk_lt h hx hz hi) h1
    · have : i = j := by omega
      subst this
      rw [hx] at hz
      rw [Option.some.inj hz]
      exact h1
theorem treeOk_inj (h : treeOk t = true) {x y : It} (hx : x ∈ t) (hy : y ∈ t) (e : x.path = y.path) : x = y := by
  obtain ⟨i, hi⟩ := List.mem_iff_getElem?.1 hx
  obtain ⟨j, hj⟩ := List.mem_iff_getElem?.1 hy
  rcases Nat.lt_trichotomy i j with hij | rfl | hij
  · have := treeOk_lt h hi hj hij
    rw [e, strLt_irrefl] at this; cases this
  · rw [hi] at hj; exact Option.some.inj hj
  · have := treeOk_lt h hj hi hij
    rw [e, strLt_irrefl] at this; cases this
theorem item_path {x : It} (h : itemOk x = true) : (x.path == sl) = false := by
  unfold itemOk at h
  simp only [Bool.and_eq_true, Bool.not_eq_true'] at h
  exact h.1.1.2
theorem treeGet_find {p : Str} (h : (p == sl) = false) : treeGet t p = t.find? fun x => x.path == p := by
  rw [treeGet, if_neg (by simp [h])]
theorem treeGet_mem (h : treeOk t = true) {x : It} (hx : x ∈ t) : treeGet t x.path = some x := by
  rw [treeGet_find (item_path (treeOk_item h hx))]
  cases hf : t.find? fun z => z.path == x.path with
  | none =>
    have := List.find?_eq_none.1 hf x hx
    simp at this
  | some y =>
    have h1 := List.find?_some hf
    have h2 := List.mem_of_find?_eq_some hf
    rw [treeOk_inj h h2 hx (by simpa using h1)]
end
theorem argIT {s : Nat} {c : List AV} {x x' : List (List AV)} (h1 : x = x') : [AV.agg c, AV.agg [AV.rd s x]] = [AV.agg c, AV.agg [AV.rd s x']] := by rw [h1]
theorem argT2 {s s2 : Nat} {x x' y y' : List (List AV)} (h1 : x = x') (h2 : y = y') : [AV.agg [AV.rd s x], AV.agg [AV.rd s2 y]] = [AV.agg [AV.rd s x'], AV.agg [AV.rd s2 y']] := by rw [h1, h2]
theorem same_data {a b : Tr} (ha : treeOk a = true) (hb : treeOk b = true) {x y : It} (hx : x ∈ a) (hy : y ∈ b) (e : x.path = y.path) (h : goes x b = false) : (!(x.data == y.data)) = ((y.kind == 1) && !(x.data == y.data)) := by
  have hg : treeGet b x.path = some y := by rw [e]; exact treeGet_mem hb hy
  have ix := treeOk_item ha hx
  have iy := treeOk_item hb hy
  simp only [goes, hg, differ, Bool.or_eq_false_iff, Bool.and_eq_false_iff, bne_eq_false_iff_eq, Bool.not_eq_false', beq_eq_false_iff_ne, beq_iff_eq] at h
  obtain ⟨hk, hd⟩ := h
  by_cases h1 : y.kind = 1
  · simp [h1]
  have e1 : (y.kind == 1) = false := by simpa using h1
  rw [e1, Bool.false_and]
  unfold itemOk at ix iy
  simp only [Bool.and_eq_true, inB, decide_eq_true_eq] at ix iy
  by_cases h2 : y.kind = 2
  · have hx2 : x.kind = 2 := by omega
    simp [h2, hx2] at ix iy
    rw [ix.2.1, iy.2.1]; rfl
  · have h3 : y.kind = 3 := by omega
    rcases hd with hd | hd
    · omega
    · rw [hd]; simp
theorem goes_find {a b : Tr} (ha : treeOk a = true) {x : It} (hx : x ∈ a) : differ x (b.find? fun z => z.path == x.path) = goes x b := by
  rw [goes, treeGet_find (item_path (treeOk_item ha hx))]
theorem find_at {a b : Tr} (ob : treeOk b = true) {y : It} (hy : y ∈ b) :
    (treeGet a y.path = none ∧ fnd (fun z => z.path == y.path) a = -1) ∨ ∃ x, treeGet a y.path = some x ∧ x ∈ a ∧ x.path = y.path ∧ 0 ≤ fnd (fun z => z.path == y.path) a ∧ a[(fnd (fun z => z.path == y.path) a).toNat]? = some x := by
  rw [treeGet_find (item_path (treeOk_item ob hy))]
  cases hq : a.any fun z => z.path == y.path with
  | false => exact .inl ⟨any_find hq, fnd_none hq⟩
  | true =>
    obtain ⟨x, h1, h2⟩ := fnd_get hq
    refine .inr ⟨x, h2, List.mem_of_find?_eq_some h2, ?_, ?_, h1⟩
    · have := List.find?_some h2; simpa using this
    · rw [fnd, if_pos hq]; omega
theorem stepO_sm (a b : Tr) (y : It) : (stepO a b y).length ≤ 2 := by
  unfold stepO
  split
  · simp
  · split
    · simp
    · split <;> simp
theorem take_flat {α β : Type} {f : α → List β} {l : List α} {i : Nat} {x : α} (h : l[i]? = some x) : (l.take (i + 1)).flatMap f = (l.take i).flatMap f ++ f x := by
  rw [take_succ' h, List.flatMap_append]; simp
theorem flat_len {α β : Type} {f : α → List β} (hf : ∀ x, (f x).length ≤ 2) : ∀ (l : List α), (l.flatMap f).length ≤ 2 * l.length
  | [] => by simp
  | a :: r => by
    have := flat_len hf r
    have := hf a
    simp only [List.flatMap_cons, List.length_append, List.length_cons]
    omega
def back (t : Tr) (i : Nat) : Tr := (t.drop i).reverse
theorem back_at {t : Tr} {i : Nat} {x : It} (h : t[i]? = some x) : back t i = back t (i + 1) ++ [x] := by
  unfold back
  have hi := lt_of_get h
  rw [← List.getElem_cons_drop hi, List.reverse_cons]
  rw [List.getElem?_eq_getElem hi] at h
  rw [Option.some.inj h]
theorem downO_hit {a b l : Tr} {x : It} (h : goes x b = true) : downO a b (l ++ [x]) = downO a b l ++ [goneO x] := by simp [downO, h]
theorem downO_pass {a b l : Tr} {x : It} (h : goes x b = false) : downO a b (l ++ [x]) = downO a b l := by simp [downO, h]
theorem downO_len {a b l : Tr} : (downO a b l).length ≤ l.length := by
  unfold downO; rw [List.length_map]; exact List.length_filter_le _ _
theorem delta_len (a b : Tr) : (delta a b).length ≤ 120 := by
  unfold delta
  split
  · rename_i h
    rw [Bool.and_eq_true] at h
    have h1 := treeOk_len h.1
    have h2 := treeOk_len h.2
    have h3 := downO_len (a := a) (b := b) (l := a.reverse)
    have h4 := flat_len (stepO_sm a b) b
    rw [List.length_append]
    rw [List.length_reverse] at h3
    omega
  · simp
end Go.GH

set_option linter.unusedVariables false
set_option linter.unusedSimpArgs false
namespace Go.GH
open Go
def digs : Nat → Nat → Str → Str
  | 0, _, out => out
  | f + 1, k, out => if k = 0 then out else digs f (k / 10) (UInt8.ofNat (48 + k % 10) :: out)
def markT (k : Int) : Str := if k ≤ 0 then [109, 48] else 109 :: digs 64 k.toNat []
noncomputable def hide {α : Type} (x : α) : α := Classical.choose (⟨x, rfl⟩ : ∃ y, y = x)
theorem hide_eq {α : Type} (x : α) : hide x = x := Classical.choose_spec (⟨x, rfl⟩ : ∃ y, y = x)
noncomputable def mkT : Int → Str := hide markT
theorem mkT_eq (k : Int) : mkT k = markT k := by rw [mkT, hide_eq]
theorem digs_more : ∀ (f f' k : Nat) (out : Str), k < 2 ^ f → k < 2 ^ f' → digs f k out = digs f' k out
  | 0, 0, k, out, _, _ => rfl
  | 0, f' + 1, k, out, h, _ => by
    have : k = 0 := by simpa using h
    subst this; simp [digs]
  | f + 1, 0, k, out, _, h => by
    have : k = 0 := by simpa using h
    subst this; simp [digs]
  | f + 1, f' + 1, k, out, h, h' => by
    simp only [digs]
    split
    · rfl
    · exact digs_more f f' _ _ (by rw [Nat.pow_succ] at h; omega) (by rw [Nat.pow_succ] at h'; omega)
theorem digs_step {k : Nat} {out : Str} (h : 0 < k) (hk : k < 2 ^ 63) : digs 64 k out = digs 64 (k / 10) (UInt8.ofNat (48 + k % 10) :: out) := by
  conv => lhs; rw [digs]
  rw [if_neg (by omega)]
  exact digs_more 63 64 _ _ (by omega) (by omega)
theorem digs_zero {out : Str} : digs 64 0 out = out := by simp [digs]
theorem digs_len : ∀ (f k : Nat) (out : Str), (digs f k out).length ≤ f + out.length
  | 0, _, out => by simp [digs]
  | f + 1, k, out => by
    rw [digs]
    split
    · omega
    · have := digs_len f (k / 10) (UInt8.ofNat (48 + k % 10) :: out)
      rw [List.length_cons] at this; omega
theorem markT_len (k : Int) : (markT k).length ≤ 65 := by
  unfold markT
  split
  · simp
  · have := digs_len 64 k.toNat []
    simp at this ⊢; omega
noncomputable def mkI (k : Int) (i : Nat) : It := hide ⟨mkT (k + 4 * i), k + 4 * i + 1, mkT (k + 4 * i + 2), k + 4 * i + 3⟩
noncomputable def mkO (k : Int) (i : Nat) : OpR := hide ⟨k + 6 * i, mkT (k + 6 * i + 1), mkT (k + 6 * i + 2), k + 6 * i + 3, mkT (k + 6 * i + 4), k + 6 * i + 5⟩
def marked {α : Type} (f : α → List AV) (mk : Nat → α) (l : List α) (i : Nat) : List (List AV) := ((List.range i).map fun j => f (mk j)) ++ (l.drop i).map f
theorem marked_zero {α : Type} {f : α → List AV} {mk : Nat → α} {l : List α} : marked f mk l 0 = l.map f := by simp [marked]
theorem marked_all {α : Type} {f : α → List AV} {mk : Nat → α} {l : List α} : marked f mk l l.length = (List.range l.length).map fun j => f (mk j) := by simp [marked]
theorem marked_len {α : Type} {f : α → List AV} {mk : Nat → α} {l : List α} {i : Nat} (hi : i ≤ l.length) : (marked f mk l i).length = l.length := by
  simp [marked]; omega
theorem marked_get {α : Type} {f : α → List AV} {mk : Nat → α} {l : List α} {i : Nat} {x : α} (hx : l[i]? = some x) : (marked f mk l i)[i]? = some (f x) := by
  unfold marked
  rw [List.getElem?_append_right (by simp)]
  simp [hx]
theorem marked_set {α : Type} {f : α → List AV} {mk : Nat → α} {l : List α} {i : Nat} {x : α} (hx : l[i]? = some x) : (marked f mk l i).set i (f (mk i)) = marked f mk l (i + 1) := by
  have hi := lt_of_get hx
  unfold marked
  rw [List.set_append_right _ _ (by simp), ← List.getElem_cons_drop hi, List.map_cons, show i - ((List.range i).map fun j => f (mk j)).length = 0 by simp, List.set_cons_zero, List.range_succ, List.map_append]
  simp
theorem argOK {s : Nat} {x x' : List (List AV)} {k : Int} (h : x = x') : [AV.own s x, .int .i64 k] = [AV.own s x', .int .i64 k] := by rw [h]
theorem argCK {s : Nat} {x x' : List (List AV)} {k : Int} (h : x = x') : [AV.agg [AV.own s x], .int .i64 k] = [AV.agg [AV.own s x'], .int .i64 k] := by rw [h]
theorem argRK {s : Nat} {x x' : List (List AV)} {k : Int} (h : x = x') : [AV.rd s x, .int .i64 k] = [AV.rd s x', .int .i64 k] := by rw [h]
theorem toRdRows_mk {α : Type} {f : α → List AV} (h : ∀ a, toRdCells (f a) = f a) (l : List Nat) (g : Nat → α) : toRdRows (l.map fun i => f (g i)) = l.map fun i => f (g i) := toRdRows_map (f := fun i => f (g i)) (fun i => h (g i)) l
theorem argCR {s : Nat} {x x' : List (List AV)} {k : Int} (h : x = x') : [AV.agg [AV.rd s x], .int .i64 k] = [AV.agg [AV.rd s x'], .int .i64 k] := by rw [h]
theorem set_get {α : Type} {l : List α} {i : Nat} {x : α} (h : i < l.length) : (l.set i x)[i]? = some x := by simp [h]
theorem set_set {α : Type} {l : List α} {i : Nat} {x y : α} : (l.set i x).set i y = l.set i y := by simp
end Go.GH

set_option linter.unusedVariables false
set_option linter.unusedSimpArgs false
namespace Go.GH
open Go
def dig (n : Nat) : Str := if n = 0 then [48] else digs 64 n []
theorem digs_dec : ∀ (f k : Nat) (out : Str), k < 2 ^ f → digs f k out = (if k = 0 then [] else Lib.decDigits k) ++ out
  | 0, k, out, h => by
    have : k = 0 := by simpa using h
    subst this; simp [digs]
  | f + 1, k, out, h => by
    rw [digs]
    by_cases h0 : k = 0
    · simp [h0]
    rw [if_neg h0, if_neg h0, digs_dec f (k / 10) _ (by rw [Nat.pow_succ] at h; omega), Lib.decDigits.eq_1 k]
    by_cases h1 : k < 10
    · rw [dif_pos h1, if_pos (by omega), Nat.mod_eq_of_lt h1]; rfl
    · rw [dif_neg h1, if_neg (by omega)]; simp
theorem itoa_dig {n : Nat} (h : n < 2 ^ 64) : Lib.itoa n = dig n := by
  unfold Lib.itoa dig
  rw [if_neg (by omega), Int.toNat_natCast]
  by_cases h0 : n = 0
  · subst h0; rw [if_pos rfl, Lib.decDigits]; rfl
  · rw [if_neg h0, digs_dec 64 n [] h, if_neg h0]; simp
theorem dig_len (n : Nat) : (dig n).length ≤ 64 := by
  unfold dig
  split
  · simp
  · have := digs_len 64 n []; simpa using this
def hexD : Str := [48, 49, 50, 51, 52, 53, 54, 55, 56, 57, 97, 98, 99, 100, 101, 102]
def hx (n : Nat) : UInt8 := hexD.getD n 0
theorem hx_get {n : Nat} (h : n < 16) : hexD[n]? = some (hx n) := by
  unfold hx
  rw [List.getD_eq_getElem?_getD]
  have : n < hexD.length := h
  rw [List.getElem?_eq_getElem this]; rfl
def hexT (s : Str) : Str := s.flatMap fun b => [hx (b.toNat / 16), hx (b.toNat % 16)]
theorem hexT_len : ∀ (s : Str), (hexT s).length = 2 * s.length
  | [] => rfl
  | b :: s => by
    have := hexT_len s
    unfold hexT at *
    rw [List.flatMap_cons, List.length_append, this]
    simp; omega
theorem hexT_succ {s : Str} {i : Nat} {b : UInt8} (h : s[i]? = some b) : hexT (s.take (i + 1)) = hexT (s.take i) ++ [hx (b.toNat / 16), hx (b.toNat % 16)] := take_flat h
theorem hexT_take_len (s : Str) (i : Nat) : (hexT (s.take i)).length ≤ 2 * s.length := by
  rw [hexT_len, List.length_take]; omega
theorem shr4 (n : Nat) : Int.fdiv (n : Int) 16 = ((n / 16 : Nat) : Int) := by
  rw [Int.fdiv_eq_ediv_of_nonneg _ (by decide)]; rfl
theorem and15' (b : UInt8) : (((BitVec.ofInt 8 (b.toNat : Int)) &&& (BitVec.ofInt 8 15)).toNat : Int) = ((b.toNat % 16 : Nat) : Int) := by
  have h : (BitVec.ofInt 8 (b.toNat : Int)).toNat = b.toNat := by
    rw [BitVec.toNat_ofInt]
    have := b.toNat_lt
    omega
  rw [BitVec.toNat_and, h]
  have e : (BitVec.ofInt 8 15).toNat = 2 ^ 4 - 1 := rfl
  rw [e, Nat.and_two_pow_sub_one_eq_mod]
theorem and15 (b : UInt8) : IntKind.u8.wrap ((((BitVec.ofInt 8 (b.toNat : Int)) &&& (BitVec.ofInt 8 15)).toNat : Nat) : Int) = ((b.toNat % 16 : Nat) : Int) := by
  rw [and15']
  show Int.ofNat ((b.toNat % 16) % 256) = _
  rw [Nat.mod_eq_of_lt (by omega)]; rfl
theorem quo16 (b : UInt8) : IntKind.u8.wrap ((b.toNat : Int).tdiv 16) = ((b.toNat / 16 : Nat) : Int) := by
  show Int.ofNat ((b.toNat / 16) % 256) = _
  have := b.toNat_lt
  rw [Nat.mod_eq_of_lt (by omega)]; rfl
theorem rem16 (b : UInt8) : (b.toNat : Int).tmod 16 = ((b.toNat % 16 : Nat) : Int) := rfl
def numsOk (o : OpR) : Bool := inB o.kind 0 8 && inB o.at_ 0 1000 && inB o.time 0 100000
def pathE (s : Str) : Bool := s == [] || pathOk s
def opOk (o : OpR) : Bool := numsOk o && pathE o.path && pathE o.to && decide (o.data.length ≤ 80)
def opHead (o : OpR) : Str := dig o.kind.toNat ++ [32] ++ o.path ++ [32] ++ o.to ++ [32] ++ dig o.at_.toNat ++ [32] ++ dig o.time.toNat ++ [32]
def opText (o : OpR) : Str := if opOk o then opHead o ++ hexT o.data else []
theorem inB_iff {x a b : Int} : inB x a b = true ↔ a ≤ x ∧ x ≤ b := by simp [inB]
theorem numsOk_iff {o : OpR} (h : numsOk o = true) : (0 ≤ o.kind ∧ o.kind ≤ 8) ∧ (0 ≤ o.at_ ∧ o.at_ ≤ 1000) ∧ (0 ≤ o.time ∧ o.time ≤ 100000) := by
  simp only [numsOk, Bool.and_eq_true, inB_iff] at h
  exact ⟨h.1.1, h.1.2, h.2⟩
theorem opOk_no {o : OpR} (h : (!numsOk o || !pathE o.path || !pathE o.to || decide ((o.data.length : Int) > 80)) = true) : ¬ opOk o = true := by
  unfold opOk
  revert h
  by_cases hd : o.data.length ≤ 80
  · have : ¬ (o.data.length : Int) > 80 := by omega
    cases numsOk o <;> cases pathE o.path <;> cases pathE o.to <;> simp [hd, this]
  · simp [hd]
theorem opOk_yes {o : OpR} (h : (!numsOk o || !pathE o.path || !pathE o.to || decide ((o.data.length : Int) > 80)) = false) : numsOk o = true ∧ opOk o = true ∧ o.data.length ≤ 80 := by
  unfold opOk
  revert h
  by_cases hd : o.data.length ≤ 80
  · cases numsOk o <;> cases pathE o.path <;> cases pathE o.to <;> simp [hd]
  · have : (o.data.length : Int) > 80 := by omega
    simp [this]
theorem pathE_not (s : Str) : (!(s == []) && !pathOk s) = !pathE s := by
  unfold pathE
  cases (s == []) <;> cases pathOk s <;> rfl
theorem opText_join (o : OpR) : opHead o ++ hexT o.data = Lib.join [dig o.kind.toNat, o.path, o.to, dig o.at_.toNat, dig o.time.toNat, hexT o.data] [32] := by
  simp [opHead, Lib.join]
theorem opText_len (o : OpR) : (opText o).length ≤ o.path.length + o.to.length + 400 := by
  unfold opText
  split
  · rename_i h
    have hd : o.data.length ≤ 80 := by simp [opOk] at h; exact h.2
    have l1 := dig_len o.kind.toNat
    have l2 := dig_len o.at_.toNat
    have l3 := dig_len o.time.toNat
    simp [opHead, hexT_len]
    omega
  · simp
theorem argPP {s s2 : Nat} {x x' y y' : List (List AV)} (h1 : x = x') (h2 : y = y') : [AV.rd s x, AV.rd s2 y] = [AV.rd s x', AV.rd s2 y'] := by rw [h1, h2]
theorem argP1 {s : Nat} {x x' : List (List AV)} (h1 : x = x') : [AV.rd s x] = [AV.rd s x'] := by rw [h1]
def smO (o : OpR) : Prop := o.path.length ≤ 1048576 ∧ o.to.length ≤ 1048576 ∧ o.data.length ≤ 1048576
def smOL (l : List OpR) : Prop := l.length ≤ 1048576 ∧ ∀ o, o ∈ l → smO o
def bigO (o : OpR) : Prop := o.path.length ≤ 9223372036854775807 ∧ o.to.length ≤ 9223372036854775807 ∧ o.data.length ≤ 9223372036854775807
def szO (o : OpR) : Nat := o.path.length + o.to.length + o.data.length
def szOL (l : List OpR) : Nat := l.length + (l.map szO).sum
theorem szO_sm {left : Int} {o : OpR} (h : ¬ szR left (szO o) < 0) (hl : left ≤ 1048576) : smO o := by
  unfold szR at h
  split at h
  · omega
  · unfold szO at *
    refine ⟨?_, ?_, ?_⟩ <;> omega
theorem szOL_sm {l : List OpR} {n : Nat} (h : szOL l ≤ n) (hn : n ≤ 1048576) : smOL l := by
  unfold szOL at h
  refine ⟨by omega, fun x hx => ?_⟩
  have h2 : szO x ≤ (l.map szO).sum := by
    obtain ⟨i, hi⟩ := List.getElem?_of_mem hx
    have h3 := sum_take' (f := szO) hi
    have h4 := sum_take_le (f := szO) (l := l) (i := i + 1)
    omega
  have h5 : szO x = x.path.length + x.to.length + x.data.length := rfl
  refine ⟨?_, ?_, ?_⟩ <;> omega
def opLine (o : OpR) : Str := opText o ++ [10]
def opsText (l : List OpR) : Str := if l.all fun o => !(opText o == []) then l.flatMap opLine else []
theorem flat_le {α β : Type} {f : α → List β} {k : Nat} : ∀ {l : List α}, (∀ x, x ∈ l → (f x).length ≤ k) → (l.flatMap f).length ≤ l.length * k
  | [], _ => by simp
  | x :: l, h => by
    have h1 := flat_le (l := l) fun y hy => h y (by simp [hy])
    have h2 := h x (by simp)
    rw [List.flatMap_cons, List.length_append, List.length_cons, Nat.succ_mul]
    omega
theorem opLine_len {o : OpR} (h : smO o) : (opLine o).length ≤ 2097553 := by
  have := opText_len o
  obtain ⟨h1, h2, _⟩ := h
  simp [opLine]; omega
theorem lines_len {l : List OpR} (h : smOL l) (i : Nat) : ((l.take i).flatMap opLine).length ≤ 1048576 * 2097553 := by
  have h1 := flat_le (f := opLine) (k := 2097553) (l := l.take i) fun x hx => opLine_len (h.2 x (List.mem_of_mem_take hx))
  have h2 : (l.take i).length ≤ 1048576 := by rw [List.length_take]; have := h.1; omega
  exact Nat.le_trans h1 (Nat.mul_le_mul_right _ h2)
theorem all_take_succ {α : Type} {p : α → Bool} {l : List α} {i : Nat} {x : α} (h : (l.take i).all p = true) (hx : l[i]? = some x) (px : p x = true) : (l.take (i + 1)).all p = true := by
  rw [take_succ' hx, List.all_append, h]; simp [px]
theorem all_no {α : Type} {p : α → Bool} {l : List α} {i : Nat} {x : α} (hx : l[i]? = some x) (px : p x = false) : l.all p = false := by
  rw [List.all_eq_false]; exact ⟨x, List.mem_of_getElem? hx, by simp [px]⟩
end Go.GH

set_option linter.unusedVariables false
set_option linter.unusedSimpArgs false
namespace Go.GH
open Go Go.Proofs
noncomputable def c_spec_l26Signs : PCon := con [] true Unit (fun _ => []) (fun _ => True) (fun _ => .str hexD)
noncomputable def E_spec_l26Signs : Env := ⟨lookup tyTab, lookup [], [0]⟩
set_option maxRecDepth 100000 in
set_option maxHeartbeats 4000000 in
theorem m_spec_l26Signs : Meets E_spec_l26Signs (codeOf Tryd.f31) Tryd.f31.results.toList c_spec_l26Signs := by
  rintro x _
  refine ⟨trivial, ?_⟩
  conv => whnf
  exact ⟨trivial, rfl⟩
theorem ok_spec_l26Signs : ConOk Tryd.prog 31 c_spec_l26Signs := meets_ok (tabT _ _) FOk.nil mixed Tryd.func31 rfl Tryd.call31 (by decide) (by kernel_rfl) m_spec_l26Signs (by intro _ (y : Unit) _; exact ⟨by simp [c_spec_l26Signs, con, conG, conW, AV.noRd, noRdCells, noRdRows, noRdRows_map', encS, encO], by simp [c_spec_l26Signs, con, conG, conW, AV.noRd, noRdCells, noRdRows, noRdRows_map', encS, encO]⟩) (by intro (y : Unit) _; first | (simp [c_spec_l26Signs, con, conG, conW, conP, AV.free, freeCells, freeRows, freeRows_map, encS, encO]; done) | (obtain ⟨_, _⟩ := y; simp [c_spec_l26Signs, con, conG, conW, conP, AV.free, freeCells, freeRows, freeRows_map, encS, encO]; done) | (obtain ⟨_, _, _⟩ := y; simp [c_spec_l26Signs, con, conG, conW, conP, AV.free, freeCells, freeRows, freeRows_map, encS, encO]; done))
noncomputable def c_spec_OpOk : PCon := con [.rd [none, none, none, none, none, none]] true OpR (fun o => [.agg (encO o)]) (fun _ => True) (fun o => .bool (numsOk o))
noncomputable def E_spec_OpOk : Env := ⟨lookup tyTab, lookup [(51, c_spec_l1In)], [0, 1, 2]⟩
set_option maxRecDepth 100000 in
set_option maxHeartbeats 4000000 in
theorem m_spec_OpOk : Meets E_spec_OpOk (codeOf Tryd.f28) Tryd.f28.results.toList c_spec_OpOk := by
  rintro (o : OpR) _
  refine ⟨trivial, ?_⟩
  conv => whnf
  refine ⟨(o.kind, 0, 8), rfl, fun _ => trivial, ?_⟩
  repeat ((conv => whnf); refine ⟨fun h => h, ?_⟩)
  refine ⟨(o.at_, 0, 1000), rfl, fun _ => trivial, ?_⟩
  repeat ((conv => whnf); refine ⟨fun h => h, ?_⟩)
  refine ⟨(o.time, 0, 100000), rfl, fun _ => trivial, ?_⟩
  repeat ((conv => whnf); refine ⟨fun h => h, ?_⟩)
  exact ⟨trivial, eqB (by
    show _ = (inB o.kind 0 8 && inB o.at_ 0 1000 && inB o.time 0 100000)
    cases inB o.kind 0 8 <;> cases inB o.at_ 0 1000 <;> cases inB o.time 0 100000 <;> rfl)⟩
theorem ok_spec_OpOk : ConOk Tryd.prog 28 c_spec_OpOk := meets_ok (tabT _ _) (FOk.cons ok_spec_l1In FOk.nil) mixed Tryd.func28 rfl Tryd.call28 (by decide) (by kernel_rfl) m_spec_OpOk (by intro _ (y : OpR) _; exact ⟨by simp [c_spec_OpOk, con, conG, conW, AV.noRd, noRdCells, noRdRows, noRdRows_map', encS, encO], by simp [c_spec_OpOk, con, conG, conW, AV.noRd, noRdCells, noRdRows, noRdRows_map', encS, encO]⟩) (by intro (y : OpR) _; first | (simp [c_spec_OpOk, con, conG, conW, conP, AV.free, freeCells, freeRows, freeRows_map, encS, encO]; done) | (obtain ⟨_, _⟩ := y; simp [c_spec_OpOk, con, conG, conW, conP, AV.free, freeCells, freeRows, freeRows_map, encS, encO]; done) | (obtain ⟨_, _, _⟩ := y; simp [c_spec_OpOk, con, conG, conW, conP, AV.free, freeCells, freeRows, freeRows_map, encS, encO]; done))
noncomputable def c_impl_OpOk : PCon := con [.rd [none, none, none, none, none, none]] true OpR (fun o => [.agg (encO o)]) (fun _ => True) (fun o => .bool (numsOk o))
noncomputable def E_impl_OpOk : Env := ⟨lookup tyTab, lookup [(53, c_impl_within)], [0, 1, 2]⟩
set_option maxRecDepth 100000 in
set_option maxHeartbeats 4000000 in
theorem m_impl_OpOk : Meets E_impl_OpOk (codeOf Tryd.f32) Tryd.f32.results.toList c_impl_OpOk := by
  rintro (o : OpR) _
  refine ⟨trivial, ?_⟩
  conv => whnf
  refine ⟨(o.kind, 0, 8), rfl, fun _ => trivial, ?_⟩
  repeat ((conv => whnf); refine ⟨fun h => h, ?_⟩)
  refine ⟨(o.at_, 0, 1000), rfl, fun _ => trivial, ?_⟩
  repeat ((conv => whnf); refine ⟨fun h => h, ?_⟩)
  refine ⟨(o.time, 0, 100000), rfl, fun _ => trivial, ?_⟩
  repeat ((conv => whnf); refine ⟨fun h => h, ?_⟩)
  exact ⟨trivial, eqB (by
    show _ = (inB o.kind 0 8 && inB o.at_ 0 1000 && inB o.time 0 100000)
    cases inB o.kind 0 8 <;> cases inB o.at_ 0 1000 <;> cases inB o.time 0 100000 <;> rfl)⟩
theorem ok_impl_OpOk : ConOk Tryd.prog 32 c_impl_OpOk := meets_ok (tabT _ _) (FOk.cons ok_impl_within FOk.nil) mixed Tryd.func32 rfl Tryd.call32 (by decide) (by kernel_rfl) m_impl_OpOk (by intro _ (y : OpR) _; exact ⟨by simp [c_impl_OpOk, con, conG, conW, AV.noRd, noRdCells, noRdRows, noRdRows_map', encS, encO], by simp [c_impl_OpOk, con, conG, conW, AV.noRd, noRdCells, noRdRows, noRdRows_map', encS, encO]⟩) (by intro (y : OpR) _; first | (simp [c_impl_OpOk, con, conG, conW, conP, AV.free, freeCells, freeRows, freeRows_map, encS, encO]; done) | (obtain ⟨_, _⟩ := y; simp [c_impl_OpOk, con, conG, conW, conP, AV.free, freeCells, freeRows, freeRows_map, encS, encO]; done) | (obtain ⟨_, _, _⟩ := y; simp [c_impl_OpOk, con, conG, conW, conP, AV.free, freeCells, freeRows, freeRows_map, encS, encO]; done))
noncomputable def c_spec_Digits : PCon := con [mC] true Int (fun n => [.int .i64 n]) (fun n => 0 ≤ n ∧ n ≤ 1000000000) (fun n => .str (dig n.toNat))
noncomputable def E_spec_Digits : Env := ⟨lookup tyTab, lookup [], [0, 2, 3, 4, 5, 7, 11, 15, 27]⟩
set_option maxRecDepth 100000 in
set_option maxHeartbeats 4000000 in
theorem m_spec_Digits : Meets E_spec_Digits (codeOf Tryd.f30) Tryd.f30.results.toList c_spec_Digits := by
  intro (z : Int) hz
  obtain ⟨hz1, hz2⟩ : 0 ≤ z ∧ z ≤ 1000000000 := hz
  obtain ⟨n, rfl⟩ : ∃ n : Nat, z = n := ⟨z.toNat, by omega⟩
  have hn : n ≤ 1000000000 := by omega
  show _ ∧ _
  refine ⟨trivial, ?_⟩
  (conv => whnf); refine ⟨fun h1 => ?_, fun h1 => ?_⟩
  · have h1 : n = 0 := by simpa using h1
    subst h1
    skip
    exact ⟨trivial, eqS rfl⟩
  have h1 : n ≠ 0 := by simpa using h1
  have hd : dig n = digs 64 n [] := by rw [dig, if_neg h1]
  skip
  refine loop_rule (fun ((m, out) : Nat × Str) => ⟨[(0, ⟨none, .int .i64 m⟩), (3, ⟨none, .bool false⟩), (4, ⟨none, .str out⟩)], [], 0⟩)
    (fun (m, out) => m ≤ n ∧ digs 64 n [] = digs 64 m out ∧ out.length ≤ n - m) (fun x => x.1) (n, []) ?_ ⟨by omega, rfl, by simp⟩ ?_
  · (refine ⟨?_, ?_, rfl⟩ <;> repeat' (first | exact rfl | exact trivial | refine ⟨?_, ?_⟩ | fail) <;> (conv => whnf))
    all_goals (show decide (_ < _) = false; simp)
  rintro ⟨m, out⟩ ⟨hm, hdd, hl⟩
  (conv => whnf); refine ⟨fun h2 => ?_, fun h2 => ?_⟩
  · have h2 : m ≠ 0 := by simpa using h2
    conv => whnf
    refine ⟨by decide, ?_⟩
    conv => whnf
    refine ⟨((m % 10 : Nat) : Int), rfl, ?_⟩
    (conv => whnf); refine ⟨fun h3 => ?_, fun h3 => ?_⟩
    · simp at h3; omega
    repeat ((conv => whnf); refine ⟨_, w64 (by (show (_ : Prop)); first | omega | ((try dsimp only at *); (try simp only [lns] at *); omega)), ?_⟩)
    refine ⟨((48 + m % 10 : Nat) : Int), by show Int.ofNat ((48 + m % 10) % 256) = _; rw [Nat.mod_eq_of_lt (by omega)]; rfl, ?_⟩
    skip
    refine ⟨[UInt8.ofNat (48 + m % 10)], by
      have e : (UInt8.ofNat (48 + m % 10)).toNat = 48 + m % 10 := by rw [UInt8.toNat_ofNat']; omega
      rw [List.map_cons, List.map_nil, e]; rfl, ?_⟩
    repeat ((conv => whnf); refine ⟨by (show (_ : Prop)); first | omega | ((try dsimp only at *); (try simp only [lns] at *); omega), ?_⟩)
    refine ⟨((m / 10 : Nat) : Int), w64 (a := ((m / 10 : Nat) : Int)) (by omega), ?_⟩
    skip
    refine again (m / 10, UInt8.ofNat (48 + m % 10) :: out) ?_ ⟨by omega, by rw [hdd, digs_step (by omega) (by omega)], by simp; omega⟩ (by show m / 10 < m; omega)
    (refine ⟨?_, ?_, rfl⟩ <;> repeat' (first | exact rfl | exact trivial | refine ⟨?_, ?_⟩ | fail) <;> (conv => whnf))
  · have h2 : m = 0 := by simpa using h2
    subst h2
    rw [digs_zero] at hdd
    (conv => whnf); refine ⟨fun h3 => ?_, fun h3 => ?_⟩
    · cases h3
    skip
    exact ⟨trivial, eqS (by rw [Int.toNat_natCast, hd, hdd])⟩
theorem ok_spec_Digits : ConOk Tryd.prog 30 c_spec_Digits := meets_ok (tabT _ _) FOk.nil mixed Tryd.func30 rfl Tryd.call30 (by decide) (by kernel_rfl) m_spec_Digits (by intro _ (y : Int) _; exact ⟨by simp [c_spec_Digits, con, conG, conW, AV.noRd, noRdCells, noRdRows, noRdRows_map', encS, encO], by simp [c_spec_Digits, con, conG, conW, AV.noRd, noRdCells, noRdRows, noRdRows_map', encS, encO]⟩) (by intro (y : Int) _; first | (simp [c_spec_Digits, con, conG, conW, conP, AV.free, freeCells, freeRows, freeRows_map, encS, encO]; done) | (obtain ⟨_, _⟩ := y; simp [c_spec_Digits, con, conG, conW, conP, AV.free, freeCells, freeRows, freeRows_map, encS, encO]; done) | (obtain ⟨_, _, _⟩ := y; simp [c_spec_Digits, con, conG, conW, conP, AV.free, freeCells, freeRows, freeRows_map, encS, encO]; done))
noncomputable def c_impl_hexText : PCon := con [mC] true Str encS (fun s => s.length ≤ 1000) (fun s => .str (hexT s))
noncomputable def E_impl_hexText : Env := ⟨lookup tyTab, lookup [], [0, 2, 3, 4, 7, 8, 9]⟩
set_option maxRecDepth 100000 in
set_option maxHeartbeats 4000000 in
theorem m_impl_hexText : Meets E_impl_hexText (codeOf Tryd.f36) Tryd.f36.results.toList c_impl_hexText := by
  intro (s : Str) (hs : s.length ≤ 1000)
  refine ⟨trivial, ?_⟩
  skip
  refine loop_rule (fun i : Nat => ⟨[(0, ⟨none, .str s⟩), (3, ⟨none, .view 0 [] 0 (hexT (s.take i)).length⟩), (7, ⟨none, .int .i64 s.length⟩), (8, ⟨none, .int .i64 i⟩)], [(0, .own 1 ((hexT (s.take i)).map fun b => [.int .u8 b.toNat]))], 1⟩)
    (fun i => i ≤ s.length) (fun i => s.length - i) 0 ?_ (by omega) ?_
  · (refine ⟨?_, ?_, rfl⟩ <;> repeat' (first | exact rfl | exact trivial | refine ⟨?_, ?_⟩ | fail) <;> (conv => whnf))
  intro i (hi : i ≤ s.length)
  (conv => whnf); refine ⟨fun h2 => ?_, fun h2 => ?_⟩
  · have h2 : i < s.length := by simpa using h2
    obtain ⟨b, hb⟩ := get_lt h2
    skip
    refine ⟨b, fun _ => ⟨Int.natCast_nonneg _, hb⟩, ?_⟩
    repeat ((conv => whnf); refine ⟨by (show (_ : Prop)); first | omega | ((try dsimp only at *); (try simp only [lns] at *); omega), ?_⟩)
    have hl := hexT_take_len s i
    have hb16 : b.toNat / 16 < 16 := by have := b.toNat_lt; omega
    refine ⟨((b.toNat / 16 : Nat) : Int), shr4 _, ?_⟩
    skip
    refine ⟨hx (b.toNat / 16), fun _ => ⟨Int.natCast_nonneg _, hx_get hb16⟩, ?_⟩
    skip
    refine ⟨b, fun _ => ⟨Int.natCast_nonneg _, hb⟩, ?_⟩
    skip
    refine ⟨((b.toNat % 16 : Nat) : Int), and15 b, ?_⟩
    skip
    refine ⟨hx (b.toNat % 16), fun _ => ⟨Int.natCast_nonneg _, hx_get (Nat.mod_lt _ (by decide))⟩, ?_⟩
    repeat ((conv => whnf); first | refine ⟨(by kernel_rfl : drawOk _ _ = true), ?_⟩ | refine ⟨_, w64 (by (show (_ : Prop)); first | omega | ((try dsimp only at *); (try simp only [lns] at *); omega)), ?_⟩ | refine ⟨by (show (_ : Prop)); first | omega | ((try dsimp only at *); (try simp only [lns] at *); omega), ?_⟩ | refine ⟨noOwn (by rfl), ?_⟩)
    refine again (i + 1) ?_ h2 (by first | omega | (simp; done) | (simp; omega))
    (refine ⟨?_, ?_, rfl⟩ <;> repeat' (first | exact rfl | exact trivial | refine ⟨?_, ?_⟩ | fail) <;> (conv => whnf))
    all_goals (rw [hexT_succ hb]; simp)
  · have h2 : i = s.length := by
      have : ¬ i < s.length := by simpa using h2
      omega
    subst h2
    have hl := hexT_len s
    skip
    refine ⟨hexT s, by rw [List.take_length, List.drop_zero, List.take_of_length_le (by simp)], ?_⟩
    skip
    exact ⟨trivial, eqS rfl⟩
theorem ok_impl_hexText : ConOk Tryd.prog 36 c_impl_hexText := meets_ok (tabT _ _) FOk.nil mixed Tryd.func36 rfl Tryd.call36 (by decide) (by kernel_rfl) m_impl_hexText (by intro _ (y : Str) _; exact ⟨by simp [c_impl_hexText, con, conG, conW, AV.noRd, noRdCells, noRdRows, noRdRows_map', encS, encO], by simp [c_impl_hexText, con, conG, conW, AV.noRd, noRdCells, noRdRows, noRdRows_map', encS, encO]⟩) (by intro (y : Str) _; first | (simp [c_impl_hexText, con, conG, conW, conP, AV.free, freeCells, freeRows, freeRows_map, encS, encO]; done) | (obtain ⟨_, _⟩ := y; simp [c_impl_hexText, con, conG, conW, conP, AV.free, freeCells, freeRows, freeRows_map, encS, encO]; done) | (obtain ⟨_, _, _⟩ := y; simp [c_impl_hexText, con, conG, conW, conP, AV.free, freeCells, freeRows, freeRows_map, encS, encO]; done))
end Go.GH

set_option linter.unusedVariables false
set_option linter.unusedSimpArgs false
namespace Go.GH
open Go Go.Proofs
def gwTab (w : World) : Prop := Lib.TabIs Tryd.prog w "internal/strconv.uint64pow10" .u64 Lib.pow10Tab
theorem below_grow (w : World) (k : Nat) (os : Array Obj) : RowKit.Below w.heap.size w (Go.Sort.grow (w.drewN k) os) := by
  refine ⟨rfl, rfl, rfl, by simp [Go.Sort.grow, World.drewN], fun b hb => ?_⟩
  show (w.heap ++ os)[b]? = _
  rw [Array.getElem?_append_left hb]
def c_strconv_Itoa : PCon := conG gwTab [mC] true Int (fun n => [.int .i64 n]) (fun n => 0 ≤ n ∧ n ≤ 1000000000) (fun n => .str (dig n.toNat))
theorem ok_strconv_Itoa : ConOk Tryd.prog 58 c_strconv_Itoa := by
  refine con_of_callsG rfl (fun _ => rfl) (fun _ => rfl) (fun _ => rfl) (fun x _ => ⟨trivial, trivial⟩) Tryd.call58 ?_
  intro (z : Int) hz y w args ρ hg hw hR hsz hs
  obtain ⟨hz1, hz2⟩ : 0 ≤ z ∧ z ≤ 1000000000 := hz
  obtain ⟨n, rfl⟩ : ∃ n : Nat, z = n := ⟨z.toNat, by omega⟩
  have h0 := srep_int (hs 0 _ rfl)
  have hsz : args.size = 1 := hsz
  have ha : args = #[.int .i64 n] := by
    apply Array.ext
    · simp [hsz]
    · intro i hi1 hi2
      have : i = 0 := by omega
      subst this
      rw [Array.getD_eq_getD_getElem?, Array.getElem?_eq_getElem hi1] at h0; simpa using h0
  rw [ha]
  refine (Tryd.strconv_Itoa n (by omega) (by omega) w hg).mono ?_
  rintro e w' ⟨rfl, k, os, rfl⟩
  rw [itoa_dig (by omega)]
  exact ⟨_, rfl, fun _ _ _ _ => .cell (flat_rep (v := .str (dig n)) rfl), below_grow _ _ _⟩
noncomputable def c_impl_Digits : PCon := conG gwTab [mC] true Int (fun n => [.int .i64 n]) (fun n => 0 ≤ n ∧ n ≤ 1000000000) (fun n => .str (dig n.toNat))
noncomputable def E_impl_Digits : Env := ⟨lookup tyTab, lookup [(58, c_strconv_Itoa)], [0, 2]⟩
set_option maxRecDepth 100000 in
set_option maxHeartbeats 4000000 in
theorem m_impl_Digits : Meets E_impl_Digits (codeOf Tryd.f35) Tryd.f35.results.toList c_impl_Digits := by
  intro (n : Int) hn
  refine ⟨trivial, ?_⟩
  conv => whnf
  refine ⟨n, rfl, fun _ => hn, ?_⟩
  conv => whnf
  exact ⟨trivial, rfl⟩
theorem ok_impl_Digits : ConOk Tryd.prog 35 c_impl_Digits := meets_ok (tabT _ _) (FOk.cons ok_strconv_Itoa FOk.nil) mixed Tryd.func35 rfl Tryd.call35 (by decide) (by kernel_rfl) m_impl_Digits (by intro _ (y : Int) _; exact ⟨by simp [c_impl_Digits, con, conG, conW, AV.noRd, noRdCells, noRdRows, noRdRows_map', encS, encO], by simp [c_impl_Digits, con, conG, conW, AV.noRd, noRdCells, noRdRows, noRdRows_map', encS, encO]⟩) (by intro (y : Int) _; first | (simp [c_impl_Digits, con, conG, conW, conP, AV.free, freeCells, freeRows, freeRows_map, encS, encO]; done) | (obtain ⟨_, _⟩ := y; simp [c_impl_Digits, con, conG, conW, conP, AV.free, freeCells, freeRows, freeRows_map, encS, encO]; done) | (obtain ⟨_, _, _⟩ := y; simp [c_impl_Digits, con, conG, conW, conP, AV.free, freeCells, freeRows, freeRows_map, encS, encO]; done))
noncomputable def c_impl_PathOk : PCon := con [mC] true Str encS (fun s => sml s.length) (fun s => .bool (pathOk s))
noncomputable def E_impl_PathOk : Env := ⟨lookup tyTab, lookup [(54, c_impl_readPath)], [0, 2, 4]⟩
set_option maxRecDepth 100000 in
set_option maxHeartbeats 4000000 in
theorem m_impl_PathOk : Meets E_impl_PathOk (codeOf Tryd.f33) Tryd.f33.results.toList c_impl_PathOk := by
  intro (s : Str) hs
  refine ⟨trivial, ?_⟩
  conv => whnf
  refine ⟨s, rfl, fun _ => hs, ?_⟩
  conv => whnf
  exact ⟨trivial, rfl⟩
theorem ok_impl_PathOk : ConOk Tryd.prog 33 c_impl_PathOk := meets_ok (tabT _ _) (FOk.cons ok_impl_readPath FOk.nil) mixed Tryd.func33 rfl Tryd.call33 (by decide) (by kernel_rfl) m_impl_PathOk (by intro _ (y : Str) _; exact ⟨by simp [c_impl_PathOk, con, conG, conW, AV.noRd, noRdCells, noRdRows, noRdRows_map', encS, encO], by simp [c_impl_PathOk, con, conG, conW, AV.noRd, noRdCells, noRdRows, noRdRows_map', encS, encO]⟩) (by intro (y : Str) _; first | (simp [c_impl_PathOk, con, conG, conW, conP, AV.free, freeCells, freeRows, freeRows_map, encS, encO]; done) | (obtain ⟨_, _⟩ := y; simp [c_impl_PathOk, con, conG, conW, conP, AV.free, freeCells, freeRows, freeRows_map, encS, encO]; done) | (obtain ⟨_, _, _⟩ := y; simp [c_impl_PathOk, con, conG, conW, conP, AV.free, freeCells, freeRows, freeRows_map, encS, encO]; done))
noncomputable def c_spec_l26Path : PCon := con [mC] true Str encS (fun s => sml s.length) (fun s => .bool (pathE s))
noncomputable def E_spec_l26Path : Env := ⟨lookup tyTab, lookup [(52, c_spec_PathOk)], [0, 2]⟩
set_option maxRecDepth 100000 in
set_option maxHeartbeats 4000000 in
theorem m_spec_l26Path : Meets E_spec_l26Path (codeOf Tryd.f29) Tryd.f29.results.toList c_spec_l26Path := by
  intro (s : Str) hs
  refine ⟨trivial, ?_⟩
  repeat ((conv => whnf); refine ⟨fun h => h, ?_⟩)
  refine ⟨s, rfl, fun _ => hs, ?_⟩
  repeat ((conv => whnf); refine ⟨fun h => h, ?_⟩)
  exact ⟨trivial, eqB (by
    show _ = (s == [] || pathOk s)
    cases (s == []) <;> cases pathOk s <;> rfl)⟩
theorem ok_spec_l26Path : ConOk Tryd.prog 29 c_spec_l26Path := meets_ok (tabT _ _) (FOk.cons ok_spec_PathOk FOk.nil) mixed Tryd.func29 rfl Tryd.call29 (by decide) (by kernel_rfl) m_spec_l26Path (by intro _ (y : Str) _; exact ⟨by simp [c_spec_l26Path, con, conG, conW, AV.noRd, noRdCells, noRdRows, noRdRows_map', encS, encO], by simp [c_spec_l26Path, con, conG, conW, AV.noRd, noRdCells, noRdRows, noRdRows_map', encS, encO]⟩) (by intro (y : Str) _; first | (simp [c_spec_l26Path, con, conG, conW, conP, AV.free, freeCells, freeRows, freeRows_map, encS, encO]; done) | (obtain ⟨_, _⟩ := y; simp [c_spec_l26Path, con, conG, conW, conP, AV.free, freeCells, freeRows, freeRows_map, encS, encO]; done) | (obtain ⟨_, _, _⟩ := y; simp [c_spec_l26Path, con, conG, conW, conP, AV.free, freeCells, freeRows, freeRows_map, encS, encO]; done))
end Go.GH

set_option linter.unusedVariables false
set_option linter.unusedSimpArgs false
namespace Go.GH
open Go Go.Proofs
noncomputable def c_spec_OpText : PCon := con [.rd [none, none, none, none, none, none]] true OpR (fun o => [.agg (encO o)]) smO (fun o => .str (opText o))
noncomputable def E_spec_OpText : Env := ⟨lookup tyTab, lookup [(28, c_spec_OpOk), (29, c_spec_l26Path), (30, c_spec_Digits), (31, c_spec_l26Signs)], [0, 1, 2, 3, 4, 25, 53]⟩
set_option maxRecDepth 100000 in
set_option maxHeartbeats 4000000 in
theorem m_spec_OpText : Meets E_spec_OpText (codeOf Tryd.f9) Tryd.f9.results.toList c_spec_OpText := by
  intro (o : OpR) hs
  obtain ⟨hs1, hs2, hs3⟩ : smO o := hs
  refine ⟨trivial, ?_⟩
  skip
  refine ⟨o, rfl, fun _ => trivial, ?_⟩
  repeat ((conv => whnf); refine ⟨fun h => h, ?_⟩)
  refine ⟨o.path, rfl, fun _ => (show o.path.length ≤ 4194304 by omega), ?_⟩
  repeat ((conv => whnf); refine ⟨fun h => h, ?_⟩)
  refine ⟨o.to, rfl, fun _ => (show o.to.length ≤ 4194304 by omega), ?_⟩
  repeat ((conv => whnf); refine ⟨fun h => h, ?_⟩)
  (conv => whnf); refine ⟨fun h1 => ?_, fun h1 => ?_⟩
  · have h1 : (!numsOk o || !pathE o.path || !pathE o.to || decide ((o.data.length : Int) > 80)) = true := h1
    conv => whnf
    exact ⟨trivial, eqS (by rw [opText, if_neg]; exact opOk_no h1)⟩
  have h1 : (!numsOk o || !pathE o.path || !pathE o.to || decide ((o.data.length : Int) > 80)) = false := h1
  obtain ⟨hn, ht, hd⟩ := opOk_yes h1
  obtain ⟨⟨k1, k2⟩, ⟨a1, a2⟩, t1, t2⟩ := numsOk_iff hn
  have e1 : o.kind = (o.kind.toNat : Int) := by omega
  have e2 : o.at_ = (o.at_.toNat : Int) := by omega
  have e3 : o.time = (o.time.toNat : Int) := by omega
  have l1 := dig_len o.kind.toNat
  have l2 := dig_len o.at_.toNat
  have l3 := dig_len o.time.toNat
  conv => whnf
  refine ⟨o.kind, rfl, fun _ => (show 0 ≤ o.kind ∧ o.kind ≤ 1000000000 by omega), ?_⟩
  repeat ((conv => whnf); refine ⟨by (show (_ : Prop)); first | omega | ((try dsimp only at *); (try simp only [lns] at *); omega), ?_⟩)
  refine ⟨o.at_, rfl, fun _ => (show 0 ≤ o.at_ ∧ o.at_ ≤ 1000000000 by omega), ?_⟩
  repeat ((conv => whnf); refine ⟨by (show (_ : Prop)); first | omega | ((try dsimp only at *); (try simp only [lns] at *); omega), ?_⟩)
  refine ⟨o.time, rfl, fun _ => (show 0 ≤ o.time ∧ o.time ≤ 1000000000 by omega), ?_⟩
  repeat ((conv => whnf); first | refine ⟨(by kernel_rfl : drawOk _ _ = true), ?_⟩ | refine ⟨by (show (_ : Prop)); first | omega | ((try dsimp only at *); (try simp only [lns] at *); omega), ?_⟩)
  have hq : opText o = opHead o ++ hexT o.data := by rw [opText, if_pos ht]
  have hhl : (opHead o).length ≤ 3000000 := by simp [opHead]; omega
  refine loop_rule (fun i : Nat => ⟨[(1, ⟨none, .bx 0 0⟩), (3, ⟨none, .view 1 [] 0 (opHead o ++ hexT (o.data.take i)).length⟩), (4, ⟨none, .int .i64 i⟩)], [(0, .own 6 [encO o]), (1, .own 1 ((opHead o ++ hexT (o.data.take i)).map fun b => [.int .u8 b.toNat]))], 2⟩)
    (fun i => i ≤ o.data.length) (fun i => o.data.length - i) 0 ?_ (by omega) ?_
  · (refine ⟨?_, ?_, rfl⟩ <;> repeat' (first | exact rfl | exact trivial | refine ⟨?_, ?_⟩ | fail) <;> (conv => whnf))
    all_goals (rw [List.take_zero, show hexT [] = [] from rfl, List.append_nil]; rfl)
  intro i (hi : i ≤ o.data.length)
  have hl := hexT_take_len o.data i
  (conv => whnf); refine ⟨fun h2 => ?_, fun h2 => ?_⟩
  · have h2 : i < o.data.length := by simpa using h2
    obtain ⟨b, hb⟩ := get_lt h2
    have hb16 : b.toNat / 16 < 16 := by have := b.toNat_lt; omega
    skip
    refine ⟨(), rfl, fun _ => trivial, ?_⟩
    skip
    refine ⟨b, fun _ => ⟨Int.natCast_nonneg _, hb⟩, ?_⟩
    repeat ((conv => whnf); refine ⟨by (show (_ : Prop)); first | omega | ((try dsimp only at *); (try simp only [lns] at *); omega), ?_⟩)
    refine ⟨((b.toNat / 16 : Nat) : Int), quo16 b, ?_⟩
    skip
    refine ⟨hx (b.toNat / 16), fun _ => ⟨Int.natCast_nonneg _, hx_get hb16⟩, ?_⟩
    skip
    refine ⟨(), rfl, fun _ => trivial, ?_⟩
    skip
    refine ⟨b, fun _ => ⟨Int.natCast_nonneg _, hb⟩, ?_⟩
    repeat ((conv => whnf); refine ⟨by (show (_ : Prop)); first | omega | ((try dsimp only at *); (try simp only [lns] at *); omega), ?_⟩)
    refine ⟨((b.toNat % 16 : Nat) : Int), rem16 b, ?_⟩
    skip
    refine ⟨hx (b.toNat % 16), fun _ => ⟨Int.natCast_nonneg _, hx_get (Nat.mod_lt _ (by decide))⟩, ?_⟩
    repeat ((conv => whnf); first | refine ⟨(by kernel_rfl : drawOk _ _ = true), ?_⟩ | refine ⟨_, w64 (by (show (_ : Prop)); first | omega | ((try dsimp only at *); (try simp only [lns] at *); omega)), ?_⟩ | refine ⟨by (show (_ : Prop)); first | omega | ((try dsimp only at *); (try simp only [lns] at *); omega), ?_⟩ | refine ⟨noOwn (by rfl), ?_⟩)
    refine again (i + 1) ?_ h2 (by first | omega | (simp; done) | (simp; omega))
    (refine ⟨?_, ?_, rfl⟩ <;> repeat' (first | exact rfl | exact trivial | refine ⟨?_, ?_⟩ | fail) <;> (conv => whnf))
    all_goals (rw [hexT_succ hb, List.drop_zero, List.take_of_length_le (by simp)]; simp [Nat.add_assoc])
  · have h2 : i = o.data.length := by
      have : ¬ i < o.data.length := by simpa using h2
      omega
    subst h2
    skip
    refine ⟨opHead o ++ hexT o.data, by rw [List.take_length, List.drop_zero, List.take_of_length_le (by simp)], ?_⟩
    skip
    exact ⟨trivial, eqS hq.symm⟩
theorem ok_spec_OpText : ConOk Tryd.prog 9 c_spec_OpText := meets_ok (tabT _ _) (FOk.cons ok_spec_OpOk (FOk.cons ok_spec_l26Path (FOk.cons ok_spec_Digits (FOk.cons ok_spec_l26Signs FOk.nil)))) mixed Tryd.func9 rfl Tryd.call9 (by decide) (by kernel_rfl) m_spec_OpText (by intro _ (y : OpR) _; exact ⟨by simp [c_spec_OpText, con, conG, conW, AV.noRd, noRdCells, noRdRows, noRdRows_map', encS, encO], by simp [c_spec_OpText, con, conG, conW, AV.noRd, noRdCells, noRdRows, noRdRows_map', encS, encO]⟩) (by intro (y : OpR) _; first | (simp [c_spec_OpText, con, conG, conW, conP, AV.free, freeCells, freeRows, freeRows_map, encS, encO]; done) | (obtain ⟨_, _⟩ := y; simp [c_spec_OpText, con, conG, conW, conP, AV.free, freeCells, freeRows, freeRows_map, encS, encO]; done) | (obtain ⟨_, _, _⟩ := y; simp [c_spec_OpText, con, conG, conW, conP, AV.free, freeCells, freeRows, freeRows_map, encS, encO]; done))
end Go.GH

set_option linter.unusedVariables false
set_option linter.unusedSimpArgs false
namespace Go.GH
open Go Go.Proofs
noncomputable def c_impl_OpText : PCon := conG gwTab [.rd [none, none, none, none, none, none]] true OpR (fun o => [.agg (encO o)]) smO (fun o => .str (opText o))
noncomputable def E_impl_OpText : Env := ⟨lookup tyTab, lookup [(32, c_impl_OpOk), (33, c_impl_PathOk), (34, c_strings_Join), (35, c_impl_Digits), (36, c_impl_hexText)], [0, 1, 2, 33]⟩
set_option maxRecDepth 100000 in
set_option maxHeartbeats 4000000 in
theorem m_impl_OpText : Meets E_impl_OpText (codeOf Tryd.f11) Tryd.f11.results.toList c_impl_OpText := by
  intro (o : OpR) hs
  obtain ⟨hs1, hs2, hs3⟩ : smO o := hs
  refine ⟨trivial, ?_⟩
  skip
  refine ⟨o, rfl, fun _ => trivial, ?_⟩
  repeat ((conv => whnf); refine ⟨fun h => h, ?_⟩)
  refine ⟨o.path, rfl, fun _ => (show o.path.length ≤ 4194304 by omega), ?_⟩
  repeat ((conv => whnf); refine ⟨fun h => h, ?_⟩)
  refine ⟨o.to, rfl, fun _ => (show o.to.length ≤ 4194304 by omega), ?_⟩
  repeat ((conv => whnf); refine ⟨fun h => h, ?_⟩)
  (conv => whnf); refine ⟨fun h1 => ?_, fun h1 => ?_⟩
  · have h1 : (!numsOk o || (!(o.path == []) && !pathOk o.path) || (!(o.to == []) && !pathOk o.to) || decide ((o.data.length : Int) > 80)) = true := h1
    rw [pathE_not, pathE_not] at h1
    conv => whnf
    exact ⟨trivial, eqS (by rw [opText, if_neg]; exact opOk_no h1)⟩
  have h1 : (!numsOk o || (!(o.path == []) && !pathOk o.path) || (!(o.to == []) && !pathOk o.to) || decide ((o.data.length : Int) > 80)) = false := h1
  rw [pathE_not, pathE_not] at h1
  obtain ⟨hn, ht, hd⟩ := opOk_yes h1
  obtain ⟨⟨k1, k2⟩, ⟨a1, a2⟩, t1, t2⟩ := numsOk_iff hn
  have e1 : o.kind = (o.kind.toNat : Int) := by omega
  have e2 : o.at_ = (o.at_.toNat : Int) := by omega
  have e3 : o.time = (o.time.toNat : Int) := by omega
  conv => whnf
  refine ⟨o.kind, rfl, fun _ => (show 0 ≤ o.kind ∧ o.kind ≤ 1000000000 by omega), ?_⟩
  skip
  refine ⟨o.at_, rfl, fun _ => (show 0 ≤ o.at_ ∧ o.at_ ≤ 1000000000 by omega), ?_⟩
  skip
  refine ⟨o.time, rfl, fun _ => (show 0 ≤ o.time ∧ o.time ≤ 1000000000 by omega), ?_⟩
  skip
  refine ⟨o.data, rfl, fun _ => (show o.data.length ≤ 1000 by omega), ?_⟩
  skip
  have hq : opText o = Lib.join [dig o.kind.toNat, o.path, o.to, dig o.at_.toNat, dig o.time.toNat, hexT o.data] [32] := by rw [opText, if_pos ht, opText_join]
  have hl := opText_len o
  refine ⟨([dig o.kind.toNat, o.path, o.to, dig o.at_.toNat, dig o.time.toNat, hexT o.data], [32]), rfl, fun _ => ⟨?_, by simp⟩, ?_⟩
  · show (Lib.join [dig o.kind.toNat, o.path, o.to, dig o.at_.toNat, dig o.time.toNat, hexT o.data] [32]).length ≤ 16777216
    rw [← hq]; omega
  repeat ((conv => whnf); refine ⟨(by kernel_rfl : drawOk _ _ = true), ?_⟩)
  exact ⟨trivial, eqS hq.symm⟩
theorem ok_impl_OpText : ConOk Tryd.prog 11 c_impl_OpText := meets_ok (tabT _ _) (FOk.cons ok_impl_OpOk (FOk.cons ok_impl_PathOk (FOk.cons ok_strings_Join (FOk.cons ok_impl_Digits (FOk.cons ok_impl_hexText FOk.nil))))) mixed Tryd.func11 rfl Tryd.call11 (by decide) (by kernel_rfl) m_impl_OpText (by intro _ (y : OpR) _; exact ⟨by simp [c_impl_OpText, con, conG, conW, AV.noRd, noRdCells, noRdRows, noRdRows_map', encS, encO], by simp [c_impl_OpText, con, conG, conW, AV.noRd, noRdCells, noRdRows, noRdRows_map', encS, encO]⟩) (by intro (y : OpR) _; first | (simp [c_impl_OpText, con, conG, conW, conP, AV.free, freeCells, freeRows, freeRows_map, encS, encO]; done) | (obtain ⟨_, _⟩ := y; simp [c_impl_OpText, con, conG, conW, conP, AV.free, freeCells, freeRows, freeRows_map, encS, encO]; done) | (obtain ⟨_, _, _⟩ := y; simp [c_impl_OpText, con, conG, conW, conP, AV.free, freeCells, freeRows, freeRows_map, encS, encO]; done))
end Go.GH

set_option linter.unusedVariables false
set_option linter.unusedSimpArgs false
namespace Go.GH
open Go Go.Proofs
noncomputable def c_laws_szOp : PCon := con [.rd [none, none, none, none, none, none], mC] true (OpR × Int) (fun x => [.agg (encO x.1), .int .i64 x.2]) (fun x => 0 ≤ x.2 ∧ x.2 ≤ 4194304 ∧ bigO x.1) (fun x => .int .i64 (szR x.2 (szO x.1)))
noncomputable def E_laws_szOp : Env := ⟨lookup tyTab, lookup [], [0, 1, 2, 4, 11, 18, 25]⟩
set_option maxRecDepth 100000 in
set_option maxHeartbeats 4000000 in
theorem m_laws_szOp : Meets E_laws_szOp (codeOf Tryd.f8) Tryd.f8.results.toList c_laws_szOp := by
  rintro ⟨x, left⟩ hs
  obtain ⟨h1, h2, h3, h4, h4'⟩ : 0 ≤ left ∧ left ≤ 4194304 ∧ x.path.length ≤ 9223372036854775807 ∧ x.to.length ≤ 9223372036854775807 ∧ x.data.length ≤ 9223372036854775807 := hs
  refine ⟨trivial, ?_⟩
  repeat ((conv => whnf); refine ⟨_, w64 (by (show (_ : Prop)); first | omega | ((try dsimp only at *); (try simp only [lns] at *); omega)), ?_⟩)
  (conv => whnf); refine ⟨fun h5 => ?_, fun h5 => ?_⟩
  · have h5 : left - x.path.length < 0 := by simpa using h5
    conv => whnf
    exact ⟨trivial, eqN' (by unfold szR szO; dsimp only; rw [if_pos (by omega)])⟩
  have h5 : ¬ left - x.path.length < 0 := by simpa using h5
  repeat ((conv => whnf); refine ⟨_, w64 (by (show (_ : Prop)); first | omega | ((try dsimp only at *); (try simp only [lns] at *); omega)), ?_⟩)
  (conv => whnf); refine ⟨fun h6 => ?_, fun h6 => ?_⟩
  · have h6 : left - x.path.length - x.to.length < 0 := by simpa using h6
    conv => whnf
    exact ⟨trivial, eqN' (by unfold szR szO; dsimp only; rw [if_pos (by omega)])⟩
  have h6 : ¬ left - x.path.length - x.to.length < 0 := by simpa using h6
  repeat ((conv => whnf); refine ⟨_, w64 (by (show (_ : Prop)); first | omega | ((try dsimp only at *); (try simp only [lns] at *); omega)), ?_⟩)
  (conv => whnf); refine ⟨fun h7 => ?_, fun h7 => ?_⟩
  · have h7 : left - x.path.length - x.to.length - x.data.length < 0 := by simpa using h7
    conv => whnf
    exact ⟨trivial, eqN' (by unfold szR szO; dsimp only; rw [if_pos (by omega)])⟩
  have h7 : ¬ left - x.path.length - x.to.length - x.data.length < 0 := by simpa using h7
  conv => whnf
  exact ⟨trivial, eqN' (by unfold szR szO; dsimp only; rw [if_neg (by omega)]; omega)⟩
theorem ok_laws_szOp : ConOk Tryd.prog 8 c_laws_szOp := meets_ok (tabT _ _) FOk.nil mixed Tryd.func8 rfl Tryd.call8 (by decide) (by kernel_rfl) m_laws_szOp (by intro _ (y : (OpR × Int)) _; exact ⟨by simp [c_laws_szOp, con, conG, conW, AV.noRd, noRdCells, noRdRows, noRdRows_map', encS, encO], by simp [c_laws_szOp, con, conG, conW, AV.noRd, noRdCells, noRdRows, noRdRows_map', encS, encO]⟩) (by intro (y : (OpR × Int)) _; first | (simp [c_laws_szOp, con, conG, conW, conP, AV.free, freeCells, freeRows, freeRows_map, encS, encO]; done) | (obtain ⟨_, _⟩ := y; simp [c_laws_szOp, con, conG, conW, conP, AV.free, freeCells, freeRows, freeRows_map, encS, encO]; done) | (obtain ⟨_, _, _⟩ := y; simp [c_laws_szOp, con, conG, conW, conP, AV.free, freeCells, freeRows, freeRows_map, encS, encO]; done))
noncomputable def c_laws_toOp : PCon := con [.rd [none, none, none, none, none, none]] true OpR (fun x => [.agg (encO x)]) (fun _ => True) (fun x => .agg (encO x))
noncomputable def E_laws_toOp : Env := ⟨lookup tyTab, lookup [], [0, 1, 2, 3]⟩
set_option maxRecDepth 100000 in
set_option maxHeartbeats 4000000 in
theorem m_laws_toOp : Meets E_laws_toOp (codeOf Tryd.f10) Tryd.f10.results.toList c_laws_toOp := by
  intro (x : OpR) hs
  refine ⟨trivial, ?_⟩
  conv => whnf
  exact ⟨trivial, rfl, rfl, rfl, rfl, rfl, rfl, trivial⟩
theorem ok_laws_toOp : ConOk Tryd.prog 10 c_laws_toOp := meets_ok (tabT _ _) FOk.nil mixed Tryd.func10 rfl Tryd.call10 (by decide) (by kernel_rfl) m_laws_toOp (by intro _ (y : OpR) _; exact ⟨by simp [c_laws_toOp, con, conG, conW, AV.noRd, noRdCells, noRdRows, noRdRows_map', encS, encO], by simp [c_laws_toOp, con, conG, conW, AV.noRd, noRdCells, noRdRows, noRdRows_map', encS, encO]⟩) (by intro (y : OpR) _; first | (simp [c_laws_toOp, con, conG, conW, conP, AV.free, freeCells, freeRows, freeRows_map, encS, encO]; done) | (obtain ⟨_, _⟩ := y; simp [c_laws_toOp, con, conG, conW, conP, AV.free, freeCells, freeRows, freeRows_map, encS, encO]; done) | (obtain ⟨_, _, _⟩ := y; simp [c_laws_toOp, con, conG, conW, conP, AV.free, freeCells, freeRows, freeRows_map, encS, encO]; done))
noncomputable def c_laws_FnExactOpText : PCon := conG gwTab [.rd [none, none, none, none, none, none]] true OpR (fun x => [.agg (encO x)]) bigO (fun _ => .bool true)
noncomputable def E_laws_FnExactOpText : Env := ⟨lookup tyTab, lookup [(8, c_laws_szOp), (9, c_spec_OpText), (10, c_laws_toOp), (11, c_impl_OpText)], [0, 1, 2, 3, 4, 5, 10, 19]⟩
set_option maxRecDepth 100000 in
set_option maxHeartbeats 4000000 in
theorem m_laws_FnExactOpText : Meets E_laws_FnExactOpText (codeOf Tryd.f3) Tryd.f3.results.toList c_laws_FnExactOpText := by
  intro (o : OpR) hs
  have hs : bigO o := hs
  refine ⟨trivial, ?_⟩
  conv => whnf
  refine ⟨(o, 1048576), rfl, fun _ => ⟨by show (0:Int) ≤ 1048576; decide, by show (1048576:Int) ≤ 4194304; decide, hs⟩, ?_⟩
  (conv => whnf); refine ⟨fun h1 => ?_, fun h1 => ?_⟩
  · conv => whnf
    exact ⟨trivial, rfl⟩
  have h1 : ¬ szR 1048576 (szO o) < 0 := by simpa using h1
  have hsm := szO_sm h1 (by omega)
  conv => whnf
  refine ⟨o, rfl, fun _ => trivial, ?_⟩
  conv => whnf
  refine ⟨o, rfl, fun _ => hsm, ?_⟩
  conv => whnf
  refine ⟨o, rfl, fun _ => trivial, ?_⟩
  conv => whnf
  refine ⟨o, rfl, fun _ => hsm, ?_⟩
  conv => whnf
  refine ⟨fun h => ?_, fun _ => ?_⟩
  · have h : (!(opText o == opText o)) = true := h
    simp at h
  conv => whnf
  exact ⟨trivial, rfl⟩
theorem ok_laws_FnExactOpText : ConOk Tryd.prog 3 c_laws_FnExactOpText := meets_ok (tabT _ _) (FOk.cons ok_laws_szOp (FOk.cons ok_spec_OpText (FOk.cons ok_laws_toOp (FOk.cons ok_impl_OpText FOk.nil)))) mixed Tryd.func3 rfl Tryd.call3 (by decide) (by kernel_rfl) m_laws_FnExactOpText (by intro _ (y : OpR) _; exact ⟨by simp [c_laws_FnExactOpText, con, conG, conW, AV.noRd, noRdCells, noRdRows, noRdRows_map', encS, encO], by simp [c_laws_FnExactOpText, con, conG, conW, AV.noRd, noRdCells, noRdRows, noRdRows_map', encS, encO]⟩) (by intro (y : OpR) _; first | (simp [c_laws_FnExactOpText, con, conG, conW, conP, AV.free, freeCells, freeRows, freeRows_map, encS, encO]; done) | (obtain ⟨_, _⟩ := y; simp [c_laws_FnExactOpText, con, conG, conW, conP, AV.free, freeCells, freeRows, freeRows_map, encS, encO]; done) | (obtain ⟨_, _, _⟩ := y; simp [c_laws_FnExactOpText, con, conG, conW, conP, AV.free, freeCells, freeRows, freeRows_map, encS, encO]; done))
end Go.GH

set_option linter.unusedVariables false
set_option linter.unusedSimpArgs false
namespace Go.GH
open Go Go.Proofs
open Go.ChangeShapes Go.WideShapes Go.ChangeAt Go.RowKit
set_option maxRecDepth 100000 in
theorem sh_Op : shTy Tryd.prog 12 23 = some [.int .i64, .str, .str, .int .i64, .str, .int .i64] := by kernel_rfl
set_option maxRecDepth 100000 in
theorem arg_Op {a : AV} (h : ArgOk Tryd.prog 12 23 a) : ∃ o : OpR, a = .agg (encO o) ∧ bigO o := by
  obtain ⟨sh, avs, h1, h2, h3⟩ := h
  rw [sh_Op] at h1
  obtain rfl := Option.some.inj h1
  rw [Tryd.underlying23] at h3
  obtain ⟨c0, r0, rfl, ⟨n0, rfl, _⟩, c1, r1, rfl, ⟨s1, rfl, b1⟩, c2, r2, rfl, ⟨s2, rfl, b2⟩, c3, r3, rfl, ⟨n3, rfl, _⟩, c4, r4, rfl, ⟨s4, rfl, b4⟩, c5, r5, rfl, ⟨n5, rfl, _⟩, e⟩ := h2
  have e : r5 = [] := e
  subst e
  exact ⟨⟨n0, s1, s2, n3, s4, n5⟩, h3, b1, b2, b4⟩
theorem var_congr {P : Program} {w w' : World} {n : String} {g : Nat} (hg : P.globalNamed n = some g) (h : w'.heap[g]? = w.heap[g]?) : w'.var? P n = w.var? P n := by
  simp only [World.var?, hg, Option.bind_some, h]
theorem var_lt {P : Program} {w : World} {n : String} {g : Nat} {cs : Array Value} (hg : P.globalNamed n = some g) (h : w.var? P n = some cs) : g < w.heap.size := by
  rcases Nat.lt_or_ge g w.heap.size with hl | hl
  · exact hl
  · simp only [World.var?, hg, Option.bind_some] at h
    rw [Array.getElem?_eq_none hl] at h
    cases h
theorem gTab : Tryd.prog.globalNamed "internal/strconv.uint64pow10" = some 3 := by kernel_rfl
set_option maxRecDepth 100000 in
theorem gwTab_laid {W : World} {x y : String × DataW Unit} {rest : List (String × DataW Unit)} (h : laidMet Tryd.prog (x :: y :: ("internal/strconv.uint64pow10", Go.Proofs.YtijkfhkjnhceoaaDoor.Rows.laid_internal_strconv_uint64pow10) :: rest) W) : gwTab W := by
  have h2 := h.tail.tail
  have e : (Go.Proofs.YtijkfhkjnhceoaaDoor.Rows.laid_internal_strconv_uint64pow10 : DataW Unit) = Lib.tabData .u64 Lib.pow10Tab := by kernel_rfl
  rw [e] at h2
  exact Lib.tabIs_of_head gTab (by kernel_rfl) Tryd.underlying120 Tryd.underlying106 (by kernel_rfl) (by kernel_rfl) h2
theorem gokTab {W : World} (h : gwTab W) : GOk gwTab W fun _ => False :=
  ⟨fun b => b = 3, fun b hb => ⟨by subst hb; exact var_lt gTab h, fun h => h⟩, fun w' hw => (var_congr gTab (hw 3 rfl)).trans h⟩
set_option maxRecDepth 100000 in
theorem sh_OpS : shTy Tryd.prog 12 29 = some [.slice 6 [.int .i64, .str, .str, .int .i64, .str, .int .i64]] := by kernel_rfl
theorem ops_of {xs : List (List AV)} (h : ∀ r, r ∈ xs → ofL [.int .i64, .str, .str, .int .i64, .str, .int .i64] r) : ∃ t : List OpR, xs = t.map encO ∧ ∀ y, y ∈ t → bigO y := by
  induction xs with
  | nil => exact ⟨[], rfl, by simp⟩
  | cons r xs ih =>
    obtain ⟨t, rfl, ht⟩ := ih fun r hr => h r (by simp [hr])
    obtain ⟨c0, r0, rfl, ⟨n0, rfl, _⟩, c1, r1, rfl, ⟨s1, rfl, b1⟩, c2, r2, rfl, ⟨s2, rfl, b2⟩, c3, r3, rfl, ⟨n3, rfl, _⟩, c4, r4, rfl, ⟨s4, rfl, b4⟩, c5, r5, rfl, ⟨n5, rfl, _⟩, e⟩ := h r (by simp)
    have e : r5 = [] := e
    subst e
    refine ⟨⟨n0, s1, s2, n3, s4, n5⟩ :: t, rfl, fun y hy => ?_⟩
    rcases List.mem_cons.1 hy with rfl | hy
    · exact ⟨b1, b2, b4⟩
    · exact ht y hy
set_option maxRecDepth 100000 in
theorem arg_OpS {a : AV} (h : ArgOk Tryd.prog 12 29 a) : ∃ t : List OpR, a = .rd 6 (t.map encO) ∧ t.length ≤ 9223372036854775807 ∧ ∀ y, y ∈ t → bigO y := by
  obtain ⟨sh, avs, h1, h2, h3⟩ := h
  rw [sh_OpS] at h1
  obtain rfl := Option.some.inj h1
  rw [Tryd.underlying29] at h3
  obtain ⟨c, r, rfl, ⟨xs, rfl, hl, hx⟩, e⟩ := h2
  have e : r = [] := e
  subst e
  obtain ⟨t, rfl, ht⟩ := ops_of hx
  have h3 : [AV.rd 6 (t.map encO)] = [a] := h3
  exact ⟨t, (List.cons.inj h3).1.symm, by simpa using hl, ht⟩
end Go.GH

set_option linter.unusedVariables false
set_option linter.unusedSimpArgs false
namespace Go.GH
open Go
def isDg (b : UInt8) : Bool := decide (48 ≤ b.toNat) && decide (b.toNat ≤ 57)
def valF (a : Nat) (s : Str) : Nat := s.foldl (fun a b => 10 * a + (b.toNat - 48)) a
def numV (s : Str) : Nat := valF 0 s
def numOk (s : Str) : Bool := decide (1 ≤ s.length) && decide (s.length ≤ 6) && s.all isDg && (dig (numV s) == s)
def num (s : Str) : Option Nat := if numOk s then some (numV s) else none
theorem valF_app (a : Nat) (s : Str) (b : UInt8) : valF a (s ++ [b]) = 10 * valF a s + (b.toNat - 48) := by simp [valF]
theorem numV_succ {s : Str} {i : Nat} {b : UInt8} (h : s[i]? = some b) : numV (s.take (i + 1)) = 10 * numV (s.take i) + (b.toNat - 48) := by
  rw [take_succ' h]; exact valF_app _ _ _
theorem isDg_le {b : UInt8} (h : isDg b = true) : 48 ≤ b.toNat ∧ b.toNat ≤ 57 := by simpa [isDg] using h
theorem valF_lt : ∀ {s : Str} {a k : Nat}, s.all isDg = true → a < 10 ^ k → valF a s < 10 ^ (k + s.length)
  | [], a, k, _, ha => ha
  | b :: s, a, k, h, ha => by
    simp only [List.all_cons, Bool.and_eq_true] at h
    have h1 := isDg_le h.1
    have := valF_lt (s := s) (a := 10 * a + (b.toNat - 48)) (k := k + 1) h.2 (by rw [Nat.pow_succ]; omega)
    rw [show k + 1 + s.length = k + (s.length + 1) by omega] at this
    exact this
theorem numV_lt {s : Str} {n : Nat} (h : s.all isDg = true) (hl : s.length ≤ n) : numV s < 10 ^ n := by
  have := valF_lt (a := 0) (k := 0) h (by decide)
  rw [Nat.zero_add] at this
  exact Nat.lt_of_lt_of_le this (Nat.pow_le_pow_right (by decide) hl)
theorem dec_all : ∀ (n : Nat), (Lib.decDigits n).all isDg = true ∧ numV (Lib.decDigits n) = n ∧ 1 ≤ (Lib.decDigits n).length ∧ ∀ k, n < 10 ^ (k + 1) → (Lib.decDigits n).length ≤ k + 1 := by
  intro n
  induction n using Nat.strongRecOn with
  | _ n ih =>
    rw [Lib.decDigits.eq_1 n]
    have dg : ∀ m, m < 10 → isDg (UInt8.ofNat (48 + m)) = true ∧ (UInt8.ofNat (48 + m)).toNat - 48 = m := by
      intro m hm
      have e : (UInt8.ofNat (48 + m)).toNat = 48 + m := by rw [UInt8.toNat_ofNat']; omega
      exact ⟨by simp [isDg, e]; omega, by rw [e]; omega⟩
    by_cases h : n < 10
    · rw [dif_pos h]
      obtain ⟨h1, h2⟩ := dg n h
      exact ⟨by simp only [List.all_cons, List.all_nil, h1, Bool.and_true], by simp only [numV, valF, List.foldl]; omega, by simp, fun k hk => by simp⟩
    · rw [dif_neg h]
      obtain ⟨h1, h2⟩ := dg (n % 10) (Nat.mod_lt _ (by decide))
      obtain ⟨i1, i2, i3, i4⟩ := ih (n / 10) (by omega)
      refine ⟨by rw [List.all_append, i1]; simp only [List.all_cons, List.all_nil, h1, Bool.and_true], ?_, by simp, fun k hk => ?_⟩
      · rw [show numV (Lib.decDigits (n / 10) ++ [UInt8.ofNat (48 + n % 10)]) = _ from valF_app 0 _ _]
        rw [show valF 0 (Lib.decDigits (n / 10)) = n / 10 from i2, h2]
        omega
      · cases k with
        | zero => simp at hk; omega
        | succ k =>
          have := i4 k (by rw [Nat.pow_succ] at hk; omega)
          simp; omega
theorem dig_dec {n : Nat} (h : n < 2 ^ 64) : dig n = Lib.decDigits n := by
  rw [← itoa_dig h]
  unfold Lib.itoa
  rw [if_neg (by omega), Int.toNat_natCast]
theorem numOk_dig {n : Nat} (h : n ≤ 999999) : numOk (dig n) = true ∧ numV (dig n) = n := by
  have e := dig_dec (n := n) (by omega)
  obtain ⟨h1, h2, h3, h4⟩ := dec_all n
  have h5 := h4 5 (by omega)
  rw [← e] at h1 h2 h3 h5
  refine ⟨?_, h2⟩
  unfold numOk
  rw [h2]
  simp only [h1, Bool.and_eq_true, decide_eq_true_eq, beq_self_eq_true, and_true]
  omega
theorem parse_ok : ∀ {s : Str} {a k : Nat}, s.all isDg = true → a < 10 ^ k → k + s.length ≤ 12 → Lib.parseUint10 a s = .ok (valF a s)
  | [], a, k, _, _, _ => rfl
  | b :: s, a, k, h, ha, hk => by
    simp only [List.all_cons, Bool.and_eq_true] at h
    have h1 := isDg_le h.1
    have h2 : 10 ^ k ≤ 10 ^ 12 := Nat.pow_le_pow_right (by decide) (by simp at hk; omega)
    simp only [Lib.parseUint10]
    rw [if_pos h1, if_neg (by omega), if_neg (by omega)]
    have e : a * 10 + (b.toNat - 48) = 10 * a + (b.toNat - 48) := by omega
    rw [e]
    exact parse_ok (k := k + 1) h.2 (by rw [Nat.pow_succ]; omega) (by simp at hk; omega)
theorem atoi_num {s : Str} (h : numOk s = true) : Lib.atoiAll s = .ok (numV s) := by
  simp only [numOk, Bool.and_eq_true, decide_eq_true_eq] at h
  obtain ⟨⟨⟨h1, h2⟩, h3⟩, h4⟩ := h
  cases s with
  | nil => simp at h1
  | cons c r =>
    have hc : 48 ≤ c.toNat ∧ c.toNat ≤ 57 := isDg_le (by simp only [List.all_cons, Bool.and_eq_true] at h3; exact h3.1)
    have hv : numV (c :: r) < 10 ^ 6 := numV_lt h3 h2
    have hp : Lib.parseMag (c :: r) = .ok (numV (c :: r)) := by
      unfold Lib.parseMag
      rw [if_neg (by simp)]
      exact parse_ok (k := 0) h3 (by decide) (by simp at h2 ⊢; omega)
    unfold Lib.atoiAll
    simp only
    rw [if_neg (by omega), hp]
    simp only
    rw [if_neg (by omega), if_neg (by omega), if_neg (by omega)]
theorem num_atoi {s : Str} {v : Int} (h : Lib.atoiAll s = .ok v) : num s = if inB v 0 999999 && (dig v.toNat == s) then some v.toNat else none := by
  unfold num
  by_cases hn : numOk s = true
  · rw [if_pos hn]
    have e := atoi_num hn
    rw [h] at e
    obtain rfl : v = (numV s : Int) := by injection e
    have hn2 := hn
    simp only [numOk, Bool.and_eq_true, decide_eq_true_eq] at hn2
    have hv : numV s < 10 ^ 6 := numV_lt hn2.1.2 hn2.1.1.2
    rw [Int.toNat_natCast, hn2.2]
    have : inB (numV s : Int) 0 999999 = true := by rw [inB_iff]; omega
    rw [this]; rfl
  · rw [if_neg hn]
    by_cases hv : inB v 0 999999 = true
    · by_cases hd : (dig v.toNat == s) = true
      · exfalso
        have e : dig v.toNat = s := by simpa using hd
        rw [inB_iff] at hv
        have := (numOk_dig (n := v.toNat) (by omega)).1
        rw [e] at this
        exact hn this
      · simp [hd]
    · simp [hv]
theorem num_fail {s : Str} (h : ∀ v, Lib.atoiAll s ≠ .ok v) : num s = none := by
  unfold num
  rw [if_neg]
  intro hn
  exact h _ (atoi_num hn)
theorem num_lt {s : Str} {n : Nat} (h : num s = some n) : n ≤ 999999 := by
  unfold num at h
  split at h
  · rename_i hn
    simp only [numOk, Bool.and_eq_true, decide_eq_true_eq] at hn
    have hv : numV s < 10 ^ 6 := numV_lt hn.1.2 hn.1.1.2
    simp at h; omega
  · cases h
end Go.GH

set_option linter.unusedVariables false
set_option linter.unusedSimpArgs false
namespace Go.GH
open Go
def hexV (c : UInt8) : Int := fnd (fun b => b == c) hexD
theorem fnd_cons {α : Type} {p : α → Bool} {b : α} {l : List α} : fnd p (b :: l) = if p b then 0 else if fnd p l = -1 then -1 else fnd p l + 1 := by
  unfold fnd
  cases hb : p b
  · simp only [List.any_cons, hb, Bool.false_or, List.findIdx_cons, Bool.false_eq_true, if_false, cond_false]
    split
    · rw [if_neg (by omega)]; rfl
    · rfl
  · simp [List.findIdx_cons, hb]
theorem indexByte_fnd (c : UInt8) : ∀ (l : List UInt8), Lib.indexByte l c = fnd (fun b => b == c) l
  | [] => rfl
  | b :: l => by
    rw [Lib.indexByte, fnd_cons, indexByte_fnd c l]
    split
    · rfl
    · simp only [beq_iff_eq]
theorem indexByte_hex (c : UInt8) : Lib.indexByte hexD c = hexV c := indexByte_fnd c hexD
theorem hexV_range (c : UInt8) : -1 ≤ hexV c ∧ hexV c ≤ 15 := by
  refine ⟨fnd_ge.1, ?_⟩
  by_cases h : hexD.any (fun b => b == c) = true
  · obtain ⟨x, hx, _⟩ := fnd_get h
    have := lt_of_get hx
    have e : hexD.length = 16 := rfl
    unfold hexV
    omega
  · have : hexV c = -1 := fnd_none (Bool.eq_false_iff.2 h)
    omega
def hexB (a b : UInt8) : UInt8 := UInt8.ofNat (16 * (hexV a).toNat + (hexV b).toNat)
def unhex : Str → Option Str
  | [] => some []
  | [_] => none
  | a :: b :: r => if (decide (hexV a < 0) || decide (hexV b < 0)) = true then none else (unhex r).map (hexB a b :: ·)
theorem unhex_odd : ∀ (s : Str), s.length % 2 = 1 → unhex s = none
  | [], h => by simp at h
  | [_], _ => rfl
  | a :: b :: r, h => by
    rw [unhex, unhex_odd r (by simp at h; omega)]
    split <;> rfl
theorem unhex_len : ∀ (s d : Str), unhex s = some d → 2 * d.length = s.length
  | [], d, h => by simp [unhex] at h; subst h; rfl
  | [_], d, h => by simp [unhex] at h
  | a :: b :: r, d, h => by
    rw [unhex] at h
    split at h
    · cases h
    · cases hr : unhex r with
      | none => rw [hr] at h; cases h
      | some e =>
        rw [hr] at h
        simp only [Option.map_some, Option.some.injEq] at h
        subst h
        have := unhex_len r e hr
        simp; omega
theorem drop_two {s : Str} {i : Nat} {a b : UInt8} (ha : s[i]? = some a) (hb : s[i + 1]? = some b) : s.drop i = a :: b :: s.drop (i + 2) := by
  have h1 := lt_of_get ha
  have h2 := lt_of_get hb
  rw [List.drop_eq_getElem_cons h1, List.drop_eq_getElem_cons h2]
  rw [List.getElem?_eq_getElem h1] at ha
  rw [List.getElem?_eq_getElem h2] at hb
  simp only [Option.some.injEq] at ha hb
  rw [ha, hb]
def HexInv (s : Str) (i : Nat) (out : Str) : Prop := i ≤ s.length ∧ i % 2 = 0 ∧ out.length ≤ i ∧ unhex s = (unhex (s.drop i)).map (out ++ ·)
theorem HexInv.zero (s : Str) : HexInv s 0 [] := ⟨by omega, rfl, by simp, by rw [List.drop_zero]; cases unhex s <;> simp⟩
theorem HexInv.bad {s : Str} {i : Nat} {out : Str} (h : HexInv s i out) {a b : UInt8} (ha : s[i]? = some a) (hb : s[i + 1]? = some b) (hn : (decide (hexV a < 0) || decide (hexV b < 0)) = true) : unhex s = none := by
  rw [h.2.2.2, drop_two ha hb, unhex, if_pos hn]; rfl
theorem HexInv.next {s : Str} {i : Nat} {out : Str} (h : HexInv s i out) {a b : UInt8} (ha : s[i]? = some a) (hb : s[i + 1]? = some b) (hn : (decide (hexV a < 0) || decide (hexV b < 0)) = false) : HexInv s (i + 2) (out ++ [hexB a b]) := by
  obtain ⟨h1, h2, h3, h4⟩ := h
  have := lt_of_get hb
  refine ⟨by omega, by omega, by simp; omega, ?_⟩
  rw [h4, drop_two ha hb, unhex, if_neg (by simp [hn])]
  cases unhex (s.drop (i + 2)) <;> simp
theorem HexInv.fin {s out : Str} (h : HexInv s s.length out) : unhex s = some out := by
  rw [h.2.2.2, List.drop_length]; simp [unhex]
theorem or16' : ∀ x y : Fin 16, (BitVec.ofNat 64 (x.val * 16) ||| BitVec.ofNat 64 y.val).toNat = 16 * x.val + y.val := by decide
theorem or16 {x y : Int} (hx : 0 ≤ x ∧ x ≤ 15) (hy : 0 ≤ y ∧ y ≤ 15) : IntKind.i64.wrap (((BitVec.ofInt 64 (x * 16) ||| BitVec.ofInt 64 y).toNat : Nat) : Int) = 16 * x + y := by
  obtain ⟨a, rfl⟩ : ∃ a : Nat, x = a := ⟨x.toNat, by omega⟩
  obtain ⟨b, rfl⟩ : ∃ b : Nat, y = b := ⟨y.toNat, by omega⟩
  have h := or16' ⟨a, by omega⟩ ⟨b, by omega⟩
  simp only at h
  have e1 : BitVec.ofInt 64 ((a : Int) * 16) = BitVec.ofNat 64 (a * 16) := by
    rw [← BitVec.ofInt_natCast]; congr 1
  have e2 : BitVec.ofInt 64 (b : Int) = BitVec.ofNat 64 b := BitVec.ofInt_natCast 64 b
  rw [e1, e2, h]
  exact w64 (a := ((16 * a + b : Nat) : Int)) (by omega)
theorem hexB_val {a b : UInt8} (hx : 0 ≤ hexV a ∧ hexV a ≤ 15) (hy : 0 ≤ hexV b ∧ hexV b ≤ 15) : IntKind.u8.wrap (16 * hexV a + hexV b) = ((hexB a b).toNat : Int) := by
  unfold hexB
  obtain ⟨x, hx'⟩ : ∃ x : Nat, hexV a = x := ⟨(hexV a).toNat, by omega⟩
  obtain ⟨y, hy'⟩ : ∃ y : Nat, hexV b = y := ⟨(hexV b).toNat, by omega⟩
  rw [hx', hy', Int.toNat_natCast, Int.toNat_natCast, UInt8.toNat_ofNat']
  rfl
def opRaw (w : List Str) : OpR := ⟨((num (w.getD 0 [])).getD 0 : Nat), w.getD 1 [], w.getD 2 [], ((num (w.getD 3 [])).getD 0 : Nat), (unhex (w.getD 5 [])).getD [], ((num (w.getD 4 [])).getD 0 : Nat)⟩
def opGood (s : Str) (w : List Str) : Bool := decide (w.length = 6) && (num (w.getD 0 [])).isSome && (num (w.getD 3 [])).isSome && (num (w.getD 4 [])).isSome && (unhex (w.getD 5 [])).isSome && (opText (opRaw w) == s)
def opOf (s : Str) : Option OpR := if opGood s (splitBy 32 s) then some (opRaw (splitBy 32 s)) else none
theorem six {l : List Str} (h : l.length = 6) : ∃ a b c d e f, l = [a, b, c, d, e, f] := by
  match l, h with
  | [a, b, c, d, e, f], _ => exact ⟨a, b, c, d, e, f, rfl⟩
theorem opOf_no {s : Str} (h : opGood s (splitBy 32 s) = false) : opOf s = none := by rw [opOf, if_neg]; simp [h]
theorem opOf_yes {s : Str} (h : opGood s (splitBy 32 s) = true) : opOf s = some (opRaw (splitBy 32 s)) := by rw [opOf, if_pos h]
theorem opOf_text {s : Str} {o : OpR} (h : opOf s = some o) : opText o = s := by
  unfold opOf at h
  split at h
  · rename_i hg
    simp only [Option.some.injEq] at h
    subst h
    simp only [opGood, Bool.and_eq_true, beq_iff_eq] at hg
    exact hg.2
  · cases h
end Go.GH

namespace Go.Proofs
open Go.Shelf
def Tryd.lays137_ren : Go.Shelf.Ren := ⟨fun | 137 => 60 | 217 => 75 | 266 => 88 | n => n, fun | 9 => 9 | 5 => 5 | 3 => 3 | n => n, fun | n => n⟩
theorem Tryd.lays137 : Go.Proofs.Lays.n137 Tryd.prog Tryd.lays137_ren := {
  mixed := by kernel_rfl
  f137 := Tryd.func60.trans (congrArg some (by kernel_rfl))
  f217 := Tryd.func75.trans (congrArg some (by kernel_rfl))
  f266 := Tryd.func88.trans (congrArg some (by kernel_rfl))
  t3 := Tryd.underlying3
  a3 := Tryd.isAgg3
  z3 := Tryd.sizeOf3
  v3 := Tryd.zeroValue3
  t5 := Tryd.underlying5
  a5 := Tryd.isAgg5
  z5 := Tryd.sizeOf5
  v5 := Tryd.zeroValue5
  t9 := Tryd.underlying9
  a9 := Tryd.isAgg9
  z9 := Tryd.sizeOf9
  v9 := Tryd.zeroValue9 }
open Go.RowKit in
theorem Tryd.strings_IndexByte (s : ByteArray) (c : Int) (w : World) :
    Calls Tryd.prog 60 #[.string s, .int .u8 c] w fun e w' => e = .returned (.int .i64 (Lib.indexByte s.data.toList c.toNat.toUInt8)) ∧ w' = w := Any.strings_IndexByte Tryd.lays137 s c w
def Tryd.laysC172_ren : Go.Shelf.Ren := ⟨fun | 172 => 59 | 244 => 73 | 245 => 74 | 247 => 83 | 279 => 84 | 280 => 85 | 281 => 86 | 282 => 87 | 287 => 97 | 316 => 98 | 171 => 58 | 205 => 99 | 321 => 106 | 322 => 107 | 243 => 72 | 246 => 82 | 283 => 93 | 284 => 94 | 285 => 95 | 286 => 96 | 129 => 102 | 317 => 101 | 318 => 103 | 319 => 104 | 320 => 105 | 337 => 108 | 338 => 109 | n => n, fun | 9 => 9 | 3 => 3 | 75 => 78 | 76 => 79 | 4 => 4 | 5 => 5 | 167 => 97 | 37 => 43 | 0 => 0 | 85 => 98 | 2 => 2 | 168 => 100 | 53 => 106 | 175 => 111 | 46 => 81 | 210 => 114 | 127 => 88 | 145 => 127 | 143 => 125 | 21 => 21 | 171 => 105 | 173 => 109 | 212 => 120 | 51 => 116 | 20 => 20 | 213 => 121 | 232 => 129 | 233 => 130 | 80 => 50 | n => n, fun | 15 => 1 | 16 => 2 | 17 => 3 | 18 => 4 | 19 => 5 | n => n⟩
theorem Tryd.laysC172 : Go.Proofs.LaysC.n172 Tryd.prog Tryd.laysC172_ren := {
  mixed := by kernel_rfl
  f129 := Tryd.func102.trans (congrArg some (by kernel_rfl))
  f171 := Tryd.func58.trans (congrArg some (by kernel_rfl))
  f172 := Tryd.func59.trans (congrArg some (by kernel_rfl))
  f205 := Tryd.func99.trans (congrArg some (by kernel_rfl))
  f243 := Tryd.func72.trans (congrArg some (by kernel_rfl))
  f244 := Tryd.func73.trans (congrArg some (by kernel_rfl))
  f245 := Tryd.func74.trans (congrArg some (by kernel_rfl))
  f246 := Tryd.func82.trans (congrArg some (by kernel_rfl))
  f247 := Tryd.func83.trans (congrArg some (by kernel_rfl))
  f279 := Tryd.func84.trans (congrArg some (by kernel_rfl))
  f280 := Tryd.func85.trans (congrArg some (by kernel_rfl))
  f281 := Tryd.func86.trans (congrArg some (by kernel_rfl))
  f282 := Tryd.func87.trans (congrArg some (by kernel_rfl))
  f283 := Tryd.func93.trans (congrArg some (by kernel_rfl))
  f284 := Tryd.func94.trans (congrArg some (by kernel_rfl))
  f285 := Tryd.func95.trans (congrArg some (by kernel_rfl))
  f286 := Tryd.func96.trans (congrArg some (by kernel_rfl))
  f287 := Tryd.func97.trans (congrArg some (by kernel_rfl))
  f316 := Tryd.func98.trans (congrArg some (by kernel_rfl))
  f317 := Tryd.func101.trans (congrArg some (by kernel_rfl))
  f318 := Tryd.func103.trans (congrArg some (by kernel_rfl))
  f319 := Tryd.func104.trans (congrArg some (by kernel_rfl))
  f320 := Tryd.func105.trans (congrArg some (by kernel_rfl))
  f321 := Tryd.func106.trans (congrArg some (by kernel_rfl))
  f322 := Tryd.func107.trans (congrArg some (by kernel_rfl))
  f337 := Tryd.func108.trans (congrArg some (by kernel_rfl))
  f338 := Tryd.func109.trans (congrArg some (by kernel_rfl))
  t0 := Tryd.underlying0
  a0 := Tryd.isAgg0
  z0 := Tryd.sizeOf0
  v0 := Tryd.zeroValue0
  t2 := Tryd.underlying2
  a2 := Tryd.isAgg2
  z2 := Tryd.sizeOf2
  v2 := Tryd.zeroValue2
  t3 := Tryd.underlying3
  a3 := Tryd.isAgg3
  z3 := Tryd.sizeOf3
  v3 := Tryd.zeroValue3
  t4 := Tryd.underlying4
  a4 := Tryd.isAgg4
  z4 := Tryd.sizeOf4
  v4 := Tryd.zeroValue4
  t5 := Tryd.underlying5
  a5 := Tryd.isAgg5
  z5 := Tryd.sizeOf5
  v5 := Tryd.zeroValue5
  t9 := Tryd.underlying9
  a9 := Tryd.isAgg9
  z9 := Tryd.sizeOf9
  v9 := Tryd.zeroValue9
  t20 := Tryd.underlying20
  a20 := Tryd.isAgg20
  z20 := Tryd.sizeOf20
  v20 := Tryd.zeroValue20
  t21 := Tryd.underlying21
  a21 := Tryd.isAgg21
  z21 := Tryd.sizeOf21
  v21 := Tryd.zeroValue21
  t37 := Tryd.underlying43
  a37 := Tryd.isAgg43
  z37 := Tryd.sizeOf43
  v37 := Tryd.zeroValue43
  t46 := Tryd.underlying81
  a46 := Tryd.isAgg81
  z46 := Tryd.sizeOf81
  v46 := Tryd.zeroValue81
  t51 := Tryd.underlying116
  a51 := Tryd.isAgg116
  z51 := Tryd.sizeOf116
  v51 := Tryd.zeroValue116
  t53 := Tryd.underlying106
  a53 := Tryd.isAgg106
  z53 := Tryd.sizeOf106
  v53 := Tryd.zeroValue106
  t75 := Tryd.underlying78
  a75 := Tryd.isAgg78
  z75 := Tryd.sizeOf78
  v75 := Tryd.zeroValue78
  t76 := Tryd.underlying79
  a76 := Tryd.isAgg79
  z76 := Tryd.sizeOf79
  v76 := Tryd.zeroValue79
  t85 := Tryd.underlying98
  a85 := Tryd.isAgg98
  z85 := Tryd.sizeOf98
  v85 := Tryd.zeroValue98
  t127 := Tryd.underlying88
  a127 := Tryd.isAgg88
  z127 := Tryd.sizeOf88
  v127 := Tryd.zeroValue88
  t143 := Tryd.underlying125
  a143 := Tryd.isAgg125
  z143 := Tryd.sizeOf125
  v143 := Tryd.zeroValue125
  t145 := Tryd.underlying127
  a145 := Tryd.isAgg127
  z145 := Tryd.sizeOf127
  v145 := Tryd.zeroValue127
  t167 := Tryd.underlying97
  a167 := Tryd.isAgg97
  z167 := Tryd.sizeOf97
  v167 := Tryd.zeroValue97
  t168 := Tryd.underlying100
  a168 := Tryd.isAgg100
  z168 := Tryd.sizeOf100
  v168 := Tryd.zeroValue100
  t171 := Tryd.underlying105
  a171 := Tryd.isAgg105
  z171 := Tryd.sizeOf105
  v171 := Tryd.zeroValue105
  t173 := Tryd.underlying109
  a173 := Tryd.isAgg109
  z173 := Tryd.sizeOf109
  v173 := Tryd.zeroValue109
  t175 := Tryd.underlying111
  a175 := Tryd.isAgg111
  z175 := Tryd.sizeOf111
  v175 := Tryd.zeroValue111
  t210 := Tryd.underlying114
  a210 := Tryd.isAgg114
  z210 := Tryd.sizeOf114
  v210 := Tryd.zeroValue114
  t212 := Tryd.underlying120
  a212 := Tryd.isAgg120
  z212 := Tryd.sizeOf120
  v212 := Tryd.zeroValue120
  t213 := Tryd.underlying121
  a213 := Tryd.isAgg121
  z213 := Tryd.sizeOf121
  t232 := Tryd.underlying129
  a232 := Tryd.isAgg129
  z232 := Tryd.sizeOf129
  v232 := Tryd.zeroValue129
  t233 := Tryd.underlying130
  a233 := Tryd.isAgg130
  z233 := Tryd.sizeOf130
  v233 := Tryd.zeroValue130
  g15 := by kernel_rfl
  g16 := by kernel_rfl
  g17 := by kernel_rfl
  g18 := by kernel_rfl
  g19 := by kernel_rfl
  t80 := Tryd.underlying50
  a80 := Tryd.isAgg50
  z80 := Tryd.sizeOf50
  v80 := Tryd.zeroValue50
  i0 := by kernel_rfl
  i2 := by kernel_rfl
  i3 := by kernel_rfl
  i4 := by kernel_rfl
  i5 := by kernel_rfl
  i9 := by kernel_rfl
  i20 := by kernel_rfl
  i21 := by kernel_rfl
  i37 := by kernel_rfl
  i46 := by kernel_rfl
  i51 := by kernel_rfl
  i53 := by kernel_rfl
  i75 := by kernel_rfl
  i76 := by kernel_rfl
  i80 := by kernel_rfl
  i85 := by kernel_rfl
  i127 := by kernel_rfl
  i143 := by kernel_rfl
  i145 := by kernel_rfl
  i167 := by kernel_rfl
  i168 := by kernel_rfl
  i171 := by kernel_rfl
  i173 := by kernel_rfl
  i175 := by kernel_rfl
  i210 := by kernel_rfl
  i212 := by kernel_rfl
  i232 := by kernel_rfl
  i233 := by kernel_rfl
  m15 := by kernel_rfl
  m16 := by kernel_rfl
  m17 := by kernel_rfl
  m18 := by kernel_rfl
  m19 := by kernel_rfl
  c0 := by kernel_rfl
  c2 := by kernel_rfl
  c3 := by kernel_rfl
  c4 := by kernel_rfl
  c5 := by kernel_rfl
  c9 := by kernel_rfl
  c20 := by kernel_rfl
  c21 := by kernel_rfl
  c37 := by kernel_rfl
  c46 := by kernel_rfl
  c51 := by kernel_rfl
  c53 := by kernel_rfl
  c75 := by kernel_rfl
  c76 := by kernel_rfl
  c80 := by kernel_rfl
  c85 := by kernel_rfl
  c127 := by kernel_rfl
  c143 := by kernel_rfl
  c145 := by kernel_rfl
  c167 := by kernel_rfl
  c168 := by kernel_rfl
  c171 := by kernel_rfl
  c173 := by kernel_rfl
  c175 := by kernel_rfl
  c210 := by kernel_rfl
  c212 := by kernel_rfl
  c213 := by kernel_rfl
  c232 := by kernel_rfl
  c233 := by kernel_rfl }
open Go.RowKit in
theorem Tryd.strconv_Atoi_ok (s : ByteArray) (hmax : s.size ≤ 9223372036854775806) (v : Int) (h : Lib.atoiAll s.data.toList = .ok v) (w : World) :
    Calls Tryd.prog 59 #[.string s] w fun e w' => e = .returned (.tuple #[.int .i64 v, .nilIface]) ∧ (w' = w ∨ ∃ t, w' = Lib.bytesWorld w 5 t) := Any.strconv_Atoi_ok Tryd.laysC172 s hmax v h w
end Go.Proofs

set_option linter.unusedVariables false
set_option linter.unusedSimpArgs false
namespace Go.GH
open Go Go.Proofs
theorem toB_hex : (toB hexD).data.toList = hexD := rfl
def c_strings_IndexByte : PCon := con [mC, mC] true UInt8 (fun c => [.str hexD, .int .u8 c.toNat]) (fun _ => True) (fun c => .int .i64 (hexV c))
theorem ok_strings_IndexByte : ConOk Tryd.prog 60 c_strings_IndexByte := by
  refine con_of_calls rfl (fun _ => rfl) (fun _ => rfl) (fun _ => rfl) (fun x _ => ⟨trivial, trivial, trivial⟩) Tryd.call60 ?_
  intro (c : UInt8) hpre y w args ρ hw hR hsz hs
  have h0 := srep_str (hs 0 _ rfl)
  have h1 := srep_int (hs 1 _ rfl)
  have hsz : args.size = 2 := hsz
  have ha : args = #[.string (toB hexD), .int .u8 c.toNat] := by
    apply Array.ext
    · simp [hsz]
    · intro i hi1 hi2
      have : i = 0 ∨ i = 1 := by omega
      rcases this with rfl | rfl
      · rw [Array.getD_eq_getD_getElem?, Array.getElem?_eq_getElem hi1] at h0; simpa [bytesV, toB] using h0
      · rw [Array.getD_eq_getD_getElem?, Array.getElem?_eq_getElem hi1] at h1; simpa using h1
  rw [ha]
  refine (Tryd.strings_IndexByte (toB hexD) c.toNat w).mono ?_
  rintro e w' ⟨rfl, rfl⟩
  refine ⟨?_, RowKit.Below.refl _ _⟩
  rw [toB_hex, Int.toNat_natCast, show c.toNat.toUInt8 = c by simp, indexByte_hex]
  rfl
def gwErr (w : World) : Prop := gwTab w ∧ (∃ t a, w.cell? ⟨1, 0, none⟩ = some (.iface t a)) ∧ ∃ t a, w.cell? ⟨2, 0, none⟩ = some (.iface t a)
def atoiZ (s : Str) : Int := match Lib.atoiAll s with
  | .ok v => v
  | .range => Lib.atoiSat s
  | _ => 0
def atoiR (s : Str) (v : Option Int) : AV := match v with
  | some v => .tup [.int .i64 v, .nilI]
  | none => .tup [.int .i64 (atoiZ s), .someI]
def c_strconv_Atoi : PCon := conG gwErr [mC] true (Str × Option Int) (fun x => [.str x.1]) (fun x => x.1.length ≤ 16777216 ∧ ∀ v, (x.2 = some v ↔ Lib.atoiAll x.1 = .ok v)) (fun x => atoiR x.1 x.2)
theorem ok_strconv_Atoi : ConOk Tryd.prog 59 c_strconv_Atoi := by
  refine con_of_callsG rfl (fun _ => rfl) (fun x => by obtain ⟨s, v⟩ := x; cases v <;> rfl) (fun _ => rfl) (fun x _ => ⟨trivial, trivial⟩) Tryd.call59 ?_
  rintro ⟨s, v⟩ hpre y w args ρ hg hw hR hsz hs
  obtain ⟨hl, hv⟩ : s.length ≤ 16777216 ∧ ∀ u, (v = some u ↔ Lib.atoiAll s = .ok u) := hpre
  obtain ⟨_, ⟨t1, a1, g1⟩, t2, a2, g2⟩ : gwErr w := hg
  have h0 := srep_str (hs 0 _ rfl)
  have hsz : args.size = 1 := hsz
  have ha : args = #[.string (toB s)] := by
    apply Array.ext
    · simp [hsz]
    · intro i hi1 hi2
      have : i = 0 := by omega
      subst this
      rw [Array.getD_eq_getD_getElem?, Array.getElem?_eq_getElem hi1] at h0; simpa [bytesV, toB] using h0
  rw [ha]
  have hsize : (toB s).size = s.length := rfl
  cases hq : Lib.atoiAll s
  · rename_i u
    obtain rfl := (hv u).2 hq
    refine (Tryd.strconv_Atoi_ok (toB s) (by omega) u hq w).mono ?_
    rintro e w' ⟨rfl, hw'⟩
    refine ⟨_, rfl, fun _ _ _ _ => .tup rfl fun i c hi => ?_, ?_⟩
    · match i, hi with
      | 0, hi => obtain rfl := Option.some.inj hi; exact .cell .int
      | 1, hi => obtain rfl := Option.some.inj hi; exact .cell .nilI
    · rcases hw' with rfl | ⟨t, rfl⟩
      · exact RowKit.Below.refl _ _
      · exact Lib.bytesWorld_below _ _ _
  · obtain rfl : v = none := by
      cases v with
      | none => rfl
      | some u => have := (hv u).1 rfl; rw [hq] at this; cases this
    have hz : atoiZ s = 0 := by unfold atoiZ; rw [hq]
    refine (Any.strconv_Atoi_syntax Tryd.laysC172 (toB s) (by omega) hq (.iface t1 a1) w g1 (.inr ⟨_, _, rfl⟩)).mono ?_
    rintro e w' ⟨N, rfl, _, _, hb⟩
    refine ⟨_, rfl, fun _ _ _ _ => .tup rfl fun i c hi => ?_, hb⟩
    match i, hi with
    | 0, hi => obtain rfl := Option.some.inj hi; rw [hz]; exact .cell .int
    | 1, hi => obtain rfl := Option.some.inj hi; exact .someI
  · obtain rfl : v = none := by
      cases v with
      | none => rfl
      | some u => have := (hv u).1 rfl; rw [hq] at this; cases this
    have hz : atoiZ s = Lib.atoiSat s := by unfold atoiZ; rw [hq]
    refine (Any.strconv_Atoi_range Tryd.laysC172 (toB s) (by omega) hq (.iface t2 a2) w g2 (.inr ⟨_, _, rfl⟩)).mono ?_
    rintro e w' ⟨N, rfl, _, _, hb⟩
    refine ⟨_, rfl, fun _ _ _ _ => .tup rfl fun i c hi => ?_, hb⟩
    match i, hi with
    | 0, hi => obtain rfl := Option.some.inj hi; rw [hz]; exact .cell .int
    | 1, hi => obtain rfl := Option.some.inj hi; exact .someI
noncomputable def c_spec_l26Sign : PCon := con [mC] true UInt8 (fun c => [.int .u8 c.toNat]) (fun _ => True) (fun c => .int .i64 (hexV c))
noncomputable def E_spec_l26Sign : Env := ⟨lookup tyTab, lookup [(31, c_spec_l26Signs)], [0, 2, 3, 5, 12]⟩
set_option maxRecDepth 100000 in
set_option maxHeartbeats 4000000 in
theorem m_spec_l26Sign : Meets E_spec_l26Sign (codeOf Tryd.f39) Tryd.f39.results.toList c_spec_l26Sign := by
  intro (c : UInt8) _
  refine ⟨trivial, ?_⟩
  skip
  refine loop_rule (fun i : Nat => ⟨[(0, ⟨none, .int .u8 c.toNat⟩), (3, ⟨none, .int .i64 i⟩)], [], 0⟩)
    (fun i => i ≤ 16 ∧ (hexD.take i).any (fun b => b == c) = false) (fun i => 16 - i) 0 ?_ ⟨by omega, rfl⟩ ?_
  · (refine ⟨?_, ?_, rfl⟩ <;> repeat' (first | exact rfl | exact trivial | refine ⟨?_, ?_⟩ | fail) <;> (conv => whnf))
  rintro i ⟨hi, hI⟩
  (conv => whnf); refine ⟨fun h2 => ?_, fun h2 => ?_⟩
  · have h2 : i < 16 := by
      have : (i : Int) < 16 := by simpa using h2
      omega
    have hb := hx_get h2
    skip
    refine ⟨(), rfl, fun _ => trivial, ?_⟩
    skip
    refine ⟨hx i, fun _ => ⟨Int.natCast_nonneg _, hb⟩, ?_⟩
    (conv => whnf); refine ⟨fun h3 => ?_, fun h3 => ?_⟩
    · have h3 : (hx i == c) = true := by simpa using byteEq.1 h3
      skip
      exact ⟨trivial, eqN' (fnd_hit hI hb h3).symm⟩
    · have h3 : (hx i == c) = false := by
        rw [Bool.eq_false_iff]
        intro e
        have e : hx i = c := by simpa using e
        rw [byteEq.2 e] at h3
        cases h3
      repeat ((conv => whnf); refine ⟨_, w64 (by (show (_ : Prop)); first | omega | ((try dsimp only at *); (try simp only [lns] at *); omega)), ?_⟩)
      refine again (i + 1) ?_ ⟨h2, any_take_succ hI hb h3⟩ (by first | omega | (simp; done) | (simp; omega))
      (refine ⟨?_, ?_, rfl⟩ <;> repeat' (first | exact rfl | exact trivial | refine ⟨?_, ?_⟩ | fail) <;> (conv => whnf))
  · have h2 : i = 16 := by
      have : ¬ (i : Int) < 16 := by simpa using h2
      omega
    subst h2
    skip
    exact ⟨trivial, eqN' (fnd_none (p := fun b => b == c) (l := hexD) hI).symm⟩
theorem ok_spec_l26Sign : ConOk Tryd.prog 39 c_spec_l26Sign := meets_ok (tabT _ _) (FOk.cons ok_spec_l26Signs FOk.nil) mixed Tryd.func39 rfl Tryd.call39 (by decide) (by kernel_rfl) m_spec_l26Sign (by intro _ (y : UInt8) _; exact ⟨by simp [c_spec_l26Sign, con, conG, conW, AV.noRd, noRdCells, noRdRows, noRdRows_map', encS, encO], by simp [c_spec_l26Sign, con, conG, conW, AV.noRd, noRdCells, noRdRows, noRdRows_map', encS, encO]⟩) (by intro (y : UInt8) _; first | (simp [c_spec_l26Sign, con, conG, conW, conP, AV.free, freeCells, freeRows, freeRows_map, encS, encO]; done) | (obtain ⟨_, _⟩ := y; simp [c_spec_l26Sign, con, conG, conW, conP, AV.free, freeCells, freeRows, freeRows_map, encS, encO]; done) | (obtain ⟨_, _, _⟩ := y; simp [c_spec_l26Sign, con, conG, conW, conP, AV.free, freeCells, freeRows, freeRows_map, encS, encO]; done))
noncomputable def c_spec_Number : PCon := con [mC] false Str encS (fun s => s.length ≤ 16777216) (fun s => .tup [.int .i64 ((num s).getD 0 : Nat), .bool (num s).isSome])
noncomputable def E_spec_Number : Env := ⟨lookup tyTab, lookup [(30, c_spec_Digits)], [0, 2, 3, 4, 5, 13, 17, 29, 41]⟩
set_option maxRecDepth 100000 in
set_option maxHeartbeats 4000000 in
theorem m_spec_Number : Meets E_spec_Number (codeOf Tryd.f38) Tryd.f38.results.toList c_spec_Number := by
  intro (s : Str) (hs : s.length ≤ 16777216)
  refine ⟨trivial, ?_⟩
  repeat ((conv => whnf); refine ⟨fun h => h, ?_⟩)
  (conv => whnf); refine ⟨fun h1 => ?_, fun h1 => ?_⟩
  · have hn : num s = none := by
      have h1 : (decide ((s.length : Int) < 1) || decide ((s.length : Int) > 6)) = true := h1
      unfold num
      rw [if_neg]
      unfold numOk
      simp at h1
      intro h
      simp only [Bool.and_eq_true, decide_eq_true_eq] at h
      omega
    skip
    exact ⟨trivial, eqN' (by rw [hn]; rfl), eqB (by rw [hn]; rfl), trivial⟩
  have h1 : 1 ≤ s.length ∧ s.length ≤ 6 := by
    have h1 : (decide ((s.length : Int) < 1) || decide ((s.length : Int) > 6)) = false := h1
    simp at h1; omega
  skip
  refine loop_rule (fun i : Nat => ⟨[(0, ⟨none, .str s⟩), (4, ⟨none, .int .i64 (numV (s.take i))⟩), (5, ⟨none, .int .i64 i⟩)], [], 0⟩)
    (fun i => i ≤ s.length ∧ (s.take i).all isDg = true) (fun i => s.length - i) 0 ?_ ⟨by omega, rfl⟩ ?_
  · (refine ⟨?_, ?_, rfl⟩ <;> repeat' (first | exact rfl | exact trivial | refine ⟨?_, ?_⟩ | fail) <;> (conv => whnf))
  rintro i ⟨hi, hI⟩
  have hv : numV (s.take i) < 10 ^ 6 := numV_lt hI (by rw [List.length_take]; omega)
  (conv => whnf); refine ⟨fun h2 => ?_, fun h2 => ?_⟩
  · have h2 : i < s.length := by simpa using h2
    obtain ⟨b, hb⟩ := get_lt h2
    skip
    refine ⟨b, fun _ => ⟨Int.natCast_nonneg _, hb⟩, ?_⟩
    repeat ((conv => whnf); refine ⟨fun h => h, ?_⟩)
    refine ⟨b, fun _ => ⟨Int.natCast_nonneg _, hb⟩, ?_⟩
    repeat ((conv => whnf); refine ⟨fun h => h, ?_⟩)
    (conv => whnf); refine ⟨fun h3 => ?_, fun h3 => ?_⟩
    · have h3 : (decide ((b.toNat : Int) < 48) || decide ((b.toNat : Int) > 57)) = true := h3
      have hd : isDg b = false := by
        unfold isDg
        simp at h3 ⊢
        omega
      have hn : num s = none := by
        unfold num
        rw [if_neg]
        unfold numOk
        rw [all_no hb hd]
        simp
      skip
      exact ⟨trivial, eqN' (by rw [hn]; rfl), eqB (by rw [hn]; rfl), trivial⟩
    · have h3 : (decide ((b.toNat : Int) < 48) || decide ((b.toNat : Int) > 57)) = false := h3
      have hd : isDg b = true := by
        unfold isDg
        simp at h3 ⊢
        omega
      have hd2 := isDg_le hd
      have hsu := numV_succ hb
      repeat ((conv => whnf); refine ⟨_, w64 (by (show (_ : Prop)); first | omega | ((try dsimp only at *); (try simp only [lns] at *); omega)), ?_⟩)
      refine ⟨b, fun _ => ⟨Int.natCast_nonneg _, hb⟩, ?_⟩
      repeat ((conv => whnf); refine ⟨_, w64 (by (show (_ : Prop)); first | omega | ((try dsimp only at *); (try simp only [lns] at *); omega)), ?_⟩)
      refine again (i + 1) ?_ ⟨h2, all_take_succ hI hb hd⟩ (by first | omega | (simp; done) | (simp; omega))
      (refine ⟨?_, ?_, rfl⟩ <;> repeat' (first | exact rfl | exact trivial | refine ⟨?_, ?_⟩ | fail) <;> (conv => whnf))
      omega
  · have h2 : i = s.length := by
      have : ¬ i < s.length := by simpa using h2
      omega
    subst h2
    rw [List.take_length] at hI hv ⊢
    conv => whnf
    refine ⟨((numV s : Nat) : Int), rfl, fun _ => (show 0 ≤ (numV s : Int) ∧ (numV s : Int) ≤ 1000000000 by omega), ?_⟩
    have hn0 : numOk s = (dig (numV s) == s) := by
      unfold numOk
      rw [hI]
      simp [h1.1, h1.2]
    (conv => whnf); refine ⟨fun h3 => ?_, fun h3 => ?_⟩
    · have h3 : (!(dig (numV s) == s)) = true := h3
      have hn : num s = none := by
        unfold num
        rw [if_neg]
        rw [hn0]
        simpa using h3
      skip
      exact ⟨trivial, eqN' (by rw [hn]; rfl), eqB (by rw [hn]; rfl), trivial⟩
    · have h3 : (!(dig (numV s) == s)) = false := h3
      have hn : num s = some (numV s) := by
        unfold num
        rw [if_pos]
        rw [hn0]
        simpa using h3
      skip
      exact ⟨trivial, eqN' (by rw [hn]; rfl), eqB (by rw [hn]; rfl), trivial⟩
theorem ok_spec_Number : ConOk Tryd.prog 38 c_spec_Number := meets_ok (tabT _ _) (FOk.cons ok_spec_Digits FOk.nil) mixed Tryd.func38 rfl Tryd.call38 (by decide) (by kernel_rfl) m_spec_Number (by intro _ (y : Str) _; exact ⟨by simp [c_spec_Number, con, conG, conW, AV.noRd, noRdCells, noRdRows, noRdRows_map', encS, encO], by simp [c_spec_Number, con, conG, conW, AV.noRd, noRdCells, noRdRows, noRdRows_map', encS, encO]⟩) (by intro (y : Str) _; first | (simp [c_spec_Number, con, conG, conW, conP, AV.free, freeCells, freeRows, freeRows_map, encS, encO]; done) | (obtain ⟨_, _⟩ := y; simp [c_spec_Number, con, conG, conW, conP, AV.free, freeCells, freeRows, freeRows_map, encS, encO]; done) | (obtain ⟨_, _, _⟩ := y; simp [c_spec_Number, con, conG, conW, conP, AV.free, freeCells, freeRows, freeRows_map, encS, encO]; done))
noncomputable def c_impl_Number : PCon := conG gwErr [mC] false Str encS (fun s => s.length ≤ 16777216) (fun s => .tup [.int .i64 ((num s).getD 0 : Nat), .bool (num s).isSome])
noncomputable def E_impl_Number : Env := ⟨lookup tyTab, lookup [(35, c_impl_Digits), (53, c_impl_within), (59, c_strconv_Atoi)], [0, 2, 3, 4, 5, 23]⟩
set_option maxRecDepth 100000 in
set_option maxHeartbeats 4000000 in
theorem m_impl_Number : Meets E_impl_Number (codeOf Tryd.f41) Tryd.f41.results.toList c_impl_Number := by
  intro (s : Str) (hs : s.length ≤ 16777216)
  refine ⟨trivial, ?_⟩
  by_cases hq : ∃ v, Lib.atoiAll s = .ok v
  · obtain ⟨v, hq⟩ := hq
    have hn := num_atoi hq
    conv => whnf
    refine ⟨(s, some v), rfl, fun _ => ⟨hs, fun u => by rw [hq]; exact ⟨fun e => by rw [Option.some.inj e], fun e => by injection e with e; rw [e]⟩⟩, ?_⟩
    repeat ((conv => whnf); refine ⟨fun h => h, ?_⟩)
    refine ⟨(v, 0, 999999), rfl, fun _ => trivial, ?_⟩
    repeat ((conv => whnf); refine ⟨fun h => h, ?_⟩)
    refine ⟨v, rfl, fun h => ?_, ?_⟩
    · have h : (!inB v 0 999999) = false := by revert h; cases inB v 0 999999 <;> simp [gtrue]
      have h : inB v 0 999999 = true := by simpa using h
      rw [inB_iff] at h
      show 0 ≤ v ∧ v ≤ 1000000000
      omega
    repeat ((conv => whnf); refine ⟨fun h => h, ?_⟩)
    (conv => whnf); refine ⟨fun h3 => ?_, fun h3 => ?_⟩
    · have h3 : (!inB v 0 999999 || !(dig v.toNat == s)) = true := h3
      have hn : num s = none := by rw [hn, if_neg]; revert h3; cases inB v 0 999999 <;> cases (dig v.toNat == s) <;> simp
      skip
      exact ⟨trivial, eqN' (by rw [hn]; rfl), eqB (by rw [hn]; rfl), trivial⟩
    · have h3 : (!inB v 0 999999 || !(dig v.toNat == s)) = false := h3
      have hb : inB v 0 999999 = true := by revert h3; cases inB v 0 999999 <;> simp
      have hn : num s = some v.toNat := by rw [hn, if_pos]; revert h3; cases inB v 0 999999 <;> cases (dig v.toNat == s) <;> simp
      rw [inB_iff] at hb
      skip
      exact ⟨trivial, eqN' (by rw [hn]; show v = ((v.toNat : Nat) : Int); omega), eqB (by rw [hn]; rfl), trivial⟩
  · have hn : num s = none := num_fail fun v hv => hq ⟨v, hv⟩
    conv => whnf
    refine ⟨(s, none), rfl, fun _ => ⟨hs, fun u => ⟨fun e => absurd e (by simp), fun e => absurd ⟨u, e⟩ hq⟩⟩, ?_⟩
    repeat ((conv => whnf); refine ⟨fun h => h, ?_⟩)
    refine ⟨(atoiZ s, 0, 999999), rfl, fun _ => trivial, ?_⟩
    repeat ((conv => whnf); refine ⟨fun h => h, ?_⟩)
    refine ⟨atoiZ s, rfl, fun h => absurd h (by simp [gtrue]), ?_⟩
    repeat ((conv => whnf); refine ⟨fun h => h, ?_⟩)
    (conv => whnf); refine ⟨fun h3 => ?_, fun h3 => ?_⟩
    · skip
      exact ⟨trivial, eqN' (by rw [hn]; rfl), eqB (by rw [hn]; rfl), trivial⟩
    · cases h3
theorem ok_impl_Number : ConOk Tryd.prog 41 c_impl_Number := meets_ok (tabT _ _) (FOk.cons ok_impl_Digits (FOk.cons ok_impl_within (FOk.cons ok_strconv_Atoi FOk.nil))) mixed Tryd.func41 rfl Tryd.call41 (by decide) (by kernel_rfl) m_impl_Number (by intro _ (y : Str) _; exact ⟨by simp [c_impl_Number, con, conG, conW, AV.noRd, noRdCells, noRdRows, noRdRows_map', encS, encO], by simp [c_impl_Number, con, conG, conW, AV.noRd, noRdCells, noRdRows, noRdRows_map', encS, encO]⟩) (by intro (y : Str) _; first | (simp [c_impl_Number, con, conG, conW, conP, AV.free, freeCells, freeRows, freeRows_map, encS, encO]; done) | (obtain ⟨_, _⟩ := y; simp [c_impl_Number, con, conG, conW, conP, AV.free, freeCells, freeRows, freeRows_map, encS, encO]; done) | (obtain ⟨_, _, _⟩ := y; simp [c_impl_Number, con, conG, conW, conP, AV.free, freeCells, freeRows, freeRows_map, encS, encO]; done))
end Go.GH

set_option linter.unusedVariables false
set_option linter.unusedSimpArgs false
namespace Go.GH
open Go Go.Proofs
noncomputable def c_impl_hexBytes : PCon := con [mC] false Str encS (fun s => s.length ≤ 16777216) (fun s => .tup [.str ((unhex s).getD []), .bool (unhex s).isSome])
noncomputable def E_impl_hexBytes : Env := ⟨lookup tyTab, lookup [(60, c_strings_IndexByte)], [0, 2, 3, 4, 5, 6, 7, 11, 16, 33]⟩
set_option maxRecDepth 100000 in
set_option maxHeartbeats 4000000 in
theorem m_impl_hexBytes : Meets E_impl_hexBytes (codeOf Tryd.f42) Tryd.f42.results.toList c_impl_hexBytes := by
  intro (s : Str) (hs : s.length ≤ 16777216)
  refine ⟨trivial, ?_⟩
  repeat ((conv => whnf); refine ⟨by (show (_ : Prop)); first | omega | ((try dsimp only at *); (try simp only [lns] at *); omega), ?_⟩)
  refine ⟨((s.length % 2 : Nat) : Int), rfl, ?_⟩
  (conv => whnf); refine ⟨fun h1 => ?_, fun h1 => ?_⟩
  · have h1 : s.length % 2 = 1 := by simp at h1; omega
    have hn := unhex_odd s h1
    skip
    exact ⟨trivial, eqS (by rw [hn]; rfl), eqB (by rw [hn]; rfl), trivial⟩
  have h1 : s.length % 2 = 0 := by simp at h1; omega
  skip
  refine loop_rule (fun ((i, out) : Nat × Str) => ⟨[(0, ⟨none, .str s⟩), (4, ⟨none, .view 0 [] 0 out.length⟩), (5, ⟨none, .int .i64 i⟩)], [(0, .own 1 (out.map fun b => [.int .u8 b.toNat]))], 1⟩)
    (fun (i, out) => HexInv s i out) (fun x => s.length - x.1) (0, []) ?_ (HexInv.zero s) ?_
  · (refine ⟨?_, ?_, rfl⟩ <;> repeat' (first | exact rfl | exact trivial | refine ⟨?_, ?_⟩ | fail) <;> (conv => whnf))
  rintro ⟨i, out⟩ hI
  have hI : HexInv s i out := hI
  have hi := hI.1
  have hi2 := hI.2.1
  have hol := hI.2.2.1
  (conv => whnf); refine ⟨fun h2 => ?_, fun h2 => ?_⟩
  · have h2 : i < s.length := by simpa using h2
    obtain ⟨a, ha⟩ := get_lt h2
    obtain ⟨b, hb⟩ := get_lt (l := s) (i := i + 1) (by omega)
    have ra := hexV_range a
    have rb := hexV_range b
    skip
    refine ⟨a, fun _ => ⟨Int.natCast_nonneg _, ha⟩, ?_⟩
    skip
    refine ⟨a, rfl, fun _ => trivial, ?_⟩
    repeat ((conv => whnf); refine ⟨_, w64 (by (show (_ : Prop)); first | omega | ((try dsimp only at *); (try simp only [lns] at *); omega)), ?_⟩)
    refine ⟨b, fun _ => ⟨by omega, hb⟩, ?_⟩
    skip
    refine ⟨b, rfl, fun _ => trivial, ?_⟩
    repeat ((conv => whnf); first | refine ⟨fun h => h, ?_⟩ | refine ⟨(by kernel_rfl : drawOk _ _ = true), ?_⟩)
    (conv => whnf); refine ⟨fun h3 => ?_, fun h3 => ?_⟩
    · have h3 : (decide (hexV a < 0) || decide (hexV b < 0)) = true := h3
      have hn := hI.bad ha hb h3
      skip
      exact ⟨trivial, eqS (by rw [hn]; rfl), eqB (by rw [hn]; rfl), trivial⟩
    · have h3 : (decide (hexV a < 0) || decide (hexV b < 0)) = false := h3
      have hne := hI.next ha hb h3
      have h4 : 0 ≤ hexV a ∧ 0 ≤ hexV b := by simp at h3; omega
      repeat ((conv => whnf); refine ⟨by (show (_ : Prop)); first | omega | ((try dsimp only at *); (try simp only [lns] at *); omega), ?_⟩)
      refine ⟨hexV a * 16, w64 (a := hexV a * 16) (by omega), ?_⟩
      skip
      refine ⟨16 * hexV a + hexV b, or16 ⟨h4.1, ra.2⟩ ⟨h4.2, rb.2⟩, ?_⟩
      skip
      refine ⟨((hexB a b).toNat : Int), hexB_val ⟨h4.1, ra.2⟩ ⟨h4.2, rb.2⟩, ?_⟩
      repeat ((conv => whnf); first | refine ⟨_, w64 (by (show (_ : Prop)); first | omega | ((try dsimp only at *); (try simp only [lns] at *); omega)), ?_⟩ | refine ⟨by (show (_ : Prop)); first | omega | ((try dsimp only at *); (try simp only [lns] at *); omega), ?_⟩ | refine ⟨fun (r : List AV) hr c hc => by simp [encS] at hr; (try subst hr); simp at hc; (try subst hc); rfl, ?_⟩)
      refine again (i + 2, out ++ [hexB a b]) ?_ hne (by show s.length - (i + 2) < s.length - i; omega)
      (refine ⟨?_, ?_, rfl⟩ <;> repeat' (first | exact rfl | exact trivial | refine ⟨?_, ?_⟩ | fail) <;> (conv => whnf))
      all_goals simp
  · have h2 : i = s.length := by
      have : ¬ i < s.length := by simpa using h2
      omega
    subst h2
    have hn := hI.fin
    skip
    refine ⟨out, by rw [List.drop_zero, List.take_of_length_le (by simp)], ?_⟩
    skip
    exact ⟨trivial, eqS (by rw [hn]; rfl), eqB (by rw [hn]; rfl), trivial⟩
theorem ok_impl_hexBytes : ConOk Tryd.prog 42 c_impl_hexBytes := meets_ok (tabT _ _) (FOk.cons ok_strings_IndexByte FOk.nil) mixed Tryd.func42 rfl Tryd.call42 (by decide) (by kernel_rfl) m_impl_hexBytes (by intro _ (y : Str) _; exact ⟨by simp [c_impl_hexBytes, con, conG, conW, AV.noRd, noRdCells, noRdRows, noRdRows_map', encS, encO], by simp [c_impl_hexBytes, con, conG, conW, AV.noRd, noRdCells, noRdRows, noRdRows_map', encS, encO]⟩) (by intro (y : Str) _; first | (simp [c_impl_hexBytes, con, conG, conW, conP, AV.free, freeCells, freeRows, freeRows_map, encS, encO]; done) | (obtain ⟨_, _⟩ := y; simp [c_impl_hexBytes, con, conG, conW, conP, AV.free, freeCells, freeRows, freeRows_map, encS, encO]; done) | (obtain ⟨_, _, _⟩ := y; simp [c_impl_hexBytes, con, conG, conW, conP, AV.free, freeCells, freeRows, freeRows_map, encS, encO]; done))
end Go.GH

set_option linter.unusedVariables false
set_option linter.unusedSimpArgs false
namespace Go.GH
open Go Go.Proofs
noncomputable def c_spec_OpsText : PCon := con [mS 6] true (List OpR) (fun l => [.rd 6 (l.map encO)]) smOL (fun l => .str (opsText l))
noncomputable def E_spec_OpsText : Env := ⟨lookup tyTab, lookup [(9, c_spec_OpText)], [0, 2, 3, 4, 5, 9, 18]⟩
set_option maxRecDepth 100000 in
set_option maxHeartbeats 4000000 in
theorem m_spec_OpsText : Meets E_spec_OpsText (codeOf Tryd.f13) Tryd.f13.results.toList c_spec_OpsText := by
  intro (l : List OpR) hs
  have hs : smOL l := hs
  have hl1 := hs.1
  refine ⟨trivial, ?_⟩
  skip
  refine loop_rule (fun i : Nat => ⟨[(0, ⟨none, .rd 6 (l.map encO)⟩), (3, ⟨none, .str ((l.take i).flatMap opLine)⟩), (4, ⟨none, .int .i64 i⟩)], [], 0⟩)
    (fun i => i ≤ l.length ∧ (l.take i).all (fun o => !(opText o == [])) = true) (fun i => l.length - i) 0 ?_ ⟨by omega, rfl⟩ ?_
  · (refine ⟨?_, ?_, rfl⟩ <;> repeat' (first | exact rfl | exact trivial | refine ⟨?_, ?_⟩ | fail) <;> (conv => whnf))
    all_goals simp
  rintro i ⟨hi, hI⟩
  have hll := lines_len hs i
  (conv => whnf); refine ⟨fun h2 => ?_, fun h2 => ?_⟩
  · have h2 : i < l.length := by simpa using h2
    obtain ⟨o, ho⟩ := get_lt h2
    have hso := hs.2 o (List.mem_of_getElem? ho)
    have hle := opText_len o
    have s1 := hso.1
    have s2 := hso.2.1
    repeat ((conv => whnf); refine ⟨encO o, fun _ => ⟨by omega, get_map ho⟩, ?_⟩)
    refine ⟨o, rfl, fun _ => hso, ?_⟩
    (conv => whnf); refine ⟨fun h3 => ?_, fun h3 => ?_⟩
    · have h3 : (opText o == []) = true := h3
      conv => whnf
      exact ⟨trivial, eqS (by rw [opsText, if_neg]; rw [all_no ho (by simp [h3])]; simp)⟩
    have h3 : (opText o == []) = false := h3
    repeat ((conv => whnf); first | refine ⟨_, w64 (by (show (_ : Prop)); first | omega | ((try dsimp only at *); (try simp only [lns] at *); omega)), ?_⟩ | refine ⟨by (show (_ : Prop)); first | omega | ((try dsimp only at *); (try simp only [lns] at *); omega), ?_⟩)
    refine again (i + 1) ?_ ⟨h2, all_take_succ hI ho (by simp [h3])⟩ (by first | omega | (simp; done) | (simp; omega))
    (refine ⟨?_, ?_, rfl⟩ <;> repeat' (first | exact rfl | exact trivial | refine ⟨?_, ?_⟩ | fail) <;> (conv => whnf))
    all_goals (rw [take_flat ho]; simp [opLine])
  · have h2 : i = l.length := by
      have : ¬ i < l.length := by simpa using h2
      omega
    subst h2
    rw [List.take_length] at hI hll ⊢
    conv => whnf
    exact ⟨trivial, eqS (by rw [opsText, if_pos hI])⟩
theorem ok_spec_OpsText : ConOk Tryd.prog 13 c_spec_OpsText := meets_ok (tabT _ _) (FOk.cons ok_spec_OpText FOk.nil) mixed Tryd.func13 rfl Tryd.call13 (by decide) (by kernel_rfl) m_spec_OpsText (by intro _ (y : (List OpR)) _; exact ⟨by simp [c_spec_OpsText, con, conG, conW, AV.noRd, noRdCells, noRdRows, noRdRows_map', encS, encO], by simp [c_spec_OpsText, con, conG, conW, AV.noRd, noRdCells, noRdRows, noRdRows_map', encS, encO]⟩) (by intro (y : (List OpR)) _; first | (simp [c_spec_OpsText, con, conG, conW, conP, AV.free, freeCells, freeRows, freeRows_map, encS, encO]; done) | (obtain ⟨_, _⟩ := y; simp [c_spec_OpsText, con, conG, conW, conP, AV.free, freeCells, freeRows, freeRows_map, encS, encO]; done) | (obtain ⟨_, _, _⟩ := y; simp [c_spec_OpsText, con, conG, conW, conP, AV.free, freeCells, freeRows, freeRows_map, encS, encO]; done))
noncomputable def c_impl_OpsText : PCon := conG gwTab [mS 6] true (List OpR) (fun l => [.rd 6 (l.map encO)]) smOL (fun l => .str (opsText l))
noncomputable def E_impl_OpsText : Env := ⟨lookup tyTab, lookup [(11, c_impl_OpText)], [0, 2, 3, 5, 6, 7, 8, 9, 10, 16]⟩
set_option maxRecDepth 100000 in
set_option maxHeartbeats 4000000 in
theorem m_impl_OpsText : Meets E_impl_OpsText (codeOf Tryd.f15) Tryd.f15.results.toList c_impl_OpsText := by
  intro (l : List OpR) hs
  have hs : smOL l := hs
  have hl1 := hs.1
  refine ⟨trivial, ?_⟩
  skip
  refine loop_rule (fun i : Nat => ⟨[(3, ⟨none, .str ((l.take i).flatMap opLine)⟩), (7, ⟨none, .rd 6 (l.map encO)⟩), (8, ⟨none, .int .i64 l.length⟩), (9, ⟨none, .int .i64 i⟩)], [], 0⟩)
    (fun i => i ≤ l.length ∧ (l.take i).all (fun o => !(opText o == [])) = true) (fun i => l.length - i) 0 ?_ ⟨by omega, rfl⟩ ?_
  · (refine ⟨?_, ?_, rfl⟩ <;> repeat' (first | exact rfl | exact trivial | refine ⟨?_, ?_⟩ | fail) <;> (conv => whnf))
    all_goals simp
  rintro i ⟨hi, hI⟩
  have hll := lines_len hs i
  (conv => whnf); refine ⟨fun h2 => ?_, fun h2 => ?_⟩
  · have h2 : i < l.length := by simpa using h2
    obtain ⟨o, ho⟩ := get_lt h2
    have hso := hs.2 o (List.mem_of_getElem? ho)
    have hle := opText_len o
    have s1 := hso.1
    have s2 := hso.2.1
    repeat ((conv => whnf); refine ⟨encO o, fun _ => ⟨by omega, get_map ho⟩, ?_⟩)
    refine ⟨o, rfl, fun _ => hso, ?_⟩
    (conv => whnf); refine ⟨fun h3 => ?_, fun h3 => ?_⟩
    · have h3 : (opText o == []) = true := h3
      conv => whnf
      exact ⟨trivial, eqS (by rw [opsText, if_neg]; rw [all_no ho (by simp [h3])]; simp)⟩
    have h3 : (opText o == []) = false := h3
    repeat ((conv => whnf); first | refine ⟨_, w64 (by (show (_ : Prop)); first | omega | ((try dsimp only at *); (try simp only [lns] at *); omega)), ?_⟩ | refine ⟨by (show (_ : Prop)); first | omega | ((try dsimp only at *); (try simp only [lns] at *); omega), ?_⟩)
    refine again (i + 1) ?_ ⟨h2, all_take_succ hI ho (by simp [h3])⟩ (by first | omega | (simp; done) | (simp; omega))
    (refine ⟨?_, ?_, rfl⟩ <;> repeat' (first | exact rfl | exact trivial | refine ⟨?_, ?_⟩ | fail) <;> (conv => whnf))
    all_goals (rw [take_flat ho]; simp [opLine])
  · have h2 : i = l.length := by
      have : ¬ i < l.length := by simpa using h2
      omega
    subst h2
    rw [List.take_length] at hI hll ⊢
    conv => whnf
    exact ⟨trivial, eqS (by rw [opsText, if_pos hI])⟩
theorem ok_impl_OpsText : ConOk Tryd.prog 15 c_impl_OpsText := meets_ok (tabT _ _) (FOk.cons ok_impl_OpText FOk.nil) mixed Tryd.func15 rfl Tryd.call15 (by decide) (by kernel_rfl) m_impl_OpsText (by intro _ (y : (List OpR)) _; exact ⟨by simp [c_impl_OpsText, con, conG, conW, AV.noRd, noRdCells, noRdRows, noRdRows_map', encS, encO], by simp [c_impl_OpsText, con, conG, conW, AV.noRd, noRdCells, noRdRows, noRdRows_map', encS, encO]⟩) (by intro (y : (List OpR)) _; first | (simp [c_impl_OpsText, con, conG, conW, conP, AV.free, freeCells, freeRows, freeRows_map, encS, encO]; done) | (obtain ⟨_, _⟩ := y; simp [c_impl_OpsText, con, conG, conW, conP, AV.free, freeCells, freeRows, freeRows_map, encS, encO]; done) | (obtain ⟨_, _, _⟩ := y; simp [c_impl_OpsText, con, conG, conW, conP, AV.free, freeCells, freeRows, freeRows_map, encS, encO]; done))
noncomputable def c_laws_szOpS : PCon := con [mS 6, mC] true (List OpR × Int) (fun x => [.rd 6 (x.1.map encO), .int .i64 x.2]) (fun x => 0 ≤ x.2 ∧ x.2 ≤ 4194304 ∧ x.1.length ≤ 9223372036854775807 ∧ ∀ y, y ∈ x.1 → bigO y) (fun x => .int .i64 (szR x.2 (szOL x.1)))
noncomputable def E_laws_szOpS : Env := ⟨lookup tyTab, lookup [(8, c_laws_szOp)], [0, 1, 4, 5, 11, 15, 25]⟩
set_option maxRecDepth 100000 in
set_option maxHeartbeats 4000000 in
theorem m_laws_szOpS : Meets E_laws_szOpS (codeOf Tryd.f12) Tryd.f12.results.toList c_laws_szOpS := by
  rintro ⟨t, left⟩ hs
  obtain ⟨h1, h2, h3, h4⟩ : 0 ≤ left ∧ left ≤ 4194304 ∧ t.length ≤ 9223372036854775807 ∧ ∀ y, y ∈ t → bigO y := hs
  refine ⟨trivial, ?_⟩
  repeat ((conv => whnf); refine ⟨_, w64 (by (show (_ : Prop)); first | omega | ((try dsimp only at *); (try simp only [lns] at *); omega)), ?_⟩)
  (conv => whnf); refine ⟨fun h5 => ?_, fun h5 => ?_⟩
  · have h5 : left - t.length < 0 := by simpa using h5
    conv => whnf
    exact ⟨trivial, eqN' (by unfold szR szOL; dsimp only; rw [if_pos (by omega)])⟩
  have h5 : ¬ left - t.length < 0 := by simpa using h5
  skip
  refine loop_rule (fun i : Nat => ⟨[(0, ⟨none, .rd 6 (t.map encO)⟩), (1, ⟨none, .int .i64 (left - t.length - ((t.take i).map szO).sum)⟩), (5, ⟨none, .int .i64 i⟩)], [], 0⟩)
    (fun i => i ≤ t.length ∧ 0 ≤ left - t.length - ((t.take i).map szO).sum) (fun i => t.length - i) 0 ?_ ⟨by omega, by simp; omega⟩ ?_
  · (refine ⟨?_, ?_, rfl⟩ <;> repeat' (first | exact rfl | exact trivial | refine ⟨?_, ?_⟩ | fail) <;> (conv => whnf))
    all_goals simp
  rintro i ⟨hi, hI⟩
  (conv => whnf); refine ⟨fun h6 => ?_, fun h6 => ?_⟩
  · have h6 : i < t.length := by simpa using h6
    obtain ⟨b, hb⟩ := get_lt h6
    have hbs := h4 b (List.mem_of_getElem? hb)
    have hsu := sum_take' (f := szO) hb
    have hle := sum_take_le (f := szO) (l := t) (i := i + 1)
    repeat ((conv => whnf); refine ⟨encO b, fun _ => ⟨by omega, by simp [hb]⟩, ?_⟩)
    conv => whnf
    refine ⟨(b, left - t.length - ((t.take i).map szO).sum), rfl, fun _ => ⟨hI, by show _ ≤ _; omega, hbs⟩, ?_⟩
    (conv => whnf); refine ⟨fun h7 => ?_, fun h7 => ?_⟩
    · have h7 : szR (left - t.length - ((t.take i).map szO).sum) (szO b) < 0 := by simpa using h7
      have h7 : left - t.length - ((t.take i).map szO).sum - szO b < 0 := by
        unfold szR at h7; split at h7 <;> omega
      conv => whnf
      exact ⟨trivial, eqN' (by unfold szR szOL; dsimp only; rw [if_pos (by omega)])⟩
    · have h7 : ¬ szR (left - t.length - ((t.take i).map szO).sum) (szO b) < 0 := by simpa using h7
      have h8 := szR_ok h7
      have h9 : szR (left - t.length - ((t.take i).map szO).sum) (szO b) = left - t.length - ((t.take (i + 1)).map szO).sum := by
        unfold szR; rw [if_neg (by omega)]; omega
      repeat ((conv => whnf); refine ⟨_, w64 (by (show (_ : Prop)); first | omega | ((try dsimp only at *); (try simp only [lns] at *); omega)), ?_⟩)
      refine again (i + 1) ?_ ⟨h6, by omega⟩ (by first | omega | (simp; done) | (simp; omega))
      (refine ⟨?_, ?_, rfl⟩ <;> repeat' (first | exact rfl | exact trivial | refine ⟨?_, ?_⟩ | fail) <;> (conv => whnf))
      exact h9
  · have h6 : i = t.length := by
      have : ¬ i < t.length := by simpa using h6
      omega
    subst h6
    rw [List.take_length] at hI ⊢
    conv => whnf
    exact ⟨trivial, eqN' (by unfold szR szOL; dsimp only; rw [if_neg (by omega)]; omega)⟩
theorem ok_laws_szOpS : ConOk Tryd.prog 12 c_laws_szOpS := meets_ok (tabT _ _) (FOk.cons ok_laws_szOp FOk.nil) mixed Tryd.func12 rfl Tryd.call12 (by decide) (by kernel_rfl) m_laws_szOpS (by intro _ (y : (List OpR × Int)) _; exact ⟨by simp [c_laws_szOpS, con, conG, conW, AV.noRd, noRdCells, noRdRows, noRdRows_map', encS, encO], by simp [c_laws_szOpS, con, conG, conW, AV.noRd, noRdCells, noRdRows, noRdRows_map', encS, encO]⟩) (by intro (y : (List OpR × Int)) _; first | (simp [c_laws_szOpS, con, conG, conW, conP, AV.free, freeCells, freeRows, freeRows_map, encS, encO]; done) | (obtain ⟨_, _⟩ := y; simp [c_laws_szOpS, con, conG, conW, conP, AV.free, freeCells, freeRows, freeRows_map, encS, encO]; done) | (obtain ⟨_, _, _⟩ := y; simp [c_laws_szOpS, con, conG, conW, conP, AV.free, freeCells, freeRows, freeRows_map, encS, encO]; done))
noncomputable def c_laws_toOpS : PCon := con [mS 6] false (List OpR) (fun t => [.rd 6 (t.map encO)]) smOL (fun t => .own 6 (t.map encO))
noncomputable def E_laws_toOpS : Env := ⟨lookup tyTab, lookup [(10, c_laws_toOp)], [0, 2, 3, 4, 11]⟩
set_option maxRecDepth 100000 in
set_option maxHeartbeats 4000000 in
theorem m_laws_toOpS : Meets E_laws_toOpS (codeOf Tryd.f14) Tryd.f14.results.toList c_laws_toOpS := by
  intro (t : List OpR) hs
  obtain ⟨hs1, hs2⟩ : smOL t := hs
  refine ⟨trivial, ?_⟩
  repeat ((conv => whnf); refine ⟨by (show (_ : Prop)); first | omega | ((try dsimp only at *); (try simp only [lns] at *); omega), ?_⟩)
  refine loop_rule (fun i : Nat => ⟨[(0, ⟨none, .rd 6 (t.map encO)⟩), (3, ⟨none, .view 0 [] 0 t.length⟩), (4, ⟨none, .int .i64 i⟩)], [(0, .own 6 (filled encO (encO OpR.zero) t i))], 1⟩)
    (fun i => i ≤ t.length) (fun i => t.length - i) 0 ?_ (by omega) ?_
  · (refine ⟨?_, ?_, rfl⟩ <;> repeat' (first | exact rfl | exact trivial | refine ⟨?_, ?_⟩ | fail) <;> (conv => whnf))
    all_goals simp
    exact filled_zero.symm
  intro i hi
  have hi : i ≤ t.length := hi
  (conv => whnf); refine ⟨fun h6 => ?_, fun h6 => ?_⟩
  · have h6 : i < t.length := by simpa using h6
    obtain ⟨b, hb⟩ := get_lt h6
    repeat ((conv => whnf); first | refine ⟨_, w64 (by (show (_ : Prop)); first | omega | ((try dsimp only at *); (try simp only [lns] at *); omega)), ?_⟩ | refine ⟨by (show (_ : Prop)); first | omega | ((try dsimp only at *); (try simp only [lns] at *); omega), ?_⟩ | refine ⟨encO b, fun _ => ⟨by omega, by simp [hb]⟩, ?_⟩ | refine ⟨b, rfl, fun _ => trivial, ?_⟩ | refine ⟨encO OpR.zero, by simp [filled_get h6], ?_⟩)
    refine again (i + 1) ?_ h6 (by first | omega | (simp; done) | (simp; omega))
    (refine ⟨?_, ?_, rfl⟩ <;> repeat' (first | exact rfl | exact trivial | refine ⟨?_, ?_⟩ | fail) <;> (conv => whnf))
    simp only [Nat.zero_add, Int.toNat_natCast]
    exact filled_set hb
  · have h6 : i = t.length := by
      have : ¬ i < t.length := by simpa using h6
      omega
    subst h6
    conv => whnf
    exact ⟨trivial, eqOwn (by rw [filled_all]; (try simp only [List.drop_zero, List.take_length, take_app]) <;> simp)⟩
theorem ok_laws_toOpS : ConOk Tryd.prog 14 c_laws_toOpS := meets_ok (tabT _ _) (FOk.cons ok_laws_toOp FOk.nil) mixed Tryd.func14 rfl Tryd.call14 (by decide) (by kernel_rfl) m_laws_toOpS (by intro _ (y : (List OpR)) _; exact ⟨by simp [c_laws_toOpS, con, conG, conW, AV.noRd, noRdCells, noRdRows, noRdRows_map', encS, encO], by simp [c_laws_toOpS, con, conG, conW, AV.noRd, noRdCells, noRdRows, noRdRows_map', encS, encO]⟩) (by intro (y : (List OpR)) _; first | (simp [c_laws_toOpS, con, conG, conW, conP, AV.free, freeCells, freeRows, freeRows_map, encS, encO]; done) | (obtain ⟨_, _⟩ := y; simp [c_laws_toOpS, con, conG, conW, conP, AV.free, freeCells, freeRows, freeRows_map, encS, encO]; done) | (obtain ⟨_, _, _⟩ := y; simp [c_laws_toOpS, con, conG, conW, conP, AV.free, freeCells, freeRows, freeRows_map, encS, encO]; done))
noncomputable def c_laws_eqOp : PCon := con [.rd [none, none, none, none, none, none], .rd [none, none, none, none, none, none]] true OpR (fun x => [.agg (encO x), .agg (encO x)]) (fun _ => True) (fun _ => .bool true)
noncomputable def E_laws_eqOp : Env := ⟨lookup tyTab, lookup [], [0, 1, 2, 3, 4, 9, 14, 19, 24, 29, 34]⟩
set_option maxRecDepth 100000 in
set_option maxHeartbeats 4000000 in
theorem m_laws_eqOp : Meets E_laws_eqOp (codeOf Tryd.f19) Tryd.f19.results.toList c_laws_eqOp := by
  intro (x : OpR) hs
  refine ⟨trivial, ?_⟩
  conv => whnf
  refine ⟨fun h => ?_, fun _ => ?_⟩
  · exfalso; simp at h
  conv => whnf
  refine ⟨fun h => ?_, fun _ => ?_⟩
  · exfalso; simp at h
  conv => whnf
  refine ⟨fun h => ?_, fun _ => ?_⟩
  · exfalso; simp at h
  conv => whnf
  refine ⟨fun h => ?_, fun _ => ?_⟩
  · exfalso; simp at h
  conv => whnf
  refine ⟨fun h => ?_, fun _ => ?_⟩
  · exfalso; simp at h
  conv => whnf
  refine ⟨fun h => ?_, fun _ => ?_⟩
  · exfalso; simp at h
  conv => whnf
  exact ⟨trivial, rfl⟩
theorem ok_laws_eqOp : ConOk Tryd.prog 19 c_laws_eqOp := meets_ok (tabT _ _) FOk.nil mixed Tryd.func19 rfl Tryd.call19 (by decide) (by kernel_rfl) m_laws_eqOp (by intro _ (y : OpR) _; exact ⟨by simp [c_laws_eqOp, con, conG, conW, AV.noRd, noRdCells, noRdRows, noRdRows_map', encS, encO], by simp [c_laws_eqOp, con, conG, conW, AV.noRd, noRdCells, noRdRows, noRdRows_map', encS, encO]⟩) (by intro (y : OpR) _; first | (simp [c_laws_eqOp, con, conG, conW, conP, AV.free, freeCells, freeRows, freeRows_map, encS, encO]; done) | (obtain ⟨_, _⟩ := y; simp [c_laws_eqOp, con, conG, conW, conP, AV.free, freeCells, freeRows, freeRows_map, encS, encO]; done) | (obtain ⟨_, _, _⟩ := y; simp [c_laws_eqOp, con, conG, conW, conP, AV.free, freeCells, freeRows, freeRows_map, encS, encO]; done))
noncomputable def c_laws_eqOpS : PCon := con [mS 6, mS 6] true (List OpR) (fun t => [.rd 6 (t.map encO), .rd 6 (t.map encO)]) (fun t => t.length ≤ 4194304) (fun _ => .bool true)
noncomputable def E_laws_eqOpS : Env := ⟨lookup tyTab, lookup [(19, c_laws_eqOp)], [0, 1, 4, 5, 10, 14, 26]⟩
set_option maxRecDepth 100000 in
set_option maxHeartbeats 4000000 in
theorem m_laws_eqOpS : Meets E_laws_eqOpS (codeOf Tryd.f16) Tryd.f16.results.toList c_laws_eqOpS := by
  intro (t : List OpR) (hs1 : t.length ≤ 4194304)
  refine ⟨trivial, ?_⟩
  conv => whnf
  refine ⟨fun h => ?_, fun _ => ?_⟩
  · simp at h
  skip
  refine loop_rule (fun i : Nat => ⟨[(0, ⟨none, .rd 6 (t.map encO)⟩), (1, ⟨none, .rd 6 (t.map encO)⟩), (5, ⟨none, .int .i64 i⟩)], [], 0⟩)
    (fun i => i ≤ t.length) (fun i => t.length - i) 0 ?_ (by omega) ?_
  · (refine ⟨?_, ?_, rfl⟩ <;> repeat' (first | exact rfl | exact trivial | refine ⟨?_, ?_⟩ | fail) <;> (conv => whnf))
  intro i hi
  have hi : i ≤ t.length := hi
  (conv => whnf); refine ⟨fun h6 => ?_, fun h6 => ?_⟩
  · have h6 : i < t.length := by simpa using h6
    obtain ⟨b, hb⟩ := get_lt h6
    repeat ((conv => whnf); first | refine ⟨(by kernel_rfl : drawOk _ _ = true), ?_⟩ | refine ⟨encO b, fun _ => ⟨by omega, get_map hb⟩, ?_⟩ | refine ⟨b, rfl, fun _ => trivial, ?_⟩)
    conv => whnf
    refine ⟨fun h => absurd h (by decide), fun _ => ?_⟩
    repeat ((conv => whnf); refine ⟨_, w64 (by (show (_ : Prop)); first | omega | ((try dsimp only at *); (try simp only [lns] at *); omega)), ?_⟩)
    refine again (i + 1) ?_ h6 (by first | omega | (simp; done) | (simp; omega))
    (refine ⟨?_, ?_, rfl⟩ <;> repeat' (first | exact rfl | exact trivial | refine ⟨?_, ?_⟩ | fail) <;> (conv => whnf))
  · conv => whnf
    exact ⟨trivial, rfl⟩
theorem ok_laws_eqOpS : ConOk Tryd.prog 16 c_laws_eqOpS := meets_ok (tabT _ _) (FOk.cons ok_laws_eqOp FOk.nil) mixed Tryd.func16 rfl Tryd.call16 (by decide) (by kernel_rfl) m_laws_eqOpS (by intro _ (y : (List OpR)) _; exact ⟨by simp [c_laws_eqOpS, con, conG, conW, AV.noRd, noRdCells, noRdRows, noRdRows_map', encS, encO], by simp [c_laws_eqOpS, con, conG, conW, AV.noRd, noRdCells, noRdRows, noRdRows_map', encS, encO]⟩) (by intro (y : (List OpR)) _; first | (simp [c_laws_eqOpS, con, conG, conW, conP, AV.free, freeCells, freeRows, freeRows_map, encS, encO]; done) | (obtain ⟨_, _⟩ := y; simp [c_laws_eqOpS, con, conG, conW, conP, AV.free, freeCells, freeRows, freeRows_map, encS, encO]; done) | (obtain ⟨_, _, _⟩ := y; simp [c_laws_eqOpS, con, conG, conW, conP, AV.free, freeCells, freeRows, freeRows_map, encS, encO]; done))
noncomputable def c_laws_FnExactOpsText : PCon := conG gwTab [mS 6] true (List OpR) (fun t => [.rd 6 (t.map encO)]) (fun t => t.length ≤ 9223372036854775807 ∧ ∀ y, y ∈ t → bigO y) (fun _ => .bool true)
noncomputable def E_laws_FnExactOpsText : Env := ⟨lookup tyTab, lookup [(12, c_laws_szOpS), (13, c_spec_OpsText), (14, c_laws_toOpS), (15, c_impl_OpsText), (16, c_laws_eqOpS)], [0, 2, 3, 4, 5, 6, 11, 21, 26]⟩
set_option maxRecDepth 100000 in
set_option maxHeartbeats 4000000 in
theorem m_laws_FnExactOpsText : Meets E_laws_FnExactOpsText (codeOf Tryd.f4) Tryd.f4.results.toList c_laws_FnExactOpsText := by
  intro (t : List OpR) hs
  refine ⟨trivial, ?_⟩
  conv => whnf
  refine ⟨(t, 1048576), rfl, fun _ => ⟨by show (0:Int) ≤ 1048576; decide, by show (1048576:Int) ≤ 4194304; decide, hs⟩, ?_⟩
  (conv => whnf); refine ⟨fun h1 => ?_, fun h1 => ?_⟩
  · conv => whnf
    exact ⟨trivial, rfl⟩
  have h1 : ¬ szR 1048576 (szOL t) < 0 := by simpa using h1
  have hsm : smOL t := szOL_sm (n := 1048576) (by have := szR_ok h1; omega) (by omega)
  have hlen : t.length ≤ 4194304 := by have := hsm.1; omega
  conv => whnf
  refine ⟨t, rfl, fun _ => hsm, ?_⟩
  conv => whnf
  refine ⟨t, by refine argP1 ?_; simp [rdO], fun _ => hsm, ?_⟩
  conv => whnf
  refine ⟨t, rfl, fun _ => hsm, ?_⟩
  conv => whnf
  refine ⟨t, by refine argP1 ?_; simp [rdO], fun _ => hsm, ?_⟩
  conv => whnf
  refine ⟨fun h => ?_, fun _ => ?_⟩
  · have h : (!(opsText t == opsText t)) = true := h
    simp at h
  conv => whnf
  refine ⟨t, rfl, fun _ => hsm, ?_⟩
  skip
  refine ⟨t, by refine argPP ?_ ?_ <;> simp [rdO], fun _ => hlen, ?_⟩
  skip
  conv => whnf
  refine ⟨fun h => absurd h (by decide), fun _ => ?_⟩
  conv => whnf
  exact ⟨trivial, rfl⟩
theorem ok_laws_FnExactOpsText : ConOk Tryd.prog 4 c_laws_FnExactOpsText := meets_ok (tabT _ _) (FOk.cons ok_laws_szOpS (FOk.cons ok_spec_OpsText (FOk.cons ok_laws_toOpS (FOk.cons ok_impl_OpsText (FOk.cons ok_laws_eqOpS FOk.nil))))) mixed Tryd.func4 rfl Tryd.call4 (by decide) (by kernel_rfl) m_laws_FnExactOpsText (by intro _ (y : (List OpR)) _; exact ⟨by simp [c_laws_FnExactOpsText, con, conG, conW, AV.noRd, noRdCells, noRdRows, noRdRows_map', encS, encO], by simp [c_laws_FnExactOpsText, con, conG, conW, AV.noRd, noRdCells, noRdRows, noRdRows_map', encS, encO]⟩) (by intro (y : (List OpR)) _; first | (simp [c_laws_FnExactOpsText, con, conG, conW, conP, AV.free, freeCells, freeRows, freeRows_map, encS, encO]; done) | (obtain ⟨_, _⟩ := y; simp [c_laws_FnExactOpsText, con, conG, conW, conP, AV.free, freeCells, freeRows, freeRows_map, encS, encO]; done) | (obtain ⟨_, _, _⟩ := y; simp [c_laws_FnExactOpsText, con, conG, conW, conP, AV.free, freeCells, freeRows, freeRows_map, encS, encO]; done))
end Go.GH

