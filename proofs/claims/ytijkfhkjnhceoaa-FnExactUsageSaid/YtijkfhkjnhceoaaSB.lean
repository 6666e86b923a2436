import Derived.Test.YtijkfhkjnhceoaaSA
import Derived.Test.YtijkfhkjnhceoaaRows
import Derived.WalkKit
import Derived.ProofKit
import Derived.OpenShut
import Derived.ChangeOld
import Derived.Below
import Derived.SizedLaws
set_option linter.unusedVariables false
set_option linter.unusedSimpArgs false
set_option linter.unusedSimpArgs false
namespace Go.GH
open Go Go.Proofs

def c_impl_PathOk : PCon := con [mC] true Str encS (fun s => sml s.length) (fun s => .bool (pathOk s))
def E_impl_PathOk : Env := ⟨lookup tyTab, lookup [(81, c_impl_readPath)], [0, 2, 4]⟩
set_option maxRecDepth 100000 in
theorem m_impl_PathOk : Meets E_impl_PathOk (codeOf Try.f69) Try.f69.results.toList c_impl_PathOk := by
  intro (s : Str) hs
  refine ⟨trivial, ?_⟩
  conv => whnf
  refine ⟨s, rfl, fun _ => hs, ?_⟩
  conv => whnf
  exact ⟨trivial, rfl⟩
theorem ok_impl_PathOk : ConOk Try.prog 69 c_impl_PathOk := meets_ok (tabT _ _) (FOk.cons ok_impl_readPath FOk.nil) mixed Try.func69 rfl Try.call69 (by decide) (by kernel_rfl) m_impl_PathOk (by intro _ (y : Str) _; exact ⟨by simp [c_impl_PathOk, con, AV.noRd, noRdCells, noRdRows, noRdRows_map', encS], by simp [c_impl_PathOk, con, noRdCells]⟩)

def c_impl_PathOf : PCon := con [mS 1] true (List Str) (fun l => [.rd 1 (l.map encS)]) (fun l => l.length + (l.map List.length).sum < 4194304) (fun l => .str (pathOf l))
def E_impl_PathOf : Env := ⟨lookup tyTab, lookup [(97, c_slices_ContainsFunc_string), (100, c_strings_Join), (101, c_impl_PathOf_1)], [0, 2, 3, 13]⟩
set_option maxRecDepth 100000 in
theorem m_impl_PathOf : Meets E_impl_PathOf (codeOf Try.f82) Try.f82.results.toList c_impl_PathOf := by
  intro (l : List Str) hs
  have hs : l.length + (l.map List.length).sum < 4194304 := hs
  have hl := cat1_len l
  have hj := join_cat l
  have hjl : (Lib.join l sl).length + 1 = (cat1 l).length := by rw [← hj]; simp [sl]
  have hsm : smL l := ⟨by omega, fun s hs => by
    have : s.length ≤ (l.map List.length).sum := le_sum hs
    omega⟩
  refine ⟨trivial, ?_⟩
  conv => whnf
  refine ⟨(l, sl), rfl, fun _ => ⟨by show (Lib.join l sl).length ≤ _; omega, by show l.length ≤ _; omega⟩, ?_⟩
  conv => whnf
  refine ⟨by show 1 + (Lib.join l sl).length ≤ _; omega, ?_⟩
  repeat ((conv => whnf); first | refine ⟨fun h => h, ?_⟩ | refine ⟨(by kernel_rfl : drawOk _ _ = true), ?_⟩ | refine ⟨fun (h : gtrue _) => by first | assumption | exact absurd (Eq.trans (Eq.symm h) (by assumption) : true = false) Bool.noConfusion, ?_⟩ | refine ⟨fun h => (absurd (Eq.trans (Eq.symm h) (by assumption) : true = false) Bool.noConfusion : False), ?_⟩ | refine ⟨_, w64 (by first | omega | ((try dsimp only at *); (try simp only [List.length_take, List.length_drop, List.length_map, List.length_append, List.length_cons, List.length_nil, List.length_replicate] at *); omega)), ?_⟩ | refine ⟨fun _ => ⟨by first | omega | ((try dsimp only at *); (try simp only [List.length_take, List.length_drop, List.length_map, List.length_append, List.length_cons, List.length_nil, List.length_replicate] at *); omega), by first | omega | ((try dsimp only at *); (try simp only [List.length_take, List.length_drop, List.length_map, List.length_append, List.length_cons, List.length_nil, List.length_replicate] at *); omega), by first | omega | ((try dsimp only at *); (try simp only [List.length_take, List.length_drop, List.length_map, List.length_append, List.length_cons, List.length_nil, List.length_replicate] at *); omega)⟩, ?_⟩ | refine ⟨by first | omega | ((try dsimp only at *); (try simp only [List.length_take, List.length_drop, List.length_map, List.length_append, List.length_cons, List.length_nil, List.length_replicate] at *); omega), ?_⟩ | refine ⟨fun h => ⟨by first | omega | ((try dsimp only at *); (try simp only [List.length_take, List.length_drop, List.length_map, List.length_append, List.length_cons, List.length_nil, List.length_replicate] at *); omega), by first | omega | ((try dsimp only at *); (try simp only [List.length_take, List.length_drop, List.length_map, List.length_append, List.length_cons, List.length_nil, List.length_replicate] at *); omega)⟩, ?_⟩ | refine ⟨fun (r : List AV) hr c hc => by simp [encS] at hr; (try subst hr); simp at hc; (try subst hc); rfl, ?_⟩)
  refine ⟨(l, false), rfl, fun _ => hsm, ?_⟩
  repeat ((conv => whnf); first | refine ⟨fun h => h, ?_⟩ | refine ⟨(by kernel_rfl : drawOk _ _ = true), ?_⟩ | refine ⟨fun (h : gtrue _) => by first | assumption | exact absurd (Eq.trans (Eq.symm h) (by assumption) : true = false) Bool.noConfusion, ?_⟩ | refine ⟨fun h => (absurd (Eq.trans (Eq.symm h) (by assumption) : true = false) Bool.noConfusion : False), ?_⟩ | refine ⟨_, w64 (by first | omega | ((try dsimp only at *); (try simp only [List.length_take, List.length_drop, List.length_map, List.length_append, List.length_cons, List.length_nil, List.length_replicate] at *); omega)), ?_⟩ | refine ⟨fun _ => ⟨by first | omega | ((try dsimp only at *); (try simp only [List.length_take, List.length_drop, List.length_map, List.length_append, List.length_cons, List.length_nil, List.length_replicate] at *); omega), by first | omega | ((try dsimp only at *); (try simp only [List.length_take, List.length_drop, List.length_map, List.length_append, List.length_cons, List.length_nil, List.length_replicate] at *); omega), by first | omega | ((try dsimp only at *); (try simp only [List.length_take, List.length_drop, List.length_map, List.length_append, List.length_cons, List.length_nil, List.length_replicate] at *); omega)⟩, ?_⟩ | refine ⟨by first | omega | ((try dsimp only at *); (try simp only [List.length_take, List.length_drop, List.length_map, List.length_append, List.length_cons, List.length_nil, List.length_replicate] at *); omega), ?_⟩ | refine ⟨fun h => ⟨by first | omega | ((try dsimp only at *); (try simp only [List.length_take, List.length_drop, List.length_map, List.length_append, List.length_cons, List.length_nil, List.length_replicate] at *); omega), by first | omega | ((try dsimp only at *); (try simp only [List.length_take, List.length_drop, List.length_map, List.length_append, List.length_cons, List.length_nil, List.length_replicate] at *); omega)⟩, ?_⟩ | refine ⟨fun (r : List AV) hr c hc => by simp [encS] at hr; (try subst hr); simp at hc; (try subst hc); rfl, ?_⟩)
  have e : (decide (l.length ≤ 4) && l.all nameOk) = !(decide (((l.map encS).length : Int) > 4) || l.any fun s => !nameOk s) := by
    rw [List.all_eq_not_any_not, Bool.not_or]
    congr 1
    rw [Bool.eq_iff_iff]
    simp
    omega
  (conv => whnf); refine ⟨fun h1 => ?_, fun h1 => ?_⟩
  · conv => whnf
    exact ⟨trivial, eqS (by
      rw [pathOf, e, show (_ || _) = true from h1]; rfl)⟩
  · conv => whnf
    exact ⟨trivial, eqS (by
      rw [pathOf, e, show (_ || _) = false from h1]; exact hj)⟩
theorem ok_impl_PathOf : ConOk Try.prog 82 c_impl_PathOf := meets_ok (tabT _ _) (FOk.cons ok_slices_ContainsFunc_string (FOk.cons ok_strings_Join (FOk.cons ok_impl_PathOf_1 FOk.nil))) mixed Try.func82 rfl Try.call82 (by decide) (by kernel_rfl) m_impl_PathOf (by intro _ (y : (List Str)) _; exact ⟨by simp [c_impl_PathOf, con, AV.noRd, noRdCells, noRdRows, noRdRows_map', encS], by simp [c_impl_PathOf, con, noRdCells]⟩)

def c_impl_Above : PCon := con [mC] true Str encS (fun l => sml l.length) (fun l => .str (above l))
def E_impl_Above : Env := ⟨lookup tyTab, lookup [(81, c_impl_readPath), (82, c_impl_PathOf)], [0, 2, 3, 4, 11]⟩
set_option maxRecDepth 100000 in
theorem m_impl_Above : Meets E_impl_Above (codeOf Try.f65) Try.f65.results.toList c_impl_Above := by
  intro (s : Str) hs
  have hs : s.length ≤ 4194304 := hs
  refine ⟨trivial, ?_⟩
  conv => whnf
  refine ⟨s, rfl, fun _ => hs, ?_⟩
  (conv => whnf); refine ⟨fun h1 => ?_, fun h1 => ?_⟩
  · have h1 : pathOk s = false := by
      have h1 : (!pathOk s) = true := h1
      simpa using h1
    conv => whnf
    exact ⟨trivial, eqS (by simp [above, h1])⟩
  have h1 : pathOk s = true := by
    have h1 : (!pathOk s) = false := h1
    simpa using h1
  have hd : above s = pathOf ((names s).take ((names s).length - 1)) := by simp [above, h1]
  have hnl := names_len (p := s)
  have hns := names_sum (p := s)
  repeat ((conv => whnf); first | refine ⟨fun h => h, ?_⟩ | refine ⟨(by kernel_rfl : drawOk _ _ = true), ?_⟩ | refine ⟨fun (h : gtrue _) => by first | assumption | exact absurd (Eq.trans (Eq.symm h) (by assumption) : true = false) Bool.noConfusion, ?_⟩ | refine ⟨fun h => (absurd (Eq.trans (Eq.symm h) (by assumption) : true = false) Bool.noConfusion : False), ?_⟩ | refine ⟨_, w64 (by first | omega | ((try dsimp only at *); (try simp only [List.length_take, List.length_drop, List.length_map, List.length_append, List.length_cons, List.length_nil, List.length_replicate] at *); omega)), ?_⟩ | refine ⟨fun _ => ⟨by first | omega | ((try dsimp only at *); (try simp only [List.length_take, List.length_drop, List.length_map, List.length_append, List.length_cons, List.length_nil, List.length_replicate] at *); omega), by first | omega | ((try dsimp only at *); (try simp only [List.length_take, List.length_drop, List.length_map, List.length_append, List.length_cons, List.length_nil, List.length_replicate] at *); omega), by first | omega | ((try dsimp only at *); (try simp only [List.length_take, List.length_drop, List.length_map, List.length_append, List.length_cons, List.length_nil, List.length_replicate] at *); omega)⟩, ?_⟩ | refine ⟨by first | omega | ((try dsimp only at *); (try simp only [List.length_take, List.length_drop, List.length_map, List.length_append, List.length_cons, List.length_nil, List.length_replicate] at *); omega), ?_⟩ | refine ⟨fun h => ⟨by first | omega | ((try dsimp only at *); (try simp only [List.length_take, List.length_drop, List.length_map, List.length_append, List.length_cons, List.length_nil, List.length_replicate] at *); omega), by first | omega | ((try dsimp only at *); (try simp only [List.length_take, List.length_drop, List.length_map, List.length_append, List.length_cons, List.length_nil, List.length_replicate] at *); omega)⟩, ?_⟩ | refine ⟨fun (r : List AV) hr c hc => by simp [encS] at hr; (try subst hr); simp at hc; (try subst hc); rfl, ?_⟩)
  conv => whnf
  refine ⟨(((names s).length - 1 : Nat) : Int), by simp only [List.length_map]; split <;> omega, ?_⟩
  repeat ((conv => whnf); first | refine ⟨fun h => h, ?_⟩ | refine ⟨(by kernel_rfl : drawOk _ _ = true), ?_⟩ | refine ⟨fun (h : gtrue _) => by first | assumption | exact absurd (Eq.trans (Eq.symm h) (by assumption) : true = false) Bool.noConfusion, ?_⟩ | refine ⟨fun h => (absurd (Eq.trans (Eq.symm h) (by assumption) : true = false) Bool.noConfusion : False), ?_⟩ | refine ⟨_, w64 (by first | omega | ((try dsimp only at *); (try simp only [List.length_take, List.length_drop, List.length_map, List.length_append, List.length_cons, List.length_nil, List.length_replicate] at *); omega)), ?_⟩ | refine ⟨fun _ => ⟨by first | omega | ((try dsimp only at *); (try simp only [List.length_take, List.length_drop, List.length_map, List.length_append, List.length_cons, List.length_nil, List.length_replicate] at *); omega), by first | omega | ((try dsimp only at *); (try simp only [List.length_take, List.length_drop, List.length_map, List.length_append, List.length_cons, List.length_nil, List.length_replicate] at *); omega), by first | omega | ((try dsimp only at *); (try simp only [List.length_take, List.length_drop, List.length_map, List.length_append, List.length_cons, List.length_nil, List.length_replicate] at *); omega)⟩, ?_⟩ | refine ⟨by first | omega | ((try dsimp only at *); (try simp only [List.length_take, List.length_drop, List.length_map, List.length_append, List.length_cons, List.length_nil, List.length_replicate] at *); omega), ?_⟩ | refine ⟨fun h => ⟨by first | omega | ((try dsimp only at *); (try simp only [List.length_take, List.length_drop, List.length_map, List.length_append, List.length_cons, List.length_nil, List.length_replicate] at *); omega), by first | omega | ((try dsimp only at *); (try simp only [List.length_take, List.length_drop, List.length_map, List.length_append, List.length_cons, List.length_nil, List.length_replicate] at *); omega)⟩, ?_⟩ | refine ⟨fun (r : List AV) hr c hc => by simp [encS] at hr; (try subst hr); simp at hc; (try subst hc); rfl, ?_⟩)
  refine ⟨(names s).take ((names s).length - 1), by
    refine congrArg (fun x => [AV.rd 1 x]) ?_
    rw [cutS]
    simp only [Int.toNat_natCast, List.drop_zero, List.length_map]
    rfl, fun _ => ?_, ?_⟩
  · have := sum_take (names s) ((names s).length - 1)
    show _ < _
    rw [List.length_take]
    omega
  conv => whnf
  exact ⟨trivial, eqS hd.symm⟩
theorem ok_impl_Above : ConOk Try.prog 65 c_impl_Above := meets_ok (tabT _ _) (FOk.cons ok_impl_readPath (FOk.cons ok_impl_PathOf FOk.nil)) mixed Try.func65 rfl Try.call65 (by decide) (by kernel_rfl) m_impl_Above (by intro _ (y : Str) _; exact ⟨by simp [c_impl_Above, con, AV.noRd, noRdCells, noRdRows, noRdRows_map', encS], by simp [c_impl_Above, con, noRdCells]⟩)

def c_impl_isKind : PCon := con [mC] true Int (fun x => [.int .i64 x]) (fun _ => True) (fun x => .bool (inB x 1 3))
def E_impl_isKind : Env := ⟨lookup tyTab, lookup [(33, c_impl_within)], [0, 2]⟩
set_option maxRecDepth 100000 in
theorem m_impl_isKind : Meets E_impl_isKind (codeOf Try.f80) Try.f80.results.toList c_impl_isKind := by
  intro (x : Int) hs
  refine ⟨trivial, ?_⟩
  conv => whnf
  refine ⟨(x, 1, 3), rfl, fun _ => trivial, ?_⟩
  conv => whnf
  exact ⟨trivial, rfl⟩
theorem ok_impl_isKind : ConOk Try.prog 80 c_impl_isKind := meets_ok (tabT _ _) (FOk.cons ok_impl_within FOk.nil) mixed Try.func80 rfl Try.call80 (by decide) (by kernel_rfl) m_impl_isKind (by intro _ (y : Int) _; exact ⟨by simp [c_impl_isKind, con, AV.noRd, noRdCells, noRdRows, noRdRows_map', encS], by simp [c_impl_isKind, con, noRdCells]⟩)

def c_impl_itemOk : PCon := con [.rd [none, none, none, none]] true It (fun x => [.agg (encI x)]) (fun x => x.path.length ≤ 4194304 ∧ x.data.length ≤ 4194304) (fun x => .bool (itemOk x))
def E_impl_itemOk : Env := ⟨lookup tyTab, lookup [(33, c_impl_within), (69, c_impl_PathOk), (80, c_impl_isKind)], [0, 1, 2, 17, 20]⟩
set_option maxRecDepth 100000 in
theorem m_impl_itemOk : Meets E_impl_itemOk (codeOf Try.f64) Try.f64.results.toList c_impl_itemOk := by
  intro (x : It) hs
  obtain ⟨hs1, hs2⟩ : x.path.length ≤ 4194304 ∧ x.data.length ≤ 4194304 := hs
  refine ⟨trivial, ?_⟩
  conv => whnf
  refine ⟨x.path, rfl, fun _ => hs1, ?_⟩
  repeat ((conv => whnf); first | refine ⟨fun h => h, ?_⟩ | refine ⟨(by kernel_rfl : drawOk _ _ = true), ?_⟩ | refine ⟨fun (h : gtrue _) => by first | assumption | exact absurd (Eq.trans (Eq.symm h) (by assumption) : true = false) Bool.noConfusion, ?_⟩ | refine ⟨fun h => (absurd (Eq.trans (Eq.symm h) (by assumption) : true = false) Bool.noConfusion : False), ?_⟩ | refine ⟨_, w64 (by first | omega | ((try dsimp only at *); (try simp only [List.length_take, List.length_drop, List.length_map, List.length_append, List.length_cons, List.length_nil, List.length_replicate] at *); omega)), ?_⟩ | refine ⟨fun _ => ⟨by first | omega | ((try dsimp only at *); (try simp only [List.length_take, List.length_drop, List.length_map, List.length_append, List.length_cons, List.length_nil, List.length_replicate] at *); omega), by first | omega | ((try dsimp only at *); (try simp only [List.length_take, List.length_drop, List.length_map, List.length_append, List.length_cons, List.length_nil, List.length_replicate] at *); omega), by first | omega | ((try dsimp only at *); (try simp only [List.length_take, List.length_drop, List.length_map, List.length_append, List.length_cons, List.length_nil, List.length_replicate] at *); omega)⟩, ?_⟩ | refine ⟨by first | omega | ((try dsimp only at *); (try simp only [List.length_take, List.length_drop, List.length_map, List.length_append, List.length_cons, List.length_nil, List.length_replicate] at *); omega), ?_⟩ | refine ⟨fun h => ⟨by first | omega | ((try dsimp only at *); (try simp only [List.length_take, List.length_drop, List.length_map, List.length_append, List.length_cons, List.length_nil, List.length_replicate] at *); omega), by first | omega | ((try dsimp only at *); (try simp only [List.length_take, List.length_drop, List.length_map, List.length_append, List.length_cons, List.length_nil, List.length_replicate] at *); omega)⟩, ?_⟩ | refine ⟨fun (r : List AV) hr c hc => by simp [encS] at hr; (try subst hr); simp at hc; (try subst hc); rfl, ?_⟩ | refine ⟨x.kind, rfl, fun _ => trivial, ?_⟩)
  (conv => whnf); refine ⟨fun h1 => ?_, fun h1 => ?_⟩
  · conv => whnf
    exact ⟨trivial, eqB (by
      have h1 : (!pathOk x.path || x.path == sl || !inB x.kind 1 3) = true := h1
      unfold itemOk
      revert h1
      cases pathOk x.path <;> cases (x.path == sl) <;> cases inB x.kind 1 3 <;> simp)⟩
  have h1 : (pathOk x.path && !(x.path == sl) && inB x.kind 1 3) = true := by
    have h1 : (!pathOk x.path || x.path == sl || !inB x.kind 1 3) = false := h1
    revert h1
    cases pathOk x.path <;> cases (x.path == sl) <;> cases inB x.kind 1 3 <;> simp
  (conv => whnf); refine ⟨fun h2 => ?_, fun h2 => ?_⟩
  · repeat ((conv => whnf); first | refine ⟨fun h => h, ?_⟩ | refine ⟨(by kernel_rfl : drawOk _ _ = true), ?_⟩ | refine ⟨fun (h : gtrue _) => by first | assumption | exact absurd (Eq.trans (Eq.symm h) (by assumption) : true = false) Bool.noConfusion, ?_⟩ | refine ⟨fun h => (absurd (Eq.trans (Eq.symm h) (by assumption) : true = false) Bool.noConfusion : False), ?_⟩ | refine ⟨_, w64 (by first | omega | ((try dsimp only at *); (try simp only [List.length_take, List.length_drop, List.length_map, List.length_append, List.length_cons, List.length_nil, List.length_replicate] at *); omega)), ?_⟩ | refine ⟨fun _ => ⟨by first | omega | ((try dsimp only at *); (try simp only [List.length_take, List.length_drop, List.length_map, List.length_append, List.length_cons, List.length_nil, List.length_replicate] at *); omega), by first | omega | ((try dsimp only at *); (try simp only [List.length_take, List.length_drop, List.length_map, List.length_append, List.length_cons, List.length_nil, List.length_replicate] at *); omega), by first | omega | ((try dsimp only at *); (try simp only [List.length_take, List.length_drop, List.length_map, List.length_append, List.length_cons, List.length_nil, List.length_replicate] at *); omega)⟩, ?_⟩ | refine ⟨by first | omega | ((try dsimp only at *); (try simp only [List.length_take, List.length_drop, List.length_map, List.length_append, List.length_cons, List.length_nil, List.length_replicate] at *); omega), ?_⟩ | refine ⟨fun h => ⟨by first | omega | ((try dsimp only at *); (try simp only [List.length_take, List.length_drop, List.length_map, List.length_append, List.length_cons, List.length_nil, List.length_replicate] at *); omega), by first | omega | ((try dsimp only at *); (try simp only [List.length_take, List.length_drop, List.length_map, List.length_append, List.length_cons, List.length_nil, List.length_replicate] at *); omega)⟩, ?_⟩ | refine ⟨fun (r : List AV) hr c hc => by simp [encS] at hr; (try subst hr); simp at hc; (try subst hc); rfl, ?_⟩)
    have h2 : (x.kind == 2) = true := h2
    exact ⟨trivial, eqB (by unfold itemOk; rw [h1, if_pos h2]; rfl)⟩
  · repeat ((conv => whnf); first | refine ⟨fun h => h, ?_⟩ | refine ⟨(by kernel_rfl : drawOk _ _ = true), ?_⟩ | refine ⟨fun (h : gtrue _) => by first | assumption | exact absurd (Eq.trans (Eq.symm h) (by assumption) : true = false) Bool.noConfusion, ?_⟩ | refine ⟨fun h => (absurd (Eq.trans (Eq.symm h) (by assumption) : true = false) Bool.noConfusion : False), ?_⟩ | refine ⟨_, w64 (by first | omega | ((try dsimp only at *); (try simp only [List.length_take, List.length_drop, List.length_map, List.length_append, List.length_cons, List.length_nil, List.length_replicate] at *); omega)), ?_⟩ | refine ⟨fun _ => ⟨by first | omega | ((try dsimp only at *); (try simp only [List.length_take, List.length_drop, List.length_map, List.length_append, List.length_cons, List.length_nil, List.length_replicate] at *); omega), by first | omega | ((try dsimp only at *); (try simp only [List.length_take, List.length_drop, List.length_map, List.length_append, List.length_cons, List.length_nil, List.length_replicate] at *); omega), by first | omega | ((try dsimp only at *); (try simp only [List.length_take, List.length_drop, List.length_map, List.length_append, List.length_cons, List.length_nil, List.length_replicate] at *); omega)⟩, ?_⟩ | refine ⟨by first | omega | ((try dsimp only at *); (try simp only [List.length_take, List.length_drop, List.length_map, List.length_append, List.length_cons, List.length_nil, List.length_replicate] at *); omega), ?_⟩ | refine ⟨fun h => ⟨by first | omega | ((try dsimp only at *); (try simp only [List.length_take, List.length_drop, List.length_map, List.length_append, List.length_cons, List.length_nil, List.length_replicate] at *); omega), by first | omega | ((try dsimp only at *); (try simp only [List.length_take, List.length_drop, List.length_map, List.length_append, List.length_cons, List.length_nil, List.length_replicate] at *); omega)⟩, ?_⟩ | refine ⟨fun (r : List AV) hr c hc => by simp [encS] at hr; (try subst hr); simp at hc; (try subst hc); rfl, ?_⟩ | refine ⟨(_, _, _), rfl, fun _ => trivial, ?_⟩)
    have h2 : (x.kind == 2) = false := h2
    exact ⟨trivial, eqB (by unfold itemOk; rw [h1, if_neg (by rw [h2]; exact Bool.false_ne_true)]; rfl)⟩
theorem ok_impl_itemOk : ConOk Try.prog 64 c_impl_itemOk := meets_ok (tabT _ _) (FOk.cons ok_impl_within (FOk.cons ok_impl_PathOk (FOk.cons ok_impl_isKind FOk.nil))) mixed Try.func64 rfl Try.call64 (by decide) (by kernel_rfl) m_impl_itemOk (by intro _ (y : It) _; exact ⟨by simp [c_impl_itemOk, con, AV.noRd, noRdCells, noRdRows, noRdRows_map', encS], by simp [c_impl_itemOk, con, noRdCells]⟩)

def c_impl_itemAt_1 : PCon := con [.rd [none, none, none, none], .rd []] true (It × Str) (fun x => [.agg (encI x.1), .pin [.str x.2]]) (fun _ => True) (fun x => .bool (x.1.path == x.2))
def E_impl_itemAt_1 : Env := ⟨lookup tyTab, lookup [], [0, 1, 2, 3]⟩
set_option maxRecDepth 100000 in
theorem m_impl_itemAt_1 : Meets E_impl_itemAt_1 (codeOf Try.f72) Try.f72.results.toList c_impl_itemAt_1 := by
  rintro ⟨x, p⟩ hs
  refine ⟨trivial, ?_⟩
  conv => whnf
  exact ⟨trivial, rfl⟩
theorem ok_impl_itemAt_1 : ConOk Try.prog 72 c_impl_itemAt_1 := meets_ok (tabT _ _) FOk.nil mixed Try.func72 rfl Try.call72 (by decide) (by kernel_rfl) m_impl_itemAt_1 (by intro _ (y : (It × Str)) _; exact ⟨by simp [c_impl_itemAt_1, con, AV.noRd, noRdCells, noRdRows, noRdRows_map', encS], by simp [c_impl_itemAt_1, con, noRdCells]⟩)

def c_slices_IndexFunc_Item : PCon := con [mS 4, mC] true (Tr × Str) (fun x => [.rd 4 (x.1.map encI), .fn 72 [.pin [.str x.2]]]) (fun x => x.1.length ≤ 4194304) (fun x => .int .i64 (fnd (fun y => y.path == x.2) x.1))
def E_slices_IndexFunc_Item : Env := ⟨lookup tyTab, lookup [(72, c_impl_itemAt_1)], [0, 1, 4, 5, 7, 8, 9, 16]⟩
set_option maxRecDepth 100000 in
theorem m_slices_IndexFunc_Item : Meets E_slices_IndexFunc_Item (codeOf Try.f71) Try.f71.results.toList c_slices_IndexFunc_Item := by
  rintro ⟨l, p⟩ hs
  have hs1 : l.length ≤ 4194304 := hs
  refine ⟨trivial, ?_⟩
  conv => whnf
  refine loop_rule (fun i : Nat => ⟨[(0, ⟨none, .rd 4 (l.map encI)⟩), (1, ⟨none, .fn 72 [.pin [.str p]]⟩), (7, ⟨none, .int .i64 l.length⟩), (8, ⟨none, .int .i64 i⟩)], [], 0⟩)
    (fun i => i ≤ l.length ∧ (l.take i).any (fun y => y.path == p) = false) (fun i => l.length - i) 0 ?_ ⟨by omega, rfl⟩ ?_
  · (refine ⟨?_, ?_, rfl⟩ <;> repeat' (first | exact rfl | exact trivial | refine ⟨?_, ?_⟩ | fail) <;> (conv => whnf))
    all_goals simp
  rintro i ⟨hi, hI⟩
  (conv => whnf); refine ⟨fun h1 => ?_, fun h1 => ?_⟩
  · have h1 : i < l.length := by simpa using h1
    obtain ⟨b, hb⟩ := get_lt h1
    repeat ((conv => whnf); first | refine ⟨fun h => h, ?_⟩ | refine ⟨(by kernel_rfl : drawOk _ _ = true), ?_⟩ | refine ⟨fun (h : gtrue _) => by first | assumption | exact absurd (Eq.trans (Eq.symm h) (by assumption) : true = false) Bool.noConfusion, ?_⟩ | refine ⟨fun h => (absurd (Eq.trans (Eq.symm h) (by assumption) : true = false) Bool.noConfusion : False), ?_⟩ | refine ⟨_, w64 (by first | omega | ((try dsimp only at *); (try simp only [List.length_take, List.length_drop, List.length_map, List.length_append, List.length_cons, List.length_nil, List.length_replicate] at *); omega)), ?_⟩ | refine ⟨fun _ => ⟨by first | omega | ((try dsimp only at *); (try simp only [List.length_take, List.length_drop, List.length_map, List.length_append, List.length_cons, List.length_nil, List.length_replicate] at *); omega), by first | omega | ((try dsimp only at *); (try simp only [List.length_take, List.length_drop, List.length_map, List.length_append, List.length_cons, List.length_nil, List.length_replicate] at *); omega), by first | omega | ((try dsimp only at *); (try simp only [List.length_take, List.length_drop, List.length_map, List.length_append, List.length_cons, List.length_nil, List.length_replicate] at *); omega)⟩, ?_⟩ | refine ⟨by first | omega | ((try dsimp only at *); (try simp only [List.length_take, List.length_drop, List.length_map, List.length_append, List.length_cons, List.length_nil, List.length_replicate] at *); omega), ?_⟩ | refine ⟨fun h => ⟨by first | omega | ((try dsimp only at *); (try simp only [List.length_take, List.length_drop, List.length_map, List.length_append, List.length_cons, List.length_nil, List.length_replicate] at *); omega), by first | omega | ((try dsimp only at *); (try simp only [List.length_take, List.length_drop, List.length_map, List.length_append, List.length_cons, List.length_nil, List.length_replicate] at *); omega)⟩, ?_⟩ | refine ⟨fun (r : List AV) hr c hc => by simp [encS] at hr; (try subst hr); simp at hc; (try subst hc); rfl, ?_⟩ | refine ⟨encI b, fun _ => ⟨by omega, by simp [hb]⟩, ?_⟩)
    refine ⟨(b, p), rfl, fun _ => trivial, ?_⟩
    (conv => whnf); refine ⟨fun h2 => ?_, fun h2 => ?_⟩
    · have h2 : (b.path == p) = true := h2
      conv => whnf
      exact ⟨trivial, eqN' (fnd_hit hI hb h2).symm⟩
    · have h2 : (b.path == p) = false := h2
      repeat ((conv => whnf); first | refine ⟨fun h => h, ?_⟩ | refine ⟨(by kernel_rfl : drawOk _ _ = true), ?_⟩ | refine ⟨fun (h : gtrue _) => by first | assumption | exact absurd (Eq.trans (Eq.symm h) (by assumption) : true = false) Bool.noConfusion, ?_⟩ | refine ⟨fun h => (absurd (Eq.trans (Eq.symm h) (by assumption) : true = false) Bool.noConfusion : False), ?_⟩ | refine ⟨_, w64 (by first | omega | ((try dsimp only at *); (try simp only [List.length_take, List.length_drop, List.length_map, List.length_append, List.length_cons, List.length_nil, List.length_replicate] at *); omega)), ?_⟩ | refine ⟨fun _ => ⟨by first | omega | ((try dsimp only at *); (try simp only [List.length_take, List.length_drop, List.length_map, List.length_append, List.length_cons, List.length_nil, List.length_replicate] at *); omega), by first | omega | ((try dsimp only at *); (try simp only [List.length_take, List.length_drop, List.length_map, List.length_append, List.length_cons, List.length_nil, List.length_replicate] at *); omega), by first | omega | ((try dsimp only at *); (try simp only [List.length_take, List.length_drop, List.length_map, List.length_append, List.length_cons, List.length_nil, List.length_replicate] at *); omega)⟩, ?_⟩ | refine ⟨by first | omega | ((try dsimp only at *); (try simp only [List.length_take, List.length_drop, List.length_map, List.length_append, List.length_cons, List.length_nil, List.length_replicate] at *); omega), ?_⟩ | refine ⟨fun h => ⟨by first | omega | ((try dsimp only at *); (try simp only [List.length_take, List.length_drop, List.length_map, List.length_append, List.length_cons, List.length_nil, List.length_replicate] at *); omega), by first | omega | ((try dsimp only at *); (try simp only [List.length_take, List.length_drop, List.length_map, List.length_append, List.length_cons, List.length_nil, List.length_replicate] at *); omega)⟩, ?_⟩ | refine ⟨fun (r : List AV) hr c hc => by simp [encS] at hr; (try subst hr); simp at hc; (try subst hc); rfl, ?_⟩)
      refine again (i + 1) ?_ ⟨h1, any_take_succ hI hb h2⟩ (by first | omega | (simp; done) | (simp; omega))
      (refine ⟨?_, ?_, rfl⟩ <;> repeat' (first | exact rfl | exact trivial | refine ⟨?_, ?_⟩ | fail) <;> (conv => whnf))
  · have h1 : i = l.length := by
      have : ¬ i < l.length := by simpa using h1
      omega
    subst h1
    rw [List.take_length] at hI
    conv => whnf
    exact ⟨trivial, eqN' (fnd_none hI).symm⟩
theorem ok_slices_IndexFunc_Item : ConOk Try.prog 71 c_slices_IndexFunc_Item := meets_ok (tabT _ _) (FOk.cons ok_impl_itemAt_1 FOk.nil) mixed Try.func71 rfl Try.call71 (by decide) (by kernel_rfl) m_slices_IndexFunc_Item (by intro _ (y : (Tr × Str)) _; exact ⟨by simp [c_slices_IndexFunc_Item, con, AV.noRd, noRdCells, noRdRows, noRdRows_map', encS], by simp [c_slices_IndexFunc_Item, con, noRdCells]⟩)

def c_impl_itemAt : PCon := con [mS 4, mC] true (Tr × Str) (fun x => [rdT x.1, .str x.2]) (fun x => x.1.length ≤ 4194304) (fun x => .int .i64 (fnd (fun y => y.path == x.2) x.1))
def E_impl_itemAt : Env := ⟨lookup tyTab, lookup [(71, c_slices_IndexFunc_Item)], [0, 1, 2, 3, 4]⟩
set_option maxRecDepth 100000 in
theorem m_impl_itemAt : Meets E_impl_itemAt (codeOf Try.f48) Try.f48.results.toList c_impl_itemAt := by
  rintro ⟨l, p⟩ hs
  refine ⟨trivial, ?_⟩
  conv => whnf
  refine ⟨(l, p), rfl, fun _ => hs, ?_⟩
  conv => whnf
  exact ⟨trivial, rfl⟩
theorem ok_impl_itemAt : ConOk Try.prog 48 c_impl_itemAt := meets_ok (tabT _ _) (FOk.cons ok_slices_IndexFunc_Item FOk.nil) mixed Try.func48 rfl Try.call48 (by decide) (by kernel_rfl) m_impl_itemAt (by intro _ (y : (Tr × Str)) _; exact ⟨by simp [c_impl_itemAt, con, AV.noRd, noRdCells, noRdRows, noRdRows_map', encS], by simp [c_impl_itemAt, con, noRdCells]⟩)

def c_impl_TreeGet : PCon := con [mS 4, mC] true (Tr × Str) (fun x => [rdT x.1, .str x.2]) (fun x => smT x.1) (fun x => resGet (treeGet x.1 x.2))
def E_impl_TreeGet : Env := ⟨lookup tyTab, lookup [(48, c_impl_itemAt)], [0, 1, 2, 4, 5, 6, 8, 14]⟩
set_option maxRecDepth 100000 in
theorem m_impl_TreeGet : Meets E_impl_TreeGet (codeOf Try.f43) Try.f43.results.toList c_impl_TreeGet := by
  rintro ⟨t, p⟩ hs
  obtain ⟨hs1, hs2⟩ : smT t := hs
  refine ⟨trivial, ?_⟩
  (conv => whnf); refine ⟨fun h1 => ?_, fun h1 => ?_⟩
  · have h1 : (p == sl) = true := h1
    conv => whnf
    rw [show c_impl_TreeGet.res (t, p) = .tup [.agg (encI It.top), .bool true] by show resGet (treeGet t p) = _; simp [treeGet, h1]; rfl]
    exact ⟨trivial, ⟨rfl, rfl, rfl, rfl, trivial⟩, rfl, trivial⟩
  have h1 : (p == sl) = false := h1
  have hd : treeGet t p = t.find? (fun y => y.path == p) := by simp [treeGet, h1]
  conv => whnf
  refine ⟨(t, p), rfl, fun _ => hs1, ?_⟩
  (conv => whnf); refine ⟨fun h2 => ?_, fun h2 => ?_⟩
  · have h2 : t.any (fun y => y.path == p) = false := by
      rw [← fnd_pos]; simpa using h2
    conv => whnf
    rw [show c_impl_TreeGet.res (t, p) = .tup [.agg (encI It.none), .bool false] by show resGet (treeGet t p) = _; rw [hd, any_find h2]; rfl]
    exact ⟨trivial, ⟨rfl, rfl, rfl, rfl, trivial⟩, rfl, trivial⟩
  · have h2 : t.any (fun y => y.path == p) = true := by
      rw [← fnd_pos]; simpa using h2
    obtain ⟨b, hb1, hb2⟩ := fnd_get h2
    have hg := fnd_ge (p := fun y : It => y.path == p) (l := t)
    have hp0 : 0 ≤ fnd (fun y : It => y.path == p) t := by have := fnd_pos (p := fun y : It => y.path == p) (l := t); rw [h2] at this; simpa using this
    repeat ((conv => whnf); first | refine ⟨fun h => h, ?_⟩ | refine ⟨(by kernel_rfl : drawOk _ _ = true), ?_⟩ | refine ⟨fun (h : gtrue _) => by first | assumption | exact absurd (Eq.trans (Eq.symm h) (by assumption) : true = false) Bool.noConfusion, ?_⟩ | refine ⟨fun h => (absurd (Eq.trans (Eq.symm h) (by assumption) : true = false) Bool.noConfusion : False), ?_⟩ | refine ⟨_, w64 (by first | omega | ((try dsimp only at *); (try simp only [List.length_take, List.length_drop, List.length_map, List.length_append, List.length_cons, List.length_nil, List.length_replicate] at *); omega)), ?_⟩ | refine ⟨fun _ => ⟨by first | omega | ((try dsimp only at *); (try simp only [List.length_take, List.length_drop, List.length_map, List.length_append, List.length_cons, List.length_nil, List.length_replicate] at *); omega), by first | omega | ((try dsimp only at *); (try simp only [List.length_take, List.length_drop, List.length_map, List.length_append, List.length_cons, List.length_nil, List.length_replicate] at *); omega), by first | omega | ((try dsimp only at *); (try simp only [List.length_take, List.length_drop, List.length_map, List.length_append, List.length_cons, List.length_nil, List.length_replicate] at *); omega)⟩, ?_⟩ | refine ⟨by first | omega | ((try dsimp only at *); (try simp only [List.length_take, List.length_drop, List.length_map, List.length_append, List.length_cons, List.length_nil, List.length_replicate] at *); omega), ?_⟩ | refine ⟨fun h => ⟨by first | omega | ((try dsimp only at *); (try simp only [List.length_take, List.length_drop, List.length_map, List.length_append, List.length_cons, List.length_nil, List.length_replicate] at *); omega), by first | omega | ((try dsimp only at *); (try simp only [List.length_take, List.length_drop, List.length_map, List.length_append, List.length_cons, List.length_nil, List.length_replicate] at *); omega)⟩, ?_⟩ | refine ⟨fun (r : List AV) hr c hc => by simp [encS] at hr; (try subst hr); simp at hc; (try subst hc); rfl, ?_⟩ | refine ⟨encI b, fun _ => ⟨hp0, get_map hb1⟩, ?_⟩)
    rw [show c_impl_TreeGet.res (t, p) = .tup [.agg (encI b), .bool true] by show resGet (treeGet t p) = _; rw [hd, hb2]; rfl]
    exact ⟨trivial, ⟨rfl, rfl, rfl, rfl, trivial⟩, rfl, trivial⟩
theorem ok_impl_TreeGet : ConOk Try.prog 43 c_impl_TreeGet := meets_ok (tabT _ _) (FOk.cons ok_impl_itemAt FOk.nil) mixed Try.func43 rfl Try.call43 (by decide) (by kernel_rfl) m_impl_TreeGet (by intro _ (y : Tr × Str) _; refine ⟨?_, trivial⟩; show AV.noRd (resGet (treeGet y.1 y.2)); simp [resGet, AV.noRd, noRdCells, encI])


end Go.GH

set_option linter.unusedVariables false
set_option linter.unusedSimpArgs false
namespace Go.GH
open Go Go.Proofs

def c_impl_TreeOk : PCon := con [mS 4] true Tr (fun t => [rdT t]) smT (fun t => .bool (treeOk t))
def E_impl_TreeOk : Env := ⟨lookup tyTab, lookup [(43, c_impl_TreeGet), (64, c_impl_itemOk), (65, c_impl_Above)], [0, 1, 2, 3, 4, 5, 6, 10, 12, 13, 14, 15, 37, 52]⟩
set_option maxRecDepth 100000 in
theorem m_impl_TreeOk : Meets E_impl_TreeOk (codeOf Try.f39) Try.f39.results.toList c_impl_TreeOk := by
  intro (t : Tr) hs
  obtain ⟨hs1, hs2⟩ : smT t := hs
  refine ⟨trivial, ?_⟩
  (conv => whnf); refine ⟨fun h1 => ?_, fun h1 => ?_⟩
  · conv => whnf
    exact ⟨trivial, eqB (by have h1 : ¬ t.length ≤ 40 := by simp at h1; omega
                            simp [treeOk, h1])⟩
  have h1 : t.length ≤ 40 := by simp at h1; omega
  repeat ((conv => whnf); first | refine ⟨fun h => h, ?_⟩ | refine ⟨(by kernel_rfl : drawOk _ _ = true), ?_⟩ | refine ⟨fun (h : gtrue _) => by first | assumption | exact absurd (Eq.trans (Eq.symm h) (by assumption) : true = false) Bool.noConfusion, ?_⟩ | refine ⟨fun h => (absurd (Eq.trans (Eq.symm h) (by assumption) : true = false) Bool.noConfusion : False), ?_⟩ | refine ⟨_, w64 (by first | omega | ((try dsimp only at *); (try simp only [List.length_take, List.length_drop, List.length_map, List.length_append, List.length_cons, List.length_nil, List.length_replicate] at *); omega)), ?_⟩ | refine ⟨fun _ => ⟨by first | omega | ((try dsimp only at *); (try simp only [List.length_take, List.length_drop, List.length_map, List.length_append, List.length_cons, List.length_nil, List.length_replicate] at *); omega), by first | omega | ((try dsimp only at *); (try simp only [List.length_take, List.length_drop, List.length_map, List.length_append, List.length_cons, List.length_nil, List.length_replicate] at *); omega), by first | omega | ((try dsimp only at *); (try simp only [List.length_take, List.length_drop, List.length_map, List.length_append, List.length_cons, List.length_nil, List.length_replicate] at *); omega)⟩, ?_⟩ | refine ⟨by first | omega | ((try dsimp only at *); (try simp only [List.length_take, List.length_drop, List.length_map, List.length_append, List.length_cons, List.length_nil, List.length_replicate] at *); omega), ?_⟩ | refine ⟨fun h => ⟨by first | omega | ((try dsimp only at *); (try simp only [List.length_take, List.length_drop, List.length_map, List.length_append, List.length_cons, List.length_nil, List.length_replicate] at *); omega), by first | omega | ((try dsimp only at *); (try simp only [List.length_take, List.length_drop, List.length_map, List.length_append, List.length_cons, List.length_nil, List.length_replicate] at *); omega)⟩, ?_⟩ | refine ⟨fun (r : List AV) hr c hc => by simp [encS] at hr; (try subst hr); simp at hc; (try subst hc); rfl, ?_⟩)
  refine loop_rule (fun i : Nat => ⟨[(1, ⟨none, .bx 0 0⟩), (12, ⟨none, .rd 4 (t.map encI)⟩), (13, ⟨none, .int .i64 t.length⟩), (14, ⟨none, .int .i64 i⟩)], [(0, .own 1 [[.rd 4 (t.map encI)]])], 1⟩)
    (fun i => i ≤ t.length ∧ ∀ j, j < i → chk t j = true) (fun i => t.length - i) 0 ?_ ⟨by omega, fun j hj => by omega⟩ ?_
  · (refine ⟨?_, ?_, rfl⟩ <;> repeat' (first | exact rfl | exact trivial | refine ⟨?_, ?_⟩ | fail) <;> (conv => whnf))
    all_goals simp
  rintro i ⟨hi, hI⟩
  (conv => whnf); refine ⟨fun h2 => ?_, fun h2 => ?_⟩
  · have h2 : i < t.length := by simpa using h2
    obtain ⟨b, hb⟩ := get_lt h2
    have hbs := hs2 b (List.mem_of_getElem? hb)
    have hbad : ∀ {q : Bool}, chk t i = q → q = false → treeOk t = false := fun h e => treeOk_bad h2 (h.trans e)
    generalize hpv : t.getD (i - 1) It.none = pv
    have hprev : 0 < i → t[i - 1]? = some pv := fun h => by
      rw [← hpv, List.getD_eq_getElem?_getD, List.getElem?_eq_getElem (by omega)]; rfl
    have hix : ∀ {A : Bool}, gtrue (some (A && decide ((i : Int) > 0))) → (0 : Int) ≤ (i : Int) - 1 ∧ (t.map encI)[((i : Int) - 1).toNat]? = some (encI pv) := by
      intro A h
      have hi0 : 0 < i := by simp [gtrue] at h; omega
      exact ⟨by omega, by rw [show ((i : Int) - 1).toNat = i - 1 by omega]; exact get_map (hprev hi0)⟩
    repeat ((conv => whnf); first | refine ⟨fun h => h, ?_⟩ | refine ⟨(by kernel_rfl : drawOk _ _ = true), ?_⟩ | refine ⟨fun (h : gtrue _) => by first | assumption | exact absurd (Eq.trans (Eq.symm h) (by assumption) : true = false) Bool.noConfusion, ?_⟩ | refine ⟨fun h => (absurd (Eq.trans (Eq.symm h) (by assumption) : true = false) Bool.noConfusion : False), ?_⟩ | refine ⟨_, w64 (by first | omega | ((try dsimp only at *); (try simp only [List.length_take, List.length_drop, List.length_map, List.length_append, List.length_cons, List.length_nil, List.length_replicate] at *); omega)), ?_⟩ | refine ⟨fun _ => ⟨by first | omega | ((try dsimp only at *); (try simp only [List.length_take, List.length_drop, List.length_map, List.length_append, List.length_cons, List.length_nil, List.length_replicate] at *); omega), by first | omega | ((try dsimp only at *); (try simp only [List.length_take, List.length_drop, List.length_map, List.length_append, List.length_cons, List.length_nil, List.length_replicate] at *); omega), by first | omega | ((try dsimp only at *); (try simp only [List.length_take, List.length_drop, List.length_map, List.length_append, List.length_cons, List.length_nil, List.length_replicate] at *); omega)⟩, ?_⟩ | refine ⟨by first | omega | ((try dsimp only at *); (try simp only [List.length_take, List.length_drop, List.length_map, List.length_append, List.length_cons, List.length_nil, List.length_replicate] at *); omega), ?_⟩ | refine ⟨fun h => ⟨by first | omega | ((try dsimp only at *); (try simp only [List.length_take, List.length_drop, List.length_map, List.length_append, List.length_cons, List.length_nil, List.length_replicate] at *); omega), by first | omega | ((try dsimp only at *); (try simp only [List.length_take, List.length_drop, List.length_map, List.length_append, List.length_cons, List.length_nil, List.length_replicate] at *); omega)⟩, ?_⟩ | refine ⟨fun (r : List AV) hr c hc => by simp [encS] at hr; (try subst hr); simp at hc; (try subst hc); rfl, ?_⟩ | refine ⟨encI b, fun _ => ⟨by omega, by simp [hb]⟩, ?_⟩)
    refine ⟨b, rfl, fun _ => hbs, ?_⟩
    repeat ((conv => whnf); first | refine ⟨fun h => h, ?_⟩ | refine ⟨(by kernel_rfl : drawOk _ _ = true), ?_⟩ | refine ⟨fun (h : gtrue _) => by first | assumption | exact absurd (Eq.trans (Eq.symm h) (by assumption) : true = false) Bool.noConfusion, ?_⟩ | refine ⟨fun h => (absurd (Eq.trans (Eq.symm h) (by assumption) : true = false) Bool.noConfusion : False), ?_⟩ | refine ⟨_, w64 (by first | omega | ((try dsimp only at *); (try simp only [List.length_take, List.length_drop, List.length_map, List.length_append, List.length_cons, List.length_nil, List.length_replicate] at *); omega)), ?_⟩ | refine ⟨fun _ => ⟨by first | omega | ((try dsimp only at *); (try simp only [List.length_take, List.length_drop, List.length_map, List.length_append, List.length_cons, List.length_nil, List.length_replicate] at *); omega), by first | omega | ((try dsimp only at *); (try simp only [List.length_take, List.length_drop, List.length_map, List.length_append, List.length_cons, List.length_nil, List.length_replicate] at *); omega), by first | omega | ((try dsimp only at *); (try simp only [List.length_take, List.length_drop, List.length_map, List.length_append, List.length_cons, List.length_nil, List.length_replicate] at *); omega)⟩, ?_⟩ | refine ⟨by first | omega | ((try dsimp only at *); (try simp only [List.length_take, List.length_drop, List.length_map, List.length_append, List.length_cons, List.length_nil, List.length_replicate] at *); omega), ?_⟩ | refine ⟨fun h => ⟨by first | omega | ((try dsimp only at *); (try simp only [List.length_take, List.length_drop, List.length_map, List.length_append, List.length_cons, List.length_nil, List.length_replicate] at *); omega), by first | omega | ((try dsimp only at *); (try simp only [List.length_take, List.length_drop, List.length_map, List.length_append, List.length_cons, List.length_nil, List.length_replicate] at *); omega)⟩, ?_⟩ | refine ⟨fun (r : List AV) hr c hc => by simp [encS] at hr; (try subst hr); simp at hc; (try subst hc); rfl, ?_⟩ | refine ⟨encI pv, fun h => hix h, ?_⟩)
    have e1 : decide ((i : Int) > 0) = !(i == 0) := by
      rw [Bool.eq_iff_iff]
      simp
      omega
    (conv => whnf); refine ⟨fun h3 => ?_, fun h3 => ?_⟩
    · have h3 : (!itemOk b || (decide ((i : Int) > 0) && !strLt pv.path b.path)) = true := h3
      conv => whnf
      exact ⟨trivial, eqB (hbad (chk_eq hb hpv) (by
        rw [e1] at h3
        revert h3
        cases itemOk b <;> cases (i == 0) <;> cases strLt pv.path b.path <;> simp)).symm⟩
    have h3 : (itemOk b && (i == 0 || strLt pv.path b.path)) = true := by
      have h3 : (!itemOk b || (decide ((i : Int) > 0) && !strLt pv.path b.path)) = false := h3
      rw [e1] at h3
      revert h3
      cases itemOk b <;> cases (i == 0) <;> cases strLt pv.path b.path <;> simp
    conv => whnf
    refine ⟨b.path, rfl, fun _ => hbs.1, ?_⟩
    conv => whnf
    refine ⟨(t, above b.path), rfl, fun _ => ⟨hs1, hs2⟩, ?_⟩
    repeat ((conv => whnf); first | refine ⟨fun h => h, ?_⟩ | refine ⟨(by kernel_rfl : drawOk _ _ = true), ?_⟩ | refine ⟨fun (h : gtrue _) => by first | assumption | exact absurd (Eq.trans (Eq.symm h) (by assumption) : true = false) Bool.noConfusion, ?_⟩ | refine ⟨fun h => (absurd (Eq.trans (Eq.symm h) (by assumption) : true = false) Bool.noConfusion : False), ?_⟩ | refine ⟨_, w64 (by first | omega | ((try dsimp only at *); (try simp only [List.length_take, List.length_drop, List.length_map, List.length_append, List.length_cons, List.length_nil, List.length_replicate] at *); omega)), ?_⟩ | refine ⟨fun _ => ⟨by first | omega | ((try dsimp only at *); (try simp only [List.length_take, List.length_drop, List.length_map, List.length_append, List.length_cons, List.length_nil, List.length_replicate] at *); omega), by first | omega | ((try dsimp only at *); (try simp only [List.length_take, List.length_drop, List.length_map, List.length_append, List.length_cons, List.length_nil, List.length_replicate] at *); omega), by first | omega | ((try dsimp only at *); (try simp only [List.length_take, List.length_drop, List.length_map, List.length_append, List.length_cons, List.length_nil, List.length_replicate] at *); omega)⟩, ?_⟩ | refine ⟨by first | omega | ((try dsimp only at *); (try simp only [List.length_take, List.length_drop, List.length_map, List.length_append, List.length_cons, List.length_nil, List.length_replicate] at *); omega), ?_⟩ | refine ⟨fun h => ⟨by first | omega | ((try dsimp only at *); (try simp only [List.length_take, List.length_drop, List.length_map, List.length_append, List.length_cons, List.length_nil, List.length_replicate] at *); omega), by first | omega | ((try dsimp only at *); (try simp only [List.length_take, List.length_drop, List.length_map, List.length_append, List.length_cons, List.length_nil, List.length_replicate] at *); omega)⟩, ?_⟩ | refine ⟨fun (r : List AV) hr c hc => by simp [encS] at hr; (try subst hr); simp at hc; (try subst hc); rfl, ?_⟩)
    (conv => whnf); refine ⟨fun h5 => ?_, fun h5 => ?_⟩
    · conv => whnf
      exact ⟨trivial, eqB (hbad (chk_bad3 hb (by
        have h5 : (!(treeGet t (above b.path)).isSome || ((treeGet t (above b.path)).getD It.none).kind != 2) = true := h5
        unfold dirAt
        revert h5
        cases (treeGet t (above b.path)).isSome <;> simp)) rfl).symm⟩
    have h5 : dirAt t (above b.path) = true := by
      have h5 : (!(treeGet t (above b.path)).isSome || ((treeGet t (above b.path)).getD It.none).kind != 2) = false := h5
      unfold dirAt
      revert h5
      cases (treeGet t (above b.path)).isSome <;> simp
    repeat ((conv => whnf); first | refine ⟨fun h => h, ?_⟩ | refine ⟨(by kernel_rfl : drawOk _ _ = true), ?_⟩ | refine ⟨fun (h : gtrue _) => by first | assumption | exact absurd (Eq.trans (Eq.symm h) (by assumption) : true = false) Bool.noConfusion, ?_⟩ | refine ⟨fun h => (absurd (Eq.trans (Eq.symm h) (by assumption) : true = false) Bool.noConfusion : False), ?_⟩ | refine ⟨_, w64 (by first | omega | ((try dsimp only at *); (try simp only [List.length_take, List.length_drop, List.length_map, List.length_append, List.length_cons, List.length_nil, List.length_replicate] at *); omega)), ?_⟩ | refine ⟨fun _ => ⟨by first | omega | ((try dsimp only at *); (try simp only [List.length_take, List.length_drop, List.length_map, List.length_append, List.length_cons, List.length_nil, List.length_replicate] at *); omega), by first | omega | ((try dsimp only at *); (try simp only [List.length_take, List.length_drop, List.length_map, List.length_append, List.length_cons, List.length_nil, List.length_replicate] at *); omega), by first | omega | ((try dsimp only at *); (try simp only [List.length_take, List.length_drop, List.length_map, List.length_append, List.length_cons, List.length_nil, List.length_replicate] at *); omega)⟩, ?_⟩ | refine ⟨by first | omega | ((try dsimp only at *); (try simp only [List.length_take, List.length_drop, List.length_map, List.length_append, List.length_cons, List.length_nil, List.length_replicate] at *); omega), ?_⟩ | refine ⟨fun h => ⟨by first | omega | ((try dsimp only at *); (try simp only [List.length_take, List.length_drop, List.length_map, List.length_append, List.length_cons, List.length_nil, List.length_replicate] at *); omega), by first | omega | ((try dsimp only at *); (try simp only [List.length_take, List.length_drop, List.length_map, List.length_append, List.length_cons, List.length_nil, List.length_replicate] at *); omega)⟩, ?_⟩ | refine ⟨fun (r : List AV) hr c hc => by simp [encS] at hr; (try subst hr); simp at hc; (try subst hc); rfl, ?_⟩)
    refine again (i + 1) ?_ ⟨h2, fun j hj => ?_⟩ (by first | omega | (simp; done) | (simp; omega))
    · (refine ⟨?_, ?_, rfl⟩ <;> repeat' (first | exact rfl | exact trivial | refine ⟨?_, ?_⟩ | fail) <;> (conv => whnf))
    · rcases Nat.lt_or_ge j i with h | h
      · exact hI j h
      · rw [show j = i by omega, chk_eq hb hpv, h3, h5]; rfl
  · have h2 : i = t.length := by
      have : ¬ i < t.length := by simpa using h2
      omega
    subst h2
    conv => whnf
    exact ⟨trivial, eqB (treeOk_good h1 hI).symm⟩
theorem ok_impl_TreeOk : ConOk Try.prog 39 c_impl_TreeOk := meets_ok (tabT _ _) (FOk.cons ok_impl_TreeGet (FOk.cons ok_impl_itemOk (FOk.cons ok_impl_Above FOk.nil))) mixed Try.func39 rfl Try.call39 (by decide) (by kernel_rfl) m_impl_TreeOk (by intro _ (y : Tr) _; exact ⟨by simp [c_impl_TreeOk, con, AV.noRd, noRdCells, noRdRows, noRdRows_map', encS], by simp [c_impl_TreeOk, con, noRdCells]⟩)

def c_impl_Heaviest : PCon := con [mS 4] true Tr (fun t => [rdT t]) smT (fun t => .str (heaviest t))
def E_impl_Heaviest : Env := ⟨lookup tyTab, lookup [(39, c_impl_TreeOk)], [0, 1, 2, 3, 4, 6, 9, 11, 12, 13, 14, 26]⟩
set_option maxRecDepth 100000 in
theorem m_impl_Heaviest : Meets E_impl_Heaviest (codeOf Try.f17) Try.f17.results.toList c_impl_Heaviest := by
  intro (t : Tr) hs
  obtain ⟨hs1, hs2⟩ : smT t := hs
  refine ⟨trivial, ?_⟩
  conv => whnf
  refine ⟨t, rfl, fun _ => ⟨hs1, hs2⟩, ?_⟩
  (conv => whnf); refine ⟨fun h1 => ?_, fun h1 => ?_⟩
  · have h1 : treeOk t = false := by
      have h1 : (!treeOk t) = true := h1
      simpa using h1
    conv => whnf
    exact ⟨trivial, eqS (by simp [heaviest, h1])⟩
  have h1 : treeOk t = true := by
    have h1 : (!treeOk t) = false := h1
    simpa using h1
  have hd : heaviest t = (t.foldl heavy ([], -1)).1 := by simp [heaviest, h1]
  repeat ((conv => whnf); first | refine ⟨fun h => h, ?_⟩ | refine ⟨(by kernel_rfl : drawOk _ _ = true), ?_⟩ | refine ⟨fun (h : gtrue _) => by first | assumption | exact absurd (Eq.trans (Eq.symm h) (by assumption) : true = false) Bool.noConfusion, ?_⟩ | refine ⟨fun h => (absurd (Eq.trans (Eq.symm h) (by assumption) : true = false) Bool.noConfusion : False), ?_⟩ | refine ⟨_, w64 (by first | omega | ((try dsimp only at *); (try simp only [List.length_take, List.length_drop, List.length_map, List.length_append, List.length_cons, List.length_nil, List.length_replicate] at *); omega)), ?_⟩ | refine ⟨fun _ => ⟨by first | omega | ((try dsimp only at *); (try simp only [List.length_take, List.length_drop, List.length_map, List.length_append, List.length_cons, List.length_nil, List.length_replicate] at *); omega), by first | omega | ((try dsimp only at *); (try simp only [List.length_take, List.length_drop, List.length_map, List.length_append, List.length_cons, List.length_nil, List.length_replicate] at *); omega), by first | omega | ((try dsimp only at *); (try simp only [List.length_take, List.length_drop, List.length_map, List.length_append, List.length_cons, List.length_nil, List.length_replicate] at *); omega)⟩, ?_⟩ | refine ⟨by first | omega | ((try dsimp only at *); (try simp only [List.length_take, List.length_drop, List.length_map, List.length_append, List.length_cons, List.length_nil, List.length_replicate] at *); omega), ?_⟩ | refine ⟨fun h => ⟨by first | omega | ((try dsimp only at *); (try simp only [List.length_take, List.length_drop, List.length_map, List.length_append, List.length_cons, List.length_nil, List.length_replicate] at *); omega), by first | omega | ((try dsimp only at *); (try simp only [List.length_take, List.length_drop, List.length_map, List.length_append, List.length_cons, List.length_nil, List.length_replicate] at *); omega)⟩, ?_⟩ | refine ⟨fun (r : List AV) hr c hc => by simp [encS] at hr; (try subst hr); simp at hc; (try subst hc); rfl, ?_⟩)
  refine loop_rule (fun i : Nat => ⟨[(3, ⟨none, .str ((t.take i).foldl heavy ([], -1)).1⟩), (4, ⟨none, .int .i64 ((t.take i).foldl heavy ([], -1)).2⟩), (11, ⟨none, .rd 4 (t.map encI)⟩), (12, ⟨none, .int .i64 t.length⟩), (13, ⟨none, .int .i64 i⟩)], [], 0⟩)
    (fun i => i ≤ t.length) (fun i => t.length - i) 0 ?_ (by omega) ?_
  · (refine ⟨?_, ?_, rfl⟩ <;> repeat' (first | exact rfl | exact trivial | refine ⟨?_, ?_⟩ | fail) <;> (conv => whnf))
    all_goals simp
  intro i hi
  have hi : i ≤ t.length := hi
  (conv => whnf); refine ⟨fun h2 => ?_, fun h2 => ?_⟩
  · have h2 : i < t.length := by simpa using h2
    obtain ⟨b, hb⟩ := get_lt h2
    repeat ((conv => whnf); first | refine ⟨fun h => h, ?_⟩ | refine ⟨(by kernel_rfl : drawOk _ _ = true), ?_⟩ | refine ⟨fun (h : gtrue _) => by first | assumption | exact absurd (Eq.trans (Eq.symm h) (by assumption) : true = false) Bool.noConfusion, ?_⟩ | refine ⟨fun h => (absurd (Eq.trans (Eq.symm h) (by assumption) : true = false) Bool.noConfusion : False), ?_⟩ | refine ⟨_, w64 (by first | omega | ((try dsimp only at *); (try simp only [List.length_take, List.length_drop, List.length_map, List.length_append, List.length_cons, List.length_nil, List.length_replicate] at *); omega)), ?_⟩ | refine ⟨fun _ => ⟨by first | omega | ((try dsimp only at *); (try simp only [List.length_take, List.length_drop, List.length_map, List.length_append, List.length_cons, List.length_nil, List.length_replicate] at *); omega), by first | omega | ((try dsimp only at *); (try simp only [List.length_take, List.length_drop, List.length_map, List.length_append, List.length_cons, List.length_nil, List.length_replicate] at *); omega), by first | omega | ((try dsimp only at *); (try simp only [List.length_take, List.length_drop, List.length_map, List.length_append, List.length_cons, List.length_nil, List.length_replicate] at *); omega)⟩, ?_⟩ | refine ⟨by first | omega | ((try dsimp only at *); (try simp only [List.length_take, List.length_drop, List.length_map, List.length_append, List.length_cons, List.length_nil, List.length_replicate] at *); omega), ?_⟩ | refine ⟨fun h => ⟨by first | omega | ((try dsimp only at *); (try simp only [List.length_take, List.length_drop, List.length_map, List.length_append, List.length_cons, List.length_nil, List.length_replicate] at *); omega), by first | omega | ((try dsimp only at *); (try simp only [List.length_take, List.length_drop, List.length_map, List.length_append, List.length_cons, List.length_nil, List.length_replicate] at *); omega)⟩, ?_⟩ | refine ⟨fun (r : List AV) hr c hc => by simp [encS] at hr; (try subst hr); simp at hc; (try subst hc); rfl, ?_⟩ | refine ⟨encI b, fun _ => ⟨by omega, by simp [hb]⟩, ?_⟩)
    (conv => whnf); refine ⟨fun h3 => ?_, fun h3 => ?_⟩
    · repeat ((conv => whnf); first | refine ⟨fun h => h, ?_⟩ | refine ⟨(by kernel_rfl : drawOk _ _ = true), ?_⟩ | refine ⟨fun (h : gtrue _) => by first | assumption | exact absurd (Eq.trans (Eq.symm h) (by assumption) : true = false) Bool.noConfusion, ?_⟩ | refine ⟨fun h => (absurd (Eq.trans (Eq.symm h) (by assumption) : true = false) Bool.noConfusion : False), ?_⟩ | refine ⟨_, w64 (by first | omega | ((try dsimp only at *); (try simp only [List.length_take, List.length_drop, List.length_map, List.length_append, List.length_cons, List.length_nil, List.length_replicate] at *); omega)), ?_⟩ | refine ⟨fun _ => ⟨by first | omega | ((try dsimp only at *); (try simp only [List.length_take, List.length_drop, List.length_map, List.length_append, List.length_cons, List.length_nil, List.length_replicate] at *); omega), by first | omega | ((try dsimp only at *); (try simp only [List.length_take, List.length_drop, List.length_map, List.length_append, List.length_cons, List.length_nil, List.length_replicate] at *); omega), by first | omega | ((try dsimp only at *); (try simp only [List.length_take, List.length_drop, List.length_map, List.length_append, List.length_cons, List.length_nil, List.length_replicate] at *); omega)⟩, ?_⟩ | refine ⟨by first | omega | ((try dsimp only at *); (try simp only [List.length_take, List.length_drop, List.length_map, List.length_append, List.length_cons, List.length_nil, List.length_replicate] at *); omega), ?_⟩ | refine ⟨fun h => ⟨by first | omega | ((try dsimp only at *); (try simp only [List.length_take, List.length_drop, List.length_map, List.length_append, List.length_cons, List.length_nil, List.length_replicate] at *); omega), by first | omega | ((try dsimp only at *); (try simp only [List.length_take, List.length_drop, List.length_map, List.length_append, List.length_cons, List.length_nil, List.length_replicate] at *); omega)⟩, ?_⟩ | refine ⟨fun (r : List AV) hr c hc => by simp [encS] at hr; (try subst hr); simp at hc; (try subst hc); rfl, ?_⟩)
      refine again (i + 1) ?_ h2 (by first | omega | (simp; done) | (simp; omega))
      rw [foldl_take hb, heavy, if_pos h3]
      (refine ⟨?_, ?_, rfl⟩ <;> repeat' (first | exact rfl | exact trivial | refine ⟨?_, ?_⟩ | fail) <;> (conv => whnf))
    · repeat ((conv => whnf); first | refine ⟨fun h => h, ?_⟩ | refine ⟨(by kernel_rfl : drawOk _ _ = true), ?_⟩ | refine ⟨fun (h : gtrue _) => by first | assumption | exact absurd (Eq.trans (Eq.symm h) (by assumption) : true = false) Bool.noConfusion, ?_⟩ | refine ⟨fun h => (absurd (Eq.trans (Eq.symm h) (by assumption) : true = false) Bool.noConfusion : False), ?_⟩ | refine ⟨_, w64 (by first | omega | ((try dsimp only at *); (try simp only [List.length_take, List.length_drop, List.length_map, List.length_append, List.length_cons, List.length_nil, List.length_replicate] at *); omega)), ?_⟩ | refine ⟨fun _ => ⟨by first | omega | ((try dsimp only at *); (try simp only [List.length_take, List.length_drop, List.length_map, List.length_append, List.length_cons, List.length_nil, List.length_replicate] at *); omega), by first | omega | ((try dsimp only at *); (try simp only [List.length_take, List.length_drop, List.length_map, List.length_append, List.length_cons, List.length_nil, List.length_replicate] at *); omega), by first | omega | ((try dsimp only at *); (try simp only [List.length_take, List.length_drop, List.length_map, List.length_append, List.length_cons, List.length_nil, List.length_replicate] at *); omega)⟩, ?_⟩ | refine ⟨by first | omega | ((try dsimp only at *); (try simp only [List.length_take, List.length_drop, List.length_map, List.length_append, List.length_cons, List.length_nil, List.length_replicate] at *); omega), ?_⟩ | refine ⟨fun h => ⟨by first | omega | ((try dsimp only at *); (try simp only [List.length_take, List.length_drop, List.length_map, List.length_append, List.length_cons, List.length_nil, List.length_replicate] at *); omega), by first | omega | ((try dsimp only at *); (try simp only [List.length_take, List.length_drop, List.length_map, List.length_append, List.length_cons, List.length_nil, List.length_replicate] at *); omega)⟩, ?_⟩ | refine ⟨fun (r : List AV) hr c hc => by simp [encS] at hr; (try subst hr); simp at hc; (try subst hc); rfl, ?_⟩)
      refine again (i + 1) ?_ h2 (by first | omega | (simp; done) | (simp; omega))
      rw [foldl_take hb, heavy, if_neg (by rw [show _ = false from h3]; exact Bool.false_ne_true)]
      (refine ⟨?_, ?_, rfl⟩ <;> repeat' (first | exact rfl | exact trivial | refine ⟨?_, ?_⟩ | fail) <;> (conv => whnf))
  · have h2 : i = t.length := by
      have : ¬ i < t.length := by simpa using h2
      omega
    subst h2
    rw [List.take_length]
    conv => whnf
    exact ⟨trivial, eqS hd.symm⟩
theorem ok_impl_Heaviest : ConOk Try.prog 17 c_impl_Heaviest := meets_ok (tabT _ _) (FOk.cons ok_impl_TreeOk FOk.nil) mixed Try.func17 rfl Try.call17 (by decide) (by kernel_rfl) m_impl_Heaviest (by intro _ (y : Tr) _; exact ⟨by simp [c_impl_Heaviest, con, AV.noRd, noRdCells, noRdRows, noRdRows_map', encS], by simp [c_impl_Heaviest, con, noRdCells]⟩)


end Go.GH

set_option linter.unusedVariables false
set_option linter.unusedSimpArgs false
namespace Go.GH
open Go Go.Proofs

def c_laws_szItem : PCon := con [.rd [none, none, none, none], mC] true (It × Int) (fun x => [.agg (encI x.1), .int .i64 x.2]) (fun x => 0 ≤ x.2 ∧ x.2 ≤ 4194304 ∧ x.1.path.length ≤ 9223372036854775807 ∧ x.1.data.length ≤ 9223372036854775807) (fun x => .int .i64 (szR x.2 (szI x.1)))
def E_laws_szItem : Env := ⟨lookup tyTab, lookup [], [0, 1, 2, 4, 11, 18]⟩
set_option maxRecDepth 100000 in
theorem m_laws_szItem : Meets E_laws_szItem (codeOf Try.f60) Try.f60.results.toList c_laws_szItem := by
  rintro ⟨x, left⟩ hs
  obtain ⟨h1, h2, h3, h4⟩ : 0 ≤ left ∧ left ≤ 4194304 ∧ x.path.length ≤ 9223372036854775807 ∧ x.data.length ≤ 9223372036854775807 := hs
  refine ⟨trivial, ?_⟩
  repeat ((conv => whnf); first | refine ⟨fun h => h, ?_⟩ | refine ⟨(by kernel_rfl : drawOk _ _ = true), ?_⟩ | refine ⟨fun (h : gtrue _) => by first | assumption | exact absurd (Eq.trans (Eq.symm h) (by assumption) : true = false) Bool.noConfusion, ?_⟩ | refine ⟨fun h => (absurd (Eq.trans (Eq.symm h) (by assumption) : true = false) Bool.noConfusion : False), ?_⟩ | refine ⟨_, w64 (by first | omega | ((try dsimp only at *); (try simp only [List.length_take, List.length_drop, List.length_map, List.length_append, List.length_cons, List.length_nil, List.length_replicate] at *); omega)), ?_⟩ | refine ⟨fun _ => ⟨by first | omega | ((try dsimp only at *); (try simp only [List.length_take, List.length_drop, List.length_map, List.length_append, List.length_cons, List.length_nil, List.length_replicate] at *); omega), by first | omega | ((try dsimp only at *); (try simp only [List.length_take, List.length_drop, List.length_map, List.length_append, List.length_cons, List.length_nil, List.length_replicate] at *); omega), by first | omega | ((try dsimp only at *); (try simp only [List.length_take, List.length_drop, List.length_map, List.length_append, List.length_cons, List.length_nil, List.length_replicate] at *); omega)⟩, ?_⟩ | refine ⟨by first | omega | ((try dsimp only at *); (try simp only [List.length_take, List.length_drop, List.length_map, List.length_append, List.length_cons, List.length_nil, List.length_replicate] at *); omega), ?_⟩ | refine ⟨fun h => ⟨by first | omega | ((try dsimp only at *); (try simp only [List.length_take, List.length_drop, List.length_map, List.length_append, List.length_cons, List.length_nil, List.length_replicate] at *); omega), by first | omega | ((try dsimp only at *); (try simp only [List.length_take, List.length_drop, List.length_map, List.length_append, List.length_cons, List.length_nil, List.length_replicate] at *); omega)⟩, ?_⟩ | refine ⟨fun (r : List AV) hr c hc => by simp [encS] at hr; (try subst hr); simp at hc; (try subst hc); rfl, ?_⟩)
  (conv => whnf); refine ⟨fun h5 => ?_, fun h5 => ?_⟩
  · have h5 : left - x.path.length < 0 := by simpa using h5
    conv => whnf
    exact ⟨trivial, eqN' (by unfold szR szI; dsimp only; rw [if_pos (by omega)])⟩
  have h5 : ¬ left - x.path.length < 0 := by simpa using h5
  repeat ((conv => whnf); first | refine ⟨fun h => h, ?_⟩ | refine ⟨(by kernel_rfl : drawOk _ _ = true), ?_⟩ | refine ⟨fun (h : gtrue _) => by first | assumption | exact absurd (Eq.trans (Eq.symm h) (by assumption) : true = false) Bool.noConfusion, ?_⟩ | refine ⟨fun h => (absurd (Eq.trans (Eq.symm h) (by assumption) : true = false) Bool.noConfusion : False), ?_⟩ | refine ⟨_, w64 (by first | omega | ((try dsimp only at *); (try simp only [List.length_take, List.length_drop, List.length_map, List.length_append, List.length_cons, List.length_nil, List.length_replicate] at *); omega)), ?_⟩ | refine ⟨fun _ => ⟨by first | omega | ((try dsimp only at *); (try simp only [List.length_take, List.length_drop, List.length_map, List.length_append, List.length_cons, List.length_nil, List.length_replicate] at *); omega), by first | omega | ((try dsimp only at *); (try simp only [List.length_take, List.length_drop, List.length_map, List.length_append, List.length_cons, List.length_nil, List.length_replicate] at *); omega), by first | omega | ((try dsimp only at *); (try simp only [List.length_take, List.length_drop, List.length_map, List.length_append, List.length_cons, List.length_nil, List.length_replicate] at *); omega)⟩, ?_⟩ | refine ⟨by first | omega | ((try dsimp only at *); (try simp only [List.length_take, List.length_drop, List.length_map, List.length_append, List.length_cons, List.length_nil, List.length_replicate] at *); omega), ?_⟩ | refine ⟨fun h => ⟨by first | omega | ((try dsimp only at *); (try simp only [List.length_take, List.length_drop, List.length_map, List.length_append, List.length_cons, List.length_nil, List.length_replicate] at *); omega), by first | omega | ((try dsimp only at *); (try simp only [List.length_take, List.length_drop, List.length_map, List.length_append, List.length_cons, List.length_nil, List.length_replicate] at *); omega)⟩, ?_⟩ | refine ⟨fun (r : List AV) hr c hc => by simp [encS] at hr; (try subst hr); simp at hc; (try subst hc); rfl, ?_⟩)
  (conv => whnf); refine ⟨fun h6 => ?_, fun h6 => ?_⟩
  · have h6 : left - x.path.length - x.data.length < 0 := by simpa using h6
    conv => whnf
    exact ⟨trivial, eqN' (by unfold szR szI; dsimp only; rw [if_pos (by omega)])⟩
  have h6 : ¬ left - x.path.length - x.data.length < 0 := by simpa using h6
  conv => whnf
  exact ⟨trivial, eqN' (by unfold szR szI; dsimp only; rw [if_neg (by omega)]; omega)⟩
theorem ok_laws_szItem : ConOk Try.prog 60 c_laws_szItem := meets_ok (tabT _ _) FOk.nil mixed Try.func60 rfl Try.call60 (by decide) (by kernel_rfl) m_laws_szItem (by intro _ (y : (It × Int)) _; exact ⟨by simp [c_laws_szItem, con, AV.noRd, noRdCells, noRdRows, noRdRows_map', encS, encI], by simp [c_laws_szItem, con, noRdCells]⟩)

def c_laws_szItemS : PCon := con [mS 4, mC] true (Tr × Int) (fun x => [.rd 4 (x.1.map encI), .int .i64 x.2]) (fun x => 0 ≤ x.2 ∧ x.2 ≤ 4194304 ∧ x.1.length ≤ 9223372036854775807 ∧ ∀ y, y ∈ x.1 → y.path.length ≤ 9223372036854775807 ∧ y.data.length ≤ 9223372036854775807) (fun x => .int .i64 (szR x.2 (szT x.1)))
def E_laws_szItemS : Env := ⟨lookup tyTab, lookup [(60, c_laws_szItem)], [0, 1, 4, 5, 11, 15, 25]⟩
set_option maxRecDepth 100000 in
theorem m_laws_szItemS : Meets E_laws_szItemS (codeOf Try.f36) Try.f36.results.toList c_laws_szItemS := by
  rintro ⟨t, left⟩ hs
  obtain ⟨h1, h2, h3, h4⟩ : 0 ≤ left ∧ left ≤ 4194304 ∧ t.length ≤ 9223372036854775807 ∧ ∀ y, y ∈ t → y.path.length ≤ 9223372036854775807 ∧ y.data.length ≤ 9223372036854775807 := hs
  refine ⟨trivial, ?_⟩
  repeat ((conv => whnf); first | refine ⟨fun h => h, ?_⟩ | refine ⟨(by kernel_rfl : drawOk _ _ = true), ?_⟩ | refine ⟨fun (h : gtrue _) => by first | assumption | exact absurd (Eq.trans (Eq.symm h) (by assumption) : true = false) Bool.noConfusion, ?_⟩ | refine ⟨fun h => (absurd (Eq.trans (Eq.symm h) (by assumption) : true = false) Bool.noConfusion : False), ?_⟩ | refine ⟨_, w64 (by first | omega | ((try dsimp only at *); (try simp only [List.length_take, List.length_drop, List.length_map, List.length_append, List.length_cons, List.length_nil, List.length_replicate] at *); omega)), ?_⟩ | refine ⟨fun _ => ⟨by first | omega | ((try dsimp only at *); (try simp only [List.length_take, List.length_drop, List.length_map, List.length_append, List.length_cons, List.length_nil, List.length_replicate] at *); omega), by first | omega | ((try dsimp only at *); (try simp only [List.length_take, List.length_drop, List.length_map, List.length_append, List.length_cons, List.length_nil, List.length_replicate] at *); omega), by first | omega | ((try dsimp only at *); (try simp only [List.length_take, List.length_drop, List.length_map, List.length_append, List.length_cons, List.length_nil, List.length_replicate] at *); omega)⟩, ?_⟩ | refine ⟨by first | omega | ((try dsimp only at *); (try simp only [List.length_take, List.length_drop, List.length_map, List.length_append, List.length_cons, List.length_nil, List.length_replicate] at *); omega), ?_⟩ | refine ⟨fun h => ⟨by first | omega | ((try dsimp only at *); (try simp only [List.length_take, List.length_drop, List.length_map, List.length_append, List.length_cons, List.length_nil, List.length_replicate] at *); omega), by first | omega | ((try dsimp only at *); (try simp only [List.length_take, List.length_drop, List.length_map, List.length_append, List.length_cons, List.length_nil, List.length_replicate] at *); omega)⟩, ?_⟩ | refine ⟨fun (r : List AV) hr c hc => by simp [encS] at hr; (try subst hr); simp at hc; (try subst hc); rfl, ?_⟩)
  (conv => whnf); refine ⟨fun h5 => ?_, fun h5 => ?_⟩
  · have h5 : left - t.length < 0 := by simpa using h5
    conv => whnf
    exact ⟨trivial, eqN' (by unfold szR szT; dsimp only; rw [if_pos (by omega)])⟩
  have h5 : ¬ left - t.length < 0 := by simpa using h5
  repeat ((conv => whnf); first | refine ⟨fun h => h, ?_⟩ | refine ⟨(by kernel_rfl : drawOk _ _ = true), ?_⟩ | refine ⟨fun (h : gtrue _) => by first | assumption | exact absurd (Eq.trans (Eq.symm h) (by assumption) : true = false) Bool.noConfusion, ?_⟩ | refine ⟨fun h => (absurd (Eq.trans (Eq.symm h) (by assumption) : true = false) Bool.noConfusion : False), ?_⟩ | refine ⟨_, w64 (by first | omega | ((try dsimp only at *); (try simp only [List.length_take, List.length_drop, List.length_map, List.length_append, List.length_cons, List.length_nil, List.length_replicate] at *); omega)), ?_⟩ | refine ⟨fun _ => ⟨by first | omega | ((try dsimp only at *); (try simp only [List.length_take, List.length_drop, List.length_map, List.length_append, List.length_cons, List.length_nil, List.length_replicate] at *); omega), by first | omega | ((try dsimp only at *); (try simp only [List.length_take, List.length_drop, List.length_map, List.length_append, List.length_cons, List.length_nil, List.length_replicate] at *); omega), by first | omega | ((try dsimp only at *); (try simp only [List.length_take, List.length_drop, List.length_map, List.length_append, List.length_cons, List.length_nil, List.length_replicate] at *); omega)⟩, ?_⟩ | refine ⟨by first | omega | ((try dsimp only at *); (try simp only [List.length_take, List.length_drop, List.length_map, List.length_append, List.length_cons, List.length_nil, List.length_replicate] at *); omega), ?_⟩ | refine ⟨fun h => ⟨by first | omega | ((try dsimp only at *); (try simp only [List.length_take, List.length_drop, List.length_map, List.length_append, List.length_cons, List.length_nil, List.length_replicate] at *); omega), by first | omega | ((try dsimp only at *); (try simp only [List.length_take, List.length_drop, List.length_map, List.length_append, List.length_cons, List.length_nil, List.length_replicate] at *); omega)⟩, ?_⟩ | refine ⟨fun (r : List AV) hr c hc => by simp [encS] at hr; (try subst hr); simp at hc; (try subst hc); rfl, ?_⟩)
  refine loop_rule (fun i : Nat => ⟨[(0, ⟨none, .rd 4 (t.map encI)⟩), (1, ⟨none, .int .i64 (left - t.length - ((t.take i).map szI).sum)⟩), (5, ⟨none, .int .i64 i⟩)], [], 0⟩)
    (fun i => i ≤ t.length ∧ 0 ≤ left - t.length - ((t.take i).map szI).sum) (fun i => t.length - i) 0 ?_ ⟨by omega, by simp; omega⟩ ?_
  · (refine ⟨?_, ?_, rfl⟩ <;> repeat' (first | exact rfl | exact trivial | refine ⟨?_, ?_⟩ | fail) <;> (conv => whnf))
    all_goals simp
  rintro i ⟨hi, hI⟩
  (conv => whnf); refine ⟨fun h6 => ?_, fun h6 => ?_⟩
  · have h6 : i < t.length := by simpa using h6
    obtain ⟨b, hb⟩ := get_lt h6
    have hbs := h4 b (List.mem_of_getElem? hb)
    have hsu := sum_take' (f := szI) hb
    have hle := sum_take_le (f := szI) (l := t) (i := i + 1)
    repeat ((conv => whnf); first | refine ⟨fun h => h, ?_⟩ | refine ⟨(by kernel_rfl : drawOk _ _ = true), ?_⟩ | refine ⟨fun (h : gtrue _) => by first | assumption | exact absurd (Eq.trans (Eq.symm h) (by assumption) : true = false) Bool.noConfusion, ?_⟩ | refine ⟨fun h => (absurd (Eq.trans (Eq.symm h) (by assumption) : true = false) Bool.noConfusion : False), ?_⟩ | refine ⟨_, w64 (by first | omega | ((try dsimp only at *); (try simp only [List.length_take, List.length_drop, List.length_map, List.length_append, List.length_cons, List.length_nil, List.length_replicate] at *); omega)), ?_⟩ | refine ⟨fun _ => ⟨by first | omega | ((try dsimp only at *); (try simp only [List.length_take, List.length_drop, List.length_map, List.length_append, List.length_cons, List.length_nil, List.length_replicate] at *); omega), by first | omega | ((try dsimp only at *); (try simp only [List.length_take, List.length_drop, List.length_map, List.length_append, List.length_cons, List.length_nil, List.length_replicate] at *); omega), by first | omega | ((try dsimp only at *); (try simp only [List.length_take, List.length_drop, List.length_map, List.length_append, List.length_cons, List.length_nil, List.length_replicate] at *); omega)⟩, ?_⟩ | refine ⟨by first | omega | ((try dsimp only at *); (try simp only [List.length_take, List.length_drop, List.length_map, List.length_append, List.length_cons, List.length_nil, List.length_replicate] at *); omega), ?_⟩ | refine ⟨fun h => ⟨by first | omega | ((try dsimp only at *); (try simp only [List.length_take, List.length_drop, List.length_map, List.length_append, List.length_cons, List.length_nil, List.length_replicate] at *); omega), by first | omega | ((try dsimp only at *); (try simp only [List.length_take, List.length_drop, List.length_map, List.length_append, List.length_cons, List.length_nil, List.length_replicate] at *); omega)⟩, ?_⟩ | refine ⟨fun (r : List AV) hr c hc => by simp [encS] at hr; (try subst hr); simp at hc; (try subst hc); rfl, ?_⟩ | refine ⟨encI b, fun _ => ⟨by omega, by simp [hb]⟩, ?_⟩)
    conv => whnf
    refine ⟨(b, left - t.length - ((t.take i).map szI).sum), rfl, fun _ => ⟨hI, by show _ ≤ _; omega, hbs⟩, ?_⟩
    (conv => whnf); refine ⟨fun h7 => ?_, fun h7 => ?_⟩
    · have h7 : szR (left - t.length - ((t.take i).map szI).sum) (szI b) < 0 := by simpa using h7
      have h7 : left - t.length - ((t.take i).map szI).sum - szI b < 0 := by
        unfold szR at h7; split at h7 <;> omega
      conv => whnf
      exact ⟨trivial, eqN' (by unfold szR szT; dsimp only; rw [if_pos (by omega)])⟩
    · have h7 : ¬ szR (left - t.length - ((t.take i).map szI).sum) (szI b) < 0 := by simpa using h7
      have h8 := szR_ok h7
      have h9 : szR (left - t.length - ((t.take i).map szI).sum) (szI b) = left - t.length - ((t.take (i + 1)).map szI).sum := by
        unfold szR; rw [if_neg (by omega)]; omega
      repeat ((conv => whnf); first | refine ⟨fun h => h, ?_⟩ | refine ⟨(by kernel_rfl : drawOk _ _ = true), ?_⟩ | refine ⟨fun (h : gtrue _) => by first | assumption | exact absurd (Eq.trans (Eq.symm h) (by assumption) : true = false) Bool.noConfusion, ?_⟩ | refine ⟨fun h => (absurd (Eq.trans (Eq.symm h) (by assumption) : true = false) Bool.noConfusion : False), ?_⟩ | refine ⟨_, w64 (by first | omega | ((try dsimp only at *); (try simp only [List.length_take, List.length_drop, List.length_map, List.length_append, List.length_cons, List.length_nil, List.length_replicate] at *); omega)), ?_⟩ | refine ⟨fun _ => ⟨by first | omega | ((try dsimp only at *); (try simp only [List.length_take, List.length_drop, List.length_map, List.length_append, List.length_cons, List.length_nil, List.length_replicate] at *); omega), by first | omega | ((try dsimp only at *); (try simp only [List.length_take, List.length_drop, List.length_map, List.length_append, List.length_cons, List.length_nil, List.length_replicate] at *); omega), by first | omega | ((try dsimp only at *); (try simp only [List.length_take, List.length_drop, List.length_map, List.length_append, List.length_cons, List.length_nil, List.length_replicate] at *); omega)⟩, ?_⟩ | refine ⟨by first | omega | ((try dsimp only at *); (try simp only [List.length_take, List.length_drop, List.length_map, List.length_append, List.length_cons, List.length_nil, List.length_replicate] at *); omega), ?_⟩ | refine ⟨fun h => ⟨by first | omega | ((try dsimp only at *); (try simp only [List.length_take, List.length_drop, List.length_map, List.length_append, List.length_cons, List.length_nil, List.length_replicate] at *); omega), by first | omega | ((try dsimp only at *); (try simp only [List.length_take, List.length_drop, List.length_map, List.length_append, List.length_cons, List.length_nil, List.length_replicate] at *); omega)⟩, ?_⟩ | refine ⟨fun (r : List AV) hr c hc => by simp [encS] at hr; (try subst hr); simp at hc; (try subst hc); rfl, ?_⟩)
      refine again (i + 1) ?_ ⟨h6, by omega⟩ (by first | omega | (simp; done) | (simp; omega))
      (refine ⟨?_, ?_, rfl⟩ <;> repeat' (first | exact rfl | exact trivial | refine ⟨?_, ?_⟩ | fail) <;> (conv => whnf))
      exact h9
  · have h6 : i = t.length := by
      have : ¬ i < t.length := by simpa using h6
      omega
    subst h6
    rw [List.take_length] at hI ⊢
    conv => whnf
    exact ⟨trivial, eqN' (by unfold szR szT; dsimp only; rw [if_neg (by omega)]; omega)⟩
theorem ok_laws_szItemS : ConOk Try.prog 36 c_laws_szItemS := meets_ok (tabT _ _) (FOk.cons ok_laws_szItem FOk.nil) mixed Try.func36 rfl Try.call36 (by decide) (by kernel_rfl) m_laws_szItemS (by intro _ (y : (Tr × Int)) _; exact ⟨by simp [c_laws_szItemS, con, AV.noRd, noRdCells, noRdRows, noRdRows_map', encS, encI], by simp [c_laws_szItemS, con, noRdCells]⟩)

def c_laws_szTree : PCon := con [mS 4, mC] true (Tr × Int) (fun x => [rdT x.1, .int .i64 x.2]) (fun x => 0 ≤ x.2 ∧ x.2 ≤ 4194304 ∧ x.1.length ≤ 9223372036854775807 ∧ ∀ y, y ∈ x.1 → y.path.length ≤ 9223372036854775807 ∧ y.data.length ≤ 9223372036854775807) (fun x => .int .i64 (szR x.2 (szT x.1)))
def E_laws_szTree : Env := ⟨lookup tyTab, lookup [(36, c_laws_szItemS)], [0, 1, 2, 4, 10]⟩
set_option maxRecDepth 100000 in
theorem m_laws_szTree : Meets E_laws_szTree (codeOf Try.f14) Try.f14.results.toList c_laws_szTree := by
  rintro ⟨t, left⟩ hs
  refine ⟨trivial, ?_⟩
  conv => whnf
  refine ⟨(t, left), rfl, fun _ => hs, ?_⟩
  (conv => whnf); refine ⟨fun h1 => ?_, fun h1 => ?_⟩
  · have h1 : szR left (szT t) < 0 := by simpa using h1
    conv => whnf
    exact ⟨trivial, eqN' (by
      show -1 = szR left (szT t)
      unfold szR at h1 ⊢; split at h1 <;> simp_all)⟩
  · conv => whnf
    exact ⟨trivial, rfl⟩
theorem ok_laws_szTree : ConOk Try.prog 14 c_laws_szTree := meets_ok (tabT _ _) (FOk.cons ok_laws_szItemS FOk.nil) mixed Try.func14 rfl Try.call14 (by decide) (by kernel_rfl) m_laws_szTree (by intro _ (y : (Tr × Int)) _; exact ⟨by simp [c_laws_szTree, con, AV.noRd, noRdCells, noRdRows, noRdRows_map', encS, encI], by simp [c_laws_szTree, con, noRdCells]⟩)

def c_laws_toItem : PCon := con [.rd [none, none, none, none]] true It (fun x => [.agg (encI x)]) (fun _ => True) (fun x => .agg (encI x))
def E_laws_toItem : Env := ⟨lookup tyTab, lookup [], [0, 1, 2, 3]⟩
set_option maxRecDepth 100000 in
theorem m_laws_toItem : Meets E_laws_toItem (codeOf Try.f63) Try.f63.results.toList c_laws_toItem := by
  intro (x : It) hs
  refine ⟨trivial, ?_⟩
  conv => whnf
  exact ⟨trivial, rfl, rfl, rfl, rfl, trivial⟩
theorem ok_laws_toItem : ConOk Try.prog 63 c_laws_toItem := meets_ok (tabT _ _) FOk.nil mixed Try.func63 rfl Try.call63 (by decide) (by kernel_rfl) m_laws_toItem (by intro _ (y : It) _; exact ⟨by simp [c_laws_toItem, con, AV.noRd, noRdCells, noRdRows, noRdRows_map', encS, encI], by simp [c_laws_toItem, con, noRdCells]⟩)

def c_laws_toItemS : PCon := con [mS 4] false Tr (fun t => [.rd 4 (t.map encI)]) smT (fun t => .own 4 (t.map encI))
def E_laws_toItemS : Env := ⟨lookup tyTab, lookup [(63, c_laws_toItem)], [0, 2, 3, 4, 11]⟩
set_option maxRecDepth 100000 in
theorem m_laws_toItemS : Meets E_laws_toItemS (codeOf Try.f38) Try.f38.results.toList c_laws_toItemS := by
  intro (t : Tr) hs
  obtain ⟨hs1, hs2⟩ : smT t := hs
  refine ⟨trivial, ?_⟩
  repeat ((conv => whnf); first | refine ⟨fun h => h, ?_⟩ | refine ⟨(by kernel_rfl : drawOk _ _ = true), ?_⟩ | refine ⟨fun (h : gtrue _) => by first | assumption | exact absurd (Eq.trans (Eq.symm h) (by assumption) : true = false) Bool.noConfusion, ?_⟩ | refine ⟨fun h => (absurd (Eq.trans (Eq.symm h) (by assumption) : true = false) Bool.noConfusion : False), ?_⟩ | refine ⟨_, w64 (by first | omega | ((try dsimp only at *); (try simp only [List.length_take, List.length_drop, List.length_map, List.length_append, List.length_cons, List.length_nil, List.length_replicate] at *); omega)), ?_⟩ | refine ⟨fun _ => ⟨by first | omega | ((try dsimp only at *); (try simp only [List.length_take, List.length_drop, List.length_map, List.length_append, List.length_cons, List.length_nil, List.length_replicate] at *); omega), by first | omega | ((try dsimp only at *); (try simp only [List.length_take, List.length_drop, List.length_map, List.length_append, List.length_cons, List.length_nil, List.length_replicate] at *); omega), by first | omega | ((try dsimp only at *); (try simp only [List.length_take, List.length_drop, List.length_map, List.length_append, List.length_cons, List.length_nil, List.length_replicate] at *); omega)⟩, ?_⟩ | refine ⟨by first | omega | ((try dsimp only at *); (try simp only [List.length_take, List.length_drop, List.length_map, List.length_append, List.length_cons, List.length_nil, List.length_replicate] at *); omega), ?_⟩ | refine ⟨fun h => ⟨by first | omega | ((try dsimp only at *); (try simp only [List.length_take, List.length_drop, List.length_map, List.length_append, List.length_cons, List.length_nil, List.length_replicate] at *); omega), by first | omega | ((try dsimp only at *); (try simp only [List.length_take, List.length_drop, List.length_map, List.length_append, List.length_cons, List.length_nil, List.length_replicate] at *); omega)⟩, ?_⟩ | refine ⟨fun (r : List AV) hr c hc => by simp [encS] at hr; (try subst hr); simp at hc; (try subst hc); rfl, ?_⟩)
  refine loop_rule (fun i : Nat => ⟨[(0, ⟨none, .rd 4 (t.map encI)⟩), (3, ⟨none, .view 0 [] 0 t.length⟩), (4, ⟨none, .int .i64 i⟩)], [(0, .own 4 (filled encI (encI It.none) t i))], 1⟩)
    (fun i => i ≤ t.length) (fun i => t.length - i) 0 ?_ (by omega) ?_
  · (refine ⟨?_, ?_, rfl⟩ <;> repeat' (first | exact rfl | exact trivial | refine ⟨?_, ?_⟩ | fail) <;> (conv => whnf))
    all_goals simp
    exact filled_zero.symm
  intro i hi
  have hi : i ≤ t.length := hi
  (conv => whnf); refine ⟨fun h6 => ?_, fun h6 => ?_⟩
  · have h6 : i < t.length := by simpa using h6
    obtain ⟨b, hb⟩ := get_lt h6
    repeat ((conv => whnf); first | refine ⟨fun h => h, ?_⟩ | refine ⟨(by kernel_rfl : drawOk _ _ = true), ?_⟩ | refine ⟨fun (h : gtrue _) => by first | assumption | exact absurd (Eq.trans (Eq.symm h) (by assumption) : true = false) Bool.noConfusion, ?_⟩ | refine ⟨fun h => (absurd (Eq.trans (Eq.symm h) (by assumption) : true = false) Bool.noConfusion : False), ?_⟩ | refine ⟨_, w64 (by first | omega | ((try dsimp only at *); (try simp only [List.length_take, List.length_drop, List.length_map, List.length_append, List.length_cons, List.length_nil, List.length_replicate] at *); omega)), ?_⟩ | refine ⟨fun _ => ⟨by first | omega | ((try dsimp only at *); (try simp only [List.length_take, List.length_drop, List.length_map, List.length_append, List.length_cons, List.length_nil, List.length_replicate] at *); omega), by first | omega | ((try dsimp only at *); (try simp only [List.length_take, List.length_drop, List.length_map, List.length_append, List.length_cons, List.length_nil, List.length_replicate] at *); omega), by first | omega | ((try dsimp only at *); (try simp only [List.length_take, List.length_drop, List.length_map, List.length_append, List.length_cons, List.length_nil, List.length_replicate] at *); omega)⟩, ?_⟩ | refine ⟨by first | omega | ((try dsimp only at *); (try simp only [List.length_take, List.length_drop, List.length_map, List.length_append, List.length_cons, List.length_nil, List.length_replicate] at *); omega), ?_⟩ | refine ⟨fun h => ⟨by first | omega | ((try dsimp only at *); (try simp only [List.length_take, List.length_drop, List.length_map, List.length_append, List.length_cons, List.length_nil, List.length_replicate] at *); omega), by first | omega | ((try dsimp only at *); (try simp only [List.length_take, List.length_drop, List.length_map, List.length_append, List.length_cons, List.length_nil, List.length_replicate] at *); omega)⟩, ?_⟩ | refine ⟨fun (r : List AV) hr c hc => by simp [encS] at hr; (try subst hr); simp at hc; (try subst hc); rfl, ?_⟩ | refine ⟨encI b, fun _ => ⟨by omega, by simp [hb]⟩, ?_⟩ | refine ⟨b, rfl, fun _ => trivial, ?_⟩ | refine ⟨encI It.none, by simp [filled_get h6], ?_⟩)
    refine again (i + 1) ?_ h6 (by first | omega | (simp; done) | (simp; omega))
    (refine ⟨?_, ?_, rfl⟩ <;> repeat' (first | exact rfl | exact trivial | refine ⟨?_, ?_⟩ | fail) <;> (conv => whnf))
    simp only [Nat.zero_add, Int.toNat_natCast]
    exact filled_set hb
  · have h6 : i = t.length := by
      have : ¬ i < t.length := by simpa using h6
      omega
    subst h6
    conv => whnf
    exact ⟨trivial, eqOwn (by rw [filled_all]; (try simp only [List.drop_zero, List.take_length, take_app]) <;> simp)⟩
theorem ok_laws_toItemS : ConOk Try.prog 38 c_laws_toItemS := meets_ok (tabT _ _) (FOk.cons ok_laws_toItem FOk.nil) mixed Try.func38 rfl Try.call38 (by decide) (by kernel_rfl) m_laws_toItemS (by intro _ (y : Tr) _; exact ⟨by simp [c_laws_toItemS, con, AV.noRd, noRdCells, noRdRows, noRdRows_map', encS, encI], by simp [c_laws_toItemS, con, noRdCells]⟩)

def c_laws_toTree : PCon := con [mS 4] false Tr (fun t => [rdT t]) smT (fun t => .agg [.own 4 (t.map encI)])
def E_laws_toTree : Env := ⟨lookup tyTab, lookup [(38, c_laws_toItemS)], [0, 1, 2, 3]⟩
set_option maxRecDepth 100000 in
theorem m_laws_toTree : Meets E_laws_toTree (codeOf Try.f16) Try.f16.results.toList c_laws_toTree := by
  intro (t : Tr) hs
  refine ⟨trivial, ?_⟩
  conv => whnf
  refine ⟨t, rfl, fun _ => hs, ?_⟩
  conv => whnf
  refine ⟨trivial, ⟨rfl, ?_⟩, trivial⟩
  simp only [List.drop_zero, List.take_length]
theorem ok_laws_toTree : ConOk Try.prog 16 c_laws_toTree := meets_ok (tabT _ _) (FOk.cons ok_laws_toItemS FOk.nil) mixed Try.func16 rfl Try.call16 (by decide) (by kernel_rfl) m_laws_toTree (by intro _ (y : Tr) _; exact ⟨by simp [c_laws_toTree, con, AV.noRd, noRdCells, noRdRows, noRdRows_map', encS, encI], by simp [c_laws_toTree, con, noRdCells]⟩)

def c_laws_eqItem : PCon := con [.rd [none, none, none, none], .rd [none, none, none, none]] true It (fun x => [.agg (encI x), .agg (encI x)]) (fun _ => True) (fun _ => .bool true)
def E_laws_eqItem : Env := ⟨lookup tyTab, lookup [], [0, 1, 2, 3, 4, 9, 14, 19, 24]⟩
set_option maxRecDepth 100000 in
theorem m_laws_eqItem : Meets E_laws_eqItem (codeOf Try.f66) Try.f66.results.toList c_laws_eqItem := by
  intro (x : It) hs
  refine ⟨trivial, ?_⟩
  conv => whnf
  refine ⟨fun h => ?_, fun _ => ?_⟩
  · have h : (!(x.path == x.path)) = true := h
    simp at h
  conv => whnf
  refine ⟨fun h => ?_, fun _ => ?_⟩
  · have h : (x.kind != x.kind) = true := h
    simp at h
  conv => whnf
  refine ⟨fun h => ?_, fun _ => ?_⟩
  · have h : (!(x.data == x.data)) = true := h
    simp at h
  conv => whnf
  refine ⟨fun h => ?_, fun _ => ?_⟩
  · have h : (x.time != x.time) = true := h
    simp at h
  conv => whnf
  exact ⟨trivial, rfl⟩
theorem ok_laws_eqItem : ConOk Try.prog 66 c_laws_eqItem := meets_ok (tabT _ _) FOk.nil mixed Try.func66 rfl Try.call66 (by decide) (by kernel_rfl) m_laws_eqItem (by intro _ (y : It) _; exact ⟨by simp [c_laws_eqItem, con, AV.noRd, noRdCells, noRdRows, noRdRows_map', encS, encI], by simp [c_laws_eqItem, con, noRdCells]⟩)

def c_laws_eqItemS : PCon := con [mS 4, mS 4] true Tr (fun t => [.rd 4 (t.map encI), .rd 4 (t.map encI)]) smT (fun _ => .bool true)
def E_laws_eqItemS : Env := ⟨lookup tyTab, lookup [(66, c_laws_eqItem)], [0, 1, 4, 5, 10, 14, 26]⟩
set_option maxRecDepth 100000 in
theorem m_laws_eqItemS : Meets E_laws_eqItemS (codeOf Try.f40) Try.f40.results.toList c_laws_eqItemS := by
  intro (t : Tr) hs
  obtain ⟨hs1, hs2⟩ : smT t := hs
  refine ⟨trivial, ?_⟩
  conv => whnf
  refine ⟨fun h => ?_, fun _ => ?_⟩
  · simp at h
  repeat ((conv => whnf); first | refine ⟨fun h => h, ?_⟩ | refine ⟨(by kernel_rfl : drawOk _ _ = true), ?_⟩ | refine ⟨fun (h : gtrue _) => by first | assumption | exact absurd (Eq.trans (Eq.symm h) (by assumption) : true = false) Bool.noConfusion, ?_⟩ | refine ⟨fun h => (absurd (Eq.trans (Eq.symm h) (by assumption) : true = false) Bool.noConfusion : False), ?_⟩ | refine ⟨_, w64 (by first | omega | ((try dsimp only at *); (try simp only [List.length_take, List.length_drop, List.length_map, List.length_append, List.length_cons, List.length_nil, List.length_replicate] at *); omega)), ?_⟩ | refine ⟨fun _ => ⟨by first | omega | ((try dsimp only at *); (try simp only [List.length_take, List.length_drop, List.length_map, List.length_append, List.length_cons, List.length_nil, List.length_replicate] at *); omega), by first | omega | ((try dsimp only at *); (try simp only [List.length_take, List.length_drop, List.length_map, List.length_append, List.length_cons, List.length_nil, List.length_replicate] at *); omega), by first | omega | ((try dsimp only at *); (try simp only [List.length_take, List.length_drop, List.length_map, List.length_append, List.length_cons, List.length_nil, List.length_replicate] at *); omega)⟩, ?_⟩ | refine ⟨by first | omega | ((try dsimp only at *); (try simp only [List.length_take, List.length_drop, List.length_map, List.length_append, List.length_cons, List.length_nil, List.length_replicate] at *); omega), ?_⟩ | refine ⟨fun h => ⟨by first | omega | ((try dsimp only at *); (try simp only [List.length_take, List.length_drop, List.length_map, List.length_append, List.length_cons, List.length_nil, List.length_replicate] at *); omega), by first | omega | ((try dsimp only at *); (try simp only [List.length_take, List.length_drop, List.length_map, List.length_append, List.length_cons, List.length_nil, List.length_replicate] at *); omega)⟩, ?_⟩ | refine ⟨fun (r : List AV) hr c hc => by simp [encS] at hr; (try subst hr); simp at hc; (try subst hc); rfl, ?_⟩)
  refine loop_rule (fun i : Nat => ⟨[(0, ⟨none, .rd 4 (t.map encI)⟩), (1, ⟨none, .rd 4 (t.map encI)⟩), (5, ⟨none, .int .i64 i⟩)], [], 0⟩)
    (fun i => i ≤ t.length) (fun i => t.length - i) 0 ?_ (by omega) ?_
  · (refine ⟨?_, ?_, rfl⟩ <;> repeat' (first | exact rfl | exact trivial | refine ⟨?_, ?_⟩ | fail) <;> (conv => whnf))
  intro i hi
  have hi : i ≤ t.length := hi
  (conv => whnf); refine ⟨fun h6 => ?_, fun h6 => ?_⟩
  · have h6 : i < t.length := by simpa using h6
    obtain ⟨b, hb⟩ := get_lt h6
    repeat ((conv => whnf); first | refine ⟨fun h => h, ?_⟩ | refine ⟨(by kernel_rfl : drawOk _ _ = true), ?_⟩ | refine ⟨fun (h : gtrue _) => by first | assumption | exact absurd (Eq.trans (Eq.symm h) (by assumption) : true = false) Bool.noConfusion, ?_⟩ | refine ⟨fun h => (absurd (Eq.trans (Eq.symm h) (by assumption) : true = false) Bool.noConfusion : False), ?_⟩ | refine ⟨_, w64 (by first | omega | ((try dsimp only at *); (try simp only [List.length_take, List.length_drop, List.length_map, List.length_append, List.length_cons, List.length_nil, List.length_replicate] at *); omega)), ?_⟩ | refine ⟨fun _ => ⟨by first | omega | ((try dsimp only at *); (try simp only [List.length_take, List.length_drop, List.length_map, List.length_append, List.length_cons, List.length_nil, List.length_replicate] at *); omega), by first | omega | ((try dsimp only at *); (try simp only [List.length_take, List.length_drop, List.length_map, List.length_append, List.length_cons, List.length_nil, List.length_replicate] at *); omega), by first | omega | ((try dsimp only at *); (try simp only [List.length_take, List.length_drop, List.length_map, List.length_append, List.length_cons, List.length_nil, List.length_replicate] at *); omega)⟩, ?_⟩ | refine ⟨by first | omega | ((try dsimp only at *); (try simp only [List.length_take, List.length_drop, List.length_map, List.length_append, List.length_cons, List.length_nil, List.length_replicate] at *); omega), ?_⟩ | refine ⟨fun h => ⟨by first | omega | ((try dsimp only at *); (try simp only [List.length_take, List.length_drop, List.length_map, List.length_append, List.length_cons, List.length_nil, List.length_replicate] at *); omega), by first | omega | ((try dsimp only at *); (try simp only [List.length_take, List.length_drop, List.length_map, List.length_append, List.length_cons, List.length_nil, List.length_replicate] at *); omega)⟩, ?_⟩ | refine ⟨fun (r : List AV) hr c hc => by simp [encS] at hr; (try subst hr); simp at hc; (try subst hc); rfl, ?_⟩ | refine ⟨encI b, fun _ => ⟨by omega, by simp [hb]⟩, ?_⟩ | refine ⟨b, rfl, fun _ => trivial, ?_⟩)
    conv => whnf
    refine ⟨fun h => absurd h (by decide), fun _ => ?_⟩
    repeat ((conv => whnf); first | refine ⟨fun h => h, ?_⟩ | refine ⟨(by kernel_rfl : drawOk _ _ = true), ?_⟩ | refine ⟨fun (h : gtrue _) => by first | assumption | exact absurd (Eq.trans (Eq.symm h) (by assumption) : true = false) Bool.noConfusion, ?_⟩ | refine ⟨fun h => (absurd (Eq.trans (Eq.symm h) (by assumption) : true = false) Bool.noConfusion : False), ?_⟩ | refine ⟨_, w64 (by first | omega | ((try dsimp only at *); (try simp only [List.length_take, List.length_drop, List.length_map, List.length_append, List.length_cons, List.length_nil, List.length_replicate] at *); omega)), ?_⟩ | refine ⟨fun _ => ⟨by first | omega | ((try dsimp only at *); (try simp only [List.length_take, List.length_drop, List.length_map, List.length_append, List.length_cons, List.length_nil, List.length_replicate] at *); omega), by first | omega | ((try dsimp only at *); (try simp only [List.length_take, List.length_drop, List.length_map, List.length_append, List.length_cons, List.length_nil, List.length_replicate] at *); omega), by first | omega | ((try dsimp only at *); (try simp only [List.length_take, List.length_drop, List.length_map, List.length_append, List.length_cons, List.length_nil, List.length_replicate] at *); omega)⟩, ?_⟩ | refine ⟨by first | omega | ((try dsimp only at *); (try simp only [List.length_take, List.length_drop, List.length_map, List.length_append, List.length_cons, List.length_nil, List.length_replicate] at *); omega), ?_⟩ | refine ⟨fun h => ⟨by first | omega | ((try dsimp only at *); (try simp only [List.length_take, List.length_drop, List.length_map, List.length_append, List.length_cons, List.length_nil, List.length_replicate] at *); omega), by first | omega | ((try dsimp only at *); (try simp only [List.length_take, List.length_drop, List.length_map, List.length_append, List.length_cons, List.length_nil, List.length_replicate] at *); omega)⟩, ?_⟩ | refine ⟨fun (r : List AV) hr c hc => by simp [encS] at hr; (try subst hr); simp at hc; (try subst hc); rfl, ?_⟩)
    refine again (i + 1) ?_ h6 (by first | omega | (simp; done) | (simp; omega))
    (refine ⟨?_, ?_, rfl⟩ <;> repeat' (first | exact rfl | exact trivial | refine ⟨?_, ?_⟩ | fail) <;> (conv => whnf))
  · conv => whnf
    exact ⟨trivial, rfl⟩
theorem ok_laws_eqItemS : ConOk Try.prog 40 c_laws_eqItemS := meets_ok (tabT _ _) (FOk.cons ok_laws_eqItem FOk.nil) mixed Try.func40 rfl Try.call40 (by decide) (by kernel_rfl) m_laws_eqItemS (by intro _ (y : Tr) _; exact ⟨by simp [c_laws_eqItemS, con, AV.noRd, noRdCells, noRdRows, noRdRows_map', encS, encI], by simp [c_laws_eqItemS, con, noRdCells]⟩)

def c_laws_eqTree : PCon := con [mS 4, mS 4] true Tr (fun t => [rdT t, rdT t]) smT (fun _ => .bool true)
def E_laws_eqTree : Env := ⟨lookup tyTab, lookup [(40, c_laws_eqItemS)], [0, 1, 2, 3, 4, 10]⟩
set_option maxRecDepth 100000 in
theorem m_laws_eqTree : Meets E_laws_eqTree (codeOf Try.f18) Try.f18.results.toList c_laws_eqTree := by
  intro (t : Tr) hs
  refine ⟨trivial, ?_⟩
  conv => whnf
  refine ⟨t, rfl, fun _ => hs, ?_⟩
  conv => whnf
  refine ⟨fun h => absurd h (by decide), fun _ => ?_⟩
  conv => whnf
  exact ⟨trivial, rfl⟩
theorem ok_laws_eqTree : ConOk Try.prog 18 c_laws_eqTree := meets_ok (tabT _ _) (FOk.cons ok_laws_eqItemS FOk.nil) mixed Try.func18 rfl Try.call18 (by decide) (by kernel_rfl) m_laws_eqTree (by intro _ (y : Tr) _; exact ⟨by simp [c_laws_eqTree, con, AV.noRd, noRdCells, noRdRows, noRdRows_map', encS, encI], by simp [c_laws_eqTree, con, noRdCells]⟩)

def c_laws_FnExactHeaviest : PCon := con [mS 4] true Tr (fun t => [rdT t]) (fun x => x.length ≤ 9223372036854775807 ∧ ∀ y, y ∈ x → y.path.length ≤ 9223372036854775807 ∧ y.data.length ≤ 9223372036854775807) (fun _ => .bool true)
def E_laws_FnExactHeaviest : Env := ⟨lookup tyTab, lookup [(14, c_laws_szTree), (15, c_spec_Heaviest), (16, c_laws_toTree), (17, c_impl_Heaviest), (18, c_laws_eqTree)], [0, 1, 2, 3, 4, 5, 6, 11, 21, 26]⟩
set_option maxRecDepth 100000 in
theorem m_laws_FnExactHeaviest : Meets E_laws_FnExactHeaviest (codeOf Try.f5) Try.f5.results.toList c_laws_FnExactHeaviest := by
  intro (t : Tr) hs
  refine ⟨trivial, ?_⟩
  conv => whnf
  refine ⟨(t, 1048576), rfl, fun _ => ⟨by show (0:Int) ≤ 1048576; decide, by show (1048576:Int) ≤ 4194304; decide, hs⟩, ?_⟩
  (conv => whnf); refine ⟨fun h1 => ?_, fun h1 => ?_⟩
  · conv => whnf
    exact ⟨trivial, rfl⟩
  have h1 : ¬ szR 1048576 (szT t) < 0 := by simpa using h1
  have hsm : smT t := szT_sm (n := 1048576) (by have := szR_ok h1; omega) (by omega)
  conv => whnf
  refine ⟨t, rfl, fun _ => hsm, ?_⟩
  conv => whnf
  refine ⟨t, by refine argT ?_; simp [rdI], fun _ => hsm, ?_⟩
  conv => whnf
  refine ⟨t, rfl, fun _ => hsm, ?_⟩
  conv => whnf
  refine ⟨t, by refine argT ?_; simp [rdI], fun _ => hsm, ?_⟩
  conv => whnf
  refine ⟨fun h => ?_, fun _ => ?_⟩
  · have h : (!(heaviest t == heaviest t)) = true := h
    simp at h
  conv => whnf
  refine ⟨t, rfl, fun _ => hsm, ?_⟩
  conv => whnf
  refine ⟨t, by refine argTT ?_ ?_ <;> simp [rdI], fun _ => hsm, ?_⟩
  repeat ((conv => whnf); first | refine ⟨fun h => h, ?_⟩ | refine ⟨(by kernel_rfl : drawOk _ _ = true), ?_⟩ | refine ⟨fun (h : gtrue _) => by first | assumption | exact absurd (Eq.trans (Eq.symm h) (by assumption) : true = false) Bool.noConfusion, ?_⟩ | refine ⟨fun h => (absurd (Eq.trans (Eq.symm h) (by assumption) : true = false) Bool.noConfusion : False), ?_⟩ | refine ⟨_, w64 (by first | omega | ((try dsimp only at *); (try simp only [List.length_take, List.length_drop, List.length_map, List.length_append, List.length_cons, List.length_nil, List.length_replicate] at *); omega)), ?_⟩ | refine ⟨fun _ => ⟨by first | omega | ((try dsimp only at *); (try simp only [List.length_take, List.length_drop, List.length_map, List.length_append, List.length_cons, List.length_nil, List.length_replicate] at *); omega), by first | omega | ((try dsimp only at *); (try simp only [List.length_take, List.length_drop, List.length_map, List.length_append, List.length_cons, List.length_nil, List.length_replicate] at *); omega), by first | omega | ((try dsimp only at *); (try simp only [List.length_take, List.length_drop, List.length_map, List.length_append, List.length_cons, List.length_nil, List.length_replicate] at *); omega)⟩, ?_⟩ | refine ⟨by first | omega | ((try dsimp only at *); (try simp only [List.length_take, List.length_drop, List.length_map, List.length_append, List.length_cons, List.length_nil, List.length_replicate] at *); omega), ?_⟩ | refine ⟨fun h => ⟨by first | omega | ((try dsimp only at *); (try simp only [List.length_take, List.length_drop, List.length_map, List.length_append, List.length_cons, List.length_nil, List.length_replicate] at *); omega), by first | omega | ((try dsimp only at *); (try simp only [List.length_take, List.length_drop, List.length_map, List.length_append, List.length_cons, List.length_nil, List.length_replicate] at *); omega)⟩, ?_⟩ | refine ⟨fun (r : List AV) hr c hc => by simp [encS] at hr; (try subst hr); simp at hc; (try subst hc); rfl, ?_⟩)
  conv => whnf
  refine ⟨fun h => absurd h (by decide), fun _ => ?_⟩
  conv => whnf
  exact ⟨trivial, rfl⟩
theorem ok_laws_FnExactHeaviest : ConOk Try.prog 5 c_laws_FnExactHeaviest := meets_ok (tabT _ _) (FOk.cons ok_laws_szTree (FOk.cons ok_spec_Heaviest (FOk.cons ok_laws_toTree (FOk.cons ok_impl_Heaviest (FOk.cons ok_laws_eqTree FOk.nil))))) mixed Try.func5 rfl Try.call5 (by decide) (by kernel_rfl) m_laws_FnExactHeaviest (by intro _ (y : Tr) _; exact ⟨by simp [c_laws_FnExactHeaviest, con, AV.noRd, noRdCells, noRdRows, noRdRows_map', encS, encI], by simp [c_laws_FnExactHeaviest, con, noRdCells]⟩)


end Go.GH

set_option linter.unusedVariables false
set_option linter.unusedSimpArgs false
namespace Go.GH
open Go Go.Proofs

open Go.ChangeShapes Go.WideShapes Go.ChangeAt Go.RowKit
theorem items_of {xs : List (List AV)} (h : ∀ r, r ∈ xs → ofL [.str, .int .i64, .str, .int .i64] r) : ∃ t : Tr, xs = t.map encI ∧ ∀ y, y ∈ t → y.path.length ≤ 9223372036854775807 ∧ y.data.length ≤ 9223372036854775807 := by
  induction xs with
  | nil => exact ⟨[], rfl, by simp⟩
  | cons r xs ih =>
    obtain ⟨t, rfl, ht⟩ := ih fun r hr => h r (by simp [hr])
    obtain ⟨c0, r0, rfl, ⟨s0, rfl, b0⟩, c1, r1, rfl, ⟨n1, rfl, _⟩, c2, r2, rfl, ⟨s2, rfl, b2⟩, c3, r3, rfl, ⟨n3, rfl, _⟩, e⟩ := h r (by simp)
    have e : r3 = [] := e
    subst e
    refine ⟨⟨s0, n1, s2, n3⟩ :: t, rfl, fun y hy => ?_⟩
    rcases List.mem_cons.1 hy with rfl | hy
    · exact ⟨b0, b2⟩
    · exact ht y hy
set_option maxRecDepth 100000 in
theorem sh_Tree : shTy Try.prog 12 29 = some [.slice 4 [.str, .int .i64, .str, .int .i64]] := by kernel_rfl
set_option maxRecDepth 100000 in
theorem arg_Tree {a : AV} (h : ArgOk Try.prog 12 29 a) : ∃ t : Tr, a = rdT t ∧ t.length ≤ 9223372036854775807 ∧ ∀ y, y ∈ t → y.path.length ≤ 9223372036854775807 ∧ y.data.length ≤ 9223372036854775807 := by
  obtain ⟨sh, avs, h1, h2, h3⟩ := h
  rw [sh_Tree] at h1
  obtain rfl := Option.some.inj h1
  rw [Try.underlying29] at h3
  obtain ⟨c, r, rfl, ⟨xs, rfl, hl, hx⟩, e⟩ := h2
  have e : r = [] := e
  subst e
  obtain ⟨t, rfl, ht⟩ := items_of hx
  exact ⟨t, h3, by simpa using hl, ht⟩

set_option maxRecDepth 100000 in
theorem sh_Str : shTy Try.prog 12 9 = some [.str] := by kernel_rfl
set_option maxRecDepth 100000 in
theorem arg_Str {a : AV} (h : ArgOk Try.prog 12 9 a) : ∃ p : Str, a = .str p ∧ p.length ≤ 9223372036854775807 := by
  obtain ⟨sh, avs, h1, h2, h3⟩ := h
  rw [sh_Str] at h1
  obtain rfl := Option.some.inj h1
  rw [Try.underlying9] at h3
  obtain ⟨c, r, rfl, ⟨s, rfl, hl⟩, e⟩ := h2
  have e : r = [] := e
  subst e
  have h3 : [AV.str s] = [a] := h3
  exact ⟨s, (List.cons.inj h3).1.symm, hl⟩

end Go.GH

set_option linter.unusedVariables false
set_option linter.unusedSimpArgs false
namespace Go.GH
open Go
/-! Which paths lie below which; usage -/
def withinP (p q : Str) : Bool := pathOk p && pathOk q && (names q).isPrefixOf (names p)
theorem splitBy_head {p : Str} (h : (splitBy 47 p).headD [] = []) (h2 : 2 ≤ (splitBy 47 p).length) : ∃ r, p = 47 :: r ∧ splitBy 47 r = (splitBy 47 p).drop 1 := by
  cases p with
  | nil => simp [splitBy] at h2
  | cons x r =>
    by_cases hx : x = 47
    · subst hx; exact ⟨r, rfl, by simp [splitBy]⟩
    · simp only [splitBy, if_neg hx] at h
      split at h
      · simp at h
      · simp at h
theorem cat_split : ∀ (s : Str), cat (splitBy 47 s) = 47 :: s
  | [] => rfl
  | x :: r => by
    unfold splitBy
    have ih := cat_split r
    split
    · rename_i hx; rw [cat, ih, hx]; rfl
    · have := splitBy_ne 47 r
      cases h : splitBy 47 r with
      | nil => exact absurd h this
      | cons y t =>
        rw [h] at ih
        simp only [cat, List.cons_append] at ih ⊢
        rw [List.cons.injEq] at ih
        rw [← ih.2]
theorem cat_names {p : Str} (h : pathOk p = true) (h2 : (p == sl) = false) : p = cat (names p) ∧ names p ≠ [] := by
  have hn : names p = (splitBy 47 p).drop 1 := by simp [names, h, h2]
  simp only [pathOk, h2, Bool.false_or, Bool.and_eq_true, inB, decide_eq_true_eq, beq_iff_eq] at h
  obtain ⟨⟨⟨h3, h4⟩, h5⟩, h6⟩ := h
  obtain ⟨r, hr, hs⟩ := splitBy_head h5 (by omega)
  rw [hn, ← hs]
  exact ⟨by rw [cat_split, hr], splitBy_ne _ _⟩
theorem names_no {p : Str} : ∀ a, a ∈ names p → ∀ x, x ∈ a → x ≠ 47 := fun a ha => nameOk_no (List.all_eq_true.1 names_all a ha)
theorem names_sl : names sl = [] := by simp [names]
theorem withinP_impl {p q : Str} (hp : pathOk p = true) (hq : pathOk q = true) : ((p == q) || (q == sl) || (q ++ sl).isPrefixOf p) = withinP p q := by
  have e0 : withinP p q = (names q).isPrefixOf (names p) := by simp [withinP, hp, hq]
  rw [e0]
  by_cases h1 : (p == q) = true
  · have : p = q := by simpa using h1
    subst this
    rw [h1]
    simp
  have h1 : (p == q) = false := by simpa using h1
  by_cases h2 : (q == sl) = true
  · rw [h2]
    have : q = sl := by simpa using h2
    subst this
    rw [names_sl]
    simp
  have h2 : (q == sl) = false := by simpa using h2
  obtain ⟨cq, nq⟩ := cat_names hq h2
  rw [h1, h2, Bool.false_or, Bool.false_or]
  by_cases h3 : (p == sl) = true
  · have : p = sl := by simpa using h3
    subst this
    rw [names_sl]
    have hl : 1 ≤ q.length := by
      rw [cq, cat_len]
      have := List.length_pos_iff.2 nq
      omega
    have e1 : (q ++ sl).isPrefixOf sl = false := by
      rw [Bool.eq_false_iff]
      intro h
      have := (List.isPrefixOf_iff_prefix.1 h).length_le
      simp [sl] at this
      subst this
      simp at hl
    rw [e1]
    cases hn : names q with
    | nil => exact absurd hn nq
    | cons x r => rfl
  have h3 : (p == sl) = false := by simpa using h3
  obtain ⟨cp, np⟩ := cat_names hp h3
  have sp := split_cat (names_no (p := p)) np
  have sq := split_cat (names_no (p := q)) nq
  rw [← cp] at sp
  rw [← cq] at sq
  rw [Bool.eq_iff_iff, List.isPrefixOf_iff_prefix, List.isPrefixOf_iff_prefix]
  constructor
  · rintro ⟨t, ht⟩
    have ht : q ++ 47 :: t = p := by rw [← ht]; simp [sl]
    have sp2 : splitBy 47 (q ++ 47 :: t) = [] :: names p := by rw [ht]; exact sp
    rw [split_cons, sq, List.cons_append, List.cons.injEq] at sp2
    exact ⟨_, sp2.2⟩
  · rintro ⟨r, hr⟩
    cases r with
    | nil =>
      rw [List.append_nil] at hr
      rw [← hr, ← cq] at cp
      subst cp
      simp at h1
    | cons a r =>
      rw [← hr, cat_append, ← cq] at cp
      refine ⟨a ++ cat r, ?_⟩
      rw [cp]
      simp [cat, sl]
theorem isPrefix_take {a b : List Str} : (decide ((b.length : Int) ≤ a.length) && (a.take b.length == b)) = b.isPrefixOf a := by
  rw [Bool.eq_iff_iff, List.isPrefixOf_iff_prefix, List.prefix_iff_eq_take]
  simp only [Bool.and_eq_true, decide_eq_true_eq, beq_iff_eq]
  constructor
  · rintro ⟨_, h⟩; exact h.symm
  · intro h
    refine ⟨?_, h.symm⟩
    have := congrArg List.length h
    simp at this
    omega
theorem argRR {s s2 : Nat} {x x' y y' : List (List AV)} (h1 : x = x') (h2 : y = y') : [AV.rd s x, AV.rd s2 y] = [AV.rd s x', AV.rd s2 y'] := by rw [h1, h2]
theorem args_two {args : Array Value} {p q : Str} (hsz : args.size = 2) (h0 : args.getD 0 undef = bytesV p) (h1 : args.getD 1 undef = bytesV q) : args = #[.string (toB p), .string (toB q)] := by
  apply Array.ext
  · simp [hsz]
  · intro i hi1 hi2
    have : i = 0 ∨ i = 1 := by omega
    rcases this with rfl | rfl
    · rw [Array.getD_eq_getD_getElem?, Array.getElem?_eq_getElem hi1] at h0; simpa [bytesV, toB] using h0
    · rw [Array.getD_eq_getD_getElem?, Array.getElem?_eq_getElem hi1] at h1; simpa [bytesV, toB] using h1
theorem names_sm {p : Str} : smL (names p) := by
  refine ⟨by have := names_len (p := p); omega, fun s hs => ?_⟩
  have := nameOk_len (List.all_eq_true.1 (names_all (p := p)) s hs)
  omega
theorem smL_take {l : List Str} {k : Nat} (h : smL l) : smL (l.take k) := by
  refine ⟨by have := h.1; simp; omega, fun s hs => h.2 s (List.mem_of_mem_take hs)⟩
theorem argTs {s : Nat} {x x' : List (List AV)} {p : Str} (h1 : x = x') : [AV.agg [AV.rd s x], .str p] = [AV.agg [AV.rd s x'], .str p] := by rw [h1]
def useP (t : Tr) (p : Str) : Bool × Nat × Nat :=
  if treeOk t && (treeGet t p).isSome then (true, (t.filter fun x => x.kind != 2 && withinP x.path p).length, ((t.filter fun x => x.kind != 2 && withinP x.path p).map fun x => x.data.length).sum) else (false, 0, 0)
def useRes (t : Tr) (p : Str) : AV := .tup [.int .i64 (useP t p).2.1, .int .i64 (useP t p).2.2, .bool (useP t p).1]
def lyP (p : Str) (x : It) : Bool := x.kind != 2 && withinP x.path p
def cnt (p : Str) (l : Tr) : Nat := (l.filter (lyP p)).length
def byt (p : Str) (l : Tr) : Nat := ((l.filter (lyP p)).map fun x => x.data.length).sum
theorem cnt_hit {p : Str} {l : Tr} {i : Nat} {x : It} (h : l[i]? = some x) (hx : lyP p x = true) : cnt p (l.take (i + 1)) = cnt p (l.take i) + 1 := by
  unfold cnt; rw [take_succ' h, List.filter_append]; simp [hx]
theorem cnt_pass {p : Str} {l : Tr} {i : Nat} {x : It} (h : l[i]? = some x) (hx : lyP p x = false) : cnt p (l.take (i + 1)) = cnt p (l.take i) := by
  unfold cnt; rw [take_succ' h, List.filter_append]; simp [hx]
theorem byt_hit {p : Str} {l : Tr} {i : Nat} {x : It} (h : l[i]? = some x) (hx : lyP p x = true) : byt p (l.take (i + 1)) = byt p (l.take i) + x.data.length := by
  unfold byt; rw [take_succ' h, List.filter_append]; simp [hx]
theorem byt_pass {p : Str} {l : Tr} {i : Nat} {x : It} (h : l[i]? = some x) (hx : lyP p x = false) : byt p (l.take (i + 1)) = byt p (l.take i) := by
  unfold byt; rw [take_succ' h, List.filter_append]; simp [hx]
theorem cnt_le {p : Str} {l : Tr} {i : Nat} : cnt p (l.take i) ≤ i := by
  unfold cnt
  have := List.length_filter_le (lyP p) (l.take i)
  simp at this
  omega
theorem byt_le {p : Str} {l : Tr} (h : ∀ x, x ∈ l → x.data.length ≤ 4194304) {i : Nat} : byt p (l.take i) ≤ i * 4194304 := by
  unfold byt
  generalize 4194304 = B at *
  have h1 : ∀ (m : Tr), (∀ x, x ∈ m → x.data.length ≤ B) → (m.map fun x => x.data.length).sum ≤ m.length * B := by
    intro m hm
    induction m with
    | nil => exact Nat.zero_le _
    | cons a r ih =>
      have := ih fun x hx => hm x (by simp [hx])
      have := hm a (by simp)
      simp only [List.map_cons, List.sum_cons, List.length_cons, Nat.add_mul]
      omega
  have h2 := h1 ((l.take i).filter (lyP p)) fun x hx => h x (List.mem_of_mem_take (List.mem_filter.1 hx).1)
  have h3 := List.length_filter_le (lyP p) (l.take i)
  simp at h3
  have h4 : ((l.take i).filter (lyP p)).length * B ≤ i * B := Nat.mul_le_mul_right _ (by omega)
  omega
theorem use_no {t : Tr} {p : Str} (h : (treeOk t && (treeGet t p).isSome) = false) : useRes t p = .tup [.int .i64 0, .int .i64 0, .bool false] := by
  simp [useRes, useP, h]
theorem use_yes {t : Tr} {p : Str} (h : (treeOk t && (treeGet t p).isSome) = true) : useRes t p = .tup [.int .i64 (cnt p t), .int .i64 (byt p t), .bool true] := by
  simp only [useRes, useP, h, if_true, cnt, byt]
  rfl
end Go.GH

set_option linter.unusedVariables false
set_option linter.unusedSimpArgs false
namespace Go.GH
open Go Go.Proofs

def c_spec_l1Texts : PCon := con [mS 1, mS 1] true (List Str × List Str) (fun x => [.rd 1 (x.1.map encS), .rd 1 (x.2.map encS)]) (fun x => smL x.1 ∧ smL x.2) (fun x => .bool (x.1 == x.2))
def E_spec_l1Texts : Env := ⟨lookup tyTab, lookup [], [0, 1, 4, 5, 10, 14, 25]⟩
set_option maxRecDepth 100000 in
theorem m_spec_l1Texts : Meets E_spec_l1Texts (codeOf Try.f68) Try.f68.results.toList c_spec_l1Texts := by
  rintro ⟨l, m⟩ hs
  obtain ⟨⟨hl1, hl2⟩, ⟨hm1, hm2⟩⟩ : smL l ∧ smL m := hs
  refine ⟨trivial, ?_⟩
  (conv => whnf); refine ⟨fun h1 => ?_, fun h1 => ?_⟩
  · have h1 : l.length ≠ m.length := by simp at h1; omega
    conv => whnf
    exact ⟨trivial, eqB (Eq.symm (beq_eq_false_iff_ne.2 fun e => h1 (congrArg List.length e)))⟩
  have h1 : l.length = m.length := by simp at h1; omega
  repeat ((conv => whnf); first | refine ⟨fun h => h, ?_⟩ | refine ⟨(by kernel_rfl : drawOk _ _ = true), ?_⟩ | refine ⟨fun (h : gtrue _) => by first | assumption | exact absurd (Eq.trans (Eq.symm h) (by assumption) : true = false) Bool.noConfusion, ?_⟩ | refine ⟨fun h => (absurd (Eq.trans (Eq.symm h) (by assumption) : true = false) Bool.noConfusion : False), ?_⟩ | refine ⟨_, w64 (by first | omega | ((try dsimp only at *); (try simp only [List.length_take, List.length_drop, List.length_map, List.length_append, List.length_cons, List.length_nil, List.length_replicate] at *); omega)), ?_⟩ | refine ⟨fun _ => ⟨by first | omega | ((try dsimp only at *); (try simp only [List.length_take, List.length_drop, List.length_map, List.length_append, List.length_cons, List.length_nil, List.length_replicate] at *); omega), by first | omega | ((try dsimp only at *); (try simp only [List.length_take, List.length_drop, List.length_map, List.length_append, List.length_cons, List.length_nil, List.length_replicate] at *); omega), by first | omega | ((try dsimp only at *); (try simp only [List.length_take, List.length_drop, List.length_map, List.length_append, List.length_cons, List.length_nil, List.length_replicate] at *); omega)⟩, ?_⟩ | refine ⟨by first | omega | ((try dsimp only at *); (try simp only [List.length_take, List.length_drop, List.length_map, List.length_append, List.length_cons, List.length_nil, List.length_replicate] at *); omega), ?_⟩ | refine ⟨fun h => ⟨by first | omega | ((try dsimp only at *); (try simp only [List.length_take, List.length_drop, List.length_map, List.length_append, List.length_cons, List.length_nil, List.length_replicate] at *); omega), by first | omega | ((try dsimp only at *); (try simp only [List.length_take, List.length_drop, List.length_map, List.length_append, List.length_cons, List.length_nil, List.length_replicate] at *); omega)⟩, ?_⟩ | refine ⟨fun (r : List AV) hr c hc => by simp [encS] at hr; (try subst hr); simp at hc; (try subst hc); rfl, ?_⟩)
  refine loop_rule (fun i : Nat => ⟨[(0, ⟨none, .rd 1 (l.map encS)⟩), (1, ⟨none, .rd 1 (m.map encS)⟩), (5, ⟨none, .int .i64 i⟩)], [], 0⟩)
    (fun i => i ≤ l.length ∧ l.take i = m.take i) (fun i => l.length - i) 0 ?_ ⟨by omega, rfl⟩ ?_
  · (refine ⟨?_, ?_, rfl⟩ <;> repeat' (first | exact rfl | exact trivial | refine ⟨?_, ?_⟩ | fail) <;> (conv => whnf))
  rintro i ⟨hi, hI⟩
  (conv => whnf); refine ⟨fun h2 => ?_, fun h2 => ?_⟩
  · have h2 : i < l.length := by simpa using h2
    obtain ⟨b, hb⟩ := get_lt h2
    obtain ⟨c, hc⟩ := get_lt (l := m) (i := i) (by omega)
    repeat ((conv => whnf); first | refine ⟨fun h => h, ?_⟩ | refine ⟨(by kernel_rfl : drawOk _ _ = true), ?_⟩ | refine ⟨fun (h : gtrue _) => by first | assumption | exact absurd (Eq.trans (Eq.symm h) (by assumption) : true = false) Bool.noConfusion, ?_⟩ | refine ⟨fun h => (absurd (Eq.trans (Eq.symm h) (by assumption) : true = false) Bool.noConfusion : False), ?_⟩ | refine ⟨_, w64 (by first | omega | ((try dsimp only at *); (try simp only [List.length_take, List.length_drop, List.length_map, List.length_append, List.length_cons, List.length_nil, List.length_replicate] at *); omega)), ?_⟩ | refine ⟨fun _ => ⟨by first | omega | ((try dsimp only at *); (try simp only [List.length_take, List.length_drop, List.length_map, List.length_append, List.length_cons, List.length_nil, List.length_replicate] at *); omega), by first | omega | ((try dsimp only at *); (try simp only [List.length_take, List.length_drop, List.length_map, List.length_append, List.length_cons, List.length_nil, List.length_replicate] at *); omega), by first | omega | ((try dsimp only at *); (try simp only [List.length_take, List.length_drop, List.length_map, List.length_append, List.length_cons, List.length_nil, List.length_replicate] at *); omega)⟩, ?_⟩ | refine ⟨by first | omega | ((try dsimp only at *); (try simp only [List.length_take, List.length_drop, List.length_map, List.length_append, List.length_cons, List.length_nil, List.length_replicate] at *); omega), ?_⟩ | refine ⟨fun h => ⟨by first | omega | ((try dsimp only at *); (try simp only [List.length_take, List.length_drop, List.length_map, List.length_append, List.length_cons, List.length_nil, List.length_replicate] at *); omega), by first | omega | ((try dsimp only at *); (try simp only [List.length_take, List.length_drop, List.length_map, List.length_append, List.length_cons, List.length_nil, List.length_replicate] at *); omega)⟩, ?_⟩ | refine ⟨fun (r : List AV) hr c hc => by simp [encS] at hr; (try subst hr); simp at hc; (try subst hc); rfl, ?_⟩ | refine ⟨encS b, fun _ => ⟨by omega, get_map hb⟩, ?_⟩ | refine ⟨encS c, fun _ => ⟨by omega, get_map hc⟩, ?_⟩)
    (conv => whnf); refine ⟨fun h3 => ?_, fun h3 => ?_⟩
    · have h3 : (!(b == c)) = true := h3
      conv => whnf
      exact ⟨trivial, eqB (Eq.symm (beq_eq_false_iff_ne.2 fun (e : l = m) => by
        rw [← e, hb] at hc; simp at hc; simp [hc] at h3))⟩
    · have h3 : b = c := by
        have h3 : (!(b == c)) = false := h3
        simpa using h3
      repeat ((conv => whnf); first | refine ⟨fun h => h, ?_⟩ | refine ⟨(by kernel_rfl : drawOk _ _ = true), ?_⟩ | refine ⟨fun (h : gtrue _) => by first | assumption | exact absurd (Eq.trans (Eq.symm h) (by assumption) : true = false) Bool.noConfusion, ?_⟩ | refine ⟨fun h => (absurd (Eq.trans (Eq.symm h) (by assumption) : true = false) Bool.noConfusion : False), ?_⟩ | refine ⟨_, w64 (by first | omega | ((try dsimp only at *); (try simp only [List.length_take, List.length_drop, List.length_map, List.length_append, List.length_cons, List.length_nil, List.length_replicate] at *); omega)), ?_⟩ | refine ⟨fun _ => ⟨by first | omega | ((try dsimp only at *); (try simp only [List.length_take, List.length_drop, List.length_map, List.length_append, List.length_cons, List.length_nil, List.length_replicate] at *); omega), by first | omega | ((try dsimp only at *); (try simp only [List.length_take, List.length_drop, List.length_map, List.length_append, List.length_cons, List.length_nil, List.length_replicate] at *); omega), by first | omega | ((try dsimp only at *); (try simp only [List.length_take, List.length_drop, List.length_map, List.length_append, List.length_cons, List.length_nil, List.length_replicate] at *); omega)⟩, ?_⟩ | refine ⟨by first | omega | ((try dsimp only at *); (try simp only [List.length_take, List.length_drop, List.length_map, List.length_append, List.length_cons, List.length_nil, List.length_replicate] at *); omega), ?_⟩ | refine ⟨fun h => ⟨by first | omega | ((try dsimp only at *); (try simp only [List.length_take, List.length_drop, List.length_map, List.length_append, List.length_cons, List.length_nil, List.length_replicate] at *); omega), by first | omega | ((try dsimp only at *); (try simp only [List.length_take, List.length_drop, List.length_map, List.length_append, List.length_cons, List.length_nil, List.length_replicate] at *); omega)⟩, ?_⟩ | refine ⟨fun (r : List AV) hr c hc => by simp [encS] at hr; (try subst hr); simp at hc; (try subst hc); rfl, ?_⟩)
      refine again (i + 1) ?_ ⟨h2, by rw [take_succ' hb, take_succ' hc, hI, h3]⟩ (by first | omega | (simp; done) | (simp; omega))
      (refine ⟨?_, ?_, rfl⟩ <;> repeat' (first | exact rfl | exact trivial | refine ⟨?_, ?_⟩ | fail) <;> (conv => whnf))
  · have h2 : i = l.length := by
      have : ¬ i < l.length := by simpa using h2
      omega
    subst h2
    conv => whnf
    rw [List.take_length, h1, List.take_length] at hI
    exact ⟨trivial, eqB (Eq.symm (beq_iff_eq.2 hI))⟩
theorem ok_spec_l1Texts : ConOk Try.prog 68 c_spec_l1Texts := meets_ok (tabT _ _) FOk.nil mixed Try.func68 rfl Try.call68 (by decide) (by kernel_rfl) m_spec_l1Texts (by intro _ (y : (List Str × List Str)) _; exact ⟨by simp [c_spec_l1Texts, con, AV.noRd, noRdCells, noRdRows, noRdRows_map', encS], by simp [c_spec_l1Texts, con, noRdCells]⟩)

def c_spec_Within : PCon := con [mC, mC] true (Str × Str) (fun ⟨p, q⟩ => [.str p, .str q]) (fun x => sml x.1.length ∧ sml x.2.length) (fun x => .bool (withinP x.1 x.2))
def E_spec_Within : Env := ⟨lookup tyTab, lookup [(61, c_spec_PathOk), (67, c_spec_Names), (68, c_spec_l1Texts)], [0, 1, 4, 5, 6]⟩
set_option maxRecDepth 100000 in
theorem m_spec_Within : Meets E_spec_Within (codeOf Try.f42) Try.f42.results.toList c_spec_Within := by
  rintro ⟨p, q⟩ hs
  obtain ⟨h1, h2⟩ : sml p.length ∧ sml q.length := hs
  refine ⟨trivial, ?_⟩
  conv => whnf
  refine ⟨p, rfl, fun _ => h1, ?_⟩
  conv => whnf
  refine ⟨q, rfl, fun _ => h2, ?_⟩
  conv => whnf
  refine ⟨p, rfl, fun _ => h1, ?_⟩
  repeat ((conv => whnf); first | refine ⟨fun h => h, ?_⟩ | refine ⟨(by kernel_rfl : drawOk _ _ = true), ?_⟩ | refine ⟨fun (h : gtrue _) => by first | assumption | exact absurd (Eq.trans (Eq.symm h) (by assumption) : true = false) Bool.noConfusion, ?_⟩ | refine ⟨fun h => (absurd (Eq.trans (Eq.symm h) (by assumption) : true = false) Bool.noConfusion : False), ?_⟩ | refine ⟨_, w64 (by first | omega | ((try dsimp only at *); (try simp only [List.length_take, List.length_drop, List.length_map, List.length_append, List.length_cons, List.length_nil, List.length_replicate] at *); omega)), ?_⟩ | refine ⟨fun _ => ⟨by first | omega | ((try dsimp only at *); (try simp only [List.length_take, List.length_drop, List.length_map, List.length_append, List.length_cons, List.length_nil, List.length_replicate] at *); omega), by first | omega | ((try dsimp only at *); (try simp only [List.length_take, List.length_drop, List.length_map, List.length_append, List.length_cons, List.length_nil, List.length_replicate] at *); omega), by first | omega | ((try dsimp only at *); (try simp only [List.length_take, List.length_drop, List.length_map, List.length_append, List.length_cons, List.length_nil, List.length_replicate] at *); omega)⟩, ?_⟩ | refine ⟨by first | omega | ((try dsimp only at *); (try simp only [List.length_take, List.length_drop, List.length_map, List.length_append, List.length_cons, List.length_nil, List.length_replicate] at *); omega), ?_⟩ | refine ⟨fun h => ⟨by first | omega | ((try dsimp only at *); (try simp only [List.length_take, List.length_drop, List.length_map, List.length_append, List.length_cons, List.length_nil, List.length_replicate] at *); omega), by first | omega | ((try dsimp only at *); (try simp only [List.length_take, List.length_drop, List.length_map, List.length_append, List.length_cons, List.length_nil, List.length_replicate] at *); omega)⟩, ?_⟩ | refine ⟨fun (r : List AV) hr c hc => by simp [encS] at hr; (try subst hr); simp at hc; (try subst hc); rfl, ?_⟩)
  refine ⟨q, rfl, fun _ => h2, ?_⟩
  repeat ((conv => whnf); first | refine ⟨fun h => h, ?_⟩ | refine ⟨(by kernel_rfl : drawOk _ _ = true), ?_⟩ | refine ⟨fun (h : gtrue _) => by first | assumption | exact absurd (Eq.trans (Eq.symm h) (by assumption) : true = false) Bool.noConfusion, ?_⟩ | refine ⟨fun h => (absurd (Eq.trans (Eq.symm h) (by assumption) : true = false) Bool.noConfusion : False), ?_⟩ | refine ⟨_, w64 (by first | omega | ((try dsimp only at *); (try simp only [List.length_take, List.length_drop, List.length_map, List.length_append, List.length_cons, List.length_nil, List.length_replicate] at *); omega)), ?_⟩ | refine ⟨fun _ => ⟨by first | omega | ((try dsimp only at *); (try simp only [List.length_take, List.length_drop, List.length_map, List.length_append, List.length_cons, List.length_nil, List.length_replicate] at *); omega), by first | omega | ((try dsimp only at *); (try simp only [List.length_take, List.length_drop, List.length_map, List.length_append, List.length_cons, List.length_nil, List.length_replicate] at *); omega), by first | omega | ((try dsimp only at *); (try simp only [List.length_take, List.length_drop, List.length_map, List.length_append, List.length_cons, List.length_nil, List.length_replicate] at *); omega)⟩, ?_⟩ | refine ⟨by first | omega | ((try dsimp only at *); (try simp only [List.length_take, List.length_drop, List.length_map, List.length_append, List.length_cons, List.length_nil, List.length_replicate] at *); omega), ?_⟩ | refine ⟨fun h => ⟨by first | omega | ((try dsimp only at *); (try simp only [List.length_take, List.length_drop, List.length_map, List.length_append, List.length_cons, List.length_nil, List.length_replicate] at *); omega), by first | omega | ((try dsimp only at *); (try simp only [List.length_take, List.length_drop, List.length_map, List.length_append, List.length_cons, List.length_nil, List.length_replicate] at *); omega)⟩, ?_⟩ | refine ⟨fun (r : List AV) hr c hc => by simp [encS] at hr; (try subst hr); simp at hc; (try subst hc); rfl, ?_⟩)
  conv => whnf
  refine ⟨fun h => ⟨by omega, by omega, by simp [gtrue] at h ⊢; omega⟩, ?_⟩
  repeat ((conv => whnf); first | refine ⟨fun h => h, ?_⟩ | refine ⟨(by kernel_rfl : drawOk _ _ = true), ?_⟩ | refine ⟨fun (h : gtrue _) => by first | assumption | exact absurd (Eq.trans (Eq.symm h) (by assumption) : true = false) Bool.noConfusion, ?_⟩ | refine ⟨fun h => (absurd (Eq.trans (Eq.symm h) (by assumption) : true = false) Bool.noConfusion : False), ?_⟩ | refine ⟨_, w64 (by first | omega | ((try dsimp only at *); (try simp only [List.length_take, List.length_drop, List.length_map, List.length_append, List.length_cons, List.length_nil, List.length_replicate] at *); omega)), ?_⟩ | refine ⟨fun _ => ⟨by first | omega | ((try dsimp only at *); (try simp only [List.length_take, List.length_drop, List.length_map, List.length_append, List.length_cons, List.length_nil, List.length_replicate] at *); omega), by first | omega | ((try dsimp only at *); (try simp only [List.length_take, List.length_drop, List.length_map, List.length_append, List.length_cons, List.length_nil, List.length_replicate] at *); omega), by first | omega | ((try dsimp only at *); (try simp only [List.length_take, List.length_drop, List.length_map, List.length_append, List.length_cons, List.length_nil, List.length_replicate] at *); omega)⟩, ?_⟩ | refine ⟨by first | omega | ((try dsimp only at *); (try simp only [List.length_take, List.length_drop, List.length_map, List.length_append, List.length_cons, List.length_nil, List.length_replicate] at *); omega), ?_⟩ | refine ⟨fun h => ⟨by first | omega | ((try dsimp only at *); (try simp only [List.length_take, List.length_drop, List.length_map, List.length_append, List.length_cons, List.length_nil, List.length_replicate] at *); omega), by first | omega | ((try dsimp only at *); (try simp only [List.length_take, List.length_drop, List.length_map, List.length_append, List.length_cons, List.length_nil, List.length_replicate] at *); omega)⟩, ?_⟩ | refine ⟨fun (r : List AV) hr c hc => by simp [encS] at hr; (try subst hr); simp at hc; (try subst hc); rfl, ?_⟩)
  conv => whnf
  refine ⟨((names p).take (names q).length, names q), argRR (by rw [cutS]; simp) (by simp [rdS]), fun h => ⟨smL_take names_sm, names_sm⟩, ?_⟩
  repeat ((conv => whnf); first | refine ⟨fun h => h, ?_⟩ | refine ⟨(by kernel_rfl : drawOk _ _ = true), ?_⟩ | refine ⟨fun (h : gtrue _) => by first | assumption | exact absurd (Eq.trans (Eq.symm h) (by assumption) : true = false) Bool.noConfusion, ?_⟩ | refine ⟨fun h => (absurd (Eq.trans (Eq.symm h) (by assumption) : true = false) Bool.noConfusion : False), ?_⟩ | refine ⟨_, w64 (by first | omega | ((try dsimp only at *); (try simp only [List.length_take, List.length_drop, List.length_map, List.length_append, List.length_cons, List.length_nil, List.length_replicate] at *); omega)), ?_⟩ | refine ⟨fun _ => ⟨by first | omega | ((try dsimp only at *); (try simp only [List.length_take, List.length_drop, List.length_map, List.length_append, List.length_cons, List.length_nil, List.length_replicate] at *); omega), by first | omega | ((try dsimp only at *); (try simp only [List.length_take, List.length_drop, List.length_map, List.length_append, List.length_cons, List.length_nil, List.length_replicate] at *); omega), by first | omega | ((try dsimp only at *); (try simp only [List.length_take, List.length_drop, List.length_map, List.length_append, List.length_cons, List.length_nil, List.length_replicate] at *); omega)⟩, ?_⟩ | refine ⟨by first | omega | ((try dsimp only at *); (try simp only [List.length_take, List.length_drop, List.length_map, List.length_append, List.length_cons, List.length_nil, List.length_replicate] at *); omega), ?_⟩ | refine ⟨fun h => ⟨by first | omega | ((try dsimp only at *); (try simp only [List.length_take, List.length_drop, List.length_map, List.length_append, List.length_cons, List.length_nil, List.length_replicate] at *); omega), by first | omega | ((try dsimp only at *); (try simp only [List.length_take, List.length_drop, List.length_map, List.length_append, List.length_cons, List.length_nil, List.length_replicate] at *); omega)⟩, ?_⟩ | refine ⟨fun (r : List AV) hr c hc => by simp [encS] at hr; (try subst hr); simp at hc; (try subst hc); rfl, ?_⟩)
  conv => whnf
  refine ⟨trivial, eqB ?_⟩
  show (pathOk p && pathOk q && decide ((((names q).map encS).length : Int) ≤ ((names p).map encS).length) && ((names p).take (names q).length == names q)) = withinP p q
  rw [List.length_map, List.length_map, withinP, Bool.and_assoc (pathOk p && pathOk q), isPrefix_take]
theorem ok_spec_Within : ConOk Try.prog 42 c_spec_Within := meets_ok (tabT _ _) (FOk.cons ok_spec_PathOk (FOk.cons ok_spec_Names (FOk.cons ok_spec_l1Texts FOk.nil))) mixed Try.func42 rfl Try.call42 (by decide) (by kernel_rfl) m_spec_Within (by intro _ (y : (Str × Str)) _; exact ⟨by simp [c_spec_Within, con, AV.noRd, noRdCells, noRdRows, noRdRows_map', encS], by simp [c_spec_Within, con, noRdCells]⟩)

def c_strings_HasPrefix : PCon := con [mC, mC] true (Str × Str) (fun ⟨p, q⟩ => [.str p, .str q]) (fun x => True) (fun x => .bool (x.2.isPrefixOf x.1))
theorem ok_strings_HasPrefix : ConOk Try.prog 70 c_strings_HasPrefix := by
  refine con_of_calls rfl (fun _ => rfl) (fun _ => rfl) (fun _ => rfl) Try.call70 ?_
  rintro ⟨l, p⟩ hpre y w args ρ hw hR hsz hs
  have h0 := srep_str (hs 0 _ rfl)
  have h1 := srep_str (hs 1 _ rfl)
  have ha := args_two hsz h0 h1
  rw [ha]
  refine (Try.strings_HasPrefix (toB l) (toB p) w).mono ?_
  rintro e w' ⟨rfl, rfl⟩
  exact ⟨rfl, RowKit.Below.refl _ _⟩
def c_impl_Within : PCon := con [mC, mC] true (Str × Str) (fun ⟨p, q⟩ => [.str p, .str q]) (fun x => sml x.1.length ∧ sml x.2.length) (fun x => .bool (withinP x.1 x.2))
def E_impl_Within : Env := ⟨lookup tyTab, lookup [(69, c_impl_PathOk), (70, c_strings_HasPrefix)], [0, 1, 4, 12]⟩
set_option maxRecDepth 100000 in
theorem m_impl_Within : Meets E_impl_Within (codeOf Try.f44) Try.f44.results.toList c_impl_Within := by
  rintro ⟨p, q⟩ hs
  obtain ⟨h1, h2⟩ : p.length ≤ 4194304 ∧ q.length ≤ 4194304 := hs
  refine ⟨trivial, ?_⟩
  conv => whnf
  refine ⟨p, rfl, fun _ => h1, ?_⟩
  repeat ((conv => whnf); first | refine ⟨fun h => h, ?_⟩ | refine ⟨(by kernel_rfl : drawOk _ _ = true), ?_⟩ | refine ⟨fun (h : gtrue _) => by first | assumption | exact absurd (Eq.trans (Eq.symm h) (by assumption) : true = false) Bool.noConfusion, ?_⟩ | refine ⟨fun h => (absurd (Eq.trans (Eq.symm h) (by assumption) : true = false) Bool.noConfusion : False), ?_⟩ | refine ⟨_, w64 (by first | omega | ((try dsimp only at *); (try simp only [List.length_take, List.length_drop, List.length_map, List.length_append, List.length_cons, List.length_nil, List.length_replicate] at *); omega)), ?_⟩ | refine ⟨fun _ => ⟨by first | omega | ((try dsimp only at *); (try simp only [List.length_take, List.length_drop, List.length_map, List.length_append, List.length_cons, List.length_nil, List.length_replicate] at *); omega), by first | omega | ((try dsimp only at *); (try simp only [List.length_take, List.length_drop, List.length_map, List.length_append, List.length_cons, List.length_nil, List.length_replicate] at *); omega), by first | omega | ((try dsimp only at *); (try simp only [List.length_take, List.length_drop, List.length_map, List.length_append, List.length_cons, List.length_nil, List.length_replicate] at *); omega)⟩, ?_⟩ | refine ⟨by first | omega | ((try dsimp only at *); (try simp only [List.length_take, List.length_drop, List.length_map, List.length_append, List.length_cons, List.length_nil, List.length_replicate] at *); omega), ?_⟩ | refine ⟨fun h => ⟨by first | omega | ((try dsimp only at *); (try simp only [List.length_take, List.length_drop, List.length_map, List.length_append, List.length_cons, List.length_nil, List.length_replicate] at *); omega), by first | omega | ((try dsimp only at *); (try simp only [List.length_take, List.length_drop, List.length_map, List.length_append, List.length_cons, List.length_nil, List.length_replicate] at *); omega)⟩, ?_⟩ | refine ⟨fun (r : List AV) hr c hc => by simp [encS] at hr; (try subst hr); simp at hc; (try subst hc); rfl, ?_⟩)
  refine ⟨q, rfl, fun _ => h2, ?_⟩
  repeat ((conv => whnf); first | refine ⟨fun h => h, ?_⟩ | refine ⟨(by kernel_rfl : drawOk _ _ = true), ?_⟩ | refine ⟨fun (h : gtrue _) => by first | assumption | exact absurd (Eq.trans (Eq.symm h) (by assumption) : true = false) Bool.noConfusion, ?_⟩ | refine ⟨fun h => (absurd (Eq.trans (Eq.symm h) (by assumption) : true = false) Bool.noConfusion : False), ?_⟩ | refine ⟨_, w64 (by first | omega | ((try dsimp only at *); (try simp only [List.length_take, List.length_drop, List.length_map, List.length_append, List.length_cons, List.length_nil, List.length_replicate] at *); omega)), ?_⟩ | refine ⟨fun _ => ⟨by first | omega | ((try dsimp only at *); (try simp only [List.length_take, List.length_drop, List.length_map, List.length_append, List.length_cons, List.length_nil, List.length_replicate] at *); omega), by first | omega | ((try dsimp only at *); (try simp only [List.length_take, List.length_drop, List.length_map, List.length_append, List.length_cons, List.length_nil, List.length_replicate] at *); omega), by first | omega | ((try dsimp only at *); (try simp only [List.length_take, List.length_drop, List.length_map, List.length_append, List.length_cons, List.length_nil, List.length_replicate] at *); omega)⟩, ?_⟩ | refine ⟨by first | omega | ((try dsimp only at *); (try simp only [List.length_take, List.length_drop, List.length_map, List.length_append, List.length_cons, List.length_nil, List.length_replicate] at *); omega), ?_⟩ | refine ⟨fun h => ⟨by first | omega | ((try dsimp only at *); (try simp only [List.length_take, List.length_drop, List.length_map, List.length_append, List.length_cons, List.length_nil, List.length_replicate] at *); omega), by first | omega | ((try dsimp only at *); (try simp only [List.length_take, List.length_drop, List.length_map, List.length_append, List.length_cons, List.length_nil, List.length_replicate] at *); omega)⟩, ?_⟩ | refine ⟨fun (r : List AV) hr c hc => by simp [encS] at hr; (try subst hr); simp at hc; (try subst hc); rfl, ?_⟩)
  (conv => whnf); refine ⟨fun h3 => ?_, fun h3 => ?_⟩
  · conv => whnf
    have h3 : (!pathOk p || !pathOk q) = true := h3
    exact ⟨trivial, eqB (by unfold withinP; revert h3; cases pathOk p <;> cases pathOk q <;> simp)⟩
  have h3 : (!pathOk p || !pathOk q) = false := h3
  have hp : pathOk p = true := by revert h3; cases pathOk p <;> simp
  have hq : pathOk q = true := by revert h3; cases pathOk q <;> simp
  repeat ((conv => whnf); first | refine ⟨fun h => h, ?_⟩ | refine ⟨(by kernel_rfl : drawOk _ _ = true), ?_⟩ | refine ⟨fun (h : gtrue _) => by first | assumption | exact absurd (Eq.trans (Eq.symm h) (by assumption) : true = false) Bool.noConfusion, ?_⟩ | refine ⟨fun h => (absurd (Eq.trans (Eq.symm h) (by assumption) : true = false) Bool.noConfusion : False), ?_⟩ | refine ⟨_, w64 (by first | omega | ((try dsimp only at *); (try simp only [List.length_take, List.length_drop, List.length_map, List.length_append, List.length_cons, List.length_nil, List.length_replicate] at *); omega)), ?_⟩ | refine ⟨fun _ => ⟨by first | omega | ((try dsimp only at *); (try simp only [List.length_take, List.length_drop, List.length_map, List.length_append, List.length_cons, List.length_nil, List.length_replicate] at *); omega), by first | omega | ((try dsimp only at *); (try simp only [List.length_take, List.length_drop, List.length_map, List.length_append, List.length_cons, List.length_nil, List.length_replicate] at *); omega), by first | omega | ((try dsimp only at *); (try simp only [List.length_take, List.length_drop, List.length_map, List.length_append, List.length_cons, List.length_nil, List.length_replicate] at *); omega)⟩, ?_⟩ | refine ⟨by first | omega | ((try dsimp only at *); (try simp only [List.length_take, List.length_drop, List.length_map, List.length_append, List.length_cons, List.length_nil, List.length_replicate] at *); omega), ?_⟩ | refine ⟨fun h => ⟨by first | omega | ((try dsimp only at *); (try simp only [List.length_take, List.length_drop, List.length_map, List.length_append, List.length_cons, List.length_nil, List.length_replicate] at *); omega), by first | omega | ((try dsimp only at *); (try simp only [List.length_take, List.length_drop, List.length_map, List.length_append, List.length_cons, List.length_nil, List.length_replicate] at *); omega)⟩, ?_⟩ | refine ⟨fun (r : List AV) hr c hc => by simp [encS] at hr; (try subst hr); simp at hc; (try subst hc); rfl, ?_⟩)
  conv => whnf
  refine ⟨(p, q ++ sl), rfl, fun _ => trivial, ?_⟩
  repeat ((conv => whnf); first | refine ⟨fun h => h, ?_⟩ | refine ⟨(by kernel_rfl : drawOk _ _ = true), ?_⟩ | refine ⟨fun (h : gtrue _) => by first | assumption | exact absurd (Eq.trans (Eq.symm h) (by assumption) : true = false) Bool.noConfusion, ?_⟩ | refine ⟨fun h => (absurd (Eq.trans (Eq.symm h) (by assumption) : true = false) Bool.noConfusion : False), ?_⟩ | refine ⟨_, w64 (by first | omega | ((try dsimp only at *); (try simp only [List.length_take, List.length_drop, List.length_map, List.length_append, List.length_cons, List.length_nil, List.length_replicate] at *); omega)), ?_⟩ | refine ⟨fun _ => ⟨by first | omega | ((try dsimp only at *); (try simp only [List.length_take, List.length_drop, List.length_map, List.length_append, List.length_cons, List.length_nil, List.length_replicate] at *); omega), by first | omega | ((try dsimp only at *); (try simp only [List.length_take, List.length_drop, List.length_map, List.length_append, List.length_cons, List.length_nil, List.length_replicate] at *); omega), by first | omega | ((try dsimp only at *); (try simp only [List.length_take, List.length_drop, List.length_map, List.length_append, List.length_cons, List.length_nil, List.length_replicate] at *); omega)⟩, ?_⟩ | refine ⟨by first | omega | ((try dsimp only at *); (try simp only [List.length_take, List.length_drop, List.length_map, List.length_append, List.length_cons, List.length_nil, List.length_replicate] at *); omega), ?_⟩ | refine ⟨fun h => ⟨by first | omega | ((try dsimp only at *); (try simp only [List.length_take, List.length_drop, List.length_map, List.length_append, List.length_cons, List.length_nil, List.length_replicate] at *); omega), by first | omega | ((try dsimp only at *); (try simp only [List.length_take, List.length_drop, List.length_map, List.length_append, List.length_cons, List.length_nil, List.length_replicate] at *); omega)⟩, ?_⟩ | refine ⟨fun (r : List AV) hr c hc => by simp [encS] at hr; (try subst hr); simp at hc; (try subst hc); rfl, ?_⟩)
  conv => whnf
  exact ⟨trivial, eqB (withinP_impl hp hq)⟩
theorem ok_impl_Within : ConOk Try.prog 44 c_impl_Within := meets_ok (tabT _ _) (FOk.cons ok_impl_PathOk (FOk.cons ok_strings_HasPrefix FOk.nil)) mixed Try.func44 rfl Try.call44 (by decide) (by kernel_rfl) m_impl_Within (by intro _ (y : (Str × Str)) _; exact ⟨by simp [c_impl_Within, con, AV.noRd, noRdCells, noRdRows, noRdRows_map', encS], by simp [c_impl_Within, con, noRdCells]⟩)


end Go.GH

set_option linter.unusedVariables false
set_option linter.unusedSimpArgs false
namespace Go.GH
open Go Go.Proofs

def c_spec_Usage : PCon := con [mS 4, mC] true (Tr × Str) (fun ⟨t, p⟩ => [rdT t, .str p]) (fun x => smT x.1 ∧ sml x.2.length) (fun ⟨t, p⟩ => useRes t p)
def E_spec_Usage : Env := ⟨lookup tyTab, lookup [(37, c_spec_TreeOk), (41, c_spec_TreeGet), (42, c_spec_Within)], [0, 1, 2, 4, 5, 6, 8, 9, 10, 11, 12, 25, 30, 46]⟩
set_option maxRecDepth 100000 in
theorem m_spec_Usage : Meets E_spec_Usage (codeOf Try.f19) Try.f19.results.toList c_spec_Usage := by
  rintro ⟨t, p⟩ hs
  obtain ⟨⟨hs1, hs2⟩, hp⟩ : smT t ∧ p.length ≤ 4194304 := hs
  refine ⟨trivial, ?_⟩
  repeat ((conv => whnf); first | refine ⟨fun h => h, ?_⟩ | refine ⟨(by kernel_rfl : drawOk _ _ = true), ?_⟩ | refine ⟨fun (h : gtrue _) => by first | assumption | exact absurd (Eq.trans (Eq.symm h) (by assumption) : true = false) Bool.noConfusion, ?_⟩ | refine ⟨fun h => (absurd (Eq.trans (Eq.symm h) (by assumption) : true = false) Bool.noConfusion : False), ?_⟩ | refine ⟨_, w64 (by first | omega | ((try dsimp only at *); (try simp only [List.length_take, List.length_drop, List.length_map, List.length_append, List.length_cons, List.length_nil, List.length_replicate] at *); omega)), ?_⟩ | refine ⟨fun _ => ⟨by first | omega | ((try dsimp only at *); (try simp only [List.length_take, List.length_drop, List.length_map, List.length_append, List.length_cons, List.length_nil, List.length_replicate] at *); omega), by first | omega | ((try dsimp only at *); (try simp only [List.length_take, List.length_drop, List.length_map, List.length_append, List.length_cons, List.length_nil, List.length_replicate] at *); omega), by first | omega | ((try dsimp only at *); (try simp only [List.length_take, List.length_drop, List.length_map, List.length_append, List.length_cons, List.length_nil, List.length_replicate] at *); omega)⟩, ?_⟩ | refine ⟨by first | omega | ((try dsimp only at *); (try simp only [List.length_take, List.length_drop, List.length_map, List.length_append, List.length_cons, List.length_nil, List.length_replicate] at *); omega), ?_⟩ | refine ⟨fun h => ⟨by first | omega | ((try dsimp only at *); (try simp only [List.length_take, List.length_drop, List.length_map, List.length_append, List.length_cons, List.length_nil, List.length_replicate] at *); omega), by first | omega | ((try dsimp only at *); (try simp only [List.length_take, List.length_drop, List.length_map, List.length_append, List.length_cons, List.length_nil, List.length_replicate] at *); omega)⟩, ?_⟩ | refine ⟨fun (r : List AV) hr c hc => by simp [encS] at hr; (try subst hr); simp at hc; (try subst hc); rfl, ?_⟩)
  refine ⟨(t, p), rfl, fun _ => ⟨hs1, hs2⟩, ?_⟩
  repeat ((conv => whnf); first | refine ⟨fun h => h, ?_⟩ | refine ⟨(by kernel_rfl : drawOk _ _ = true), ?_⟩ | refine ⟨fun (h : gtrue _) => by first | assumption | exact absurd (Eq.trans (Eq.symm h) (by assumption) : true = false) Bool.noConfusion, ?_⟩ | refine ⟨fun h => (absurd (Eq.trans (Eq.symm h) (by assumption) : true = false) Bool.noConfusion : False), ?_⟩ | refine ⟨_, w64 (by first | omega | ((try dsimp only at *); (try simp only [List.length_take, List.length_drop, List.length_map, List.length_append, List.length_cons, List.length_nil, List.length_replicate] at *); omega)), ?_⟩ | refine ⟨fun _ => ⟨by first | omega | ((try dsimp only at *); (try simp only [List.length_take, List.length_drop, List.length_map, List.length_append, List.length_cons, List.length_nil, List.length_replicate] at *); omega), by first | omega | ((try dsimp only at *); (try simp only [List.length_take, List.length_drop, List.length_map, List.length_append, List.length_cons, List.length_nil, List.length_replicate] at *); omega), by first | omega | ((try dsimp only at *); (try simp only [List.length_take, List.length_drop, List.length_map, List.length_append, List.length_cons, List.length_nil, List.length_replicate] at *); omega)⟩, ?_⟩ | refine ⟨by first | omega | ((try dsimp only at *); (try simp only [List.length_take, List.length_drop, List.length_map, List.length_append, List.length_cons, List.length_nil, List.length_replicate] at *); omega), ?_⟩ | refine ⟨fun h => ⟨by first | omega | ((try dsimp only at *); (try simp only [List.length_take, List.length_drop, List.length_map, List.length_append, List.length_cons, List.length_nil, List.length_replicate] at *); omega), by first | omega | ((try dsimp only at *); (try simp only [List.length_take, List.length_drop, List.length_map, List.length_append, List.length_cons, List.length_nil, List.length_replicate] at *); omega)⟩, ?_⟩ | refine ⟨fun (r : List AV) hr c hc => by simp [encS] at hr; (try subst hr); simp at hc; (try subst hc); rfl, ?_⟩)
  refine ⟨t, rfl, fun _ => ⟨hs1, hs2⟩, ?_⟩
  repeat ((conv => whnf); first | refine ⟨fun h => h, ?_⟩ | refine ⟨(by kernel_rfl : drawOk _ _ = true), ?_⟩ | refine ⟨fun (h : gtrue _) => by first | assumption | exact absurd (Eq.trans (Eq.symm h) (by assumption) : true = false) Bool.noConfusion, ?_⟩ | refine ⟨fun h => (absurd (Eq.trans (Eq.symm h) (by assumption) : true = false) Bool.noConfusion : False), ?_⟩ | refine ⟨_, w64 (by first | omega | ((try dsimp only at *); (try simp only [List.length_take, List.length_drop, List.length_map, List.length_append, List.length_cons, List.length_nil, List.length_replicate] at *); omega)), ?_⟩ | refine ⟨fun _ => ⟨by first | omega | ((try dsimp only at *); (try simp only [List.length_take, List.length_drop, List.length_map, List.length_append, List.length_cons, List.length_nil, List.length_replicate] at *); omega), by first | omega | ((try dsimp only at *); (try simp only [List.length_take, List.length_drop, List.length_map, List.length_append, List.length_cons, List.length_nil, List.length_replicate] at *); omega), by first | omega | ((try dsimp only at *); (try simp only [List.length_take, List.length_drop, List.length_map, List.length_append, List.length_cons, List.length_nil, List.length_replicate] at *); omega)⟩, ?_⟩ | refine ⟨by first | omega | ((try dsimp only at *); (try simp only [List.length_take, List.length_drop, List.length_map, List.length_append, List.length_cons, List.length_nil, List.length_replicate] at *); omega), ?_⟩ | refine ⟨fun h => ⟨by first | omega | ((try dsimp only at *); (try simp only [List.length_take, List.length_drop, List.length_map, List.length_append, List.length_cons, List.length_nil, List.length_replicate] at *); omega), by first | omega | ((try dsimp only at *); (try simp only [List.length_take, List.length_drop, List.length_map, List.length_append, List.length_cons, List.length_nil, List.length_replicate] at *); omega)⟩, ?_⟩ | refine ⟨fun (r : List AV) hr c hc => by simp [encS] at hr; (try subst hr); simp at hc; (try subst hc); rfl, ?_⟩)
  (conv => whnf); refine ⟨fun h1 => ?_, fun h1 => ?_⟩
  · have h1 : (!treeOk t || !(treeGet t p).isSome) = true := h1
    rw [show c_spec_Usage.res (t, p) = .tup [.int .i64 0, .int .i64 0, .bool false] from use_no (by revert h1; cases treeOk t <;> cases (treeGet t p).isSome <;> simp)]
    repeat ((conv => whnf); first | refine ⟨fun h => h, ?_⟩ | refine ⟨(by kernel_rfl : drawOk _ _ = true), ?_⟩ | refine ⟨fun (h : gtrue _) => by first | assumption | exact absurd (Eq.trans (Eq.symm h) (by assumption) : true = false) Bool.noConfusion, ?_⟩ | refine ⟨fun h => (absurd (Eq.trans (Eq.symm h) (by assumption) : true = false) Bool.noConfusion : False), ?_⟩ | refine ⟨_, w64 (by first | omega | ((try dsimp only at *); (try simp only [List.length_take, List.length_drop, List.length_map, List.length_append, List.length_cons, List.length_nil, List.length_replicate] at *); omega)), ?_⟩ | refine ⟨fun _ => ⟨by first | omega | ((try dsimp only at *); (try simp only [List.length_take, List.length_drop, List.length_map, List.length_append, List.length_cons, List.length_nil, List.length_replicate] at *); omega), by first | omega | ((try dsimp only at *); (try simp only [List.length_take, List.length_drop, List.length_map, List.length_append, List.length_cons, List.length_nil, List.length_replicate] at *); omega), by first | omega | ((try dsimp only at *); (try simp only [List.length_take, List.length_drop, List.length_map, List.length_append, List.length_cons, List.length_nil, List.length_replicate] at *); omega)⟩, ?_⟩ | refine ⟨by first | omega | ((try dsimp only at *); (try simp only [List.length_take, List.length_drop, List.length_map, List.length_append, List.length_cons, List.length_nil, List.length_replicate] at *); omega), ?_⟩ | refine ⟨fun h => ⟨by first | omega | ((try dsimp only at *); (try simp only [List.length_take, List.length_drop, List.length_map, List.length_append, List.length_cons, List.length_nil, List.length_replicate] at *); omega), by first | omega | ((try dsimp only at *); (try simp only [List.length_take, List.length_drop, List.length_map, List.length_append, List.length_cons, List.length_nil, List.length_replicate] at *); omega)⟩, ?_⟩ | refine ⟨fun (r : List AV) hr c hc => by simp [encS] at hr; (try subst hr); simp at hc; (try subst hc); rfl, ?_⟩)
    exact ⟨trivial, rfl, rfl, rfl, trivial⟩
  have h1 : (!treeOk t || !(treeGet t p).isSome) = false := h1
  rw [show c_spec_Usage.res (t, p) = .tup [.int .i64 (cnt p t), .int .i64 (byt p t), .bool true] from use_yes (by revert h1; cases treeOk t <;> cases (treeGet t p).isSome <;> simp)]
  repeat ((conv => whnf); first | refine ⟨fun h => h, ?_⟩ | refine ⟨(by kernel_rfl : drawOk _ _ = true), ?_⟩ | refine ⟨fun (h : gtrue _) => by first | assumption | exact absurd (Eq.trans (Eq.symm h) (by assumption) : true = false) Bool.noConfusion, ?_⟩ | refine ⟨fun h => (absurd (Eq.trans (Eq.symm h) (by assumption) : true = false) Bool.noConfusion : False), ?_⟩ | refine ⟨_, w64 (by first | omega | ((try dsimp only at *); (try simp only [List.length_take, List.length_drop, List.length_map, List.length_append, List.length_cons, List.length_nil, List.length_replicate] at *); omega)), ?_⟩ | refine ⟨fun _ => ⟨by first | omega | ((try dsimp only at *); (try simp only [List.length_take, List.length_drop, List.length_map, List.length_append, List.length_cons, List.length_nil, List.length_replicate] at *); omega), by first | omega | ((try dsimp only at *); (try simp only [List.length_take, List.length_drop, List.length_map, List.length_append, List.length_cons, List.length_nil, List.length_replicate] at *); omega), by first | omega | ((try dsimp only at *); (try simp only [List.length_take, List.length_drop, List.length_map, List.length_append, List.length_cons, List.length_nil, List.length_replicate] at *); omega)⟩, ?_⟩ | refine ⟨by first | omega | ((try dsimp only at *); (try simp only [List.length_take, List.length_drop, List.length_map, List.length_append, List.length_cons, List.length_nil, List.length_replicate] at *); omega), ?_⟩ | refine ⟨fun h => ⟨by first | omega | ((try dsimp only at *); (try simp only [List.length_take, List.length_drop, List.length_map, List.length_append, List.length_cons, List.length_nil, List.length_replicate] at *); omega), by first | omega | ((try dsimp only at *); (try simp only [List.length_take, List.length_drop, List.length_map, List.length_append, List.length_cons, List.length_nil, List.length_replicate] at *); omega)⟩, ?_⟩ | refine ⟨fun (r : List AV) hr c hc => by simp [encS] at hr; (try subst hr); simp at hc; (try subst hc); rfl, ?_⟩)
  refine loop_rule (fun i : Nat => ⟨[(1, ⟨none, .str p⟩), (2, ⟨none, .bx 0 0⟩), (9, ⟨none, .int .i64 (cnt p (t.take i))⟩), (10, ⟨none, .int .i64 (byt p (t.take i))⟩), (11, ⟨none, .int .i64 i⟩)], [(0, .own 1 [[.rd 4 (t.map encI)]])], 1⟩)
    (fun i => i ≤ t.length) (fun i => t.length - i) 0 ?_ (by omega) ?_
  · (refine ⟨?_, ?_, rfl⟩ <;> repeat' (first | exact rfl | exact trivial | refine ⟨?_, ?_⟩ | fail) <;> (conv => whnf))
  intro i hi
  have hi : i ≤ t.length := hi
  (conv => whnf); refine ⟨fun h2 => ?_, fun h2 => ?_⟩
  · have h2 : i < t.length := by simpa using h2
    obtain ⟨b, hb⟩ := get_lt h2
    have hbs := hs2 b (List.mem_of_getElem? hb)
    have hc := cnt_le (p := p) (l := t) (i := i)
    have hy := byt_le (p := p) (l := t) (fun x hx => (hs2 x hx).2) (i := i)
    repeat ((conv => whnf); first | refine ⟨fun h => h, ?_⟩ | refine ⟨(by kernel_rfl : drawOk _ _ = true), ?_⟩ | refine ⟨fun (h : gtrue _) => by first | assumption | exact absurd (Eq.trans (Eq.symm h) (by assumption) : true = false) Bool.noConfusion, ?_⟩ | refine ⟨fun h => (absurd (Eq.trans (Eq.symm h) (by assumption) : true = false) Bool.noConfusion : False), ?_⟩ | refine ⟨_, w64 (by first | omega | ((try dsimp only at *); (try simp only [List.length_take, List.length_drop, List.length_map, List.length_append, List.length_cons, List.length_nil, List.length_replicate] at *); omega)), ?_⟩ | refine ⟨fun _ => ⟨by first | omega | ((try dsimp only at *); (try simp only [List.length_take, List.length_drop, List.length_map, List.length_append, List.length_cons, List.length_nil, List.length_replicate] at *); omega), by first | omega | ((try dsimp only at *); (try simp only [List.length_take, List.length_drop, List.length_map, List.length_append, List.length_cons, List.length_nil, List.length_replicate] at *); omega), by first | omega | ((try dsimp only at *); (try simp only [List.length_take, List.length_drop, List.length_map, List.length_append, List.length_cons, List.length_nil, List.length_replicate] at *); omega)⟩, ?_⟩ | refine ⟨by first | omega | ((try dsimp only at *); (try simp only [List.length_take, List.length_drop, List.length_map, List.length_append, List.length_cons, List.length_nil, List.length_replicate] at *); omega), ?_⟩ | refine ⟨fun h => ⟨by first | omega | ((try dsimp only at *); (try simp only [List.length_take, List.length_drop, List.length_map, List.length_append, List.length_cons, List.length_nil, List.length_replicate] at *); omega), by first | omega | ((try dsimp only at *); (try simp only [List.length_take, List.length_drop, List.length_map, List.length_append, List.length_cons, List.length_nil, List.length_replicate] at *); omega)⟩, ?_⟩ | refine ⟨fun (r : List AV) hr c hc => by simp [encS] at hr; (try subst hr); simp at hc; (try subst hc); rfl, ?_⟩ | refine ⟨encI b, fun _ => ⟨by omega, get_map hb⟩, ?_⟩)
    refine ⟨(b.path, p), rfl, fun _ => ⟨hbs.1, hp⟩, ?_⟩
    repeat ((conv => whnf); first | refine ⟨fun h => h, ?_⟩ | refine ⟨(by kernel_rfl : drawOk _ _ = true), ?_⟩ | refine ⟨fun (h : gtrue _) => by first | assumption | exact absurd (Eq.trans (Eq.symm h) (by assumption) : true = false) Bool.noConfusion, ?_⟩ | refine ⟨fun h => (absurd (Eq.trans (Eq.symm h) (by assumption) : true = false) Bool.noConfusion : False), ?_⟩ | refine ⟨_, w64 (by first | omega | ((try dsimp only at *); (try simp only [List.length_take, List.length_drop, List.length_map, List.length_append, List.length_cons, List.length_nil, List.length_replicate] at *); omega)), ?_⟩ | refine ⟨fun _ => ⟨by first | omega | ((try dsimp only at *); (try simp only [List.length_take, List.length_drop, List.length_map, List.length_append, List.length_cons, List.length_nil, List.length_replicate] at *); omega), by first | omega | ((try dsimp only at *); (try simp only [List.length_take, List.length_drop, List.length_map, List.length_append, List.length_cons, List.length_nil, List.length_replicate] at *); omega), by first | omega | ((try dsimp only at *); (try simp only [List.length_take, List.length_drop, List.length_map, List.length_append, List.length_cons, List.length_nil, List.length_replicate] at *); omega)⟩, ?_⟩ | refine ⟨by first | omega | ((try dsimp only at *); (try simp only [List.length_take, List.length_drop, List.length_map, List.length_append, List.length_cons, List.length_nil, List.length_replicate] at *); omega), ?_⟩ | refine ⟨fun h => ⟨by first | omega | ((try dsimp only at *); (try simp only [List.length_take, List.length_drop, List.length_map, List.length_append, List.length_cons, List.length_nil, List.length_replicate] at *); omega), by first | omega | ((try dsimp only at *); (try simp only [List.length_take, List.length_drop, List.length_map, List.length_append, List.length_cons, List.length_nil, List.length_replicate] at *); omega)⟩, ?_⟩ | refine ⟨fun (r : List AV) hr c hc => by simp [encS] at hr; (try subst hr); simp at hc; (try subst hc); rfl, ?_⟩)
    (conv => whnf); refine ⟨fun h3 => ?_, fun h3 => ?_⟩
    · have h3 : lyP p b = true := h3
      repeat ((conv => whnf); first | refine ⟨fun h => h, ?_⟩ | refine ⟨(by kernel_rfl : drawOk _ _ = true), ?_⟩ | refine ⟨fun (h : gtrue _) => by first | assumption | exact absurd (Eq.trans (Eq.symm h) (by assumption) : true = false) Bool.noConfusion, ?_⟩ | refine ⟨fun h => (absurd (Eq.trans (Eq.symm h) (by assumption) : true = false) Bool.noConfusion : False), ?_⟩ | refine ⟨_, w64 (by first | omega | ((try dsimp only at *); (try simp only [List.length_take, List.length_drop, List.length_map, List.length_append, List.length_cons, List.length_nil, List.length_replicate] at *); omega)), ?_⟩ | refine ⟨fun _ => ⟨by first | omega | ((try dsimp only at *); (try simp only [List.length_take, List.length_drop, List.length_map, List.length_append, List.length_cons, List.length_nil, List.length_replicate] at *); omega), by first | omega | ((try dsimp only at *); (try simp only [List.length_take, List.length_drop, List.length_map, List.length_append, List.length_cons, List.length_nil, List.length_replicate] at *); omega), by first | omega | ((try dsimp only at *); (try simp only [List.length_take, List.length_drop, List.length_map, List.length_append, List.length_cons, List.length_nil, List.length_replicate] at *); omega)⟩, ?_⟩ | refine ⟨by first | omega | ((try dsimp only at *); (try simp only [List.length_take, List.length_drop, List.length_map, List.length_append, List.length_cons, List.length_nil, List.length_replicate] at *); omega), ?_⟩ | refine ⟨fun h => ⟨by first | omega | ((try dsimp only at *); (try simp only [List.length_take, List.length_drop, List.length_map, List.length_append, List.length_cons, List.length_nil, List.length_replicate] at *); omega), by first | omega | ((try dsimp only at *); (try simp only [List.length_take, List.length_drop, List.length_map, List.length_append, List.length_cons, List.length_nil, List.length_replicate] at *); omega)⟩, ?_⟩ | refine ⟨fun (r : List AV) hr c hc => by simp [encS] at hr; (try subst hr); simp at hc; (try subst hc); rfl, ?_⟩)
      refine again (i + 1) ?_ h2 (by first | omega | (simp; done) | (simp; omega))
      rw [cnt_hit hb h3, byt_hit hb h3]
      (refine ⟨?_, ?_, rfl⟩ <;> repeat' (first | exact rfl | exact trivial | refine ⟨?_, ?_⟩ | fail) <;> (conv => whnf))
    · have h3 : lyP p b = false := h3
      repeat ((conv => whnf); first | refine ⟨fun h => h, ?_⟩ | refine ⟨(by kernel_rfl : drawOk _ _ = true), ?_⟩ | refine ⟨fun (h : gtrue _) => by first | assumption | exact absurd (Eq.trans (Eq.symm h) (by assumption) : true = false) Bool.noConfusion, ?_⟩ | refine ⟨fun h => (absurd (Eq.trans (Eq.symm h) (by assumption) : true = false) Bool.noConfusion : False), ?_⟩ | refine ⟨_, w64 (by first | omega | ((try dsimp only at *); (try simp only [List.length_take, List.length_drop, List.length_map, List.length_append, List.length_cons, List.length_nil, List.length_replicate] at *); omega)), ?_⟩ | refine ⟨fun _ => ⟨by first | omega | ((try dsimp only at *); (try simp only [List.length_take, List.length_drop, List.length_map, List.length_append, List.length_cons, List.length_nil, List.length_replicate] at *); omega), by first | omega | ((try dsimp only at *); (try simp only [List.length_take, List.length_drop, List.length_map, List.length_append, List.length_cons, List.length_nil, List.length_replicate] at *); omega), by first | omega | ((try dsimp only at *); (try simp only [List.length_take, List.length_drop, List.length_map, List.length_append, List.length_cons, List.length_nil, List.length_replicate] at *); omega)⟩, ?_⟩ | refine ⟨by first | omega | ((try dsimp only at *); (try simp only [List.length_take, List.length_drop, List.length_map, List.length_append, List.length_cons, List.length_nil, List.length_replicate] at *); omega), ?_⟩ | refine ⟨fun h => ⟨by first | omega | ((try dsimp only at *); (try simp only [List.length_take, List.length_drop, List.length_map, List.length_append, List.length_cons, List.length_nil, List.length_replicate] at *); omega), by first | omega | ((try dsimp only at *); (try simp only [List.length_take, List.length_drop, List.length_map, List.length_append, List.length_cons, List.length_nil, List.length_replicate] at *); omega)⟩, ?_⟩ | refine ⟨fun (r : List AV) hr c hc => by simp [encS] at hr; (try subst hr); simp at hc; (try subst hc); rfl, ?_⟩)
      refine again (i + 1) ?_ h2 (by first | omega | (simp; done) | (simp; omega))
      rw [cnt_pass hb h3, byt_pass hb h3]
      (refine ⟨?_, ?_, rfl⟩ <;> repeat' (first | exact rfl | exact trivial | refine ⟨?_, ?_⟩ | fail) <;> (conv => whnf))
  · have h2 : i = t.length := by
      have : ¬ i < t.length := by simpa using h2
      omega
    subst h2
    rw [List.take_length]
    repeat ((conv => whnf); first | refine ⟨fun h => h, ?_⟩ | refine ⟨(by kernel_rfl : drawOk _ _ = true), ?_⟩ | refine ⟨fun (h : gtrue _) => by first | assumption | exact absurd (Eq.trans (Eq.symm h) (by assumption) : true = false) Bool.noConfusion, ?_⟩ | refine ⟨fun h => (absurd (Eq.trans (Eq.symm h) (by assumption) : true = false) Bool.noConfusion : False), ?_⟩ | refine ⟨_, w64 (by first | omega | ((try dsimp only at *); (try simp only [List.length_take, List.length_drop, List.length_map, List.length_append, List.length_cons, List.length_nil, List.length_replicate] at *); omega)), ?_⟩ | refine ⟨fun _ => ⟨by first | omega | ((try dsimp only at *); (try simp only [List.length_take, List.length_drop, List.length_map, List.length_append, List.length_cons, List.length_nil, List.length_replicate] at *); omega), by first | omega | ((try dsimp only at *); (try simp only [List.length_take, List.length_drop, List.length_map, List.length_append, List.length_cons, List.length_nil, List.length_replicate] at *); omega), by first | omega | ((try dsimp only at *); (try simp only [List.length_take, List.length_drop, List.length_map, List.length_append, List.length_cons, List.length_nil, List.length_replicate] at *); omega)⟩, ?_⟩ | refine ⟨by first | omega | ((try dsimp only at *); (try simp only [List.length_take, List.length_drop, List.length_map, List.length_append, List.length_cons, List.length_nil, List.length_replicate] at *); omega), ?_⟩ | refine ⟨fun h => ⟨by first | omega | ((try dsimp only at *); (try simp only [List.length_take, List.length_drop, List.length_map, List.length_append, List.length_cons, List.length_nil, List.length_replicate] at *); omega), by first | omega | ((try dsimp only at *); (try simp only [List.length_take, List.length_drop, List.length_map, List.length_append, List.length_cons, List.length_nil, List.length_replicate] at *); omega)⟩, ?_⟩ | refine ⟨fun (r : List AV) hr c hc => by simp [encS] at hr; (try subst hr); simp at hc; (try subst hc); rfl, ?_⟩)
    exact ⟨trivial, rfl, rfl, rfl, trivial⟩
theorem ok_spec_Usage : ConOk Try.prog 19 c_spec_Usage := meets_ok (tabT _ _) (FOk.cons ok_spec_TreeOk (FOk.cons ok_spec_TreeGet (FOk.cons ok_spec_Within FOk.nil))) mixed Try.func19 rfl Try.call19 (by decide) (by kernel_rfl) m_spec_Usage (by intro _ (y : (Tr × Str)) _; exact ⟨by simp [c_spec_Usage, con, AV.noRd, noRdCells, noRdRows, noRdRows_map', encS, useRes], by simp [c_spec_Usage, con, noRdCells]⟩)

def c_impl_Usage : PCon := con [mS 4, mC] true (Tr × Str) (fun ⟨t, p⟩ => [rdT t, .str p]) (fun x => smT x.1 ∧ sml x.2.length) (fun ⟨t, p⟩ => useRes t p)
def E_impl_Usage : Env := ⟨lookup tyTab, lookup [(39, c_impl_TreeOk), (43, c_impl_TreeGet), (44, c_impl_Within)], [0, 1, 2, 4, 5, 6, 8, 9, 10, 12, 25, 27, 28, 29, 30, 41]⟩
set_option maxRecDepth 100000 in
theorem m_impl_Usage : Meets E_impl_Usage (codeOf Try.f20) Try.f20.results.toList c_impl_Usage := by
  rintro ⟨t, p⟩ hs
  obtain ⟨⟨hs1, hs2⟩, hp⟩ : smT t ∧ p.length ≤ 4194304 := hs
  refine ⟨trivial, ?_⟩
  repeat ((conv => whnf); first | refine ⟨fun h => h, ?_⟩ | refine ⟨(by kernel_rfl : drawOk _ _ = true), ?_⟩ | refine ⟨fun (h : gtrue _) => by first | assumption | exact absurd (Eq.trans (Eq.symm h) (by assumption) : true = false) Bool.noConfusion, ?_⟩ | refine ⟨fun h => (absurd (Eq.trans (Eq.symm h) (by assumption) : true = false) Bool.noConfusion : False), ?_⟩ | refine ⟨_, w64 (by first | omega | ((try dsimp only at *); (try simp only [List.length_take, List.length_drop, List.length_map, List.length_append, List.length_cons, List.length_nil, List.length_replicate] at *); omega)), ?_⟩ | refine ⟨fun _ => ⟨by first | omega | ((try dsimp only at *); (try simp only [List.length_take, List.length_drop, List.length_map, List.length_append, List.length_cons, List.length_nil, List.length_replicate] at *); omega), by first | omega | ((try dsimp only at *); (try simp only [List.length_take, List.length_drop, List.length_map, List.length_append, List.length_cons, List.length_nil, List.length_replicate] at *); omega), by first | omega | ((try dsimp only at *); (try simp only [List.length_take, List.length_drop, List.length_map, List.length_append, List.length_cons, List.length_nil, List.length_replicate] at *); omega)⟩, ?_⟩ | refine ⟨by first | omega | ((try dsimp only at *); (try simp only [List.length_take, List.length_drop, List.length_map, List.length_append, List.length_cons, List.length_nil, List.length_replicate] at *); omega), ?_⟩ | refine ⟨fun h => ⟨by first | omega | ((try dsimp only at *); (try simp only [List.length_take, List.length_drop, List.length_map, List.length_append, List.length_cons, List.length_nil, List.length_replicate] at *); omega), by first | omega | ((try dsimp only at *); (try simp only [List.length_take, List.length_drop, List.length_map, List.length_append, List.length_cons, List.length_nil, List.length_replicate] at *); omega)⟩, ?_⟩ | refine ⟨fun (r : List AV) hr c hc => by simp [encS] at hr; (try subst hr); simp at hc; (try subst hc); rfl, ?_⟩)
  refine ⟨(t, p), rfl, fun _ => ⟨hs1, hs2⟩, ?_⟩
  repeat ((conv => whnf); first | refine ⟨fun h => h, ?_⟩ | refine ⟨(by kernel_rfl : drawOk _ _ = true), ?_⟩ | refine ⟨fun (h : gtrue _) => by first | assumption | exact absurd (Eq.trans (Eq.symm h) (by assumption) : true = false) Bool.noConfusion, ?_⟩ | refine ⟨fun h => (absurd (Eq.trans (Eq.symm h) (by assumption) : true = false) Bool.noConfusion : False), ?_⟩ | refine ⟨_, w64 (by first | omega | ((try dsimp only at *); (try simp only [List.length_take, List.length_drop, List.length_map, List.length_append, List.length_cons, List.length_nil, List.length_replicate] at *); omega)), ?_⟩ | refine ⟨fun _ => ⟨by first | omega | ((try dsimp only at *); (try simp only [List.length_take, List.length_drop, List.length_map, List.length_append, List.length_cons, List.length_nil, List.length_replicate] at *); omega), by first | omega | ((try dsimp only at *); (try simp only [List.length_take, List.length_drop, List.length_map, List.length_append, List.length_cons, List.length_nil, List.length_replicate] at *); omega), by first | omega | ((try dsimp only at *); (try simp only [List.length_take, List.length_drop, List.length_map, List.length_append, List.length_cons, List.length_nil, List.length_replicate] at *); omega)⟩, ?_⟩ | refine ⟨by first | omega | ((try dsimp only at *); (try simp only [List.length_take, List.length_drop, List.length_map, List.length_append, List.length_cons, List.length_nil, List.length_replicate] at *); omega), ?_⟩ | refine ⟨fun h => ⟨by first | omega | ((try dsimp only at *); (try simp only [List.length_take, List.length_drop, List.length_map, List.length_append, List.length_cons, List.length_nil, List.length_replicate] at *); omega), by first | omega | ((try dsimp only at *); (try simp only [List.length_take, List.length_drop, List.length_map, List.length_append, List.length_cons, List.length_nil, List.length_replicate] at *); omega)⟩, ?_⟩ | refine ⟨fun (r : List AV) hr c hc => by simp [encS] at hr; (try subst hr); simp at hc; (try subst hc); rfl, ?_⟩)
  refine ⟨t, by refine argT ?_; simp [rdI], fun _ => ⟨hs1, hs2⟩, ?_⟩
  repeat ((conv => whnf); first | refine ⟨fun h => h, ?_⟩ | refine ⟨(by kernel_rfl : drawOk _ _ = true), ?_⟩ | refine ⟨fun (h : gtrue _) => by first | assumption | exact absurd (Eq.trans (Eq.symm h) (by assumption) : true = false) Bool.noConfusion, ?_⟩ | refine ⟨fun h => (absurd (Eq.trans (Eq.symm h) (by assumption) : true = false) Bool.noConfusion : False), ?_⟩ | refine ⟨_, w64 (by first | omega | ((try dsimp only at *); (try simp only [List.length_take, List.length_drop, List.length_map, List.length_append, List.length_cons, List.length_nil, List.length_replicate] at *); omega)), ?_⟩ | refine ⟨fun _ => ⟨by first | omega | ((try dsimp only at *); (try simp only [List.length_take, List.length_drop, List.length_map, List.length_append, List.length_cons, List.length_nil, List.length_replicate] at *); omega), by first | omega | ((try dsimp only at *); (try simp only [List.length_take, List.length_drop, List.length_map, List.length_append, List.length_cons, List.length_nil, List.length_replicate] at *); omega), by first | omega | ((try dsimp only at *); (try simp only [List.length_take, List.length_drop, List.length_map, List.length_append, List.length_cons, List.length_nil, List.length_replicate] at *); omega)⟩, ?_⟩ | refine ⟨by first | omega | ((try dsimp only at *); (try simp only [List.length_take, List.length_drop, List.length_map, List.length_append, List.length_cons, List.length_nil, List.length_replicate] at *); omega), ?_⟩ | refine ⟨fun h => ⟨by first | omega | ((try dsimp only at *); (try simp only [List.length_take, List.length_drop, List.length_map, List.length_append, List.length_cons, List.length_nil, List.length_replicate] at *); omega), by first | omega | ((try dsimp only at *); (try simp only [List.length_take, List.length_drop, List.length_map, List.length_append, List.length_cons, List.length_nil, List.length_replicate] at *); omega)⟩, ?_⟩ | refine ⟨fun (r : List AV) hr c hc => by simp [encS] at hr; (try subst hr); simp at hc; (try subst hc); rfl, ?_⟩)
  (conv => whnf); refine ⟨fun h1 => ?_, fun h1 => ?_⟩
  · have h1 : (!(treeGet t p).isSome || !treeOk t) = true := h1
    rw [show c_impl_Usage.res (t, p) = .tup [.int .i64 0, .int .i64 0, .bool false] from use_no (by revert h1; cases treeOk t <;> cases (treeGet t p).isSome <;> simp)]
    repeat ((conv => whnf); first | refine ⟨fun h => h, ?_⟩ | refine ⟨(by kernel_rfl : drawOk _ _ = true), ?_⟩ | refine ⟨fun (h : gtrue _) => by first | assumption | exact absurd (Eq.trans (Eq.symm h) (by assumption) : true = false) Bool.noConfusion, ?_⟩ | refine ⟨fun h => (absurd (Eq.trans (Eq.symm h) (by assumption) : true = false) Bool.noConfusion : False), ?_⟩ | refine ⟨_, w64 (by first | omega | ((try dsimp only at *); (try simp only [List.length_take, List.length_drop, List.length_map, List.length_append, List.length_cons, List.length_nil, List.length_replicate] at *); omega)), ?_⟩ | refine ⟨fun _ => ⟨by first | omega | ((try dsimp only at *); (try simp only [List.length_take, List.length_drop, List.length_map, List.length_append, List.length_cons, List.length_nil, List.length_replicate] at *); omega), by first | omega | ((try dsimp only at *); (try simp only [List.length_take, List.length_drop, List.length_map, List.length_append, List.length_cons, List.length_nil, List.length_replicate] at *); omega), by first | omega | ((try dsimp only at *); (try simp only [List.length_take, List.length_drop, List.length_map, List.length_append, List.length_cons, List.length_nil, List.length_replicate] at *); omega)⟩, ?_⟩ | refine ⟨by first | omega | ((try dsimp only at *); (try simp only [List.length_take, List.length_drop, List.length_map, List.length_append, List.length_cons, List.length_nil, List.length_replicate] at *); omega), ?_⟩ | refine ⟨fun h => ⟨by first | omega | ((try dsimp only at *); (try simp only [List.length_take, List.length_drop, List.length_map, List.length_append, List.length_cons, List.length_nil, List.length_replicate] at *); omega), by first | omega | ((try dsimp only at *); (try simp only [List.length_take, List.length_drop, List.length_map, List.length_append, List.length_cons, List.length_nil, List.length_replicate] at *); omega)⟩, ?_⟩ | refine ⟨fun (r : List AV) hr c hc => by simp [encS] at hr; (try subst hr); simp at hc; (try subst hc); rfl, ?_⟩)
    exact ⟨trivial, rfl, rfl, rfl, trivial⟩
  have h1 : (!(treeGet t p).isSome || !treeOk t) = false := h1
  rw [show c_impl_Usage.res (t, p) = .tup [.int .i64 (cnt p t), .int .i64 (byt p t), .bool true] from use_yes (by revert h1; cases treeOk t <;> cases (treeGet t p).isSome <;> simp)]
  repeat ((conv => whnf); first | refine ⟨fun h => h, ?_⟩ | refine ⟨(by kernel_rfl : drawOk _ _ = true), ?_⟩ | refine ⟨fun (h : gtrue _) => by first | assumption | exact absurd (Eq.trans (Eq.symm h) (by assumption) : true = false) Bool.noConfusion, ?_⟩ | refine ⟨fun h => (absurd (Eq.trans (Eq.symm h) (by assumption) : true = false) Bool.noConfusion : False), ?_⟩ | refine ⟨_, w64 (by first | omega | ((try dsimp only at *); (try simp only [List.length_take, List.length_drop, List.length_map, List.length_append, List.length_cons, List.length_nil, List.length_replicate] at *); omega)), ?_⟩ | refine ⟨fun _ => ⟨by first | omega | ((try dsimp only at *); (try simp only [List.length_take, List.length_drop, List.length_map, List.length_append, List.length_cons, List.length_nil, List.length_replicate] at *); omega), by first | omega | ((try dsimp only at *); (try simp only [List.length_take, List.length_drop, List.length_map, List.length_append, List.length_cons, List.length_nil, List.length_replicate] at *); omega), by first | omega | ((try dsimp only at *); (try simp only [List.length_take, List.length_drop, List.length_map, List.length_append, List.length_cons, List.length_nil, List.length_replicate] at *); omega)⟩, ?_⟩ | refine ⟨by first | omega | ((try dsimp only at *); (try simp only [List.length_take, List.length_drop, List.length_map, List.length_append, List.length_cons, List.length_nil, List.length_replicate] at *); omega), ?_⟩ | refine ⟨fun h => ⟨by first | omega | ((try dsimp only at *); (try simp only [List.length_take, List.length_drop, List.length_map, List.length_append, List.length_cons, List.length_nil, List.length_replicate] at *); omega), by first | omega | ((try dsimp only at *); (try simp only [List.length_take, List.length_drop, List.length_map, List.length_append, List.length_cons, List.length_nil, List.length_replicate] at *); omega)⟩, ?_⟩ | refine ⟨fun (r : List AV) hr c hc => by simp [encS] at hr; (try subst hr); simp at hc; (try subst hc); rfl, ?_⟩)
  refine loop_rule (fun i : Nat => ⟨[(1, ⟨none, .str p⟩), (9, ⟨none, .int .i64 (cnt p (t.take i))⟩), (10, ⟨none, .int .i64 (byt p (t.take i))⟩), (27, ⟨none, .rd 4 (t.map encI)⟩), (28, ⟨none, .int .i64 t.length⟩), (29, ⟨none, .int .i64 i⟩)], [], 0⟩)
    (fun i => i ≤ t.length) (fun i => t.length - i) 0 ?_ (by omega) ?_
  · (refine ⟨?_, ?_, rfl⟩ <;> repeat' (first | exact rfl | exact trivial | refine ⟨?_, ?_⟩ | fail) <;> (conv => whnf))
    all_goals simp
  intro i hi
  have hi : i ≤ t.length := hi
  (conv => whnf); refine ⟨fun h2 => ?_, fun h2 => ?_⟩
  · have h2 : i < t.length := by simpa using h2
    obtain ⟨b, hb⟩ := get_lt h2
    have hbs := hs2 b (List.mem_of_getElem? hb)
    have hc := cnt_le (p := p) (l := t) (i := i)
    have hy := byt_le (p := p) (l := t) (fun x hx => (hs2 x hx).2) (i := i)
    repeat ((conv => whnf); first | refine ⟨fun h => h, ?_⟩ | refine ⟨(by kernel_rfl : drawOk _ _ = true), ?_⟩ | refine ⟨fun (h : gtrue _) => by first | assumption | exact absurd (Eq.trans (Eq.symm h) (by assumption) : true = false) Bool.noConfusion, ?_⟩ | refine ⟨fun h => (absurd (Eq.trans (Eq.symm h) (by assumption) : true = false) Bool.noConfusion : False), ?_⟩ | refine ⟨_, w64 (by first | omega | ((try dsimp only at *); (try simp only [List.length_take, List.length_drop, List.length_map, List.length_append, List.length_cons, List.length_nil, List.length_replicate] at *); omega)), ?_⟩ | refine ⟨fun _ => ⟨by first | omega | ((try dsimp only at *); (try simp only [List.length_take, List.length_drop, List.length_map, List.length_append, List.length_cons, List.length_nil, List.length_replicate] at *); omega), by first | omega | ((try dsimp only at *); (try simp only [List.length_take, List.length_drop, List.length_map, List.length_append, List.length_cons, List.length_nil, List.length_replicate] at *); omega), by first | omega | ((try dsimp only at *); (try simp only [List.length_take, List.length_drop, List.length_map, List.length_append, List.length_cons, List.length_nil, List.length_replicate] at *); omega)⟩, ?_⟩ | refine ⟨by first | omega | ((try dsimp only at *); (try simp only [List.length_take, List.length_drop, List.length_map, List.length_append, List.length_cons, List.length_nil, List.length_replicate] at *); omega), ?_⟩ | refine ⟨fun h => ⟨by first | omega | ((try dsimp only at *); (try simp only [List.length_take, List.length_drop, List.length_map, List.length_append, List.length_cons, List.length_nil, List.length_replicate] at *); omega), by first | omega | ((try dsimp only at *); (try simp only [List.length_take, List.length_drop, List.length_map, List.length_append, List.length_cons, List.length_nil, List.length_replicate] at *); omega)⟩, ?_⟩ | refine ⟨fun (r : List AV) hr c hc => by simp [encS] at hr; (try subst hr); simp at hc; (try subst hc); rfl, ?_⟩ | refine ⟨encI b, fun _ => ⟨by omega, get_map hb⟩, ?_⟩)
    refine ⟨(b.path, p), rfl, fun _ => ⟨hbs.1, hp⟩, ?_⟩
    repeat ((conv => whnf); first | refine ⟨fun h => h, ?_⟩ | refine ⟨(by kernel_rfl : drawOk _ _ = true), ?_⟩ | refine ⟨fun (h : gtrue _) => by first | assumption | exact absurd (Eq.trans (Eq.symm h) (by assumption) : true = false) Bool.noConfusion, ?_⟩ | refine ⟨fun h => (absurd (Eq.trans (Eq.symm h) (by assumption) : true = false) Bool.noConfusion : False), ?_⟩ | refine ⟨_, w64 (by first | omega | ((try dsimp only at *); (try simp only [List.length_take, List.length_drop, List.length_map, List.length_append, List.length_cons, List.length_nil, List.length_replicate] at *); omega)), ?_⟩ | refine ⟨fun _ => ⟨by first | omega | ((try dsimp only at *); (try simp only [List.length_take, List.length_drop, List.length_map, List.length_append, List.length_cons, List.length_nil, List.length_replicate] at *); omega), by first | omega | ((try dsimp only at *); (try simp only [List.length_take, List.length_drop, List.length_map, List.length_append, List.length_cons, List.length_nil, List.length_replicate] at *); omega), by first | omega | ((try dsimp only at *); (try simp only [List.length_take, List.length_drop, List.length_map, List.length_append, List.length_cons, List.length_nil, List.length_replicate] at *); omega)⟩, ?_⟩ | refine ⟨by first | omega | ((try dsimp only at *); (try simp only [List.length_take, List.length_drop, List.length_map, List.length_append, List.length_cons, List.length_nil, List.length_replicate] at *); omega), ?_⟩ | refine ⟨fun h => ⟨by first | omega | ((try dsimp only at *); (try simp only [List.length_take, List.length_drop, List.length_map, List.length_append, List.length_cons, List.length_nil, List.length_replicate] at *); omega), by first | omega | ((try dsimp only at *); (try simp only [List.length_take, List.length_drop, List.length_map, List.length_append, List.length_cons, List.length_nil, List.length_replicate] at *); omega)⟩, ?_⟩ | refine ⟨fun (r : List AV) hr c hc => by simp [encS] at hr; (try subst hr); simp at hc; (try subst hc); rfl, ?_⟩)
    (conv => whnf); refine ⟨fun h3 => ?_, fun h3 => ?_⟩
    · have h3 : lyP p b = true := h3
      repeat ((conv => whnf); first | refine ⟨fun h => h, ?_⟩ | refine ⟨(by kernel_rfl : drawOk _ _ = true), ?_⟩ | refine ⟨fun (h : gtrue _) => by first | assumption | exact absurd (Eq.trans (Eq.symm h) (by assumption) : true = false) Bool.noConfusion, ?_⟩ | refine ⟨fun h => (absurd (Eq.trans (Eq.symm h) (by assumption) : true = false) Bool.noConfusion : False), ?_⟩ | refine ⟨_, w64 (by first | omega | ((try dsimp only at *); (try simp only [List.length_take, List.length_drop, List.length_map, List.length_append, List.length_cons, List.length_nil, List.length_replicate] at *); omega)), ?_⟩ | refine ⟨fun _ => ⟨by first | omega | ((try dsimp only at *); (try simp only [List.length_take, List.length_drop, List.length_map, List.length_append, List.length_cons, List.length_nil, List.length_replicate] at *); omega), by first | omega | ((try dsimp only at *); (try simp only [List.length_take, List.length_drop, List.length_map, List.length_append, List.length_cons, List.length_nil, List.length_replicate] at *); omega), by first | omega | ((try dsimp only at *); (try simp only [List.length_take, List.length_drop, List.length_map, List.length_append, List.length_cons, List.length_nil, List.length_replicate] at *); omega)⟩, ?_⟩ | refine ⟨by first | omega | ((try dsimp only at *); (try simp only [List.length_take, List.length_drop, List.length_map, List.length_append, List.length_cons, List.length_nil, List.length_replicate] at *); omega), ?_⟩ | refine ⟨fun h => ⟨by first | omega | ((try dsimp only at *); (try simp only [List.length_take, List.length_drop, List.length_map, List.length_append, List.length_cons, List.length_nil, List.length_replicate] at *); omega), by first | omega | ((try dsimp only at *); (try simp only [List.length_take, List.length_drop, List.length_map, List.length_append, List.length_cons, List.length_nil, List.length_replicate] at *); omega)⟩, ?_⟩ | refine ⟨fun (r : List AV) hr c hc => by simp [encS] at hr; (try subst hr); simp at hc; (try subst hc); rfl, ?_⟩)
      refine again (i + 1) ?_ h2 (by first | omega | (simp; done) | (simp; omega))
      rw [cnt_hit hb h3, byt_hit hb h3]
      (refine ⟨?_, ?_, rfl⟩ <;> repeat' (first | exact rfl | exact trivial | refine ⟨?_, ?_⟩ | fail) <;> (conv => whnf))
    · have h3 : lyP p b = false := h3
      repeat ((conv => whnf); first | refine ⟨fun h => h, ?_⟩ | refine ⟨(by kernel_rfl : drawOk _ _ = true), ?_⟩ | refine ⟨fun (h : gtrue _) => by first | assumption | exact absurd (Eq.trans (Eq.symm h) (by assumption) : true = false) Bool.noConfusion, ?_⟩ | refine ⟨fun h => (absurd (Eq.trans (Eq.symm h) (by assumption) : true = false) Bool.noConfusion : False), ?_⟩ | refine ⟨_, w64 (by first | omega | ((try dsimp only at *); (try simp only [List.length_take, List.length_drop, List.length_map, List.length_append, List.length_cons, List.length_nil, List.length_replicate] at *); omega)), ?_⟩ | refine ⟨fun _ => ⟨by first | omega | ((try dsimp only at *); (try simp only [List.length_take, List.length_drop, List.length_map, List.length_append, List.length_cons, List.length_nil, List.length_replicate] at *); omega), by first | omega | ((try dsimp only at *); (try simp only [List.length_take, List.length_drop, List.length_map, List.length_append, List.length_cons, List.length_nil, List.length_replicate] at *); omega), by first | omega | ((try dsimp only at *); (try simp only [List.length_take, List.length_drop, List.length_map, List.length_append, List.length_cons, List.length_nil, List.length_replicate] at *); omega)⟩, ?_⟩ | refine ⟨by first | omega | ((try dsimp only at *); (try simp only [List.length_take, List.length_drop, List.length_map, List.length_append, List.length_cons, List.length_nil, List.length_replicate] at *); omega), ?_⟩ | refine ⟨fun h => ⟨by first | omega | ((try dsimp only at *); (try simp only [List.length_take, List.length_drop, List.length_map, List.length_append, List.length_cons, List.length_nil, List.length_replicate] at *); omega), by first | omega | ((try dsimp only at *); (try simp only [List.length_take, List.length_drop, List.length_map, List.length_append, List.length_cons, List.length_nil, List.length_replicate] at *); omega)⟩, ?_⟩ | refine ⟨fun (r : List AV) hr c hc => by simp [encS] at hr; (try subst hr); simp at hc; (try subst hc); rfl, ?_⟩)
      refine again (i + 1) ?_ h2 (by first | omega | (simp; done) | (simp; omega))
      rw [cnt_pass hb h3, byt_pass hb h3]
      (refine ⟨?_, ?_, rfl⟩ <;> repeat' (first | exact rfl | exact trivial | refine ⟨?_, ?_⟩ | fail) <;> (conv => whnf))
  · have h2 : i = t.length := by
      have : ¬ i < t.length := by simpa using h2
      omega
    subst h2
    rw [List.take_length]
    repeat ((conv => whnf); first | refine ⟨fun h => h, ?_⟩ | refine ⟨(by kernel_rfl : drawOk _ _ = true), ?_⟩ | refine ⟨fun (h : gtrue _) => by first | assumption | exact absurd (Eq.trans (Eq.symm h) (by assumption) : true = false) Bool.noConfusion, ?_⟩ | refine ⟨fun h => (absurd (Eq.trans (Eq.symm h) (by assumption) : true = false) Bool.noConfusion : False), ?_⟩ | refine ⟨_, w64 (by first | omega | ((try dsimp only at *); (try simp only [List.length_take, List.length_drop, List.length_map, List.length_append, List.length_cons, List.length_nil, List.length_replicate] at *); omega)), ?_⟩ | refine ⟨fun _ => ⟨by first | omega | ((try dsimp only at *); (try simp only [List.length_take, List.length_drop, List.length_map, List.length_append, List.length_cons, List.length_nil, List.length_replicate] at *); omega), by first | omega | ((try dsimp only at *); (try simp only [List.length_take, List.length_drop, List.length_map, List.length_append, List.length_cons, List.length_nil, List.length_replicate] at *); omega), by first | omega | ((try dsimp only at *); (try simp only [List.length_take, List.length_drop, List.length_map, List.length_append, List.length_cons, List.length_nil, List.length_replicate] at *); omega)⟩, ?_⟩ | refine ⟨by first | omega | ((try dsimp only at *); (try simp only [List.length_take, List.length_drop, List.length_map, List.length_append, List.length_cons, List.length_nil, List.length_replicate] at *); omega), ?_⟩ | refine ⟨fun h => ⟨by first | omega | ((try dsimp only at *); (try simp only [List.length_take, List.length_drop, List.length_map, List.length_append, List.length_cons, List.length_nil, List.length_replicate] at *); omega), by first | omega | ((try dsimp only at *); (try simp only [List.length_take, List.length_drop, List.length_map, List.length_append, List.length_cons, List.length_nil, List.length_replicate] at *); omega)⟩, ?_⟩ | refine ⟨fun (r : List AV) hr c hc => by simp [encS] at hr; (try subst hr); simp at hc; (try subst hc); rfl, ?_⟩)
    exact ⟨trivial, rfl, rfl, rfl, trivial⟩
theorem ok_impl_Usage : ConOk Try.prog 20 c_impl_Usage := meets_ok (tabT _ _) (FOk.cons ok_impl_TreeOk (FOk.cons ok_impl_TreeGet (FOk.cons ok_impl_Within FOk.nil))) mixed Try.func20 rfl Try.call20 (by decide) (by kernel_rfl) m_impl_Usage (by intro _ (y : (Tr × Str)) _; exact ⟨by simp [c_impl_Usage, con, AV.noRd, noRdCells, noRdRows, noRdRows_map', encS, useRes], by simp [c_impl_Usage, con, noRdCells]⟩)


end Go.GH

set_option linter.unusedVariables false
set_option linter.unusedSimpArgs false
namespace Go.GH
open Go Go.Proofs

def c_laws_FnExactUsage : PCon := con [mS 4, mC] true (Tr × Str) (fun ⟨t, p⟩ => [rdT t, .str p]) (fun x => (x.1.length ≤ 9223372036854775807 ∧ ∀ y, y ∈ x.1 → y.path.length ≤ 9223372036854775807 ∧ y.data.length ≤ 9223372036854775807) ∧ x.2.length ≤ 9223372036854775807) (fun _ => .bool true)
def E_laws_FnExactUsage : Env := ⟨lookup tyTab, lookup [(14, c_laws_szTree), (16, c_laws_toTree), (18, c_laws_eqTree), (19, c_spec_Usage), (20, c_impl_Usage)], [0, 1, 2, 4, 5, 6, 7, 8, 9, 10, 11, 12, 15, 20, 50, 55]⟩
set_option maxRecDepth 100000 in
theorem m_laws_FnExactUsage : Meets E_laws_FnExactUsage (codeOf Try.f6) Try.f6.results.toList c_laws_FnExactUsage := by
  rintro ⟨t, p⟩ hs
  obtain ⟨hs, hp⟩ : (t.length ≤ 9223372036854775807 ∧ ∀ y, y ∈ t → y.path.length ≤ 9223372036854775807 ∧ y.data.length ≤ 9223372036854775807) ∧ p.length ≤ 9223372036854775807 := hs
  refine ⟨trivial, ?_⟩
  repeat ((conv => whnf); first | refine ⟨fun h => h, ?_⟩ | refine ⟨(by kernel_rfl : drawOk _ _ = true), ?_⟩ | refine ⟨fun (h : gtrue _) => by first | assumption | exact absurd (Eq.trans (Eq.symm h) (by assumption) : true = false) Bool.noConfusion, ?_⟩ | refine ⟨fun h => (absurd (Eq.trans (Eq.symm h) (by assumption) : true = false) Bool.noConfusion : False), ?_⟩ | refine ⟨_, w64 (by first | omega | ((try dsimp only at *); (try simp only [List.length_take, List.length_drop, List.length_map, List.length_append, List.length_cons, List.length_nil, List.length_replicate] at *); omega)), ?_⟩ | refine ⟨fun _ => ⟨by first | omega | ((try dsimp only at *); (try simp only [List.length_take, List.length_drop, List.length_map, List.length_append, List.length_cons, List.length_nil, List.length_replicate] at *); omega), by first | omega | ((try dsimp only at *); (try simp only [List.length_take, List.length_drop, List.length_map, List.length_append, List.length_cons, List.length_nil, List.length_replicate] at *); omega), by first | omega | ((try dsimp only at *); (try simp only [List.length_take, List.length_drop, List.length_map, List.length_append, List.length_cons, List.length_nil, List.length_replicate] at *); omega)⟩, ?_⟩ | refine ⟨by first | omega | ((try dsimp only at *); (try simp only [List.length_take, List.length_drop, List.length_map, List.length_append, List.length_cons, List.length_nil, List.length_replicate] at *); omega), ?_⟩ | refine ⟨fun h => ⟨by first | omega | ((try dsimp only at *); (try simp only [List.length_take, List.length_drop, List.length_map, List.length_append, List.length_cons, List.length_nil, List.length_replicate] at *); omega), by first | omega | ((try dsimp only at *); (try simp only [List.length_take, List.length_drop, List.length_map, List.length_append, List.length_cons, List.length_nil, List.length_replicate] at *); omega)⟩, ?_⟩ | refine ⟨fun (r : List AV) hr c hc => by simp [encS] at hr; (try subst hr); simp at hc; (try subst hc); rfl, ?_⟩)
  (conv => whnf); refine ⟨fun h0 => ?_, fun h0 => ?_⟩
  · conv => whnf
    exact ⟨trivial, rfl⟩
  have h0 : p.length ≤ 4194304 := by
    have h0 : ¬ (p.length : Int) > 1048576 := by simpa using h0
    omega
  repeat ((conv => whnf); first | refine ⟨fun h => h, ?_⟩ | refine ⟨(by kernel_rfl : drawOk _ _ = true), ?_⟩ | refine ⟨fun (h : gtrue _) => by first | assumption | exact absurd (Eq.trans (Eq.symm h) (by assumption) : true = false) Bool.noConfusion, ?_⟩ | refine ⟨fun h => (absurd (Eq.trans (Eq.symm h) (by assumption) : true = false) Bool.noConfusion : False), ?_⟩ | refine ⟨_, w64 (by first | omega | ((try dsimp only at *); (try simp only [List.length_take, List.length_drop, List.length_map, List.length_append, List.length_cons, List.length_nil, List.length_replicate] at *); omega)), ?_⟩ | refine ⟨fun _ => ⟨by first | omega | ((try dsimp only at *); (try simp only [List.length_take, List.length_drop, List.length_map, List.length_append, List.length_cons, List.length_nil, List.length_replicate] at *); omega), by first | omega | ((try dsimp only at *); (try simp only [List.length_take, List.length_drop, List.length_map, List.length_append, List.length_cons, List.length_nil, List.length_replicate] at *); omega), by first | omega | ((try dsimp only at *); (try simp only [List.length_take, List.length_drop, List.length_map, List.length_append, List.length_cons, List.length_nil, List.length_replicate] at *); omega)⟩, ?_⟩ | refine ⟨by first | omega | ((try dsimp only at *); (try simp only [List.length_take, List.length_drop, List.length_map, List.length_append, List.length_cons, List.length_nil, List.length_replicate] at *); omega), ?_⟩ | refine ⟨fun h => ⟨by first | omega | ((try dsimp only at *); (try simp only [List.length_take, List.length_drop, List.length_map, List.length_append, List.length_cons, List.length_nil, List.length_replicate] at *); omega), by first | omega | ((try dsimp only at *); (try simp only [List.length_take, List.length_drop, List.length_map, List.length_append, List.length_cons, List.length_nil, List.length_replicate] at *); omega)⟩, ?_⟩ | refine ⟨fun (r : List AV) hr c hc => by simp [encS] at hr; (try subst hr); simp at hc; (try subst hc); rfl, ?_⟩)
  refine ⟨(t, 1048576), rfl, fun _ => ⟨by show (0:Int) ≤ 1048576; decide, by show (1048576:Int) ≤ 4194304; decide, hs⟩, ?_⟩
  (conv => whnf); refine ⟨fun h1 => ?_, fun h1 => ?_⟩
  · conv => whnf
    exact ⟨trivial, rfl⟩
  have h1 : ¬ szR 1048576 (szT t) < 0 := by simpa using h1
  have hsm : smT t := szT_sm (n := 1048576) (by have := szR_ok h1; omega) (by omega)
  repeat ((conv => whnf); first | refine ⟨fun h => h, ?_⟩ | refine ⟨(by kernel_rfl : drawOk _ _ = true), ?_⟩ | refine ⟨fun (h : gtrue _) => by first | assumption | exact absurd (Eq.trans (Eq.symm h) (by assumption) : true = false) Bool.noConfusion, ?_⟩ | refine ⟨fun h => (absurd (Eq.trans (Eq.symm h) (by assumption) : true = false) Bool.noConfusion : False), ?_⟩ | refine ⟨_, w64 (by first | omega | ((try dsimp only at *); (try simp only [List.length_take, List.length_drop, List.length_map, List.length_append, List.length_cons, List.length_nil, List.length_replicate] at *); omega)), ?_⟩ | refine ⟨fun _ => ⟨by first | omega | ((try dsimp only at *); (try simp only [List.length_take, List.length_drop, List.length_map, List.length_append, List.length_cons, List.length_nil, List.length_replicate] at *); omega), by first | omega | ((try dsimp only at *); (try simp only [List.length_take, List.length_drop, List.length_map, List.length_append, List.length_cons, List.length_nil, List.length_replicate] at *); omega), by first | omega | ((try dsimp only at *); (try simp only [List.length_take, List.length_drop, List.length_map, List.length_append, List.length_cons, List.length_nil, List.length_replicate] at *); omega)⟩, ?_⟩ | refine ⟨by first | omega | ((try dsimp only at *); (try simp only [List.length_take, List.length_drop, List.length_map, List.length_append, List.length_cons, List.length_nil, List.length_replicate] at *); omega), ?_⟩ | refine ⟨fun h => ⟨by first | omega | ((try dsimp only at *); (try simp only [List.length_take, List.length_drop, List.length_map, List.length_append, List.length_cons, List.length_nil, List.length_replicate] at *); omega), by first | omega | ((try dsimp only at *); (try simp only [List.length_take, List.length_drop, List.length_map, List.length_append, List.length_cons, List.length_nil, List.length_replicate] at *); omega)⟩, ?_⟩ | refine ⟨fun (r : List AV) hr c hc => by simp [encS] at hr; (try subst hr); simp at hc; (try subst hc); rfl, ?_⟩)
  refine ⟨t, rfl, fun _ => hsm, ?_⟩
  repeat ((conv => whnf); first | refine ⟨fun h => h, ?_⟩ | refine ⟨(by kernel_rfl : drawOk _ _ = true), ?_⟩ | refine ⟨fun (h : gtrue _) => by first | assumption | exact absurd (Eq.trans (Eq.symm h) (by assumption) : true = false) Bool.noConfusion, ?_⟩ | refine ⟨fun h => (absurd (Eq.trans (Eq.symm h) (by assumption) : true = false) Bool.noConfusion : False), ?_⟩ | refine ⟨_, w64 (by first | omega | ((try dsimp only at *); (try simp only [List.length_take, List.length_drop, List.length_map, List.length_append, List.length_cons, List.length_nil, List.length_replicate] at *); omega)), ?_⟩ | refine ⟨fun _ => ⟨by first | omega | ((try dsimp only at *); (try simp only [List.length_take, List.length_drop, List.length_map, List.length_append, List.length_cons, List.length_nil, List.length_replicate] at *); omega), by first | omega | ((try dsimp only at *); (try simp only [List.length_take, List.length_drop, List.length_map, List.length_append, List.length_cons, List.length_nil, List.length_replicate] at *); omega), by first | omega | ((try dsimp only at *); (try simp only [List.length_take, List.length_drop, List.length_map, List.length_append, List.length_cons, List.length_nil, List.length_replicate] at *); omega)⟩, ?_⟩ | refine ⟨by first | omega | ((try dsimp only at *); (try simp only [List.length_take, List.length_drop, List.length_map, List.length_append, List.length_cons, List.length_nil, List.length_replicate] at *); omega), ?_⟩ | refine ⟨fun h => ⟨by first | omega | ((try dsimp only at *); (try simp only [List.length_take, List.length_drop, List.length_map, List.length_append, List.length_cons, List.length_nil, List.length_replicate] at *); omega), by first | omega | ((try dsimp only at *); (try simp only [List.length_take, List.length_drop, List.length_map, List.length_append, List.length_cons, List.length_nil, List.length_replicate] at *); omega)⟩, ?_⟩ | refine ⟨fun (r : List AV) hr c hc => by simp [encS] at hr; (try subst hr); simp at hc; (try subst hc); rfl, ?_⟩)
  refine ⟨(t, p), by refine argTs ?_; simp [rdI], fun _ => ⟨hsm, h0⟩, ?_⟩
  repeat ((conv => whnf); first | refine ⟨fun h => h, ?_⟩ | refine ⟨(by kernel_rfl : drawOk _ _ = true), ?_⟩ | refine ⟨fun (h : gtrue _) => by first | assumption | exact absurd (Eq.trans (Eq.symm h) (by assumption) : true = false) Bool.noConfusion, ?_⟩ | refine ⟨fun h => (absurd (Eq.trans (Eq.symm h) (by assumption) : true = false) Bool.noConfusion : False), ?_⟩ | refine ⟨_, w64 (by first | omega | ((try dsimp only at *); (try simp only [List.length_take, List.length_drop, List.length_map, List.length_append, List.length_cons, List.length_nil, List.length_replicate] at *); omega)), ?_⟩ | refine ⟨fun _ => ⟨by first | omega | ((try dsimp only at *); (try simp only [List.length_take, List.length_drop, List.length_map, List.length_append, List.length_cons, List.length_nil, List.length_replicate] at *); omega), by first | omega | ((try dsimp only at *); (try simp only [List.length_take, List.length_drop, List.length_map, List.length_append, List.length_cons, List.length_nil, List.length_replicate] at *); omega), by first | omega | ((try dsimp only at *); (try simp only [List.length_take, List.length_drop, List.length_map, List.length_append, List.length_cons, List.length_nil, List.length_replicate] at *); omega)⟩, ?_⟩ | refine ⟨by first | omega | ((try dsimp only at *); (try simp only [List.length_take, List.length_drop, List.length_map, List.length_append, List.length_cons, List.length_nil, List.length_replicate] at *); omega), ?_⟩ | refine ⟨fun h => ⟨by first | omega | ((try dsimp only at *); (try simp only [List.length_take, List.length_drop, List.length_map, List.length_append, List.length_cons, List.length_nil, List.length_replicate] at *); omega), by first | omega | ((try dsimp only at *); (try simp only [List.length_take, List.length_drop, List.length_map, List.length_append, List.length_cons, List.length_nil, List.length_replicate] at *); omega)⟩, ?_⟩ | refine ⟨fun (r : List AV) hr c hc => by simp [encS] at hr; (try subst hr); simp at hc; (try subst hc); rfl, ?_⟩)
  refine ⟨t, rfl, fun _ => hsm, ?_⟩
  repeat ((conv => whnf); first | refine ⟨fun h => h, ?_⟩ | refine ⟨(by kernel_rfl : drawOk _ _ = true), ?_⟩ | refine ⟨fun (h : gtrue _) => by first | assumption | exact absurd (Eq.trans (Eq.symm h) (by assumption) : true = false) Bool.noConfusion, ?_⟩ | refine ⟨fun h => (absurd (Eq.trans (Eq.symm h) (by assumption) : true = false) Bool.noConfusion : False), ?_⟩ | refine ⟨_, w64 (by first | omega | ((try dsimp only at *); (try simp only [List.length_take, List.length_drop, List.length_map, List.length_append, List.length_cons, List.length_nil, List.length_replicate] at *); omega)), ?_⟩ | refine ⟨fun _ => ⟨by first | omega | ((try dsimp only at *); (try simp only [List.length_take, List.length_drop, List.length_map, List.length_append, List.length_cons, List.length_nil, List.length_replicate] at *); omega), by first | omega | ((try dsimp only at *); (try simp only [List.length_take, List.length_drop, List.length_map, List.length_append, List.length_cons, List.length_nil, List.length_replicate] at *); omega), by first | omega | ((try dsimp only at *); (try simp only [List.length_take, List.length_drop, List.length_map, List.length_append, List.length_cons, List.length_nil, List.length_replicate] at *); omega)⟩, ?_⟩ | refine ⟨by first | omega | ((try dsimp only at *); (try simp only [List.length_take, List.length_drop, List.length_map, List.length_append, List.length_cons, List.length_nil, List.length_replicate] at *); omega), ?_⟩ | refine ⟨fun h => ⟨by first | omega | ((try dsimp only at *); (try simp only [List.length_take, List.length_drop, List.length_map, List.length_append, List.length_cons, List.length_nil, List.length_replicate] at *); omega), by first | omega | ((try dsimp only at *); (try simp only [List.length_take, List.length_drop, List.length_map, List.length_append, List.length_cons, List.length_nil, List.length_replicate] at *); omega)⟩, ?_⟩ | refine ⟨fun (r : List AV) hr c hc => by simp [encS] at hr; (try subst hr); simp at hc; (try subst hc); rfl, ?_⟩)
  refine ⟨(t, p), by refine argTs ?_; simp [rdI], fun _ => ⟨hsm, h0⟩, ?_⟩
  repeat ((conv => whnf); first | refine ⟨fun h => h, ?_⟩ | refine ⟨(by kernel_rfl : drawOk _ _ = true), ?_⟩ | refine ⟨fun (h : gtrue _) => by first | assumption | exact absurd (Eq.trans (Eq.symm h) (by assumption) : true = false) Bool.noConfusion, ?_⟩ | refine ⟨fun h => (absurd (Eq.trans (Eq.symm h) (by assumption) : true = false) Bool.noConfusion : False), ?_⟩ | refine ⟨_, w64 (by first | omega | ((try dsimp only at *); (try simp only [List.length_take, List.length_drop, List.length_map, List.length_append, List.length_cons, List.length_nil, List.length_replicate] at *); omega)), ?_⟩ | refine ⟨fun _ => ⟨by first | omega | ((try dsimp only at *); (try simp only [List.length_take, List.length_drop, List.length_map, List.length_append, List.length_cons, List.length_nil, List.length_replicate] at *); omega), by first | omega | ((try dsimp only at *); (try simp only [List.length_take, List.length_drop, List.length_map, List.length_append, List.length_cons, List.length_nil, List.length_replicate] at *); omega), by first | omega | ((try dsimp only at *); (try simp only [List.length_take, List.length_drop, List.length_map, List.length_append, List.length_cons, List.length_nil, List.length_replicate] at *); omega)⟩, ?_⟩ | refine ⟨by first | omega | ((try dsimp only at *); (try simp only [List.length_take, List.length_drop, List.length_map, List.length_append, List.length_cons, List.length_nil, List.length_replicate] at *); omega), ?_⟩ | refine ⟨fun h => ⟨by first | omega | ((try dsimp only at *); (try simp only [List.length_take, List.length_drop, List.length_map, List.length_append, List.length_cons, List.length_nil, List.length_replicate] at *); omega), by first | omega | ((try dsimp only at *); (try simp only [List.length_take, List.length_drop, List.length_map, List.length_append, List.length_cons, List.length_nil, List.length_replicate] at *); omega)⟩, ?_⟩ | refine ⟨fun (r : List AV) hr c hc => by simp [encS] at hr; (try subst hr); simp at hc; (try subst hc); rfl, ?_⟩)
  refine ⟨fun h => ?_, fun _ => ?_⟩
  · have h : ((((useP t p).2.1 : Int) != (useP t p).2.1 || ((useP t p).2.2 : Int) != (useP t p).2.2) || (!(useP t p).1 == (useP t p).1)) = true := h
    simp at h
  repeat ((conv => whnf); first | refine ⟨fun h => h, ?_⟩ | refine ⟨(by kernel_rfl : drawOk _ _ = true), ?_⟩ | refine ⟨fun (h : gtrue _) => by first | assumption | exact absurd (Eq.trans (Eq.symm h) (by assumption) : true = false) Bool.noConfusion, ?_⟩ | refine ⟨fun h => (absurd (Eq.trans (Eq.symm h) (by assumption) : true = false) Bool.noConfusion : False), ?_⟩ | refine ⟨_, w64 (by first | omega | ((try dsimp only at *); (try simp only [List.length_take, List.length_drop, List.length_map, List.length_append, List.length_cons, List.length_nil, List.length_replicate] at *); omega)), ?_⟩ | refine ⟨fun _ => ⟨by first | omega | ((try dsimp only at *); (try simp only [List.length_take, List.length_drop, List.length_map, List.length_append, List.length_cons, List.length_nil, List.length_replicate] at *); omega), by first | omega | ((try dsimp only at *); (try simp only [List.length_take, List.length_drop, List.length_map, List.length_append, List.length_cons, List.length_nil, List.length_replicate] at *); omega), by first | omega | ((try dsimp only at *); (try simp only [List.length_take, List.length_drop, List.length_map, List.length_append, List.length_cons, List.length_nil, List.length_replicate] at *); omega)⟩, ?_⟩ | refine ⟨by first | omega | ((try dsimp only at *); (try simp only [List.length_take, List.length_drop, List.length_map, List.length_append, List.length_cons, List.length_nil, List.length_replicate] at *); omega), ?_⟩ | refine ⟨fun h => ⟨by first | omega | ((try dsimp only at *); (try simp only [List.length_take, List.length_drop, List.length_map, List.length_append, List.length_cons, List.length_nil, List.length_replicate] at *); omega), by first | omega | ((try dsimp only at *); (try simp only [List.length_take, List.length_drop, List.length_map, List.length_append, List.length_cons, List.length_nil, List.length_replicate] at *); omega)⟩, ?_⟩ | refine ⟨fun (r : List AV) hr c hc => by simp [encS] at hr; (try subst hr); simp at hc; (try subst hc); rfl, ?_⟩)
  refine ⟨t, rfl, fun _ => hsm, ?_⟩
  repeat ((conv => whnf); first | refine ⟨fun h => h, ?_⟩ | refine ⟨(by kernel_rfl : drawOk _ _ = true), ?_⟩ | refine ⟨fun (h : gtrue _) => by first | assumption | exact absurd (Eq.trans (Eq.symm h) (by assumption) : true = false) Bool.noConfusion, ?_⟩ | refine ⟨fun h => (absurd (Eq.trans (Eq.symm h) (by assumption) : true = false) Bool.noConfusion : False), ?_⟩ | refine ⟨_, w64 (by first | omega | ((try dsimp only at *); (try simp only [List.length_take, List.length_drop, List.length_map, List.length_append, List.length_cons, List.length_nil, List.length_replicate] at *); omega)), ?_⟩ | refine ⟨fun _ => ⟨by first | omega | ((try dsimp only at *); (try simp only [List.length_take, List.length_drop, List.length_map, List.length_append, List.length_cons, List.length_nil, List.length_replicate] at *); omega), by first | omega | ((try dsimp only at *); (try simp only [List.length_take, List.length_drop, List.length_map, List.length_append, List.length_cons, List.length_nil, List.length_replicate] at *); omega), by first | omega | ((try dsimp only at *); (try simp only [List.length_take, List.length_drop, List.length_map, List.length_append, List.length_cons, List.length_nil, List.length_replicate] at *); omega)⟩, ?_⟩ | refine ⟨by first | omega | ((try dsimp only at *); (try simp only [List.length_take, List.length_drop, List.length_map, List.length_append, List.length_cons, List.length_nil, List.length_replicate] at *); omega), ?_⟩ | refine ⟨fun h => ⟨by first | omega | ((try dsimp only at *); (try simp only [List.length_take, List.length_drop, List.length_map, List.length_append, List.length_cons, List.length_nil, List.length_replicate] at *); omega), by first | omega | ((try dsimp only at *); (try simp only [List.length_take, List.length_drop, List.length_map, List.length_append, List.length_cons, List.length_nil, List.length_replicate] at *); omega)⟩, ?_⟩ | refine ⟨fun (r : List AV) hr c hc => by simp [encS] at hr; (try subst hr); simp at hc; (try subst hc); rfl, ?_⟩)
  refine ⟨t, by refine argTT ?_ ?_ <;> simp [rdI], fun _ => hsm, ?_⟩
  repeat ((conv => whnf); first | refine ⟨fun h => h, ?_⟩ | refine ⟨(by kernel_rfl : drawOk _ _ = true), ?_⟩ | refine ⟨fun (h : gtrue _) => by first | assumption | exact absurd (Eq.trans (Eq.symm h) (by assumption) : true = false) Bool.noConfusion, ?_⟩ | refine ⟨fun h => (absurd (Eq.trans (Eq.symm h) (by assumption) : true = false) Bool.noConfusion : False), ?_⟩ | refine ⟨_, w64 (by first | omega | ((try dsimp only at *); (try simp only [List.length_take, List.length_drop, List.length_map, List.length_append, List.length_cons, List.length_nil, List.length_replicate] at *); omega)), ?_⟩ | refine ⟨fun _ => ⟨by first | omega | ((try dsimp only at *); (try simp only [List.length_take, List.length_drop, List.length_map, List.length_append, List.length_cons, List.length_nil, List.length_replicate] at *); omega), by first | omega | ((try dsimp only at *); (try simp only [List.length_take, List.length_drop, List.length_map, List.length_append, List.length_cons, List.length_nil, List.length_replicate] at *); omega), by first | omega | ((try dsimp only at *); (try simp only [List.length_take, List.length_drop, List.length_map, List.length_append, List.length_cons, List.length_nil, List.length_replicate] at *); omega)⟩, ?_⟩ | refine ⟨by first | omega | ((try dsimp only at *); (try simp only [List.length_take, List.length_drop, List.length_map, List.length_append, List.length_cons, List.length_nil, List.length_replicate] at *); omega), ?_⟩ | refine ⟨fun h => ⟨by first | omega | ((try dsimp only at *); (try simp only [List.length_take, List.length_drop, List.length_map, List.length_append, List.length_cons, List.length_nil, List.length_replicate] at *); omega), by first | omega | ((try dsimp only at *); (try simp only [List.length_take, List.length_drop, List.length_map, List.length_append, List.length_cons, List.length_nil, List.length_replicate] at *); omega)⟩, ?_⟩ | refine ⟨fun (r : List AV) hr c hc => by simp [encS] at hr; (try subst hr); simp at hc; (try subst hc); rfl, ?_⟩)
  conv => whnf
  refine ⟨fun h => absurd h (by decide), fun _ => ?_⟩
  conv => whnf
  exact ⟨trivial, rfl⟩
theorem ok_laws_FnExactUsage : ConOk Try.prog 6 c_laws_FnExactUsage := meets_ok (tabT _ _) (FOk.cons ok_laws_szTree (FOk.cons ok_laws_toTree (FOk.cons ok_laws_eqTree (FOk.cons ok_spec_Usage (FOk.cons ok_impl_Usage FOk.nil))))) mixed Try.func6 rfl Try.call6 (by decide) (by kernel_rfl) m_laws_FnExactUsage (by intro _ (y : (Tr × Str)) _; exact ⟨by simp [c_laws_FnExactUsage, con, AV.noRd, noRdCells, noRdRows, noRdRows_map', encS], by simp [c_laws_FnExactUsage, con, noRdCells]⟩)


end Go.GH

