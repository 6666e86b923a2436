import Derived.Test.YtijkfhkjnhceoaaSA
import Derived.Test.YtijkfhkjnhceoaaRows
import Derived.WalkKit
import Derived.ProofKit
import Derived.OpenShut
import Derived.ChangeOld
import Derived.Below
import Derived.SizedLaws
set_option linter.unusedVariables false
set_option linter.unusedSimpArgs false
set_option linter.unusedSimpArgs false
namespace Go.GH
open Go Go.Proofs

def c_impl_PathOk : PCon := con [mC] true Str encS (fun s => sml s.length) (fun s => .bool (pathOk s))
def E_impl_PathOk : Env := ⟨lookup tyTab, lookup [(81, c_impl_readPath)], [0, 2, 4]⟩
set_option maxRecDepth 100000 in
set_option maxHeartbeats 4000000 in
theorem m_impl_PathOk : Meets E_impl_PathOk (codeOf Try.f69) Try.f69.results.toList c_impl_PathOk := by
  intro (s : Str) hs
  refine ⟨trivial, ?_⟩
  conv => whnf
  refine ⟨s, rfl, fun _ => hs, ?_⟩
  conv => whnf
  exact ⟨trivial, rfl⟩
theorem ok_impl_PathOk : ConOk Try.prog 69 c_impl_PathOk := meets_ok (tabT _ _) (FOk.cons ok_impl_readPath FOk.nil) mixed Try.func69 rfl Try.call69 (by decide) (by kernel_rfl) m_impl_PathOk (by intro _ (y : Str) _; exact ⟨by simp [c_impl_PathOk, con, AV.noRd, noRdCells, noRdRows, noRdRows_map', encS], by simp [c_impl_PathOk, con, noRdCells]⟩)

def c_impl_PathOf : PCon := con [mS 1] true (List Str) (fun l => [.rd 1 (l.map encS)]) (fun l => l.length + (l.map List.length).sum < 4194304) (fun l => .str (pathOf l))
def E_impl_PathOf : Env := ⟨lookup tyTab, lookup [(97, c_slices_ContainsFunc_string), (100, c_strings_Join), (101, c_impl_PathOf_1)], [0, 2, 3, 13]⟩
set_option maxRecDepth 100000 in
set_option maxHeartbeats 4000000 in
theorem m_impl_PathOf : Meets E_impl_PathOf (codeOf Try.f82) Try.f82.results.toList c_impl_PathOf := by
  intro (l : List Str) hs
  have hs : l.length + (l.map List.length).sum < 4194304 := hs
  have hl := cat1_len l
  have hj := join_cat l
  have hjl : (Lib.join l sl).length + 1 = (cat1 l).length := by rw [← hj]; simp [sl]
  have hsm : smL l := ⟨by omega, fun s hs => by
    have : s.length ≤ (l.map List.length).sum := le_sum hs
    omega⟩
  refine ⟨trivial, ?_⟩
  conv => whnf
  refine ⟨(l, sl), rfl, fun _ => ⟨by show (Lib.join l sl).length ≤ _; omega, by show l.length ≤ _; omega⟩, ?_⟩
  conv => whnf
  refine ⟨by show 1 + (Lib.join l sl).length ≤ _; omega, ?_⟩
  repeat ((conv => whnf); first | refine ⟨fun h => h, ?_⟩ | refine ⟨(by kernel_rfl : drawOk _ _ = true), ?_⟩ | refine ⟨fun (h : gtrue _) => by first | assumption | exact absurd (Eq.trans (Eq.symm h) (by assumption) : true = false) Bool.noConfusion, ?_⟩ | refine ⟨fun h => (absurd (Eq.trans (Eq.symm h) (by assumption) : true = false) Bool.noConfusion : False), ?_⟩ | refine ⟨_, w64 (by first | omega | ((try dsimp only at *); (try simp only [List.length_take, List.length_drop, List.length_map, List.length_append, List.length_cons, List.length_nil, List.length_replicate] at *); omega)), ?_⟩ | refine ⟨fun _ => ⟨by first | omega | ((try dsimp only at *); (try simp only [List.length_take, List.length_drop, List.length_map, List.length_append, List.length_cons, List.length_nil, List.length_replicate] at *); omega), by first | omega | ((try dsimp only at *); (try simp only [List.length_take, List.length_drop, List.length_map, List.length_append, List.length_cons, List.length_nil, List.length_replicate] at *); omega), by first | omega | ((try dsimp only at *); (try simp only [List.length_take, List.length_drop, List.length_map, List.length_append, List.length_cons, List.length_nil, List.length_replicate] at *); omega)⟩, ?_⟩ | refine ⟨by first | omega | ((try dsimp only at *); (try simp only [List.length_take, List.length_drop, List.length_map, List.length_append, List.length_cons, List.length_nil, List.length_replicate] at *); omega), ?_⟩ | refine ⟨fun h => ⟨by first | omega | ((try dsimp only at *); (try simp only [List.length_take, List.length_drop, List.length_map, List.length_append, List.length_cons, List.length_nil, List.length_replicate] at *); omega), by first | omega | ((try dsimp only at *); (try simp only [List.length_take, List.length_drop, List.length_map, List.length_append, List.length_cons, List.length_nil, List.length_replicate] at *); omega)⟩, ?_⟩ | refine ⟨fun (r : List AV) hr c hc => by simp [encS] at hr; (try subst hr); simp at hc; (try subst hc); rfl, ?_⟩ | refine ⟨noOwn (by rfl), ?_⟩)
  refine ⟨(l, false), rfl, fun _ => hsm, ?_⟩
  repeat ((conv => whnf); first | refine ⟨fun h => h, ?_⟩ | refine ⟨(by kernel_rfl : drawOk _ _ = true), ?_⟩ | refine ⟨fun (h : gtrue _) => by first | assumption | exact absurd (Eq.trans (Eq.symm h) (by assumption) : true = false) Bool.noConfusion, ?_⟩ | refine ⟨fun h => (absurd (Eq.trans (Eq.symm h) (by assumption) : true = false) Bool.noConfusion : False), ?_⟩ | refine ⟨_, w64 (by first | omega | ((try dsimp only at *); (try simp only [List.length_take, List.length_drop, List.length_map, List.length_append, List.length_cons, List.length_nil, List.length_replicate] at *); omega)), ?_⟩ | refine ⟨fun _ => ⟨by first | omega | ((try dsimp only at *); (try simp only [List.length_take, List.length_drop, List.length_map, List.length_append, List.length_cons, List.length_nil, List.length_replicate] at *); omega), by first | omega | ((try dsimp only at *); (try simp only [List.length_take, List.length_drop, List.length_map, List.length_append, List.length_cons, List.length_nil, List.length_replicate] at *); omega), by first | omega | ((try dsimp only at *); (try simp only [List.length_take, List.length_drop, List.length_map, List.length_append, List.length_cons, List.length_nil, List.length_replicate] at *); omega)⟩, ?_⟩ | refine ⟨by first | omega | ((try dsimp only at *); (try simp only [List.length_take, List.length_drop, List.length_map, List.length_append, List.length_cons, List.length_nil, List.length_replicate] at *); omega), ?_⟩ | refine ⟨fun h => ⟨by first | omega | ((try dsimp only at *); (try simp only [List.length_take, List.length_drop, List.length_map, List.length_append, List.length_cons, List.length_nil, List.length_replicate] at *); omega), by first | omega | ((try dsimp only at *); (try simp only [List.length_take, List.length_drop, List.length_map, List.length_append, List.length_cons, List.length_nil, List.length_replicate] at *); omega)⟩, ?_⟩ | refine ⟨fun (r : List AV) hr c hc => by simp [encS] at hr; (try subst hr); simp at hc; (try subst hc); rfl, ?_⟩ | refine ⟨noOwn (by rfl), ?_⟩)
  have e : (decide (l.length ≤ 4) && l.all nameOk) = !(decide (((l.map encS).length : Int) > 4) || l.any fun s => !nameOk s) := by
    rw [List.all_eq_not_any_not, Bool.not_or]
    congr 1
    rw [Bool.eq_iff_iff]
    simp
    omega
  (conv => whnf); refine ⟨fun h1 => ?_, fun h1 => ?_⟩
  · conv => whnf
    exact ⟨trivial, eqS (by
      rw [pathOf, e, show (_ || _) = true from h1]; rfl)⟩
  · conv => whnf
    exact ⟨trivial, eqS (by
      rw [pathOf, e, show (_ || _) = false from h1]; exact hj)⟩
theorem ok_impl_PathOf : ConOk Try.prog 82 c_impl_PathOf := meets_ok (tabT _ _) (FOk.cons ok_slices_ContainsFunc_string (FOk.cons ok_strings_Join (FOk.cons ok_impl_PathOf_1 FOk.nil))) mixed Try.func82 rfl Try.call82 (by decide) (by kernel_rfl) m_impl_PathOf (by intro _ (y : (List Str)) _; exact ⟨by simp [c_impl_PathOf, con, AV.noRd, noRdCells, noRdRows, noRdRows_map', encS], by simp [c_impl_PathOf, con, noRdCells]⟩)

def c_impl_Above : PCon := con [mC] true Str encS (fun l => sml l.length) (fun l => .str (above l))
def E_impl_Above : Env := ⟨lookup tyTab, lookup [(81, c_impl_readPath), (82, c_impl_PathOf)], [0, 2, 3, 4, 11]⟩
set_option maxRecDepth 100000 in
set_option maxHeartbeats 4000000 in
theorem m_impl_Above : Meets E_impl_Above (codeOf Try.f65) Try.f65.results.toList c_impl_Above := by
  intro (s : Str) hs
  have hs : s.length ≤ 4194304 := hs
  refine ⟨trivial, ?_⟩
  conv => whnf
  refine ⟨s, rfl, fun _ => hs, ?_⟩
  (conv => whnf); refine ⟨fun h1 => ?_, fun h1 => ?_⟩
  · have h1 : pathOk s = false := by
      have h1 : (!pathOk s) = true := h1
      simpa using h1
    conv => whnf
    exact ⟨trivial, eqS (by simp [above, h1])⟩
  have h1 : pathOk s = true := by
    have h1 : (!pathOk s) = false := h1
    simpa using h1
  have hd : above s = pathOf ((names s).take ((names s).length - 1)) := by simp [above, h1]
  have hnl := names_len (p := s)
  have hns := names_sum (p := s)
  repeat ((conv => whnf); first | refine ⟨fun h => h, ?_⟩ | refine ⟨(by kernel_rfl : drawOk _ _ = true), ?_⟩ | refine ⟨fun (h : gtrue _) => by first | assumption | exact absurd (Eq.trans (Eq.symm h) (by assumption) : true = false) Bool.noConfusion, ?_⟩ | refine ⟨fun h => (absurd (Eq.trans (Eq.symm h) (by assumption) : true = false) Bool.noConfusion : False), ?_⟩ | refine ⟨_, w64 (by first | omega | ((try dsimp only at *); (try simp only [List.length_take, List.length_drop, List.length_map, List.length_append, List.length_cons, List.length_nil, List.length_replicate] at *); omega)), ?_⟩ | refine ⟨fun _ => ⟨by first | omega | ((try dsimp only at *); (try simp only [List.length_take, List.length_drop, List.length_map, List.length_append, List.length_cons, List.length_nil, List.length_replicate] at *); omega), by first | omega | ((try dsimp only at *); (try simp only [List.length_take, List.length_drop, List.length_map, List.length_append, List.length_cons, List.length_nil, List.length_replicate] at *); omega), by first | omega | ((try dsimp only at *); (try simp only [List.length_take, List.length_drop, List.length_map, List.length_append, List.length_cons, List.length_nil, List.length_replicate] at *); omega)⟩, ?_⟩ | refine ⟨by first | omega | ((try dsimp only at *); (try simp only [List.length_take, List.length_drop, List.length_map, List.length_append, List.length_cons, List.length_nil, List.length_replicate] at *); omega), ?_⟩ | refine ⟨fun h => ⟨by first | omega | ((try dsimp only at *); (try simp only [List.length_take, List.length_drop, List.length_map, List.length_append, List.length_cons, List.length_nil, List.length_replicate] at *); omega), by first | omega | ((try dsimp only at *); (try simp only [List.length_take, List.length_drop, List.length_map, List.length_append, List.length_cons, List.length_nil, List.length_replicate] at *); omega)⟩, ?_⟩ | refine ⟨fun (r : List AV) hr c hc => by simp [encS] at hr; (try subst hr); simp at hc; (try subst hc); rfl, ?_⟩ | refine ⟨noOwn (by rfl), ?_⟩)
  conv => whnf
  refine ⟨(((names s).length - 1 : Nat) : Int), by simp only [List.length_map]; split <;> omega, ?_⟩
  repeat ((conv => whnf); first | refine ⟨fun h => h, ?_⟩ | refine ⟨(by kernel_rfl : drawOk _ _ = true), ?_⟩ | refine ⟨fun (h : gtrue _) => by first | assumption | exact absurd (Eq.trans (Eq.symm h) (by assumption) : true = false) Bool.noConfusion, ?_⟩ | refine ⟨fun h => (absurd (Eq.trans (Eq.symm h) (by assumption) : true = false) Bool.noConfusion : False), ?_⟩ | refine ⟨_, w64 (by first | omega | ((try dsimp only at *); (try simp only [List.length_take, List.length_drop, List.length_map, List.length_append, List.length_cons, List.length_nil, List.length_replicate] at *); omega)), ?_⟩ | refine ⟨fun _ => ⟨by first | omega | ((try dsimp only at *); (try simp only [List.length_take, List.length_drop, List.length_map, List.length_append, List.length_cons, List.length_nil, List.length_replicate] at *); omega), by first | omega | ((try dsimp only at *); (try simp only [List.length_take, List.length_drop, List.length_map, List.length_append, List.length_cons, List.length_nil, List.length_replicate] at *); omega), by first | omega | ((try dsimp only at *); (try simp only [List.length_take, List.length_drop, List.length_map, List.length_append, List.length_cons, List.length_nil, List.length_replicate] at *); omega)⟩, ?_⟩ | refine ⟨by first | omega | ((try dsimp only at *); (try simp only [List.length_take, List.length_drop, List.length_map, List.length_append, List.length_cons, List.length_nil, List.length_replicate] at *); omega), ?_⟩ | refine ⟨fun h => ⟨by first | omega | ((try dsimp only at *); (try simp only [List.length_take, List.length_drop, List.length_map, List.length_append, List.length_cons, List.length_nil, List.length_replicate] at *); omega), by first | omega | ((try dsimp only at *); (try simp only [List.length_take, List.length_drop, List.length_map, List.length_append, List.length_cons, List.length_nil, List.length_replicate] at *); omega)⟩, ?_⟩ | refine ⟨fun (r : List AV) hr c hc => by simp [encS] at hr; (try subst hr); simp at hc; (try subst hc); rfl, ?_⟩ | refine ⟨noOwn (by rfl), ?_⟩)
  refine ⟨(names s).take ((names s).length - 1), by
    refine congrArg (fun x => [AV.rd 1 x]) ?_
    rw [cutS]
    simp only [Int.toNat_natCast, List.drop_zero, List.length_map]
    rfl, fun _ => ?_, ?_⟩
  · have := sum_take (names s) ((names s).length - 1)
    show _ < _
    rw [List.length_take]
    omega
  conv => whnf
  exact ⟨trivial, eqS hd.symm⟩
theorem ok_impl_Above : ConOk Try.prog 65 c_impl_Above := meets_ok (tabT _ _) (FOk.cons ok_impl_readPath (FOk.cons ok_impl_PathOf FOk.nil)) mixed Try.func65 rfl Try.call65 (by decide) (by kernel_rfl) m_impl_Above (by intro _ (y : Str) _; exact ⟨by simp [c_impl_Above, con, AV.noRd, noRdCells, noRdRows, noRdRows_map', encS], by simp [c_impl_Above, con, noRdCells]⟩)

def c_impl_isKind : PCon := con [mC] true Int (fun x => [.int .i64 x]) (fun _ => True) (fun x => .bool (inB x 1 3))
def E_impl_isKind : Env := ⟨lookup tyTab, lookup [(33, c_impl_within)], [0, 2]⟩
set_option maxRecDepth 100000 in
set_option maxHeartbeats 4000000 in
theorem m_impl_isKind : Meets E_impl_isKind (codeOf Try.f80) Try.f80.results.toList c_impl_isKind := by
  intro (x : Int) hs
  refine ⟨trivial, ?_⟩
  conv => whnf
  refine ⟨(x, 1, 3), rfl, fun _ => trivial, ?_⟩
  conv => whnf
  exact ⟨trivial, rfl⟩
theorem ok_impl_isKind : ConOk Try.prog 80 c_impl_isKind := meets_ok (tabT _ _) (FOk.cons ok_impl_within FOk.nil) mixed Try.func80 rfl Try.call80 (by decide) (by kernel_rfl) m_impl_isKind (by intro _ (y : Int) _; exact ⟨by simp [c_impl_isKind, con, AV.noRd, noRdCells, noRdRows, noRdRows_map', encS], by simp [c_impl_isKind, con, noRdCells]⟩)

def c_impl_itemOk : PCon := con [.rd [none, none, none, none]] true It (fun x => [.agg (encI x)]) (fun x => x.path.length ≤ 4194304 ∧ x.data.length ≤ 4194304) (fun x => .bool (itemOk x))
def E_impl_itemOk : Env := ⟨lookup tyTab, lookup [(33, c_impl_within), (69, c_impl_PathOk), (80, c_impl_isKind)], [0, 1, 2, 17, 20]⟩
set_option maxRecDepth 100000 in
set_option maxHeartbeats 4000000 in
theorem m_impl_itemOk : Meets E_impl_itemOk (codeOf Try.f64) Try.f64.results.toList c_impl_itemOk := by
  intro (x : It) hs
  obtain ⟨hs1, hs2⟩ : x.path.length ≤ 4194304 ∧ x.data.length ≤ 4194304 := hs
  refine ⟨trivial, ?_⟩
  conv => whnf
  refine ⟨x.path, rfl, fun _ => hs1, ?_⟩
  repeat ((conv => whnf); first | refine ⟨fun h => h, ?_⟩ | refine ⟨(by kernel_rfl : drawOk _ _ = true), ?_⟩ | refine ⟨fun (h : gtrue _) => by first | assumption | exact absurd (Eq.trans (Eq.symm h) (by assumption) : true = false) Bool.noConfusion, ?_⟩ | refine ⟨fun h => (absurd (Eq.trans (Eq.symm h) (by assumption) : true = false) Bool.noConfusion : False), ?_⟩ | refine ⟨_, w64 (by first | omega | ((try dsimp only at *); (try simp only [List.length_take, List.length_drop, List.length_map, List.length_append, List.length_cons, List.length_nil, List.length_replicate] at *); omega)), ?_⟩ | refine ⟨fun _ => ⟨by first | omega | ((try dsimp only at *); (try simp only [List.length_take, List.length_drop, List.length_map, List.length_append, List.length_cons, List.length_nil, List.length_replicate] at *); omega), by first | omega | ((try dsimp only at *); (try simp only [List.length_take, List.length_drop, List.length_map, List.length_append, List.length_cons, List.length_nil, List.length_replicate] at *); omega), by first | omega | ((try dsimp only at *); (try simp only [List.length_take, List.length_drop, List.length_map, List.length_append, List.length_cons, List.length_nil, List.length_replicate] at *); omega)⟩, ?_⟩ | refine ⟨by first | omega | ((try dsimp only at *); (try simp only [List.length_take, List.length_drop, List.length_map, List.length_append, List.length_cons, List.length_nil, List.length_replicate] at *); omega), ?_⟩ | refine ⟨fun h => ⟨by first | omega | ((try dsimp only at *); (try simp only [List.length_take, List.length_drop, List.length_map, List.length_append, List.length_cons, List.length_nil, List.length_replicate] at *); omega), by first | omega | ((try dsimp only at *); (try simp only [List.length_take, List.length_drop, List.length_map, List.length_append, List.length_cons, List.length_nil, List.length_replicate] at *); omega)⟩, ?_⟩ | refine ⟨fun (r : List AV) hr c hc => by simp [encS] at hr; (try subst hr); simp at hc; (try subst hc); rfl, ?_⟩ | refine ⟨noOwn (by rfl), ?_⟩ | refine ⟨x.kind, rfl, fun _ => trivial, ?_⟩)
  (conv => whnf); refine ⟨fun h1 => ?_, fun h1 => ?_⟩
  · conv => whnf
    exact ⟨trivial, eqB (by
      have h1 : (!pathOk x.path || x.path == sl || !inB x.kind 1 3) = true := h1
      unfold itemOk
      revert h1
      cases pathOk x.path <;> cases (x.path == sl) <;> cases inB x.kind 1 3 <;> simp)⟩
  have h1 : (pathOk x.path && !(x.path == sl) && inB x.kind 1 3) = true := by
    have h1 : (!pathOk x.path || x.path == sl || !inB x.kind 1 3) = false := h1
    revert h1
    cases pathOk x.path <;> cases (x.path == sl) <;> cases inB x.kind 1 3 <;> simp
  (conv => whnf); refine ⟨fun h2 => ?_, fun h2 => ?_⟩
  · repeat ((conv => whnf); first | refine ⟨fun h => h, ?_⟩ | refine ⟨(by kernel_rfl : drawOk _ _ = true), ?_⟩ | refine ⟨fun (h : gtrue _) => by first | assumption | exact absurd (Eq.trans (Eq.symm h) (by assumption) : true = false) Bool.noConfusion, ?_⟩ | refine ⟨fun h => (absurd (Eq.trans (Eq.symm h) (by assumption) : true = false) Bool.noConfusion : False), ?_⟩ | refine ⟨_, w64 (by first | omega | ((try dsimp only at *); (try simp only [List.length_take, List.length_drop, List.length_map, List.length_append, List.length_cons, List.length_nil, List.length_replicate] at *); omega)), ?_⟩ | refine ⟨fun _ => ⟨by first | omega | ((try dsimp only at *); (try simp only [List.length_take, List.length_drop, List.length_map, List.length_append, List.length_cons, List.length_nil, List.length_replicate] at *); omega), by first | omega | ((try dsimp only at *); (try simp only [List.length_take, List.length_drop, List.length_map, List.length_append, List.length_cons, List.length_nil, List.length_replicate] at *); omega), by first | omega | ((try dsimp only at *); (try simp only [List.length_take, List.length_drop, List.length_map, List.length_append, List.length_cons, List.length_nil, List.length_replicate] at *); omega)⟩, ?_⟩ | refine ⟨by first | omega | ((try dsimp only at *); (try simp only [List.length_take, List.length_drop, List.length_map, List.length_append, List.length_cons, List.length_nil, List.length_replicate] at *); omega), ?_⟩ | refine ⟨fun h => ⟨by first | omega | ((try dsimp only at *); (try simp only [List.length_take, List.length_drop, List.length_map, List.length_append, List.length_cons, List.length_nil, List.length_replicate] at *); omega), by first | omega | ((try dsimp only at *); (try simp only [List.length_take, List.length_drop, List.length_map, List.length_append, List.length_cons, List.length_nil, List.length_replicate] at *); omega)⟩, ?_⟩ | refine ⟨fun (r : List AV) hr c hc => by simp [encS] at hr; (try subst hr); simp at hc; (try subst hc); rfl, ?_⟩ | refine ⟨noOwn (by rfl), ?_⟩)
    have h2 : (x.kind == 2) = true := h2
    exact ⟨trivial, eqB (by unfold itemOk; rw [h1, if_pos h2]; rfl)⟩
  · repeat ((conv => whnf); first | refine ⟨fun h => h, ?_⟩ | refine ⟨(by kernel_rfl : drawOk _ _ = true), ?_⟩ | refine ⟨fun (h : gtrue _) => by first | assumption | exact absurd (Eq.trans (Eq.symm h) (by assumption) : true = false) Bool.noConfusion, ?_⟩ | refine ⟨fun h => (absurd (Eq.trans (Eq.symm h) (by assumption) : true = false) Bool.noConfusion : False), ?_⟩ | refine ⟨_, w64 (by first | omega | ((try dsimp only at *); (try simp only [List.length_take, List.length_drop, List.length_map, List.length_append, List.length_cons, List.length_nil, List.length_replicate] at *); omega)), ?_⟩ | refine ⟨fun _ => ⟨by first | omega | ((try dsimp only at *); (try simp only [List.length_take, List.length_drop, List.length_map, List.length_append, List.length_cons, List.length_nil, List.length_replicate] at *); omega), by first | omega | ((try dsimp only at *); (try simp only [List.length_take, List.length_drop, List.length_map, List.length_append, List.length_cons, List.length_nil, List.length_replicate] at *); omega), by first | omega | ((try dsimp only at *); (try simp only [List.length_take, List.length_drop, List.length_map, List.length_append, List.length_cons, List.length_nil, List.length_replicate] at *); omega)⟩, ?_⟩ | refine ⟨by first | omega | ((try dsimp only at *); (try simp only [List.length_take, List.length_drop, List.length_map, List.length_append, List.length_cons, List.length_nil, List.length_replicate] at *); omega), ?_⟩ | refine ⟨fun h => ⟨by first | omega | ((try dsimp only at *); (try simp only [List.length_take, List.length_drop, List.length_map, List.length_append, List.length_cons, List.length_nil, List.length_replicate] at *); omega), by first | omega | ((try dsimp only at *); (try simp only [List.length_take, List.length_drop, List.length_map, List.length_append, List.length_cons, List.length_nil, List.length_replicate] at *); omega)⟩, ?_⟩ | refine ⟨fun (r : List AV) hr c hc => by simp [encS] at hr; (try subst hr); simp at hc; (try subst hc); rfl, ?_⟩ | refine ⟨noOwn (by rfl), ?_⟩ | refine ⟨(_, _, _), rfl, fun _ => trivial, ?_⟩)
    have h2 : (x.kind == 2) = false := h2
    exact ⟨trivial, eqB (by unfold itemOk; rw [h1, if_neg (by rw [h2]; exact Bool.false_ne_true)]; rfl)⟩
theorem ok_impl_itemOk : ConOk Try.prog 64 c_impl_itemOk := meets_ok (tabT _ _) (FOk.cons ok_impl_within (FOk.cons ok_impl_PathOk (FOk.cons ok_impl_isKind FOk.nil))) mixed Try.func64 rfl Try.call64 (by decide) (by kernel_rfl) m_impl_itemOk (by intro _ (y : It) _; exact ⟨by simp [c_impl_itemOk, con, AV.noRd, noRdCells, noRdRows, noRdRows_map', encS], by simp [c_impl_itemOk, con, noRdCells]⟩)

def c_impl_itemAt_1 : PCon := con [.rd [none, none, none, none], .rd []] true (It × Str) (fun x => [.agg (encI x.1), .pin [.str x.2]]) (fun _ => True) (fun x => .bool (x.1.path == x.2))
def E_impl_itemAt_1 : Env := ⟨lookup tyTab, lookup [], [0, 1, 2, 3]⟩
set_option maxRecDepth 100000 in
set_option maxHeartbeats 4000000 in
theorem m_impl_itemAt_1 : Meets E_impl_itemAt_1 (codeOf Try.f72) Try.f72.results.toList c_impl_itemAt_1 := by
  rintro ⟨x, p⟩ hs
  refine ⟨trivial, ?_⟩
  conv => whnf
  exact ⟨trivial, rfl⟩
theorem ok_impl_itemAt_1 : ConOk Try.prog 72 c_impl_itemAt_1 := meets_ok (tabT _ _) FOk.nil mixed Try.func72 rfl Try.call72 (by decide) (by kernel_rfl) m_impl_itemAt_1 (by intro _ (y : (It × Str)) _; exact ⟨by simp [c_impl_itemAt_1, con, AV.noRd, noRdCells, noRdRows, noRdRows_map', encS], by simp [c_impl_itemAt_1, con, noRdCells]⟩)

def c_slices_IndexFunc_Item : PCon := con [mS 4, mC] true (Tr × Str) (fun x => [.rd 4 (x.1.map encI), .fn 72 [.pin [.str x.2]]]) (fun x => x.1.length ≤ 4194304) (fun x => .int .i64 (fnd (fun y => y.path == x.2) x.1))
def E_slices_IndexFunc_Item : Env := ⟨lookup tyTab, lookup [(72, c_impl_itemAt_1)], [0, 1, 4, 5, 7, 8, 9, 16]⟩
set_option maxRecDepth 100000 in
set_option maxHeartbeats 4000000 in
theorem m_slices_IndexFunc_Item : Meets E_slices_IndexFunc_Item (codeOf Try.f71) Try.f71.results.toList c_slices_IndexFunc_Item := by
  rintro ⟨l, p⟩ hs
  have hs1 : l.length ≤ 4194304 := hs
  refine ⟨trivial, ?_⟩
  conv => whnf
  refine loop_rule (fun i : Nat => ⟨[(0, ⟨none, .rd 4 (l.map encI)⟩), (1, ⟨none, .fn 72 [.pin [.str p]]⟩), (7, ⟨none, .int .i64 l.length⟩), (8, ⟨none, .int .i64 i⟩)], [], 0⟩)
    (fun i => i ≤ l.length ∧ (l.take i).any (fun y => y.path == p) = false) (fun i => l.length - i) 0 ?_ ⟨by omega, rfl⟩ ?_
  · (refine ⟨?_, ?_, rfl⟩ <;> repeat' (first | exact rfl | exact trivial | refine ⟨?_, ?_⟩ | fail) <;> (conv => whnf))
    all_goals simp
  rintro i ⟨hi, hI⟩
  (conv => whnf); refine ⟨fun h1 => ?_, fun h1 => ?_⟩
  · have h1 : i < l.length := by simpa using h1
    obtain ⟨b, hb⟩ := get_lt h1
    repeat ((conv => whnf); first | refine ⟨fun h => h, ?_⟩ | refine ⟨(by kernel_rfl : drawOk _ _ = true), ?_⟩ | refine ⟨fun (h : gtrue _) => by first | assumption | exact absurd (Eq.trans (Eq.symm h) (by assumption) : true = false) Bool.noConfusion, ?_⟩ | refine ⟨fun h => (absurd (Eq.trans (Eq.symm h) (by assumption) : true = false) Bool.noConfusion : False), ?_⟩ | refine ⟨_, w64 (by first | omega | ((try dsimp only at *); (try simp only [List.length_take, List.length_drop, List.length_map, List.length_append, List.length_cons, List.length_nil, List.length_replicate] at *); omega)), ?_⟩ | refine ⟨fun _ => ⟨by first | omega | ((try dsimp only at *); (try simp only [List.length_take, List.length_drop, List.length_map, List.length_append, List.length_cons, List.length_nil, List.length_replicate] at *); omega), by first | omega | ((try dsimp only at *); (try simp only [List.length_take, List.length_drop, List.length_map, List.length_append, List.length_cons, List.length_nil, List.length_replicate] at *); omega), by first | omega | ((try dsimp only at *); (try simp only [List.length_take, List.length_drop, List.length_map, List.length_append, List.length_cons, List.length_nil, List.length_replicate] at *); omega)⟩, ?_⟩ | refine ⟨by first | omega | ((try dsimp only at *); (try simp only [List.length_take, List.length_drop, List.length_map, List.length_append, List.length_cons, List.length_nil, List.length_replicate] at *); omega), ?_⟩ | refine ⟨fun h => ⟨by first | omega | ((try dsimp only at *); (try simp only [List.length_take, List.length_drop, List.length_map, List.length_append, List.length_cons, List.length_nil, List.length_replicate] at *); omega), by first | omega | ((try dsimp only at *); (try simp only [List.length_take, List.length_drop, List.length_map, List.length_append, List.length_cons, List.length_nil, List.length_replicate] at *); omega)⟩, ?_⟩ | refine ⟨fun (r : List AV) hr c hc => by simp [encS] at hr; (try subst hr); simp at hc; (try subst hc); rfl, ?_⟩ | refine ⟨noOwn (by rfl), ?_⟩ | refine ⟨encI b, fun _ => ⟨by omega, by simp [hb]⟩, ?_⟩)
    refine ⟨(b, p), rfl, fun _ => trivial, ?_⟩
    (conv => whnf); refine ⟨fun h2 => ?_, fun h2 => ?_⟩
    · have h2 : (b.path == p) = true := h2
      conv => whnf
      exact ⟨trivial, eqN' (fnd_hit hI hb h2).symm⟩
    · have h2 : (b.path == p) = false := h2
      repeat ((conv => whnf); first | refine ⟨fun h => h, ?_⟩ | refine ⟨(by kernel_rfl : drawOk _ _ = true), ?_⟩ | refine ⟨fun (h : gtrue _) => by first | assumption | exact absurd (Eq.trans (Eq.symm h) (by assumption) : true = false) Bool.noConfusion, ?_⟩ | refine ⟨fun h => (absurd (Eq.trans (Eq.symm h) (by assumption) : true = false) Bool.noConfusion : False), ?_⟩ | refine ⟨_, w64 (by first | omega | ((try dsimp only at *); (try simp only [List.length_take, List.length_drop, List.length_map, List.length_append, List.length_cons, List.length_nil, List.length_replicate] at *); omega)), ?_⟩ | refine ⟨fun _ => ⟨by first | omega | ((try dsimp only at *); (try simp only [List.length_take, List.length_drop, List.length_map, List.length_append, List.length_cons, List.length_nil, List.length_replicate] at *); omega), by first | omega | ((try dsimp only at *); (try simp only [List.length_take, List.length_drop, List.length_map, List.length_append, List.length_cons, List.length_nil, List.length_replicate] at *); omega), by first | omega | ((try dsimp only at *); (try simp only [List.length_take, List.length_drop, List.length_map, List.length_append, List.length_cons, List.length_nil, List.length_replicate] at *); omega)⟩, ?_⟩ | refine ⟨by first | omega | ((try dsimp only at *); (try simp only [List.length_take, List.length_drop, List.length_map, List.length_append, List.length_cons, List.length_nil, List.length_replicate] at *); omega), ?_⟩ | refine ⟨fun h => ⟨by first | omega | ((try dsimp only at *); (try simp only [List.length_take, List.length_drop, List.length_map, List.length_append, List.length_cons, List.length_nil, List.length_replicate] at *); omega), by first | omega | ((try dsimp only at *); (try simp only [List.length_take, List.length_drop, List.length_map, List.length_append, List.length_cons, List.length_nil, List.length_replicate] at *); omega)⟩, ?_⟩ | refine ⟨fun (r : List AV) hr c hc => by simp [encS] at hr; (try subst hr); simp at hc; (try subst hc); rfl, ?_⟩ | refine ⟨noOwn (by rfl), ?_⟩)
      refine again (i + 1) ?_ ⟨h1, any_take_succ hI hb h2⟩ (by first | omega | (simp; done) | (simp; omega))
      (refine ⟨?_, ?_, rfl⟩ <;> repeat' (first | exact rfl | exact trivial | refine ⟨?_, ?_⟩ | fail) <;> (conv => whnf))
  · have h1 : i = l.length := by
      have : ¬ i < l.length := by simpa using h1
      omega
    subst h1
    rw [List.take_length] at hI
    conv => whnf
    exact ⟨trivial, eqN' (fnd_none hI).symm⟩
theorem ok_slices_IndexFunc_Item : ConOk Try.prog 71 c_slices_IndexFunc_Item := meets_ok (tabT _ _) (FOk.cons ok_impl_itemAt_1 FOk.nil) mixed Try.func71 rfl Try.call71 (by decide) (by kernel_rfl) m_slices_IndexFunc_Item (by intro _ (y : (Tr × Str)) _; exact ⟨by simp [c_slices_IndexFunc_Item, con, AV.noRd, noRdCells, noRdRows, noRdRows_map', encS], by simp [c_slices_IndexFunc_Item, con, noRdCells]⟩)

def c_impl_itemAt : PCon := con [mS 4, mC] true (Tr × Str) (fun x => [rdT x.1, .str x.2]) (fun x => x.1.length ≤ 4194304) (fun x => .int .i64 (fnd (fun y => y.path == x.2) x.1))
def E_impl_itemAt : Env := ⟨lookup tyTab, lookup [(71, c_slices_IndexFunc_Item)], [0, 1, 2, 3, 4]⟩
set_option maxRecDepth 100000 in
set_option maxHeartbeats 4000000 in
theorem m_impl_itemAt : Meets E_impl_itemAt (codeOf Try.f48) Try.f48.results.toList c_impl_itemAt := by
  rintro ⟨l, p⟩ hs
  refine ⟨trivial, ?_⟩
  conv => whnf
  refine ⟨(l, p), rfl, fun _ => hs, ?_⟩
  conv => whnf
  exact ⟨trivial, rfl⟩
theorem ok_impl_itemAt : ConOk Try.prog 48 c_impl_itemAt := meets_ok (tabT _ _) (FOk.cons ok_slices_IndexFunc_Item FOk.nil) mixed Try.func48 rfl Try.call48 (by decide) (by kernel_rfl) m_impl_itemAt (by intro _ (y : (Tr × Str)) _; exact ⟨by simp [c_impl_itemAt, con, AV.noRd, noRdCells, noRdRows, noRdRows_map', encS], by simp [c_impl_itemAt, con, noRdCells]⟩)

def c_impl_TreeGet : PCon := con [mS 4, mC] true (Tr × Str) (fun x => [rdT x.1, .str x.2]) (fun x => smT x.1) (fun x => resGet (treeGet x.1 x.2))
def E_impl_TreeGet : Env := ⟨lookup tyTab, lookup [(48, c_impl_itemAt)], [0, 1, 2, 4, 5, 6, 8, 14]⟩
set_option maxRecDepth 100000 in
set_option maxHeartbeats 4000000 in
theorem m_impl_TreeGet : Meets E_impl_TreeGet (codeOf Try.f43) Try.f43.results.toList c_impl_TreeGet := by
  rintro ⟨t, p⟩ hs
  obtain ⟨hs1, hs2⟩ : smT t := hs
  refine ⟨trivial, ?_⟩
  (conv => whnf); refine ⟨fun h1 => ?_, fun h1 => ?_⟩
  · have h1 : (p == sl) = true := h1
    conv => whnf
    rw [show c_impl_TreeGet.res (t, p) = .tup [.agg (encI It.top), .bool true] by show resGet (treeGet t p) = _; simp [treeGet, h1]; rfl]
    exact ⟨trivial, ⟨rfl, rfl, rfl, rfl, trivial⟩, rfl, trivial⟩
  have h1 : (p == sl) = false := h1
  have hd : treeGet t p = t.find? (fun y => y.path == p) := by simp [treeGet, h1]
  conv => whnf
  refine ⟨(t, p), rfl, fun _ => hs1, ?_⟩
  (conv => whnf); refine ⟨fun h2 => ?_, fun h2 => ?_⟩
  · have h2 : t.any (fun y => y.path == p) = false := by
      rw [← fnd_pos]; simpa using h2
    conv => whnf
    rw [show c_impl_TreeGet.res (t, p) = .tup [.agg (encI It.none), .bool false] by show resGet (treeGet t p) = _; rw [hd, any_find h2]; rfl]
    exact ⟨trivial, ⟨rfl, rfl, rfl, rfl, trivial⟩, rfl, trivial⟩
  · have h2 : t.any (fun y => y.path == p) = true := by
      rw [← fnd_pos]; simpa using h2
    obtain ⟨b, hb1, hb2⟩ := fnd_get h2
    have hg := fnd_ge (p := fun y : It => y.path == p) (l := t)
    have hp0 : 0 ≤ fnd (fun y : It => y.path == p) t := by have := fnd_pos (p := fun y : It => y.path == p) (l := t); rw [h2] at this; simpa using this
    repeat ((conv => whnf); first | refine ⟨fun h => h, ?_⟩ | refine ⟨(by kernel_rfl : drawOk _ _ = true), ?_⟩ | refine ⟨fun (h : gtrue _) => by first | assumption | exact absurd (Eq.trans (Eq.symm h) (by assumption) : true = false) Bool.noConfusion, ?_⟩ | refine ⟨fun h => (absurd (Eq.trans (Eq.symm h) (by assumption) : true = false) Bool.noConfusion : False), ?_⟩ | refine ⟨_, w64 (by first | omega | ((try dsimp only at *); (try simp only [List.length_take, List.length_drop, List.length_map, List.length_append, List.length_cons, List.length_nil, List.length_replicate] at *); omega)), ?_⟩ | refine ⟨fun _ => ⟨by first | omega | ((try dsimp only at *); (try simp only [List.length_take, List.length_drop, List.length_map, List.length_append, List.length_cons, List.length_nil, List.length_replicate] at *); omega), by first | omega | ((try dsimp only at *); (try simp only [List.length_take, List.length_drop, List.length_map, List.length_append, List.length_cons, List.length_nil, List.length_replicate] at *); omega), by first | omega | ((try dsimp only at *); (try simp only [List.length_take, List.length_drop, List.length_map, List.length_append, List.length_cons, List.length_nil, List.length_replicate] at *); omega)⟩, ?_⟩ | refine ⟨by first | omega | ((try dsimp only at *); (try simp only [List.length_take, List.length_drop, List.length_map, List.length_append, List.length_cons, List.length_nil, List.length_replicate] at *); omega), ?_⟩ | refine ⟨fun h => ⟨by first | omega | ((try dsimp only at *); (try simp only [List.length_take, List.length_drop, List.length_map, List.length_append, List.length_cons, List.length_nil, List.length_replicate] at *); omega), by first | omega | ((try dsimp only at *); (try simp only [List.length_take, List.length_drop, List.length_map, List.length_append, List.length_cons, List.length_nil, List.length_replicate] at *); omega)⟩, ?_⟩ | refine ⟨fun (r : List AV) hr c hc => by simp [encS] at hr; (try subst hr); simp at hc; (try subst hc); rfl, ?_⟩ | refine ⟨noOwn (by rfl), ?_⟩ | refine ⟨encI b, fun _ => ⟨hp0, get_map hb1⟩, ?_⟩)
    rw [show c_impl_TreeGet.res (t, p) = .tup [.agg (encI b), .bool true] by show resGet (treeGet t p) = _; rw [hd, hb2]; rfl]
    exact ⟨trivial, ⟨rfl, rfl, rfl, rfl, trivial⟩, rfl, trivial⟩
theorem ok_impl_TreeGet : ConOk Try.prog 43 c_impl_TreeGet := meets_ok (tabT _ _) (FOk.cons ok_impl_itemAt FOk.nil) mixed Try.func43 rfl Try.call43 (by decide) (by kernel_rfl) m_impl_TreeGet (by intro _ (y : Tr × Str) _; refine ⟨?_, trivial⟩; show AV.noRd (resGet (treeGet y.1 y.2)); simp [resGet, AV.noRd, noRdCells, encI])


end Go.GH

set_option linter.unusedVariables false
set_option linter.unusedSimpArgs false
namespace Go.GH
open Go Go.Proofs

def c_impl_TreeOk : PCon := con [mS 4] true Tr (fun t => [rdT t]) smT (fun t => .bool (treeOk t))
def E_impl_TreeOk : Env := ⟨lookup tyTab, lookup [(43, c_impl_TreeGet), (64, c_impl_itemOk), (65, c_impl_Above)], [0, 1, 2, 3, 4, 5, 6, 10, 12, 13, 14, 15, 37, 52]⟩
set_option maxRecDepth 100000 in
set_option maxHeartbeats 4000000 in
theorem m_impl_TreeOk : Meets E_impl_TreeOk (codeOf Try.f39) Try.f39.results.toList c_impl_TreeOk := by
  intro (t : Tr) hs
  obtain ⟨hs1, hs2⟩ : smT t := hs
  refine ⟨trivial, ?_⟩
  (conv => whnf); refine ⟨fun h1 => ?_, fun h1 => ?_⟩
  · conv => whnf
    exact ⟨trivial, eqB (by have h1 : ¬ t.length ≤ 40 := by simp at h1; omega
                            simp [treeOk, h1])⟩
  have h1 : t.length ≤ 40 := by simp at h1; omega
  repeat ((conv => whnf); first | refine ⟨fun h => h, ?_⟩ | refine ⟨(by kernel_rfl : drawOk _ _ = true), ?_⟩ | refine ⟨fun (h : gtrue _) => by first | assumption | exact absurd (Eq.trans (Eq.symm h) (by assumption) : true = false) Bool.noConfusion, ?_⟩ | refine ⟨fun h => (absurd (Eq.trans (Eq.symm h) (by assumption) : true = false) Bool.noConfusion : False), ?_⟩ | refine ⟨_, w64 (by first | omega | ((try dsimp only at *); (try simp only [List.length_take, List.length_drop, List.length_map, List.length_append, List.length_cons, List.length_nil, List.length_replicate] at *); omega)), ?_⟩ | refine ⟨fun _ => ⟨by first | omega | ((try dsimp only at *); (try simp only [List.length_take, List.length_drop, List.length_map, List.length_append, List.length_cons, List.length_nil, List.length_replicate] at *); omega), by first | omega | ((try dsimp only at *); (try simp only [List.length_take, List.length_drop, List.length_map, List.length_append, List.length_cons, List.length_nil, List.length_replicate] at *); omega), by first | omega | ((try dsimp only at *); (try simp only [List.length_take, List.length_drop, List.length_map, List.length_append, List.length_cons, List.length_nil, List.length_replicate] at *); omega)⟩, ?_⟩ | refine ⟨by first | omega | ((try dsimp only at *); (try simp only [List.length_take, List.length_drop, List.length_map, List.length_append, List.length_cons, List.length_nil, List.length_replicate] at *); omega), ?_⟩ | refine ⟨fun h => ⟨by first | omega | ((try dsimp only at *); (try simp only [List.length_take, List.length_drop, List.length_map, List.length_append, List.length_cons, List.length_nil, List.length_replicate] at *); omega), by first | omega | ((try dsimp only at *); (try simp only [List.length_take, List.length_drop, List.length_map, List.length_append, List.length_cons, List.length_nil, List.length_replicate] at *); omega)⟩, ?_⟩ | refine ⟨fun (r : List AV) hr c hc => by simp [encS] at hr; (try subst hr); simp at hc; (try subst hc); rfl, ?_⟩ | refine ⟨noOwn (by rfl), ?_⟩)
  refine loop_rule (fun i : Nat => ⟨[(1, ⟨none, .bx 0 0⟩), (12, ⟨none, .rd 4 (t.map encI)⟩), (13, ⟨none, .int .i64 t.length⟩), (14, ⟨none, .int .i64 i⟩)], [(0, .own 1 [[.rd 4 (t.map encI)]])], 1⟩)
    (fun i => i ≤ t.length ∧ ∀ j, j < i → chk t j = true) (fun i => t.length - i) 0 ?_ ⟨by omega, fun j hj => by omega⟩ ?_
  · (refine ⟨?_, ?_, rfl⟩ <;> repeat' (first | exact rfl | exact trivial | refine ⟨?_, ?_⟩ | fail) <;> (conv => whnf))
    all_goals simp
  rintro i ⟨hi, hI⟩
  (conv => whnf); refine ⟨fun h2 => ?_, fun h2 => ?_⟩
  · have h2 : i < t.length := by simpa using h2
    obtain ⟨b, hb⟩ := get_lt h2
    have hbs := hs2 b (List.mem_of_getElem? hb)
    have hbad : ∀ {q : Bool}, chk t i = q → q = false → treeOk t = false := fun h e => treeOk_bad h2 (h.trans e)
    generalize hpv : t.getD (i - 1) It.none = pv
    have hprev : 0 < i → t[i - 1]? = some pv := fun h => by
      rw [← hpv, List.getD_eq_getElem?_getD, List.getElem?_eq_getElem (by omega)]; rfl
    have hix : ∀ {A : Bool}, gtrue (some (A && decide ((i : Int) > 0))) → (0 : Int) ≤ (i : Int) - 1 ∧ (t.map encI)[((i : Int) - 1).toNat]? = some (encI pv) := by
      intro A h
      have hi0 : 0 < i := by simp [gtrue] at h; omega
      exact ⟨by omega, by rw [show ((i : Int) - 1).toNat = i - 1 by omega]; exact get_map (hprev hi0)⟩
    repeat ((conv => whnf); first | refine ⟨fun h => h, ?_⟩ | refine ⟨(by kernel_rfl : drawOk _ _ = true), ?_⟩ | refine ⟨fun (h : gtrue _) => by first | assumption | exact absurd (Eq.trans (Eq.symm h) (by assumption) : true = false) Bool.noConfusion, ?_⟩ | refine ⟨fun h => (absurd (Eq.trans (Eq.symm h) (by assumption) : true = false) Bool.noConfusion : False), ?_⟩ | refine ⟨_, w64 (by first | omega | ((try dsimp only at *); (try simp only [List.length_take, List.length_drop, List.length_map, List.length_append, List.length_cons, List.length_nil, List.length_replicate] at *); omega)), ?_⟩ | refine ⟨fun _ => ⟨by first | omega | ((try dsimp only at *); (try simp only [List.length_take, List.length_drop, List.length_map, List.length_append, List.length_cons, List.length_nil, List.length_replicate] at *); omega), by first | omega | ((try dsimp only at *); (try simp only [List.length_take, List.length_drop, List.length_map, List.length_append, List.length_cons, List.length_nil, List.length_replicate] at *); omega), by first | omega | ((try dsimp only at *); (try simp only [List.length_take, List.length_drop, List.length_map, List.length_append, List.length_cons, List.length_nil, List.length_replicate] at *); omega)⟩, ?_⟩ | refine ⟨by first | omega | ((try dsimp only at *); (try simp only [List.length_take, List.length_drop, List.length_map, List.length_append, List.length_cons, List.length_nil, List.length_replicate] at *); omega), ?_⟩ | refine ⟨fun h => ⟨by first | omega | ((try dsimp only at *); (try simp only [List.length_take, List.length_drop, List.length_map, List.length_append, List.length_cons, List.length_nil, List.length_replicate] at *); omega), by first | omega | ((try dsimp only at *); (try simp only [List.length_take, List.length_drop, List.length_map, List.length_append, List.length_cons, List.length_nil, List.length_replicate] at *); omega)⟩, ?_⟩ | refine ⟨fun (r : List AV) hr c hc => by simp [encS] at hr; (try subst hr); simp at hc; (try subst hc); rfl, ?_⟩ | refine ⟨noOwn (by rfl), ?_⟩ | refine ⟨encI b, fun _ => ⟨by omega, by simp [hb]⟩, ?_⟩)
    refine ⟨b, rfl, fun _ => hbs, ?_⟩
    repeat ((conv => whnf); first | refine ⟨fun h => h, ?_⟩ | refine ⟨(by kernel_rfl : drawOk _ _ = true), ?_⟩ | refine ⟨fun (h : gtrue _) => by first | assumption | exact absurd (Eq.trans (Eq.symm h) (by assumption) : true = false) Bool.noConfusion, ?_⟩ | refine ⟨fun h => (absurd (Eq.trans (Eq.symm h) (by assumption) : true = false) Bool.noConfusion : False), ?_⟩ | refine ⟨_, w64 (by first | omega | ((try dsimp only at *); (try simp only [List.length_take, List.length_drop, List.length_map, List.length_append, List.length_cons, List.length_nil, List.length_replicate] at *); omega)), ?_⟩ | refine ⟨fun _ => ⟨by first | omega | ((try dsimp only at *); (try simp only [List.length_take, List.length_drop, List.length_map, List.length_append, List.length_cons, List.length_nil, List.length_replicate] at *); omega), by first | omega | ((try dsimp only at *); (try simp only [List.length_take, List.length_drop, List.length_map, List.length_append, List.length_cons, List.length_nil, List.length_replicate] at *); omega), by first | omega | ((try dsimp only at *); (try simp only [List.length_take, List.length_drop, List.length_map, List.length_append, List.length_cons, List.length_nil, List.length_replicate] at *); omega)⟩, ?_⟩ | refine ⟨by first | omega | ((try dsimp only at *); (try simp only [List.length_take, List.length_drop, List.length_map, List.length_append, List.length_cons, List.length_nil, List.length_replicate] at *); omega), ?_⟩ | refine ⟨fun h => ⟨by first | omega | ((try dsimp only at *); (try simp only [List.length_take, List.length_drop, List.length_map, List.length_append, List.length_cons, List.length_nil, List.length_replicate] at *); omega), by first | omega | ((try dsimp only at *); (try simp only [List.length_take, List.length_drop, List.length_map, List.length_append, List.length_cons, List.length_nil, List.length_replicate] at *); omega)⟩, ?_⟩ | refine ⟨fun (r : List AV) hr c hc => by simp [encS] at hr; (try subst hr); simp at hc; (try subst hc); rfl, ?_⟩ | refine ⟨noOwn (by rfl), ?_⟩ | refine ⟨encI pv, fun h => hix h, ?_⟩)
    have e1 : decide ((i : Int) > 0) = !(i == 0) := by
      rw [Bool.eq_iff_iff]
      simp
      omega
    (conv => whnf); refine ⟨fun h3 => ?_, fun h3 => ?_⟩
    · have h3 : (!itemOk b || (decide ((i : Int) > 0) && !strLt pv.path b.path)) = true := h3
      conv => whnf
      exact ⟨trivial, eqB (hbad (chk_eq hb hpv) (by
        rw [e1] at h3
        revert h3
        cases itemOk b <;> cases (i == 0) <;> cases strLt pv.path b.path <;> simp)).symm⟩
    have h3 : (itemOk b && (i == 0 || strLt pv.path b.path)) = true := by
      have h3 : (!itemOk b || (decide ((i : Int) > 0) && !strLt pv.path b.path)) = false := h3
      rw [e1] at h3
      revert h3
      cases itemOk b <;> cases (i == 0) <;> cases strLt pv.path b.path <;> simp
    conv => whnf
    refine ⟨b.path, rfl, fun _ => hbs.1, ?_⟩
    conv => whnf
    refine ⟨(t, above b.path), rfl, fun _ => ⟨hs1, hs2⟩, ?_⟩
    repeat ((conv => whnf); first | refine ⟨fun h => h, ?_⟩ | refine ⟨(by kernel_rfl : drawOk _ _ = true), ?_⟩ | refine ⟨fun (h : gtrue _) => by first | assumption | exact absurd (Eq.trans (Eq.symm h) (by assumption) : true = false) Bool.noConfusion, ?_⟩ | refine ⟨fun h => (absurd (Eq.trans (Eq.symm h) (by assumption) : true = false) Bool.noConfusion : False), ?_⟩ | refine ⟨_, w64 (by first | omega | ((try dsimp only at *); (try simp only [List.length_take, List.length_drop, List.length_map, List.length_append, List.length_cons, List.length_nil, List.length_replicate] at *); omega)), ?_⟩ | refine ⟨fun _ => ⟨by first | omega | ((try dsimp only at *); (try simp only [List.length_take, List.length_drop, List.length_map, List.length_append, List.length_cons, List.length_nil, List.length_replicate] at *); omega), by first | omega | ((try dsimp only at *); (try simp only [List.length_take, List.length_drop, List.length_map, List.length_append, List.length_cons, List.length_nil, List.length_replicate] at *); omega), by first | omega | ((try dsimp only at *); (try simp only [List.length_take, List.length_drop, List.length_map, List.length_append, List.length_cons, List.length_nil, List.length_replicate] at *); omega)⟩, ?_⟩ | refine ⟨by first | omega | ((try dsimp only at *); (try simp only [List.length_take, List.length_drop, List.length_map, List.length_append, List.length_cons, List.length_nil, List.length_replicate] at *); omega), ?_⟩ | refine ⟨fun h => ⟨by first | omega | ((try dsimp only at *); (try simp only [List.length_take, List.length_drop, List.length_map, List.length_append, List.length_cons, List.length_nil, List.length_replicate] at *); omega), by first | omega | ((try dsimp only at *); (try simp only [List.length_take, List.length_drop, List.length_map, List.length_append, List.length_cons, List.length_nil, List.length_replicate] at *); omega)⟩, ?_⟩ | refine ⟨fun (r : List AV) hr c hc => by simp [encS] at hr; (try subst hr); simp at hc; (try subst hc); rfl, ?_⟩ | refine ⟨noOwn (by rfl), ?_⟩)
    (conv => whnf); refine ⟨fun h5 => ?_, fun h5 => ?_⟩
    · conv => whnf
      exact ⟨trivial, eqB (hbad (chk_bad3 hb (by
        have h5 : (!(treeGet t (above b.path)).isSome || ((treeGet t (above b.path)).getD It.none).kind != 2) = true := h5
        unfold dirAt
        revert h5
        cases (treeGet t (above b.path)).isSome <;> simp)) rfl).symm⟩
    have h5 : dirAt t (above b.path) = true := by
      have h5 : (!(treeGet t (above b.path)).isSome || ((treeGet t (above b.path)).getD It.none).kind != 2) = false := h5
      unfold dirAt
      revert h5
      cases (treeGet t (above b.path)).isSome <;> simp
    repeat ((conv => whnf); first | refine ⟨fun h => h, ?_⟩ | refine ⟨(by kernel_rfl : drawOk _ _ = true), ?_⟩ | refine ⟨fun (h : gtrue _) => by first | assumption | exact absurd (Eq.trans (Eq.symm h) (by assumption) : true = false) Bool.noConfusion, ?_⟩ | refine ⟨fun h => (absurd (Eq.trans (Eq.symm h) (by assumption) : true = false) Bool.noConfusion : False), ?_⟩ | refine ⟨_, w64 (by first | omega | ((try dsimp only at *); (try simp only [List.length_take, List.length_drop, List.length_map, List.length_append, List.length_cons, List.length_nil, List.length_replicate] at *); omega)), ?_⟩ | refine ⟨fun _ => ⟨by first | omega | ((try dsimp only at *); (try simp only [List.length_take, List.length_drop, List.length_map, List.length_append, List.length_cons, List.length_nil, List.length_replicate] at *); omega), by first | omega | ((try dsimp only at *); (try simp only [List.length_take, List.length_drop, List.length_map, List.length_append, List.length_cons, List.length_nil, List.length_replicate] at *); omega), by first | omega | ((try dsimp only at *); (try simp only [List.length_take, List.length_drop, List.length_map, List.length_append, List.length_cons, List.length_nil, List.length_replicate] at *); omega)⟩, ?_⟩ | refine ⟨by first | omega | ((try dsimp only at *); (try simp only [List.length_take, List.length_drop, List.length_map, List.length_append, List.length_cons, List.length_nil, List.length_replicate] at *); omega), ?_⟩ | refine ⟨fun h => ⟨by first | omega | ((try dsimp only at *); (try simp only [List.length_take, List.length_drop, List.length_map, List.length_append, List.length_cons, List.length_nil, List.length_replicate] at *); omega), by first | omega | ((try dsimp only at *); (try simp only [List.length_take, List.length_drop, List.length_map, List.length_append, List.length_cons, List.length_nil, List.length_replicate] at *); omega)⟩, ?_⟩ | refine ⟨fun (r : List AV) hr c hc => by simp [encS] at hr; (try subst hr); simp at hc; (try subst hc); rfl, ?_⟩ | refine ⟨noOwn (by rfl), ?_⟩)
    refine again (i + 1) ?_ ⟨h2, fun j hj => ?_⟩ (by first | omega | (simp; done) | (simp; omega))
    · (refine ⟨?_, ?_, rfl⟩ <;> repeat' (first | exact rfl | exact trivial | refine ⟨?_, ?_⟩ | fail) <;> (conv => whnf))
    · rcases Nat.lt_or_ge j i with h | h
      · exact hI j h
      · rw [show j = i by omega, chk_eq hb hpv, h3, h5]; rfl
  · have h2 : i = t.length := by
      have : ¬ i < t.length := by simpa using h2
      omega
    subst h2
    conv => whnf
    exact ⟨trivial, eqB (treeOk_good h1 hI).symm⟩
theorem ok_impl_TreeOk : ConOk Try.prog 39 c_impl_TreeOk := meets_ok (tabT _ _) (FOk.cons ok_impl_TreeGet (FOk.cons ok_impl_itemOk (FOk.cons ok_impl_Above FOk.nil))) mixed Try.func39 rfl Try.call39 (by decide) (by kernel_rfl) m_impl_TreeOk (by intro _ (y : Tr) _; exact ⟨by simp [c_impl_TreeOk, con, AV.noRd, noRdCells, noRdRows, noRdRows_map', encS], by simp [c_impl_TreeOk, con, noRdCells]⟩)

def c_impl_Heaviest : PCon := con [mS 4] true Tr (fun t => [rdT t]) smT (fun t => .str (heaviest t))
def E_impl_Heaviest : Env := ⟨lookup tyTab, lookup [(39, c_impl_TreeOk)], [0, 1, 2, 3, 4, 6, 9, 11, 12, 13, 14, 26]⟩
set_option maxRecDepth 100000 in
set_option maxHeartbeats 4000000 in
theorem m_impl_Heaviest : Meets E_impl_Heaviest (codeOf Try.f17) Try.f17.results.toList c_impl_Heaviest := by
  intro (t : Tr) hs
  obtain ⟨hs1, hs2⟩ : smT t := hs
  refine ⟨trivial, ?_⟩
  conv => whnf
  refine ⟨t, rfl, fun _ => ⟨hs1, hs2⟩, ?_⟩
  (conv => whnf); refine ⟨fun h1 => ?_, fun h1 => ?_⟩
  · have h1 : treeOk t = false := by
      have h1 : (!treeOk t) = true := h1
      simpa using h1
    conv => whnf
    exact ⟨trivial, eqS (by simp [heaviest, h1])⟩
  have h1 : treeOk t = true := by
    have h1 : (!treeOk t) = false := h1
    simpa using h1
  have hd : heaviest t = (t.foldl heavy ([], -1)).1 := by simp [heaviest, h1]
  repeat ((conv => whnf); first | refine ⟨fun h => h, ?_⟩ | refine ⟨(by kernel_rfl : drawOk _ _ = true), ?_⟩ | refine ⟨fun (h : gtrue _) => by first | assumption | exact absurd (Eq.trans (Eq.symm h) (by assumption) : true = false) Bool.noConfusion, ?_⟩ | refine ⟨fun h => (absurd (Eq.trans (Eq.symm h) (by assumption) : true = false) Bool.noConfusion : False), ?_⟩ | refine ⟨_, w64 (by first | omega | ((try dsimp only at *); (try simp only [List.length_take, List.length_drop, List.length_map, List.length_append, List.length_cons, List.length_nil, List.length_replicate] at *); omega)), ?_⟩ | refine ⟨fun _ => ⟨by first | omega | ((try dsimp only at *); (try simp only [List.length_take, List.length_drop, List.length_map, List.length_append, List.length_cons, List.length_nil, List.length_replicate] at *); omega), by first | omega | ((try dsimp only at *); (try simp only [List.length_take, List.length_drop, List.length_map, List.length_append, List.length_cons, List.length_nil, List.length_replicate] at *); omega), by first | omega | ((try dsimp only at *); (try simp only [List.length_take, List.length_drop, List.length_map, List.length_append, List.length_cons, List.length_nil, List.length_replicate] at *); omega)⟩, ?_⟩ | refine ⟨by first | omega | ((try dsimp only at *); (try simp only [List.length_take, List.length_drop, List.length_map, List.length_append, List.length_cons, List.length_nil, List.length_replicate] at *); omega), ?_⟩ | refine ⟨fun h => ⟨by first | omega | ((try dsimp only at *); (try simp only [List.length_take, List.length_drop, List.length_map, List.length_append, List.length_cons, List.length_nil, List.length_replicate] at *); omega), by first | omega | ((try dsimp only at *); (try simp only [List.length_take, List.length_drop, List.length_map, List.length_append, List.length_cons, List.length_nil, List.length_replicate] at *); omega)⟩, ?_⟩ | refine ⟨fun (r : List AV) hr c hc => by simp [encS] at hr; (try subst hr); simp at hc; (try subst hc); rfl, ?_⟩ | refine ⟨noOwn (by rfl), ?_⟩)
  refine loop_rule (fun i : Nat => ⟨[(3, ⟨none, .str ((t.take i).foldl heavy ([], -1)).1⟩), (4, ⟨none, .int .i64 ((t.take i).foldl heavy ([], -1)).2⟩), (11, ⟨none, .rd 4 (t.map encI)⟩), (12, ⟨none, .int .i64 t.length⟩), (13, ⟨none, .int .i64 i⟩)], [], 0⟩)
    (fun i => i ≤ t.length) (fun i => t.length - i) 0 ?_ (by omega) ?_
  · (refine ⟨?_, ?_, rfl⟩ <;> repeat' (first | exact rfl | exact trivial | refine ⟨?_, ?_⟩ | fail) <;> (conv => whnf))
    all_goals simp
  intro i hi
  have hi : i ≤ t.length := hi
  (conv => whnf); refine ⟨fun h2 => ?_, fun h2 => ?_⟩
  · have h2 : i < t.length := by simpa using h2
    obtain ⟨b, hb⟩ := get_lt h2
    repeat ((conv => whnf); first | refine ⟨fun h => h, ?_⟩ | refine ⟨(by kernel_rfl : drawOk _ _ = true), ?_⟩ | refine ⟨fun (h : gtrue _) => by first | assumption | exact absurd (Eq.trans (Eq.symm h) (by assumption) : true = false) Bool.noConfusion, ?_⟩ | refine ⟨fun h => (absurd (Eq.trans (Eq.symm h) (by assumption) : true = false) Bool.noConfusion : False), ?_⟩ | refine ⟨_, w64 (by first | omega | ((try dsimp only at *); (try simp only [List.length_take, List.length_drop, List.length_map, List.length_append, List.length_cons, List.length_nil, List.length_replicate] at *); omega)), ?_⟩ | refine ⟨fun _ => ⟨by first | omega | ((try dsimp only at *); (try simp only [List.length_take, List.length_drop, List.length_map, List.length_append, List.length_cons, List.length_nil, List.length_replicate] at *); omega), by first | omega | ((try dsimp only at *); (try simp only [List.length_take, List.length_drop, List.length_map, List.length_append, List.length_cons, List.length_nil, List.length_replicate] at *); omega), by first | omega | ((try dsimp only at *); (try simp only [List.length_take, List.length_drop, List.length_map, List.length_append, List.length_cons, List.length_nil, List.length_replicate] at *); omega)⟩, ?_⟩ | refine ⟨by first | omega | ((try dsimp only at *); (try simp only [List.length_take, List.length_drop, List.length_map, List.length_append, List.length_cons, List.length_nil, List.length_replicate] at *); omega), ?_⟩ | refine ⟨fun h => ⟨by first | omega | ((try dsimp only at *); (try simp only [List.length_take, List.length_drop, List.length_map, List.length_append, List.length_cons, List.length_nil, List.length_replicate] at *); omega), by first | omega | ((try dsimp only at *); (try simp only [List.length_take, List.length_drop, List.length_map, List.length_append, List.length_cons, List.length_nil, List.length_replicate] at *); omega)⟩, ?_⟩ | refine ⟨fun (r : List AV) hr c hc => by simp [encS] at hr; (try subst hr); simp at hc; (try subst hc); rfl, ?_⟩ | refine ⟨noOwn (by rfl), ?_⟩ | refine ⟨encI b, fun _ => ⟨by omega, by simp [hb]⟩, ?_⟩)
    (conv => whnf); refine ⟨fun h3 => ?_, fun h3 => ?_⟩
    · repeat ((conv => whnf); first | refine ⟨fun h => h, ?_⟩ | refine ⟨(by kernel_rfl : drawOk _ _ = true), ?_⟩ | refine ⟨fun (h : gtrue _) => by first | assumption | exact absurd (Eq.trans (Eq.symm h) (by assumption) : true = false) Bool.noConfusion, ?_⟩ | refine ⟨fun h => (absurd (Eq.trans (Eq.symm h) (by assumption) : true = false) Bool.noConfusion : False), ?_⟩ | refine ⟨_, w64 (by first | omega | ((try dsimp only at *); (try simp only [List.length_take, List.length_drop, List.length_map, List.length_append, List.length_cons, List.length_nil, List.length_replicate] at *); omega)), ?_⟩ | refine ⟨fun _ => ⟨by first | omega | ((try dsimp only at *); (try simp only [List.length_take, List.length_drop, List.length_map, List.length_append, List.length_cons, List.length_nil, List.length_replicate] at *); omega), by first | omega | ((try dsimp only at *); (try simp only [List.length_take, List.length_drop, List.length_map, List.length_append, List.length_cons, List.length_nil, List.length_replicate] at *); omega), by first | omega | ((try dsimp only at *); (try simp only [List.length_take, List.length_drop, List.length_map, List.length_append, List.length_cons, List.length_nil, List.length_replicate] at *); omega)⟩, ?_⟩ | refine ⟨by first | omega | ((try dsimp only at *); (try simp only [List.length_take, List.length_drop, List.length_map, List.length_append, List.length_cons, List.length_nil, List.length_replicate] at *); omega), ?_⟩ | refine ⟨fun h => ⟨by first | omega | ((try dsimp only at *); (try simp only [List.length_take, List.length_drop, List.length_map, List.length_append, List.length_cons, List.length_nil, List.length_replicate] at *); omega), by first | omega | ((try dsimp only at *); (try simp only [List.length_take, List.length_drop, List.length_map, List.length_append, List.length_cons, List.length_nil, List.length_replicate] at *); omega)⟩, ?_⟩ | refine ⟨fun (r : List AV) hr c hc => by simp [encS] at hr; (try subst hr); simp at hc; (try subst hc); rfl, ?_⟩ | refine ⟨noOwn (by rfl), ?_⟩)
      refine again (i + 1) ?_ h2 (by first | omega | (simp; done) | (simp; omega))
      rw [foldl_take hb, heavy, if_pos h3]
      (refine ⟨?_, ?_, rfl⟩ <;> repeat' (first | exact rfl | exact trivial | refine ⟨?_, ?_⟩ | fail) <;> (conv => whnf))
    · repeat ((conv => whnf); first | refine ⟨fun h => h, ?_⟩ | refine ⟨(by kernel_rfl : drawOk _ _ = true), ?_⟩ | refine ⟨fun (h : gtrue _) => by first | assumption | exact absurd (Eq.trans (Eq.symm h) (by assumption) : true = false) Bool.noConfusion, ?_⟩ | refine ⟨fun h => (absurd (Eq.trans (Eq.symm h) (by assumption) : true = false) Bool.noConfusion : False), ?_⟩ | refine ⟨_, w64 (by first | omega | ((try dsimp only at *); (try simp only [List.length_take, List.length_drop, List.length_map, List.length_append, List.length_cons, List.length_nil, List.length_replicate] at *); omega)), ?_⟩ | refine ⟨fun _ => ⟨by first | omega | ((try dsimp only at *); (try simp only [List.length_take, List.length_drop, List.length_map, List.length_append, List.length_cons, List.length_nil, List.length_replicate] at *); omega), by first | omega | ((try dsimp only at *); (try simp only [List.length_take, List.length_drop, List.length_map, List.length_append, List.length_cons, List.length_nil, List.length_replicate] at *); omega), by first | omega | ((try dsimp only at *); (try simp only [List.length_take, List.length_drop, List.length_map, List.length_append, List.length_cons, List.length_nil, List.length_replicate] at *); omega)⟩, ?_⟩ | refine ⟨by first | omega | ((try dsimp only at *); (try simp only [List.length_take, List.length_drop, List.length_map, List.length_append, List.length_cons, List.length_nil, List.length_replicate] at *); omega), ?_⟩ | refine ⟨fun h => ⟨by first | omega | ((try dsimp only at *); (try simp only [List.length_take, List.length_drop, List.length_map, List.length_append, List.length_cons, List.length_nil, List.length_replicate] at *); omega), by first | omega | ((try dsimp only at *); (try simp only [List.length_take, List.length_drop, List.length_map, List.length_append, List.length_cons, List.length_nil, List.length_replicate] at *); omega)⟩, ?_⟩ | refine ⟨fun (r : List AV) hr c hc => by simp [encS] at hr; (try subst hr); simp at hc; (try subst hc); rfl, ?_⟩ | refine ⟨noOwn (by rfl), ?_⟩)
      refine again (i + 1) ?_ h2 (by first | omega | (simp; done) | (simp; omega))
      rw [foldl_take hb, heavy, if_neg (by rw [show _ = false from h3]; exact Bool.false_ne_true)]
      (refine ⟨?_, ?_, rfl⟩ <;> repeat' (first | exact rfl | exact trivial | refine ⟨?_, ?_⟩ | fail) <;> (conv => whnf))
  · have h2 : i = t.length := by
      have : ¬ i < t.length := by simpa using h2
      omega
    subst h2
    rw [List.take_length]
    conv => whnf
    exact ⟨trivial, eqS hd.symm⟩
theorem ok_impl_Heaviest : ConOk Try.prog 17 c_impl_Heaviest := meets_ok (tabT _ _) (FOk.cons ok_impl_TreeOk FOk.nil) mixed Try.func17 rfl Try.call17 (by decide) (by kernel_rfl) m_impl_Heaviest (by intro _ (y : Tr) _; exact ⟨by simp [c_impl_Heaviest, con, AV.noRd, noRdCells, noRdRows, noRdRows_map', encS], by simp [c_impl_Heaviest, con, noRdCells]⟩)


end Go.GH

set_option linter.unusedVariables false
set_option linter.unusedSimpArgs false
namespace Go.GH
open Go Go.Proofs

def c_laws_szItem : PCon := con [.rd [none, none, none, none], mC] true (It × Int) (fun x => [.agg (encI x.1), .int .i64 x.2]) (fun x => 0 ≤ x.2 ∧ x.2 ≤ 4194304 ∧ x.1.path.length ≤ 9223372036854775807 ∧ x.1.data.length ≤ 9223372036854775807) (fun x => .int .i64 (szR x.2 (szI x.1)))
def E_laws_szItem : Env := ⟨lookup tyTab, lookup [], [0, 1, 2, 4, 11, 18]⟩
set_option maxRecDepth 100000 in
set_option maxHeartbeats 4000000 in
theorem m_laws_szItem : Meets E_laws_szItem (codeOf Try.f60) Try.f60.results.toList c_laws_szItem := by
  rintro ⟨x, left⟩ hs
  obtain ⟨h1, h2, h3, h4⟩ : 0 ≤ left ∧ left ≤ 4194304 ∧ x.path.length ≤ 9223372036854775807 ∧ x.data.length ≤ 9223372036854775807 := hs
  refine ⟨trivial, ?_⟩
  repeat ((conv => whnf); first | refine ⟨fun h => h, ?_⟩ | refine ⟨(by kernel_rfl : drawOk _ _ = true), ?_⟩ | refine ⟨fun (h : gtrue _) => by first | assumption | exact absurd (Eq.trans (Eq.symm h) (by assumption) : true = false) Bool.noConfusion, ?_⟩ | refine ⟨fun h => (absurd (Eq.trans (Eq.symm h) (by assumption) : true = false) Bool.noConfusion : False), ?_⟩ | refine ⟨_, w64 (by first | omega | ((try dsimp only at *); (try simp only [List.length_take, List.length_drop, List.length_map, List.length_append, List.length_cons, List.length_nil, List.length_replicate] at *); omega)), ?_⟩ | refine ⟨fun _ => ⟨by first | omega | ((try dsimp only at *); (try simp only [List.length_take, List.length_drop, List.length_map, List.length_append, List.length_cons, List.length_nil, List.length_replicate] at *); omega), by first | omega | ((try dsimp only at *); (try simp only [List.length_take, List.length_drop, List.length_map, List.length_append, List.length_cons, List.length_nil, List.length_replicate] at *); omega), by first | omega | ((try dsimp only at *); (try simp only [List.length_take, List.length_drop, List.length_map, List.length_append, List.length_cons, List.length_nil, List.length_replicate] at *); omega)⟩, ?_⟩ | refine ⟨by first | omega | ((try dsimp only at *); (try simp only [List.length_take, List.length_drop, List.length_map, List.length_append, List.length_cons, List.length_nil, List.length_replicate] at *); omega), ?_⟩ | refine ⟨fun h => ⟨by first | omega | ((try dsimp only at *); (try simp only [List.length_take, List.length_drop, List.length_map, List.length_append, List.length_cons, List.length_nil, List.length_replicate] at *); omega), by first | omega | ((try dsimp only at *); (try simp only [List.length_take, List.length_drop, List.length_map, List.length_append, List.length_cons, List.length_nil, List.length_replicate] at *); omega)⟩, ?_⟩ | refine ⟨fun (r : List AV) hr c hc => by simp [encS] at hr; (try subst hr); simp at hc; (try subst hc); rfl, ?_⟩ | refine ⟨noOwn (by rfl), ?_⟩)
  (conv => whnf); refine ⟨fun h5 => ?_, fun h5 => ?_⟩
  · have h5 : left - x.path.length < 0 := by simpa using h5
    conv => whnf
    exact ⟨trivial, eqN' (by unfold szR szI; dsimp only; rw [if_pos (by omega)])⟩
  have h5 : ¬ left - x.path.length < 0 := by simpa using h5
  repeat ((conv => whnf); first | refine ⟨fun h => h, ?_⟩ | refine ⟨(by kernel_rfl : drawOk _ _ = true), ?_⟩ | refine ⟨fun (h : gtrue _) => by first | assumption | exact absurd (Eq.trans (Eq.symm h) (by assumption) : true = false) Bool.noConfusion, ?_⟩ | refine ⟨fun h => (absurd (Eq.trans (Eq.symm h) (by assumption) : true = false) Bool.noConfusion : False), ?_⟩ | refine ⟨_, w64 (by first | omega | ((try dsimp only at *); (try simp only [List.length_take, List.length_drop, List.length_map, List.length_append, List.length_cons, List.length_nil, List.length_replicate] at *); omega)), ?_⟩ | refine ⟨fun _ => ⟨by first | omega | ((try dsimp only at *); (try simp only [List.length_take, List.length_drop, List.length_map, List.length_append, List.length_cons, List.length_nil, List.length_replicate] at *); omega), by first | omega | ((try dsimp only at *); (try simp only [List.length_take, List.length_drop, List.length_map, List.length_append, List.length_cons, List.length_nil, List.length_replicate] at *); omega), by first | omega | ((try dsimp only at *); (try simp only [List.length_take, List.length_drop, List.length_map, List.length_append, List.length_cons, List.length_nil, List.length_replicate] at *); omega)⟩, ?_⟩ | refine ⟨by first | omega | ((try dsimp only at *); (try simp only [List.length_take, List.length_drop, List.length_map, List.length_append, List.length_cons, List.length_nil, List.length_replicate] at *); omega), ?_⟩ | refine ⟨fun h => ⟨by first | omega | ((try dsimp only at *); (try simp only [List.length_take, List.length_drop, List.length_map, List.length_append, List.length_cons, List.length_nil, List.length_replicate] at *); omega), by first | omega | ((try dsimp only at *); (try simp only [List.length_take, List.length_drop, List.length_map, List.length_append, List.length_cons, List.length_nil, List.length_replicate] at *); omega)⟩, ?_⟩ | refine ⟨fun (r : List AV) hr c hc => by simp [encS] at hr; (try subst hr); simp at hc; (try subst hc); rfl, ?_⟩ | refine ⟨noOwn (by rfl), ?_⟩)
  (conv => whnf); refine ⟨fun h6 => ?_, fun h6 => ?_⟩
  · have h6 : left - x.path.length - x.data.length < 0 := by simpa using h6
    conv => whnf
    exact ⟨trivial, eqN' (by unfold szR szI; dsimp only; rw [if_pos (by omega)])⟩
  have h6 : ¬ left - x.path.length - x.data.length < 0 := by simpa using h6
  conv => whnf
  exact ⟨trivial, eqN' (by unfold szR szI; dsimp only; rw [if_neg (by omega)]; omega)⟩
theorem ok_laws_szItem : ConOk Try.prog 60 c_laws_szItem := meets_ok (tabT _ _) FOk.nil mixed Try.func60 rfl Try.call60 (by decide) (by kernel_rfl) m_laws_szItem (by intro _ (y : (It × Int)) _; exact ⟨by simp [c_laws_szItem, con, AV.noRd, noRdCells, noRdRows, noRdRows_map', encS, encI], by simp [c_laws_szItem, con, noRdCells]⟩)

def c_laws_szItemS : PCon := con [mS 4, mC] true (Tr × Int) (fun x => [.rd 4 (x.1.map encI), .int .i64 x.2]) (fun x => 0 ≤ x.2 ∧ x.2 ≤ 4194304 ∧ x.1.length ≤ 9223372036854775807 ∧ ∀ y, y ∈ x.1 → y.path.length ≤ 9223372036854775807 ∧ y.data.length ≤ 9223372036854775807) (fun x => .int .i64 (szR x.2 (szT x.1)))
def E_laws_szItemS : Env := ⟨lookup tyTab, lookup [(60, c_laws_szItem)], [0, 1, 4, 5, 11, 15, 25]⟩
set_option maxRecDepth 100000 in
set_option maxHeartbeats 4000000 in
theorem m_laws_szItemS : Meets E_laws_szItemS (codeOf Try.f36) Try.f36.results.toList c_laws_szItemS := by
  rintro ⟨t, left⟩ hs
  obtain ⟨h1, h2, h3, h4⟩ : 0 ≤ left ∧ left ≤ 4194304 ∧ t.length ≤ 9223372036854775807 ∧ ∀ y, y ∈ t → y.path.length ≤ 9223372036854775807 ∧ y.data.length ≤ 9223372036854775807 := hs
  refine ⟨trivial, ?_⟩
  repeat ((conv => whnf); first | refine ⟨fun h => h, ?_⟩ | refine ⟨(by kernel_rfl : drawOk _ _ = true), ?_⟩ | refine ⟨fun (h : gtrue _) => by first | assumption | exact absurd (Eq.trans (Eq.symm h) (by assumption) : true = false) Bool.noConfusion, ?_⟩ | refine ⟨fun h => (absurd (Eq.trans (Eq.symm h) (by assumption) : true = false) Bool.noConfusion : False), ?_⟩ | refine ⟨_, w64 (by first | omega | ((try dsimp only at *); (try simp only [List.length_take, List.length_drop, List.length_map, List.length_append, List.length_cons, List.length_nil, List.length_replicate] at *); omega)), ?_⟩ | refine ⟨fun _ => ⟨by first | omega | ((try dsimp only at *); (try simp only [List.length_take, List.length_drop, List.length_map, List.length_append, List.length_cons, List.length_nil, List.length_replicate] at *); omega), by first | omega | ((try dsimp only at *); (try simp only [List.length_take, List.length_drop, List.length_map, List.length_append, List.length_cons, List.length_nil, List.length_replicate] at *); omega), by first | omega | ((try dsimp only at *); (try simp only [List.length_take, List.length_drop, List.length_map, List.length_append, List.length_cons, List.length_nil, List.length_replicate] at *); omega)⟩, ?_⟩ | refine ⟨by first | omega | ((try dsimp only at *); (try simp only [List.length_take, List.length_drop, List.length_map, List.length_append, List.length_cons, List.length_nil, List.length_replicate] at *); omega), ?_⟩ | refine ⟨fun h => ⟨by first | omega | ((try dsimp only at *); (try simp only [List.length_take, List.length_drop, List.length_map, List.length_append, List.length_cons, List.length_nil, List.length_replicate] at *); omega), by first | omega | ((try dsimp only at *); (try simp only [List.length_take, List.length_drop, List.length_map, List.length_append, List.length_cons, List.length_nil, List.length_replicate] at *); omega)⟩, ?_⟩ | refine ⟨fun (r : List AV) hr c hc => by simp [encS] at hr; (try subst hr); simp at hc; (try subst hc); rfl, ?_⟩ | refine ⟨noOwn (by rfl), ?_⟩)
  (conv => whnf); refine ⟨fun h5 => ?_, fun h5 => ?_⟩
  · have h5 : left - t.length < 0 := by simpa using h5
    conv => whnf
    exact ⟨trivial, eqN' (by unfold szR szT; dsimp only; rw [if_pos (by omega)])⟩
  have h5 : ¬ left - t.length < 0 := by simpa using h5
  repeat ((conv => whnf); first | refine ⟨fun h => h, ?_⟩ | refine ⟨(by kernel_rfl : drawOk _ _ = true), ?_⟩ | refine ⟨fun (h : gtrue _) => by first | assumption | exact absurd (Eq.trans (Eq.symm h) (by assumption) : true = false) Bool.noConfusion, ?_⟩ | refine ⟨fun h => (absurd (Eq.trans (Eq.symm h) (by assumption) : true = false) Bool.noConfusion : False), ?_⟩ | refine ⟨_, w64 (by first | omega | ((try dsimp only at *); (try simp only [List.length_take, List.length_drop, List.length_map, List.length_append, List.length_cons, List.length_nil, List.length_replicate] at *); omega)), ?_⟩ | refine ⟨fun _ => ⟨by first | omega | ((try dsimp only at *); (try simp only [List.length_take, List.length_drop, List.length_map, List.length_append, List.length_cons, List.length_nil, List.length_replicate] at *); omega), by first | omega | ((try dsimp only at *); (try simp only [List.length_take, List.length_drop, List.length_map, List.length_append, List.length_cons, List.length_nil, List.length_replicate] at *); omega), by first | omega | ((try dsimp only at *); (try simp only [List.length_take, List.length_drop, List.length_map, List.length_append, List.length_cons, List.length_nil, List.length_replicate] at *); omega)⟩, ?_⟩ | refine ⟨by first | omega | ((try dsimp only at *); (try simp only [List.length_take, List.length_drop, List.length_map, List.length_append, List.length_cons, List.length_nil, List.length_replicate] at *); omega), ?_⟩ | refine ⟨fun h => ⟨by first | omega | ((try dsimp only at *); (try simp only [List.length_take, List.length_drop, List.length_map, List.length_append, List.length_cons, List.length_nil, List.length_replicate] at *); omega), by first | omega | ((try dsimp only at *); (try simp only [List.length_take, List.length_drop, List.length_map, List.length_append, List.length_cons, List.length_nil, List.length_replicate] at *); omega)⟩, ?_⟩ | refine ⟨fun (r : List AV) hr c hc => by simp [encS] at hr; (try subst hr); simp at hc; (try subst hc); rfl, ?_⟩ | refine ⟨noOwn (by rfl), ?_⟩)
  refine loop_rule (fun i : Nat => ⟨[(0, ⟨none, .rd 4 (t.map encI)⟩), (1, ⟨none, .int .i64 (left - t.length - ((t.take i).map szI).sum)⟩), (5, ⟨none, .int .i64 i⟩)], [], 0⟩)
    (fun i => i ≤ t.length ∧ 0 ≤ left - t.length - ((t.take i).map szI).sum) (fun i => t.length - i) 0 ?_ ⟨by omega, by simp; omega⟩ ?_
  · (refine ⟨?_, ?_, rfl⟩ <;> repeat' (first | exact rfl | exact trivial | refine ⟨?_, ?_⟩ | fail) <;> (conv => whnf))
    all_goals simp
  rintro i ⟨hi, hI⟩
  (conv => whnf); refine ⟨fun h6 => ?_, fun h6 => ?_⟩
  · have h6 : i < t.length := by simpa using h6
    obtain ⟨b, hb⟩ := get_lt h6
    have hbs := h4 b (List.mem_of_getElem? hb)
    have hsu := sum_take' (f := szI) hb
    have hle := sum_take_le (f := szI) (l := t) (i := i + 1)
    repeat ((conv => whnf); first | refine ⟨fun h => h, ?_⟩ | refine ⟨(by kernel_rfl : drawOk _ _ = true), ?_⟩ | refine ⟨fun (h : gtrue _) => by first | assumption | exact absurd (Eq.trans (Eq.symm h) (by assumption) : true = false) Bool.noConfusion, ?_⟩ | refine ⟨fun h => (absurd (Eq.trans (Eq.symm h) (by assumption) : true = false) Bool.noConfusion : False), ?_⟩ | refine ⟨_, w64 (by first | omega | ((try dsimp only at *); (try simp only [List.length_take, List.length_drop, List.length_map, List.length_append, List.length_cons, List.length_nil, List.length_replicate] at *); omega)), ?_⟩ | refine ⟨fun _ => ⟨by first | omega | ((try dsimp only at *); (try simp only [List.length_take, List.length_drop, List.length_map, List.length_append, List.length_cons, List.length_nil, List.length_replicate] at *); omega), by first | omega | ((try dsimp only at *); (try simp only [List.length_take, List.length_drop, List.length_map, List.length_append, List.length_cons, List.length_nil, List.length_replicate] at *); omega), by first | omega | ((try dsimp only at *); (try simp only [List.length_take, List.length_drop, List.length_map, List.length_append, List.length_cons, List.length_nil, List.length_replicate] at *); omega)⟩, ?_⟩ | refine ⟨by first | omega | ((try dsimp only at *); (try simp only [List.length_take, List.length_drop, List.length_map, List.length_append, List.length_cons, List.length_nil, List.length_replicate] at *); omega), ?_⟩ | refine ⟨fun h => ⟨by first | omega | ((try dsimp only at *); (try simp only [List.length_take, List.length_drop, List.length_map, List.length_append, List.length_cons, List.length_nil, List.length_replicate] at *); omega), by first | omega | ((try dsimp only at *); (try simp only [List.length_take, List.length_drop, List.length_map, List.length_append, List.length_cons, List.length_nil, List.length_replicate] at *); omega)⟩, ?_⟩ | refine ⟨fun (r : List AV) hr c hc => by simp [encS] at hr; (try subst hr); simp at hc; (try subst hc); rfl, ?_⟩ | refine ⟨noOwn (by rfl), ?_⟩ | refine ⟨encI b, fun _ => ⟨by omega, by simp [hb]⟩, ?_⟩)
    conv => whnf
    refine ⟨(b, left - t.length - ((t.take i).map szI).sum), rfl, fun _ => ⟨hI, by show _ ≤ _; omega, hbs⟩, ?_⟩
    (conv => whnf); refine ⟨fun h7 => ?_, fun h7 => ?_⟩
    · have h7 : szR (left - t.length - ((t.take i).map szI).sum) (szI b) < 0 := by simpa using h7
      have h7 : left - t.length - ((t.take i).map szI).sum - szI b < 0 := by
        unfold szR at h7; split at h7 <;> omega
      conv => whnf
      exact ⟨trivial, eqN' (by unfold szR szT; dsimp only; rw [if_pos (by omega)])⟩
    · have h7 : ¬ szR (left - t.length - ((t.take i).map szI).sum) (szI b) < 0 := by simpa using h7
      have h8 := szR_ok h7
      have h9 : szR (left - t.length - ((t.take i).map szI).sum) (szI b) = left - t.length - ((t.take (i + 1)).map szI).sum := by
        unfold szR; rw [if_neg (by omega)]; omega
      repeat ((conv => whnf); first | refine ⟨fun h => h, ?_⟩ | refine ⟨(by kernel_rfl : drawOk _ _ = true), ?_⟩ | refine ⟨fun (h : gtrue _) => by first | assumption | exact absurd (Eq.trans (Eq.symm h) (by assumption) : true = false) Bool.noConfusion, ?_⟩ | refine ⟨fun h => (absurd (Eq.trans (Eq.symm h) (by assumption) : true = false) Bool.noConfusion : False), ?_⟩ | refine ⟨_, w64 (by first | omega | ((try dsimp only at *); (try simp only [List.length_take, List.length_drop, List.length_map, List.length_append, List.length_cons, List.length_nil, List.length_replicate] at *); omega)), ?_⟩ | refine ⟨fun _ => ⟨by first | omega | ((try dsimp only at *); (try simp only [List.length_take, List.length_drop, List.length_map, List.length_append, List.length_cons, List.length_nil, List.length_replicate] at *); omega), by first | omega | ((try dsimp only at *); (try simp only [List.length_take, List.length_drop, List.length_map, List.length_append, List.length_cons, List.length_nil, List.length_replicate] at *); omega), by first | omega | ((try dsimp only at *); (try simp only [List.length_take, List.length_drop, List.length_map, List.length_append, List.length_cons, List.length_nil, List.length_replicate] at *); omega)⟩, ?_⟩ | refine ⟨by first | omega | ((try dsimp only at *); (try simp only [List.length_take, List.length_drop, List.length_map, List.length_append, List.length_cons, List.length_nil, List.length_replicate] at *); omega), ?_⟩ | refine ⟨fun h => ⟨by first | omega | ((try dsimp only at *); (try simp only [List.length_take, List.length_drop, List.length_map, List.length_append, List.length_cons, List.length_nil, List.length_replicate] at *); omega), by first | omega | ((try dsimp only at *); (try simp only [List.length_take, List.length_drop, List.length_map, List.length_append, List.length_cons, List.length_nil, List.length_replicate] at *); omega)⟩, ?_⟩ | refine ⟨fun (r : List AV) hr c hc => by simp [encS] at hr; (try subst hr); simp at hc; (try subst hc); rfl, ?_⟩ | refine ⟨noOwn (by rfl), ?_⟩)
      refine again (i + 1) ?_ ⟨h6, by omega⟩ (by first | omega | (simp; done) | (simp; omega))
      (refine ⟨?_, ?_, rfl⟩ <;> repeat' (first | exact rfl | exact trivial | refine ⟨?_, ?_⟩ | fail) <;> (conv => whnf))
      exact h9
  · have h6 : i = t.length := by
      have : ¬ i < t.length := by simpa using h6
      omega
    subst h6
    rw [List.take_length] at hI ⊢
    conv => whnf
    exact ⟨trivial, eqN' (by unfold szR szT; dsimp only; rw [if_neg (by omega)]; omega)⟩
theorem ok_laws_szItemS : ConOk Try.prog 36 c_laws_szItemS := meets_ok (tabT _ _) (FOk.cons ok_laws_szItem FOk.nil) mixed Try.func36 rfl Try.call36 (by decide) (by kernel_rfl) m_laws_szItemS (by intro _ (y : (Tr × Int)) _; exact ⟨by simp [c_laws_szItemS, con, AV.noRd, noRdCells, noRdRows, noRdRows_map', encS, encI], by simp [c_laws_szItemS, con, noRdCells]⟩)

def c_laws_szTree : PCon := con [mS 4, mC] true (Tr × Int) (fun x => [rdT x.1, .int .i64 x.2]) (fun x => 0 ≤ x.2 ∧ x.2 ≤ 4194304 ∧ x.1.length ≤ 9223372036854775807 ∧ ∀ y, y ∈ x.1 → y.path.length ≤ 9223372036854775807 ∧ y.data.length ≤ 9223372036854775807) (fun x => .int .i64 (szR x.2 (szT x.1)))
def E_laws_szTree : Env := ⟨lookup tyTab, lookup [(36, c_laws_szItemS)], [0, 1, 2, 4, 10]⟩
set_option maxRecDepth 100000 in
set_option maxHeartbeats 4000000 in
theorem m_laws_szTree : Meets E_laws_szTree (codeOf Try.f14) Try.f14.results.toList c_laws_szTree := by
  rintro ⟨t, left⟩ hs
  refine ⟨trivial, ?_⟩
  conv => whnf
  refine ⟨(t, left), rfl, fun _ => hs, ?_⟩
  (conv => whnf); refine ⟨fun h1 => ?_, fun h1 => ?_⟩
  · have h1 : szR left (szT t) < 0 := by simpa using h1
    conv => whnf
    exact ⟨trivial, eqN' (by
      show -1 = szR left (szT t)
      unfold szR at h1 ⊢; split at h1 <;> simp_all)⟩
  · conv => whnf
    exact ⟨trivial, rfl⟩
theorem ok_laws_szTree : ConOk Try.prog 14 c_laws_szTree := meets_ok (tabT _ _) (FOk.cons ok_laws_szItemS FOk.nil) mixed Try.func14 rfl Try.call14 (by decide) (by kernel_rfl) m_laws_szTree (by intro _ (y : (Tr × Int)) _; exact ⟨by simp [c_laws_szTree, con, AV.noRd, noRdCells, noRdRows, noRdRows_map', encS, encI], by simp [c_laws_szTree, con, noRdCells]⟩)

def c_laws_toItem : PCon := con [.rd [none, none, none, none]] true It (fun x => [.agg (encI x)]) (fun _ => True) (fun x => .agg (encI x))
def E_laws_toItem : Env := ⟨lookup tyTab, lookup [], [0, 1, 2, 3]⟩
set_option maxRecDepth 100000 in
set_option maxHeartbeats 4000000 in
theorem m_laws_toItem : Meets E_laws_toItem (codeOf Try.f63) Try.f63.results.toList c_laws_toItem := by
  intro (x : It) hs
  refine ⟨trivial, ?_⟩
  conv => whnf
  exact ⟨trivial, rfl, rfl, rfl, rfl, trivial⟩
theorem ok_laws_toItem : ConOk Try.prog 63 c_laws_toItem := meets_ok (tabT _ _) FOk.nil mixed Try.func63 rfl Try.call63 (by decide) (by kernel_rfl) m_laws_toItem (by intro _ (y : It) _; exact ⟨by simp [c_laws_toItem, con, AV.noRd, noRdCells, noRdRows, noRdRows_map', encS, encI], by simp [c_laws_toItem, con, noRdCells]⟩)

def c_laws_toItemS : PCon := con [mS 4] false Tr (fun t => [.rd 4 (t.map encI)]) smT (fun t => .own 4 (t.map encI))
def E_laws_toItemS : Env := ⟨lookup tyTab, lookup [(63, c_laws_toItem)], [0, 2, 3, 4, 11]⟩
set_option maxRecDepth 100000 in
set_option maxHeartbeats 4000000 in
theorem m_laws_toItemS : Meets E_laws_toItemS (codeOf Try.f38) Try.f38.results.toList c_laws_toItemS := by
  intro (t : Tr) hs
  obtain ⟨hs1, hs2⟩ : smT t := hs
  refine ⟨trivial, ?_⟩
  repeat ((conv => whnf); first | refine ⟨fun h => h, ?_⟩ | refine ⟨(by kernel_rfl : drawOk _ _ = true), ?_⟩ | refine ⟨fun (h : gtrue _) => by first | assumption | exact absurd (Eq.trans (Eq.symm h) (by assumption) : true = false) Bool.noConfusion, ?_⟩ | refine ⟨fun h => (absurd (Eq.trans (Eq.symm h) (by assumption) : true = false) Bool.noConfusion : False), ?_⟩ | refine ⟨_, w64 (by first | omega | ((try dsimp only at *); (try simp only [List.length_take, List.length_drop, List.length_map, List.length_append, List.length_cons, List.length_nil, List.length_replicate] at *); omega)), ?_⟩ | refine ⟨fun _ => ⟨by first | omega | ((try dsimp only at *); (try simp only [List.length_take, List.length_drop, List.length_map, List.length_append, List.length_cons, List.length_nil, List.length_replicate] at *); omega), by first | omega | ((try dsimp only at *); (try simp only [List.length_take, List.length_drop, List.length_map, List.length_append, List.length_cons, List.length_nil, List.length_replicate] at *); omega), by first | omega | ((try dsimp only at *); (try simp only [List.length_take, List.length_drop, List.length_map, List.length_append, List.length_cons, List.length_nil, List.length_replicate] at *); omega)⟩, ?_⟩ | refine ⟨by first | omega | ((try dsimp only at *); (try simp only [List.length_take, List.length_drop, List.length_map, List.length_append, List.length_cons, List.length_nil, List.length_replicate] at *); omega), ?_⟩ | refine ⟨fun h => ⟨by first | omega | ((try dsimp only at *); (try simp only [List.length_take, List.length_drop, List.length_map, List.length_append, List.length_cons, List.length_nil, List.length_replicate] at *); omega), by first | omega | ((try dsimp only at *); (try simp only [List.length_take, List.length_drop, List.length_map, List.length_append, List.length_cons, List.length_nil, List.length_replicate] at *); omega)⟩, ?_⟩ | refine ⟨fun (r : List AV) hr c hc => by simp [encS] at hr; (try subst hr); simp at hc; (try subst hc); rfl, ?_⟩ | refine ⟨noOwn (by rfl), ?_⟩)
  refine loop_rule (fun i : Nat => ⟨[(0, ⟨none, .rd 4 (t.map encI)⟩), (3, ⟨none, .view 0 [] 0 t.length⟩), (4, ⟨none, .int .i64 i⟩)], [(0, .own 4 (filled encI (encI It.none) t i))], 1⟩)
    (fun i => i ≤ t.length) (fun i => t.length - i) 0 ?_ (by omega) ?_
  · (refine ⟨?_, ?_, rfl⟩ <;> repeat' (first | exact rfl | exact trivial | refine ⟨?_, ?_⟩ | fail) <;> (conv => whnf))
    all_goals simp
    exact filled_zero.symm
  intro i hi
  have hi : i ≤ t.length := hi
  (conv => whnf); refine ⟨fun h6 => ?_, fun h6 => ?_⟩
  · have h6 : i < t.length := by simpa using h6
    obtain ⟨b, hb⟩ := get_lt h6
    repeat ((conv => whnf); first | refine ⟨fun h => h, ?_⟩ | refine ⟨(by kernel_rfl : drawOk _ _ = true), ?_⟩ | refine ⟨fun (h : gtrue _) => by first | assumption | exact absurd (Eq.trans (Eq.symm h) (by assumption) : true = false) Bool.noConfusion, ?_⟩ | refine ⟨fun h => (absurd (Eq.trans (Eq.symm h) (by assumption) : true = false) Bool.noConfusion : False), ?_⟩ | refine ⟨_, w64 (by first | omega | ((try dsimp only at *); (try simp only [List.length_take, List.length_drop, List.length_map, List.length_append, List.length_cons, List.length_nil, List.length_replicate] at *); omega)), ?_⟩ | refine ⟨fun _ => ⟨by first | omega | ((try dsimp only at *); (try simp only [List.length_take, List.length_drop, List.length_map, List.length_append, List.length_cons, List.length_nil, List.length_replicate] at *); omega), by first | omega | ((try dsimp only at *); (try simp only [List.length_take, List.length_drop, List.length_map, List.length_append, List.length_cons, List.length_nil, List.length_replicate] at *); omega), by first | omega | ((try dsimp only at *); (try simp only [List.length_take, List.length_drop, List.length_map, List.length_append, List.length_cons, List.length_nil, List.length_replicate] at *); omega)⟩, ?_⟩ | refine ⟨by first | omega | ((try dsimp only at *); (try simp only [List.length_take, List.length_drop, List.length_map, List.length_append, List.length_cons, List.length_nil, List.length_replicate] at *); omega), ?_⟩ | refine ⟨fun h => ⟨by first | omega | ((try dsimp only at *); (try simp only [List.length_take, List.length_drop, List.length_map, List.length_append, List.length_cons, List.length_nil, List.length_replicate] at *); omega), by first | omega | ((try dsimp only at *); (try simp only [List.length_take, List.length_drop, List.length_map, List.length_append, List.length_cons, List.length_nil, List.length_replicate] at *); omega)⟩, ?_⟩ | refine ⟨fun (r : List AV) hr c hc => by simp [encS] at hr; (try subst hr); simp at hc; (try subst hc); rfl, ?_⟩ | refine ⟨noOwn (by rfl), ?_⟩ | refine ⟨encI b, fun _ => ⟨by omega, by simp [hb]⟩, ?_⟩ | refine ⟨b, rfl, fun _ => trivial, ?_⟩ | refine ⟨encI It.none, by simp [filled_get h6], ?_⟩)
    refine again (i + 1) ?_ h6 (by first | omega | (simp; done) | (simp; omega))
    (refine ⟨?_, ?_, rfl⟩ <;> repeat' (first | exact rfl | exact trivial | refine ⟨?_, ?_⟩ | fail) <;> (conv => whnf))
    simp only [Nat.zero_add, Int.toNat_natCast]
    exact filled_set hb
  · have h6 : i = t.length := by
      have : ¬ i < t.length := by simpa using h6
      omega
    subst h6
    conv => whnf
    exact ⟨trivial, eqOwn (by rw [filled_all]; (try simp only [List.drop_zero, List.take_length, take_app]) <;> simp)⟩
theorem ok_laws_toItemS : ConOk Try.prog 38 c_laws_toItemS := meets_ok (tabT _ _) (FOk.cons ok_laws_toItem FOk.nil) mixed Try.func38 rfl Try.call38 (by decide) (by kernel_rfl) m_laws_toItemS (by intro _ (y : Tr) _; exact ⟨by simp [c_laws_toItemS, con, AV.noRd, noRdCells, noRdRows, noRdRows_map', encS, encI], by simp [c_laws_toItemS, con, noRdCells]⟩)

def c_laws_toTree : PCon := con [mS 4] false Tr (fun t => [rdT t]) smT (fun t => .agg [.own 4 (t.map encI)])
def E_laws_toTree : Env := ⟨lookup tyTab, lookup [(38, c_laws_toItemS)], [0, 1, 2, 3]⟩
set_option maxRecDepth 100000 in
set_option maxHeartbeats 4000000 in
theorem m_laws_toTree : Meets E_laws_toTree (codeOf Try.f16) Try.f16.results.toList c_laws_toTree := by
  intro (t : Tr) hs
  refine ⟨trivial, ?_⟩
  conv => whnf
  refine ⟨t, rfl, fun _ => hs, ?_⟩
  conv => whnf
  refine ⟨trivial, ⟨rfl, ?_⟩, trivial⟩
  simp only [List.drop_zero, List.take_length]
theorem ok_laws_toTree : ConOk Try.prog 16 c_laws_toTree := meets_ok (tabT _ _) (FOk.cons ok_laws_toItemS FOk.nil) mixed Try.func16 rfl Try.call16 (by decide) (by kernel_rfl) m_laws_toTree (by intro _ (y : Tr) _; exact ⟨by simp [c_laws_toTree, con, AV.noRd, noRdCells, noRdRows, noRdRows_map', encS, encI], by simp [c_laws_toTree, con, noRdCells]⟩)

def c_laws_eqItem : PCon := con [.rd [none, none, none, none], .rd [none, none, none, none]] true It (fun x => [.agg (encI x), .agg (encI x)]) (fun _ => True) (fun _ => .bool true)
def E_laws_eqItem : Env := ⟨lookup tyTab, lookup [], [0, 1, 2, 3, 4, 9, 14, 19, 24]⟩
set_option maxRecDepth 100000 in
set_option maxHeartbeats 4000000 in
theorem m_laws_eqItem : Meets E_laws_eqItem (codeOf Try.f66) Try.f66.results.toList c_laws_eqItem := by
  intro (x : It) hs
  refine ⟨trivial, ?_⟩
  conv => whnf
  refine ⟨fun h => ?_, fun _ => ?_⟩
  · have h : (!(x.path == x.path)) = true := h
    simp at h
  conv => whnf
  refine ⟨fun h => ?_, fun _ => ?_⟩
  · have h : (x.kind != x.kind) = true := h
    simp at h
  conv => whnf
  refine ⟨fun h => ?_, fun _ => ?_⟩
  · have h : (!(x.data == x.data)) = true := h
    simp at h
  conv => whnf
  refine ⟨fun h => ?_, fun _ => ?_⟩
  · have h : (x.time != x.time) = true := h
    simp at h
  conv => whnf
  exact ⟨trivial, rfl⟩
theorem ok_laws_eqItem : ConOk Try.prog 66 c_laws_eqItem := meets_ok (tabT _ _) FOk.nil mixed Try.func66 rfl Try.call66 (by decide) (by kernel_rfl) m_laws_eqItem (by intro _ (y : It) _; exact ⟨by simp [c_laws_eqItem, con, AV.noRd, noRdCells, noRdRows, noRdRows_map', encS, encI], by simp [c_laws_eqItem, con, noRdCells]⟩)

def c_laws_eqItemS : PCon := con [mS 4, mS 4] true Tr (fun t => [.rd 4 (t.map encI), .rd 4 (t.map encI)]) smT (fun _ => .bool true)
def E_laws_eqItemS : Env := ⟨lookup tyTab, lookup [(66, c_laws_eqItem)], [0, 1, 4, 5, 10, 14, 26]⟩
set_option maxRecDepth 100000 in
set_option maxHeartbeats 4000000 in
theorem m_laws_eqItemS : Meets E_laws_eqItemS (codeOf Try.f40) Try.f40.results.toList c_laws_eqItemS := by
  intro (t : Tr) hs
  obtain ⟨hs1, hs2⟩ : smT t := hs
  refine ⟨trivial, ?_⟩
  conv => whnf
  refine ⟨fun h => ?_, fun _ => ?_⟩
  · simp at h
  repeat ((conv => whnf); first | refine ⟨fun h => h, ?_⟩ | refine ⟨(by kernel_rfl : drawOk _ _ = true), ?_⟩ | refine ⟨fun (h : gtrue _) => by first | assumption | exact absurd (Eq.trans (Eq.symm h) (by assumption) : true = false) Bool.noConfusion, ?_⟩ | refine ⟨fun h => (absurd (Eq.trans (Eq.symm h) (by assumption) : true = false) Bool.noConfusion : False), ?_⟩ | refine ⟨_, w64 (by first | omega | ((try dsimp only at *); (try simp only [List.length_take, List.length_drop, List.length_map, List.length_append, List.length_cons, List.length_nil, List.length_replicate] at *); omega)), ?_⟩ | refine ⟨fun _ => ⟨by first | omega | ((try dsimp only at *); (try simp only [List.length_take, List.length_drop, List.length_map, List.length_append, List.length_cons, List.length_nil, List.length_replicate] at *); omega), by first | omega | ((try dsimp only at *); (try simp only [List.length_take, List.length_drop, List.length_map, List.length_append, List.length_cons, List.length_nil, List.length_replicate] at *); omega), by first | omega | ((try dsimp only at *); (try simp only [List.length_take, List.length_drop, List.length_map, List.length_append, List.length_cons, List.length_nil, List.length_replicate] at *); omega)⟩, ?_⟩ | refine ⟨by first | omega | ((try dsimp only at *); (try simp only [List.length_take, List.length_drop, List.length_map, List.length_append, List.length_cons, List.length_nil, List.length_replicate] at *); omega), ?_⟩ | refine ⟨fun h => ⟨by first | omega | ((try dsimp only at *); (try simp only [List.length_take, List.length_drop, List.length_map, List.length_append, List.length_cons, List.length_nil, List.length_replicate] at *); omega), by first | omega | ((try dsimp only at *); (try simp only [List.length_take, List.length_drop, List.length_map, List.length_append, List.length_cons, List.length_nil, List.length_replicate] at *); omega)⟩, ?_⟩ | refine ⟨fun (r : List AV) hr c hc => by simp [encS] at hr; (try subst hr); simp at hc; (try subst hc); rfl, ?_⟩ | refine ⟨noOwn (by rfl), ?_⟩)
  refine loop_rule (fun i : Nat => ⟨[(0, ⟨none, .rd 4 (t.map encI)⟩), (1, ⟨none, .rd 4 (t.map encI)⟩), (5, ⟨none, .int .i64 i⟩)], [], 0⟩)
    (fun i => i ≤ t.length) (fun i => t.length - i) 0 ?_ (by omega) ?_
  · (refine ⟨?_, ?_, rfl⟩ <;> repeat' (first | exact rfl | exact trivial | refine ⟨?_, ?_⟩ | fail) <;> (conv => whnf))
  intro i hi
  have hi : i ≤ t.length := hi
  (conv => whnf); refine ⟨fun h6 => ?_, fun h6 => ?_⟩
  · have h6 : i < t.length := by simpa using h6
    obtain ⟨b, hb⟩ := get_lt h6
    repeat ((conv => whnf); first | refine ⟨fun h => h, ?_⟩ | refine ⟨(by kernel_rfl : drawOk _ _ = true), ?_⟩ | refine ⟨fun (h : gtrue _) => by first | assumption | exact absurd (Eq.trans (Eq.symm h) (by assumption) : true = false) Bool.noConfusion, ?_⟩ | refine ⟨fun h => (absurd (Eq.trans (Eq.symm h) (by assumption) : true = false) Bool.noConfusion : False), ?_⟩ | refine ⟨_, w64 (by first | omega | ((try dsimp only at *); (try simp only [List.length_take, List.length_drop, List.length_map, List.length_append, List.length_cons, List.length_nil, List.length_replicate] at *); omega)), ?_⟩ | refine ⟨fun _ => ⟨by first | omega | ((try dsimp only at *); (try simp only [List.length_take, List.length_drop, List.length_map, List.length_append, List.length_cons, List.length_nil, List.length_replicate] at *); omega), by first | omega | ((try dsimp only at *); (try simp only [List.length_take, List.length_drop, List.length_map, List.length_append, List.length_cons, List.length_nil, List.length_replicate] at *); omega), by first | omega | ((try dsimp only at *); (try simp only [List.length_take, List.length_drop, List.length_map, List.length_append, List.length_cons, List.length_nil, List.length_replicate] at *); omega)⟩, ?_⟩ | refine ⟨by first | omega | ((try dsimp only at *); (try simp only [List.length_take, List.length_drop, List.length_map, List.length_append, List.length_cons, List.length_nil, List.length_replicate] at *); omega), ?_⟩ | refine ⟨fun h => ⟨by first | omega | ((try dsimp only at *); (try simp only [List.length_take, List.length_drop, List.length_map, List.length_append, List.length_cons, List.length_nil, List.length_replicate] at *); omega), by first | omega | ((try dsimp only at *); (try simp only [List.length_take, List.length_drop, List.length_map, List.length_append, List.length_cons, List.length_nil, List.length_replicate] at *); omega)⟩, ?_⟩ | refine ⟨fun (r : List AV) hr c hc => by simp [encS] at hr; (try subst hr); simp at hc; (try subst hc); rfl, ?_⟩ | refine ⟨noOwn (by rfl), ?_⟩ | refine ⟨encI b, fun _ => ⟨by omega, by simp [hb]⟩, ?_⟩ | refine ⟨b, rfl, fun _ => trivial, ?_⟩)
    conv => whnf
    refine ⟨fun h => absurd h (by decide), fun _ => ?_⟩
    repeat ((conv => whnf); first | refine ⟨fun h => h, ?_⟩ | refine ⟨(by kernel_rfl : drawOk _ _ = true), ?_⟩ | refine ⟨fun (h : gtrue _) => by first | assumption | exact absurd (Eq.trans (Eq.symm h) (by assumption) : true = false) Bool.noConfusion, ?_⟩ | refine ⟨fun h => (absurd (Eq.trans (Eq.symm h) (by assumption) : true = false) Bool.noConfusion : False), ?_⟩ | refine ⟨_, w64 (by first | omega | ((try dsimp only at *); (try simp only [List.length_take, List.length_drop, List.length_map, List.length_append, List.length_cons, List.length_nil, List.length_replicate] at *); omega)), ?_⟩ | refine ⟨fun _ => ⟨by first | omega | ((try dsimp only at *); (try simp only [List.length_take, List.length_drop, List.length_map, List.length_append, List.length_cons, List.length_nil, List.length_replicate] at *); omega), by first | omega | ((try dsimp only at *); (try simp only [List.length_take, List.length_drop, List.length_map, List.length_append, List.length_cons, List.length_nil, List.length_replicate] at *); omega), by first | omega | ((try dsimp only at *); (try simp only [List.length_take, List.length_drop, List.length_map, List.length_append, List.length_cons, List.length_nil, List.length_replicate] at *); omega)⟩, ?_⟩ | refine ⟨by first | omega | ((try dsimp only at *); (try simp only [List.length_take, List.length_drop, List.length_map, List.length_append, List.length_cons, List.length_nil, List.length_replicate] at *); omega), ?_⟩ | refine ⟨fun h => ⟨by first | omega | ((try dsimp only at *); (try simp only [List.length_take, List.length_drop, List.length_map, List.length_append, List.length_cons, List.length_nil, List.length_replicate] at *); omega), by first | omega | ((try dsimp only at *); (try simp only [List.length_take, List.length_drop, List.length_map, List.length_append, List.length_cons, List.length_nil, List.length_replicate] at *); omega)⟩, ?_⟩ | refine ⟨fun (r : List AV) hr c hc => by simp [encS] at hr; (try subst hr); simp at hc; (try subst hc); rfl, ?_⟩ | refine ⟨noOwn (by rfl), ?_⟩)
    refine again (i + 1) ?_ h6 (by first | omega | (simp; done) | (simp; omega))
    (refine ⟨?_, ?_, rfl⟩ <;> repeat' (first | exact rfl | exact trivial | refine ⟨?_, ?_⟩ | fail) <;> (conv => whnf))
  · conv => whnf
    exact ⟨trivial, rfl⟩
theorem ok_laws_eqItemS : ConOk Try.prog 40 c_laws_eqItemS := meets_ok (tabT _ _) (FOk.cons ok_laws_eqItem FOk.nil) mixed Try.func40 rfl Try.call40 (by decide) (by kernel_rfl) m_laws_eqItemS (by intro _ (y : Tr) _; exact ⟨by simp [c_laws_eqItemS, con, AV.noRd, noRdCells, noRdRows, noRdRows_map', encS, encI], by simp [c_laws_eqItemS, con, noRdCells]⟩)

def c_laws_eqTree : PCon := con [mS 4, mS 4] true Tr (fun t => [rdT t, rdT t]) smT (fun _ => .bool true)
def E_laws_eqTree : Env := ⟨lookup tyTab, lookup [(40, c_laws_eqItemS)], [0, 1, 2, 3, 4, 10]⟩
set_option maxRecDepth 100000 in
set_option maxHeartbeats 4000000 in
theorem m_laws_eqTree : Meets E_laws_eqTree (codeOf Try.f18) Try.f18.results.toList c_laws_eqTree := by
  intro (t : Tr) hs
  refine ⟨trivial, ?_⟩
  conv => whnf
  refine ⟨t, rfl, fun _ => hs, ?_⟩
  conv => whnf
  refine ⟨fun h => absurd h (by decide), fun _ => ?_⟩
  conv => whnf
  exact ⟨trivial, rfl⟩
theorem ok_laws_eqTree : ConOk Try.prog 18 c_laws_eqTree := meets_ok (tabT _ _) (FOk.cons ok_laws_eqItemS FOk.nil) mixed Try.func18 rfl Try.call18 (by decide) (by kernel_rfl) m_laws_eqTree (by intro _ (y : Tr) _; exact ⟨by simp [c_laws_eqTree, con, AV.noRd, noRdCells, noRdRows, noRdRows_map', encS, encI], by simp [c_laws_eqTree, con, noRdCells]⟩)

def c_laws_FnExactHeaviest : PCon := con [mS 4] true Tr (fun t => [rdT t]) (fun x => x.length ≤ 9223372036854775807 ∧ ∀ y, y ∈ x → y.path.length ≤ 9223372036854775807 ∧ y.data.length ≤ 9223372036854775807) (fun _ => .bool true)
def E_laws_FnExactHeaviest : Env := ⟨lookup tyTab, lookup [(14, c_laws_szTree), (15, c_spec_Heaviest), (16, c_laws_toTree), (17, c_impl_Heaviest), (18, c_laws_eqTree)], [0, 1, 2, 3, 4, 5, 6, 11, 21, 26]⟩
set_option maxRecDepth 100000 in
set_option maxHeartbeats 4000000 in
theorem m_laws_FnExactHeaviest : Meets E_laws_FnExactHeaviest (codeOf Try.f5) Try.f5.results.toList c_laws_FnExactHeaviest := by
  intro (t : Tr) hs
  refine ⟨trivial, ?_⟩
  conv => whnf
  refine ⟨(t, 1048576), rfl, fun _ => ⟨by show (0:Int) ≤ 1048576; decide, by show (1048576:Int) ≤ 4194304; decide, hs⟩, ?_⟩
  (conv => whnf); refine ⟨fun h1 => ?_, fun h1 => ?_⟩
  · conv => whnf
    exact ⟨trivial, rfl⟩
  have h1 : ¬ szR 1048576 (szT t) < 0 := by simpa using h1
  have hsm : smT t := szT_sm (n := 1048576) (by have := szR_ok h1; omega) (by omega)
  conv => whnf
  refine ⟨t, rfl, fun _ => hsm, ?_⟩
  conv => whnf
  refine ⟨t, by refine argT ?_; simp [rdI], fun _ => hsm, ?_⟩
  conv => whnf
  refine ⟨t, rfl, fun _ => hsm, ?_⟩
  conv => whnf
  refine ⟨t, by refine argT ?_; simp [rdI], fun _ => hsm, ?_⟩
  conv => whnf
  refine ⟨fun h => ?_, fun _ => ?_⟩
  · have h : (!(heaviest t == heaviest t)) = true := h
    simp at h
  conv => whnf
  refine ⟨t, rfl, fun _ => hsm, ?_⟩
  conv => whnf
  refine ⟨t, by refine argTT ?_ ?_ <;> simp [rdI], fun _ => hsm, ?_⟩
  repeat ((conv => whnf); first | refine ⟨fun h => h, ?_⟩ | refine ⟨(by kernel_rfl : drawOk _ _ = true), ?_⟩ | refine ⟨fun (h : gtrue _) => by first | assumption | exact absurd (Eq.trans (Eq.symm h) (by assumption) : true = false) Bool.noConfusion, ?_⟩ | refine ⟨fun h => (absurd (Eq.trans (Eq.symm h) (by assumption) : true = false) Bool.noConfusion : False), ?_⟩ | refine ⟨_, w64 (by first | omega | ((try dsimp only at *); (try simp only [List.length_take, List.length_drop, List.length_map, List.length_append, List.length_cons, List.length_nil, List.length_replicate] at *); omega)), ?_⟩ | refine ⟨fun _ => ⟨by first | omega | ((try dsimp only at *); (try simp only [List.length_take, List.length_drop, List.length_map, List.length_append, List.length_cons, List.length_nil, List.length_replicate] at *); omega), by first | omega | ((try dsimp only at *); (try simp only [List.length_take, List.length_drop, List.length_map, List.length_append, List.length_cons, List.length_nil, List.length_replicate] at *); omega), by first | omega | ((try dsimp only at *); (try simp only [List.length_take, List.length_drop, List.length_map, List.length_append, List.length_cons, List.length_nil, List.length_replicate] at *); omega)⟩, ?_⟩ | refine ⟨by first | omega | ((try dsimp only at *); (try simp only [List.length_take, List.length_drop, List.length_map, List.length_append, List.length_cons, List.length_nil, List.length_replicate] at *); omega), ?_⟩ | refine ⟨fun h => ⟨by first | omega | ((try dsimp only at *); (try simp only [List.length_take, List.length_drop, List.length_map, List.length_append, List.length_cons, List.length_nil, List.length_replicate] at *); omega), by first | omega | ((try dsimp only at *); (try simp only [List.length_take, List.length_drop, List.length_map, List.length_append, List.length_cons, List.length_nil, List.length_replicate] at *); omega)⟩, ?_⟩ | refine ⟨fun (r : List AV) hr c hc => by simp [encS] at hr; (try subst hr); simp at hc; (try subst hc); rfl, ?_⟩ | refine ⟨noOwn (by rfl), ?_⟩)
  conv => whnf
  refine ⟨fun h => absurd h (by decide), fun _ => ?_⟩
  conv => whnf
  exact ⟨trivial, rfl⟩
theorem ok_laws_FnExactHeaviest : ConOk Try.prog 5 c_laws_FnExactHeaviest := meets_ok (tabT _ _) (FOk.cons ok_laws_szTree (FOk.cons ok_spec_Heaviest (FOk.cons ok_laws_toTree (FOk.cons ok_impl_Heaviest (FOk.cons ok_laws_eqTree FOk.nil))))) mixed Try.func5 rfl Try.call5 (by decide) (by kernel_rfl) m_laws_FnExactHeaviest (by intro _ (y : Tr) _; exact ⟨by simp [c_laws_FnExactHeaviest, con, AV.noRd, noRdCells, noRdRows, noRdRows_map', encS, encI], by simp [c_laws_FnExactHeaviest, con, noRdCells]⟩)


end Go.GH

set_option linter.unusedVariables false
set_option linter.unusedSimpArgs false
namespace Go.GH
open Go Go.Proofs

open Go.ChangeShapes Go.WideShapes Go.ChangeAt Go.RowKit
theorem items_of {xs : List (List AV)} (h : ∀ r, r ∈ xs → ofL [.str, .int .i64, .str, .int .i64] r) : ∃ t : Tr, xs = t.map encI ∧ ∀ y, y ∈ t → y.path.length ≤ 9223372036854775807 ∧ y.data.length ≤ 9223372036854775807 := by
  induction xs with
  | nil => exact ⟨[], rfl, by simp⟩
  | cons r xs ih =>
    obtain ⟨t, rfl, ht⟩ := ih fun r hr => h r (by simp [hr])
    obtain ⟨c0, r0, rfl, ⟨s0, rfl, b0⟩, c1, r1, rfl, ⟨n1, rfl, _⟩, c2, r2, rfl, ⟨s2, rfl, b2⟩, c3, r3, rfl, ⟨n3, rfl, _⟩, e⟩ := h r (by simp)
    have e : r3 = [] := e
    subst e
    refine ⟨⟨s0, n1, s2, n3⟩ :: t, rfl, fun y hy => ?_⟩
    rcases List.mem_cons.1 hy with rfl | hy
    · exact ⟨b0, b2⟩
    · exact ht y hy
set_option maxRecDepth 100000 in
theorem sh_Tree : shTy Try.prog 12 29 = some [.slice 4 [.str, .int .i64, .str, .int .i64]] := by kernel_rfl
set_option maxRecDepth 100000 in
theorem arg_Tree {a : AV} (h : ArgOk Try.prog 12 29 a) : ∃ t : Tr, a = rdT t ∧ t.length ≤ 9223372036854775807 ∧ ∀ y, y ∈ t → y.path.length ≤ 9223372036854775807 ∧ y.data.length ≤ 9223372036854775807 := by
  obtain ⟨sh, avs, h1, h2, h3⟩ := h
  rw [sh_Tree] at h1
  obtain rfl := Option.some.inj h1
  rw [Try.underlying29] at h3
  obtain ⟨c, r, rfl, ⟨xs, rfl, hl, hx⟩, e⟩ := h2
  have e : r = [] := e
  subst e
  obtain ⟨t, rfl, ht⟩ := items_of hx
  exact ⟨t, h3, by simpa using hl, ht⟩

set_option maxRecDepth 100000 in
theorem sh_Str : shTy Try.prog 12 9 = some [.str] := by kernel_rfl
set_option maxRecDepth 100000 in
theorem arg_Str {a : AV} (h : ArgOk Try.prog 12 9 a) : ∃ p : Str, a = .str p ∧ p.length ≤ 9223372036854775807 := by
  obtain ⟨sh, avs, h1, h2, h3⟩ := h
  rw [sh_Str] at h1
  obtain rfl := Option.some.inj h1
  rw [Try.underlying9] at h3
  obtain ⟨c, r, rfl, ⟨s, rfl, hl⟩, e⟩ := h2
  have e : r = [] := e
  subst e
  have h3 : [AV.str s] = [a] := h3
  exact ⟨s, (List.cons.inj h3).1.symm, hl⟩

end Go.GH

set_option linter.unusedVariables false
set_option linter.unusedSimpArgs false
namespace Go.GH
open Go
/-! Which paths lie below which; usage -/
def withinP (p q : Str) : Bool := pathOk p && pathOk q && (names q).isPrefixOf (names p)
theorem splitBy_head {p : Str} (h : (splitBy 47 p).headD [] = []) (h2 : 2 ≤ (splitBy 47 p).length) : ∃ r, p = 47 :: r ∧ splitBy 47 r = (splitBy 47 p).drop 1 := by
  cases p with
  | nil => simp [splitBy] at h2
  | cons x r =>
    by_cases hx : x = 47
    · subst hx; exact ⟨r, rfl, by simp [splitBy]⟩
    · simp only [splitBy, if_neg hx] at h
      split at h
      · simp at h
      · simp at h
theorem cat_split : ∀ (s : Str), cat (splitBy 47 s) = 47 :: s
  | [] => rfl
  | x :: r => by
    unfold splitBy
    have ih := cat_split r
    split
    · rename_i hx; rw [cat, ih, hx]; rfl
    · have := splitBy_ne 47 r
      cases h : splitBy 47 r with
      | nil => exact absurd h this
      | cons y t =>
        rw [h] at ih
        simp only [cat, List.cons_append] at ih ⊢
        rw [List.cons.injEq] at ih
        rw [← ih.2]
theorem cat_names {p : Str} (h : pathOk p = true) (h2 : (p == sl) = false) : p = cat (names p) ∧ names p ≠ [] := by
  have hn : names p = (splitBy 47 p).drop 1 := by simp [names, h, h2]
  simp only [pathOk, h2, Bool.false_or, Bool.and_eq_true, inB, decide_eq_true_eq, beq_iff_eq] at h
  obtain ⟨⟨⟨h3, h4⟩, h5⟩, h6⟩ := h
  obtain ⟨r, hr, hs⟩ := splitBy_head h5 (by omega)
  rw [hn, ← hs]
  exact ⟨by rw [cat_split, hr], splitBy_ne _ _⟩
theorem names_no {p : Str} : ∀ a, a ∈ names p → ∀ x, x ∈ a → x ≠ 47 := fun a ha => nameOk_no (List.all_eq_true.1 names_all a ha)
theorem names_sl : names sl = [] := by simp [names]
theorem withinP_impl {p q : Str} (hp : pathOk p = true) (hq : pathOk q = true) : ((p == q) || (q == sl) || (q ++ sl).isPrefixOf p) = withinP p q := by
  have e0 : withinP p q = (names q).isPrefixOf (names p) := by simp [withinP, hp, hq]
  rw [e0]
  by_cases h1 : (p == q) = true
  · have : p = q := by simpa using h1
    subst this
    rw [h1]
    simp
  have h1 : (p == q) = false := by simpa using h1
  by_cases h2 : (q == sl) = true
  · rw [h2]
    have : q = sl := by simpa using h2
    subst this
    rw [names_sl]
    simp
  have h2 : (q == sl) = false := by simpa using h2
  obtain ⟨cq, nq⟩ := cat_names hq h2
  rw [h1, h2, Bool.false_or, Bool.false_or]
  by_cases h3 : (p == sl) = true
  · have : p = sl := by simpa using h3
    subst this
    rw [names_sl]
    have hl : 1 ≤ q.length := by
      rw [cq, cat_len]
      have := List.length_pos_iff.2 nq
      omega
    have e1 : (q ++ sl).isPrefixOf sl = false := by
      rw [Bool.eq_false_iff]
      intro h
      have := (List.isPrefixOf_iff_prefix.1 h).length_le
      simp [sl] at this
      subst this
      simp at hl
    rw [e1]
    cases hn : names q with
    | nil => exact absurd hn nq
    | cons x r => rfl
  have h3 : (p == sl) = false := by simpa using h3
  obtain ⟨cp, np⟩ := cat_names hp h3
  have sp := split_cat (names_no (p := p)) np
  have sq := split_cat (names_no (p := q)) nq
  rw [← cp] at sp
  rw [← cq] at sq
  rw [Bool.eq_iff_iff, List.isPrefixOf_iff_prefix, List.isPrefixOf_iff_prefix]
  constructor
  · rintro ⟨t, ht⟩
    have ht : q ++ 47 :: t = p := by rw [← ht]; simp [sl]
    have sp2 : splitBy 47 (q ++ 47 :: t) = [] :: names p := by rw [ht]; exact sp
    rw [split_cons, sq, List.cons_append, List.cons.injEq] at sp2
    exact ⟨_, sp2.2⟩
  · rintro ⟨r, hr⟩
    cases r with
    | nil =>
      rw [List.append_nil] at hr
      rw [← hr, ← cq] at cp
      subst cp
      simp at h1
    | cons a r =>
      rw [← hr, cat_append, ← cq] at cp
      refine ⟨a ++ cat r, ?_⟩
      rw [cp]
      simp [cat, sl]
theorem isPrefix_take {a b : List Str} : (decide ((b.length : Int) ≤ a.length) && (a.take b.length == b)) = b.isPrefixOf a := by
  rw [Bool.eq_iff_iff, List.isPrefixOf_iff_prefix, List.prefix_iff_eq_take]
  simp only [Bool.and_eq_true, decide_eq_true_eq, beq_iff_eq]
  constructor
  · rintro ⟨_, h⟩; exact h.symm
  · intro h
    refine ⟨?_, h.symm⟩
    have := congrArg List.length h
    simp at this
    omega
theorem argRR {s s2 : Nat} {x x' y y' : List (List AV)} (h1 : x = x') (h2 : y = y') : [AV.rd s x, AV.rd s2 y] = [AV.rd s x', AV.rd s2 y'] := by rw [h1, h2]
theorem args_two {args : Array Value} {p q : Str} (hsz : args.size = 2) (h0 : args.getD 0 undef = bytesV p) (h1 : args.getD 1 undef = bytesV q) : args = #[.string (toB p), .string (toB q)] := by
  apply Array.ext
  · simp [hsz]
  · intro i hi1 hi2
    have : i = 0 ∨ i = 1 := by omega
    rcases this with rfl | rfl
    · rw [Array.getD_eq_getD_getElem?, Array.getElem?_eq_getElem hi1] at h0; simpa [bytesV, toB] using h0
    · rw [Array.getD_eq_getD_getElem?, Array.getElem?_eq_getElem hi1] at h1; simpa [bytesV, toB] using h1
theorem names_sm {p : Str} : smL (names p) := by
  refine ⟨by have := names_len (p := p); omega, fun s hs => ?_⟩
  have := nameOk_len (List.all_eq_true.1 (names_all (p := p)) s hs)
  omega
theorem smL_take {l : List Str} {k : Nat} (h : smL l) : smL (l.take k) := by
  refine ⟨by have := h.1; simp; omega, fun s hs => h.2 s (List.mem_of_mem_take hs)⟩
theorem argTs {s : Nat} {x x' : List (List AV)} {p : Str} (h1 : x = x') : [AV.agg [AV.rd s x], .str p] = [AV.agg [AV.rd s x'], .str p] := by rw [h1]
def useP (t : Tr) (p : Str) : Bool × Nat × Nat :=
  if treeOk t && (treeGet t p).isSome then (true, (t.filter fun x => x.kind != 2 && withinP x.path p).length, ((t.filter fun x => x.kind != 2 && withinP x.path p).map fun x => x.data.length).sum) else (false, 0, 0)
def useRes (t : Tr) (p : Str) : AV := .tup [.int .i64 (useP t p).2.1, .int .i64 (useP t p).2.2, .bool (useP t p).1]
def lyP (p : Str) (x : It) : Bool := x.kind != 2 && withinP x.path p
def cnt (p : Str) (l : Tr) : Nat := (l.filter (lyP p)).length
def byt (p : Str) (l : Tr) : Nat := ((l.filter (lyP p)).map fun x => x.data.length).sum
theorem cnt_hit {p : Str} {l : Tr} {i : Nat} {x : It} (h : l[i]? = some x) (hx : lyP p x = true) : cnt p (l.take (i + 1)) = cnt p (l.take i) + 1 := by
  unfold cnt; rw [take_succ' h, List.filter_append]; simp [hx]
theorem cnt_pass {p : Str} {l : Tr} {i : Nat} {x : It} (h : l[i]? = some x) (hx : lyP p x = false) : cnt p (l.take (i + 1)) = cnt p (l.take i) := by
  unfold cnt; rw [take_succ' h, List.filter_append]; simp [hx]
theorem byt_hit {p : Str} {l : Tr} {i : Nat} {x : It} (h : l[i]? = some x) (hx : lyP p x = true) : byt p (l.take (i + 1)) = byt p (l.take i) + x.data.length := by
  unfold byt; rw [take_succ' h, List.filter_append]; simp [hx]
theorem byt_pass {p : Str} {l : Tr} {i : Nat} {x : It} (h : l[i]? = some x) (hx : lyP p x = false) : byt p (l.take (i + 1)) = byt p (l.take i) := by
  unfold byt; rw [take_succ' h, List.filter_append]; simp [hx]
theorem cnt_le {p : Str} {l : Tr} {i : Nat} : cnt p (l.take i) ≤ i := by
  unfold cnt
  have := List.length_filter_le (lyP p) (l.take i)
  simp at this
  omega
theorem byt_le {p : Str} {l : Tr} (h : ∀ x, x ∈ l → x.data.length ≤ 4194304) {i : Nat} : byt p (l.take i) ≤ i * 4194304 := by
  unfold byt
  generalize 4194304 = B at *
  have h1 : ∀ (m : Tr), (∀ x, x ∈ m → x.data.length ≤ B) → (m.map fun x => x.data.length).sum ≤ m.length * B := by
    intro m hm
    induction m with
    | nil => exact Nat.zero_le _
    | cons a r ih =>
      have := ih fun x hx => hm x (by simp [hx])
      have := hm a (by simp)
      simp only [List.map_cons, List.sum_cons, List.length_cons, Nat.add_mul]
      omega
  have h2 := h1 ((l.take i).filter (lyP p)) fun x hx => h x (List.mem_of_mem_take (List.mem_filter.1 hx).1)
  have h3 := List.length_filter_le (lyP p) (l.take i)
  simp at h3
  have h4 : ((l.take i).filter (lyP p)).length * B ≤ i * B := Nat.mul_le_mul_right _ (by omega)
  omega
theorem use_no {t : Tr} {p : Str} (h : (treeOk t && (treeGet t p).isSome) = false) : useRes t p = .tup [.int .i64 0, .int .i64 0, .bool false] := by
  simp [useRes, useP, h]
theorem use_yes {t : Tr} {p : Str} (h : (treeOk t && (treeGet t p).isSome) = true) : useRes t p = .tup [.int .i64 (cnt p t), .int .i64 (byt p t), .bool true] := by
  simp only [useRes, useP, h, if_true, cnt, byt]
  rfl
end Go.GH

set_option linter.unusedVariables false
set_option linter.unusedSimpArgs false
namespace Go.GH
open Go
/-! Differences of trees -/
structure OpR where
  kind : Int
  path : Str
  to : Str
  at_ : Int
  data : Str
  time : Int
def encO (o : OpR) : List AV := [.int .i64 o.kind, .str o.path, .str o.to, .int .i64 o.at_, .str o.data, .int .i64 o.time]
def OpR.zero : OpR := ⟨0, [], [], 0, [], 0⟩
theorem rdO (l : List OpR) : toRdRows (l.map encO) = l.map encO := toRdRows_map (fun _ => rfl) l
def differ (x : It) (o : Option It) : Bool := match o with
  | none => true
  | some y => y.kind != x.kind || ((x.kind == 3) && !(y.data == x.data))
def goes (x : It) (b : Tr) : Bool := differ x (treeGet b x.path)
def newO (y : It) : OpR := if y.kind == 2 then ⟨0, y.path, [], 0, [], 0⟩ else if y.kind == 3 then ⟨2, y.path, [], 0, y.data, y.time⟩ else ⟨1, y.path, [], 0, y.data, y.time⟩
def goneO (x : It) : OpR := ⟨if x.kind == 2 then 7 else 6, x.path, [], 0, [], 0⟩
def stepO (a b : Tr) (y : It) : List OpR :=
  if !(treeGet a y.path).isSome || goes ((treeGet a y.path).getD It.none) b then [newO y]
  else if !(((treeGet a y.path).getD It.none).data == y.data) then [⟨3, y.path, [], 0, y.data, y.time⟩, ⟨4, y.path, [], y.data.length, [], y.time⟩]
  else if ((treeGet a y.path).getD It.none).time != y.time then [⟨5, y.path, [], 0, [], y.time⟩] else []
def downO (a b : Tr) (l : Tr) : List OpR := ((l.filter fun x => goes x b).map goneO)
def delta (a b : Tr) : List OpR := if treeOk a && treeOk b then downO a b a.reverse ++ b.flatMap (stepO a b) else []

theorem strLt_trans : ∀ {a b c : Str}, strLt a b = true → strLt b c = true → strLt a c = true
  | [], [], _, h, _ => by cases h
  | [], _ :: _, [], _, h => by cases h
  | [], _ :: _, _ :: _, _, _ => rfl
  | _ :: _, [], _, h, _ => by cases h
  | _ :: _, _ :: _, [], _, h => by cases h
  | x :: a, y :: b, z :: c, h1, h2 => by
    simp only [strLt, Bool.or_eq_true, Bool.and_eq_true, decide_eq_true_eq, beq_iff_eq] at h1 h2 ⊢
    rcases h1 with h1 | ⟨rfl, h1⟩
    · rcases h2 with h2 | ⟨rfl, h2⟩
      · exact .inl (UInt8.lt_trans h1 h2)
      · exact .inl h1
    · rcases h2 with h2 | ⟨rfl, h2⟩
      · exact .inl h2
      · exact .inr ⟨rfl, strLt_trans h1 h2⟩
section
variable {t : Tr}
theorem treeOk_chk (h : treeOk t = true) {i : Nat} (hi : i < t.length) : chk t i = true := by
  rw [treeOk, Bool.and_eq_true] at h
  exact (chk_all (t := t)).1 h.2 i hi
theorem treeOk_len (h : treeOk t = true) : t.length ≤ 40 := by
  rw [treeOk, Bool.and_eq_true] at h
  simpa using h.1
theorem treeOk_get (h : treeOk t = true) {i : Nat} {x : It} (hx : t[i]? = some x) : itemOk x = true ∧ (i = 0 ∨ strLt (t.getD (i - 1) It.none).path x.path = true) ∧ dirAt t (above x.path) = true := by
  have := treeOk_chk h (lt_of_get hx)
  rw [chk_eq hx rfl] at this
  simp only [Bool.and_eq_true, Bool.or_eq_true, beq_iff_eq] at this
  exact ⟨this.1.1, this.1.2, this.2⟩
theorem treeOk_item (h : treeOk t = true) {x : It} (hx : x ∈ t) : itemOk x = true := by
  obtain ⟨i, hi⟩ := List.mem_iff_getElem?.1 hx
  exact (treeOk_get h hi).1
theorem treeOk_lt (h : treeOk t = true) : ∀ {j i : Nat} {x y : It}, t[i]? = some x → t[j]? = some y → i < j → strLt x.path y.path = true
  | 0, i, x, y, hx, hy, hij => by omega
  | j + 1, i, x, y, hx, hy, hij => by
    have hj := lt_of_get hy
    obtain ⟨z, hz⟩ := get_lt (l := t) (i := j) (by omega)
    have h1 : strLt z.path y.path = true := by
      have := (treeOk_get h hy).2.1
      rcases this with h0 | h0
      · omega
      · rw [Nat.add_sub_cancel, List.getD_eq_getElem?_getD, hz] at h0; exact h0
    rcases Nat.lt_or_ge i j with hi | hi
    · exact strLt_trans (treeOk_lt h hx hz hi) h1
    · have : i = j := by omega
      subst this
      rw [hx] at hz
      rw [Option.some.inj hz]
      exact h1
theorem treeOk_inj (h : treeOk t = true) {x y : It} (hx : x ∈ t) (hy : y ∈ t) (e : x.path = y.path) : x = y := by
  obtain ⟨i, hi⟩ := List.mem_iff_getElem?.1 hx
  obtain ⟨j, hj⟩ := List.mem_iff_getElem?.1 hy
  rcases Nat.lt_trichotomy i j with hij | rfl | hij
  · have := treeOk_lt h hi hj hij
    rw [e, strLt_irrefl] at this; cases this
  · rw [hi] at hj; exact Option.some.inj hj
  · have := treeOk_lt h hj hi hij
    rw [e, strLt_irrefl] at this; cases this
theorem item_path {x : It} (h : itemOk x = true) : (x.path == sl) = false := by
  unfold itemOk at h
  simp only [Bool.and_eq_true, Bool.not_eq_true'] at h
  exact h.1.1.2
theorem treeGet_find {p : Str} (h : (p == sl) = false) : treeGet t p = t.find? fun x => x.path == p := by
  rw [treeGet, if_neg (by simp [h])]
theorem treeGet_mem (h : treeOk t = true) {x : It} (hx : x ∈ t) : treeGet t x.path = some x := by
  rw [treeGet_find (item_path (treeOk_item h hx))]
  cases hf : t.find? fun z => z.path == x.path with
  | none =>
    have := List.find?_eq_none.1 hf x hx
    simp at this
  | some y =>
    have h1 := List.find?_some hf
    have h2 := List.mem_of_find?_eq_some hf
    rw [treeOk_inj h h2 hx (by simpa using h1)]
end
theorem argIT {s : Nat} {c : List AV} {x x' : List (List AV)} (h1 : x = x') : [AV.agg c, AV.agg [AV.rd s x]] = [AV.agg c, AV.agg [AV.rd s x']] := by rw [h1]
theorem argT2 {s s2 : Nat} {x x' y y' : List (List AV)} (h1 : x = x') (h2 : y = y') : [AV.agg [AV.rd s x], AV.agg [AV.rd s2 y]] = [AV.agg [AV.rd s x'], AV.agg [AV.rd s2 y']] := by rw [h1, h2]
/-- How the reference's third case and the program's third case agree. -/
theorem same_data {a b : Tr} (ha : treeOk a = true) (hb : treeOk b = true) {x y : It} (hx : x ∈ a) (hy : y ∈ b) (e : x.path = y.path) (h : goes x b = false) : (!(x.data == y.data)) = ((y.kind == 1) && !(x.data == y.data)) := by
  have hg : treeGet b x.path = some y := by rw [e]; exact treeGet_mem hb hy
  have ix := treeOk_item ha hx
  have iy := treeOk_item hb hy
  simp only [goes, hg, differ, Bool.or_eq_false_iff, Bool.and_eq_false_iff, bne_eq_false_iff_eq, Bool.not_eq_false', beq_eq_false_iff_ne, beq_iff_eq] at h
  obtain ⟨hk, hd⟩ := h
  by_cases h1 : y.kind = 1
  · simp [h1]
  have e1 : (y.kind == 1) = false := by simpa using h1
  rw [e1, Bool.false_and]
  unfold itemOk at ix iy
  simp only [Bool.and_eq_true, inB, decide_eq_true_eq] at ix iy
  by_cases h2 : y.kind = 2
  · have hx2 : x.kind = 2 := by omega
    simp [h2, hx2] at ix iy
    rw [ix.2.1, iy.2.1]; rfl
  · have h3 : y.kind = 3 := by omega
    rcases hd with hd | hd
    · omega
    · rw [hd]; simp
theorem goes_find {a b : Tr} (ha : treeOk a = true) {x : It} (hx : x ∈ a) : differ x (b.find? fun z => z.path == x.path) = goes x b := by
  rw [goes, treeGet_find (item_path (treeOk_item ha hx))]
/-- What the program finds at its index. -/
theorem find_at {a b : Tr} (ob : treeOk b = true) {y : It} (hy : y ∈ b) :
    (treeGet a y.path = none ∧ fnd (fun z => z.path == y.path) a = -1) ∨ ∃ x, treeGet a y.path = some x ∧ x ∈ a ∧ x.path = y.path ∧ 0 ≤ fnd (fun z => z.path == y.path) a ∧ a[(fnd (fun z => z.path == y.path) a).toNat]? = some x := by
  rw [treeGet_find (item_path (treeOk_item ob hy))]
  cases hq : a.any fun z => z.path == y.path with
  | false => exact .inl ⟨any_find hq, fnd_none hq⟩
  | true =>
    obtain ⟨x, h1, h2⟩ := fnd_get hq
    refine .inr ⟨x, h2, List.mem_of_find?_eq_some h2, ?_, ?_, h1⟩
    · have := List.find?_some h2; simpa using this
    · rw [fnd, if_pos hq]; omega
theorem stepO_sm (a b : Tr) (y : It) : (stepO a b y).length ≤ 2 := by
  unfold stepO
  split
  · simp
  · split
    · simp
    · split <;> simp
theorem take_flat {α β : Type} {f : α → List β} {l : List α} {i : Nat} {x : α} (h : l[i]? = some x) : (l.take (i + 1)).flatMap f = (l.take i).flatMap f ++ f x := by
  rw [take_succ' h, List.flatMap_append]; simp
theorem flat_len {α β : Type} {f : α → List β} (hf : ∀ x, (f x).length ≤ 2) : ∀ (l : List α), (l.flatMap f).length ≤ 2 * l.length
  | [] => by simp
  | a :: r => by
    have := flat_len hf r
    have := hf a
    simp only [List.flatMap_cons, List.length_append, List.length_cons]
    omega
/-- The items from 'i' on, backwards. -/
def back (t : Tr) (i : Nat) : Tr := (t.drop i).reverse
theorem back_at {t : Tr} {i : Nat} {x : It} (h : t[i]? = some x) : back t i = back t (i + 1) ++ [x] := by
  unfold back
  have hi := lt_of_get h
  rw [← List.getElem_cons_drop hi, List.reverse_cons]
  rw [List.getElem?_eq_getElem hi] at h
  rw [Option.some.inj h]
theorem downO_hit {a b l : Tr} {x : It} (h : goes x b = true) : downO a b (l ++ [x]) = downO a b l ++ [goneO x] := by simp [downO, h]
theorem downO_pass {a b l : Tr} {x : It} (h : goes x b = false) : downO a b (l ++ [x]) = downO a b l := by simp [downO, h]
theorem downO_len {a b l : Tr} : (downO a b l).length ≤ l.length := by
  unfold downO; rw [List.length_map]; exact List.length_filter_le _ _
theorem delta_len (a b : Tr) : (delta a b).length ≤ 120 := by
  unfold delta
  split
  · rename_i h
    rw [Bool.and_eq_true] at h
    have h1 := treeOk_len h.1
    have h2 := treeOk_len h.2
    have h3 := downO_len (a := a) (b := b) (l := a.reverse)
    have h4 := flat_len (stepO_sm a b) b
    rw [List.length_append]
    rw [List.length_reverse] at h3
    omega
  · simp
end Go.GH

set_option linter.unusedVariables false
set_option linter.unusedSimpArgs false
namespace Go.GH
open Go Go.Proofs

def c_spec_l27Goes : PCon := con [.rd [none, none, none, none], mS 4] true (It × Tr) (fun ⟨x, b⟩ => [.agg (encI x), rdT b]) (fun x => smT x.2) (fun x => .bool (goes x.1 x.2))
def E_spec_l27Goes : Env := ⟨lookup tyTab, lookup [(41, c_spec_TreeGet)], [0, 1, 2, 3, 4, 5, 6]⟩
set_option maxRecDepth 100000 in
set_option maxHeartbeats 4000000 in
theorem m_spec_l27Goes : Meets E_spec_l27Goes (codeOf Try.f45) Try.f45.results.toList c_spec_l27Goes := by
  rintro ⟨x, b⟩ hs
  have hs : smT b := hs
  refine ⟨trivial, ?_⟩
  repeat ((conv => whnf); first | refine ⟨fun h => h, ?_⟩ | refine ⟨(by kernel_rfl : drawOk _ _ = true), ?_⟩ | refine ⟨fun (h : gtrue _) => by first | assumption | exact absurd (Eq.trans (Eq.symm h) (by assumption) : true = false) Bool.noConfusion, ?_⟩ | refine ⟨fun h => (absurd (Eq.trans (Eq.symm h) (by assumption) : true = false) Bool.noConfusion : False), ?_⟩ | refine ⟨_, w64 (by first | omega | ((try dsimp only at *); (try simp only [List.length_take, List.length_drop, List.length_map, List.length_append, List.length_cons, List.length_nil, List.length_replicate] at *); omega)), ?_⟩ | refine ⟨fun _ => ⟨by first | omega | ((try dsimp only at *); (try simp only [List.length_take, List.length_drop, List.length_map, List.length_append, List.length_cons, List.length_nil, List.length_replicate] at *); omega), by first | omega | ((try dsimp only at *); (try simp only [List.length_take, List.length_drop, List.length_map, List.length_append, List.length_cons, List.length_nil, List.length_replicate] at *); omega), by first | omega | ((try dsimp only at *); (try simp only [List.length_take, List.length_drop, List.length_map, List.length_append, List.length_cons, List.length_nil, List.length_replicate] at *); omega)⟩, ?_⟩ | refine ⟨by first | omega | ((try dsimp only at *); (try simp only [List.length_take, List.length_drop, List.length_map, List.length_append, List.length_cons, List.length_nil, List.length_replicate] at *); omega), ?_⟩ | refine ⟨fun h => ⟨by first | omega | ((try dsimp only at *); (try simp only [List.length_take, List.length_drop, List.length_map, List.length_append, List.length_cons, List.length_nil, List.length_replicate] at *); omega), by first | omega | ((try dsimp only at *); (try simp only [List.length_take, List.length_drop, List.length_map, List.length_append, List.length_cons, List.length_nil, List.length_replicate] at *); omega)⟩, ?_⟩ | refine ⟨fun (r : List AV) hr c hc => by simp [encS] at hr; (try subst hr); simp at hc; (try subst hc); rfl, ?_⟩ | refine ⟨noOwn (by rfl), ?_⟩)
  refine ⟨(b, x.path), rfl, fun _ => hs, ?_⟩
  repeat ((conv => whnf); first | refine ⟨fun h => h, ?_⟩ | refine ⟨(by kernel_rfl : drawOk _ _ = true), ?_⟩ | refine ⟨fun (h : gtrue _) => by first | assumption | exact absurd (Eq.trans (Eq.symm h) (by assumption) : true = false) Bool.noConfusion, ?_⟩ | refine ⟨fun h => (absurd (Eq.trans (Eq.symm h) (by assumption) : true = false) Bool.noConfusion : False), ?_⟩ | refine ⟨_, w64 (by first | omega | ((try dsimp only at *); (try simp only [List.length_take, List.length_drop, List.length_map, List.length_append, List.length_cons, List.length_nil, List.length_replicate] at *); omega)), ?_⟩ | refine ⟨fun _ => ⟨by first | omega | ((try dsimp only at *); (try simp only [List.length_take, List.length_drop, List.length_map, List.length_append, List.length_cons, List.length_nil, List.length_replicate] at *); omega), by first | omega | ((try dsimp only at *); (try simp only [List.length_take, List.length_drop, List.length_map, List.length_append, List.length_cons, List.length_nil, List.length_replicate] at *); omega), by first | omega | ((try dsimp only at *); (try simp only [List.length_take, List.length_drop, List.length_map, List.length_append, List.length_cons, List.length_nil, List.length_replicate] at *); omega)⟩, ?_⟩ | refine ⟨by first | omega | ((try dsimp only at *); (try simp only [List.length_take, List.length_drop, List.length_map, List.length_append, List.length_cons, List.length_nil, List.length_replicate] at *); omega), ?_⟩ | refine ⟨fun h => ⟨by first | omega | ((try dsimp only at *); (try simp only [List.length_take, List.length_drop, List.length_map, List.length_append, List.length_cons, List.length_nil, List.length_replicate] at *); omega), by first | omega | ((try dsimp only at *); (try simp only [List.length_take, List.length_drop, List.length_map, List.length_append, List.length_cons, List.length_nil, List.length_replicate] at *); omega)⟩, ?_⟩ | refine ⟨fun (r : List AV) hr c hc => by simp [encS] at hr; (try subst hr); simp at hc; (try subst hc); rfl, ?_⟩ | refine ⟨noOwn (by rfl), ?_⟩)
  refine ⟨trivial, eqB ?_⟩
  show ((!(treeGet b x.path).isSome || (((treeGet b x.path).getD It.none).kind != x.kind)) || ((x.kind == 3) && !(((treeGet b x.path).getD It.none).data == x.data))) = goes x b
  unfold goes differ
  cases treeGet b x.path with
  | none => rfl
  | some y => rfl
theorem ok_spec_l27Goes : ConOk Try.prog 45 c_spec_l27Goes := meets_ok (tabT _ _) (FOk.cons ok_spec_TreeGet FOk.nil) mixed Try.func45 rfl Try.call45 (by decide) (by kernel_rfl) m_spec_l27Goes (by intro _ (y : (It × Tr)) _; exact ⟨by simp [c_spec_l27Goes, con, AV.noRd, noRdCells, noRdRows, noRdRows_map', encS, encI, encO], by simp [c_spec_l27Goes, con, noRdCells]⟩)

def c_impl_removed : PCon := con [.rd [none, none, none, none], mS 4] true (It × Tr) (fun ⟨x, b⟩ => [.agg (encI x), rdT b]) (fun x => smT x.2) (fun x => .bool (differ x.1 (x.2.find? fun z => z.path == x.1.path)))
def E_impl_removed : Env := ⟨lookup tyTab, lookup [(48, c_impl_itemAt)], [0, 1, 2, 3, 4, 5, 6, 12]⟩
set_option maxRecDepth 100000 in
set_option maxHeartbeats 4000000 in
theorem m_impl_removed : Meets E_impl_removed (codeOf Try.f47) Try.f47.results.toList c_impl_removed := by
  rintro ⟨x, b⟩ hs
  have hs : smT b := hs
  refine ⟨trivial, ?_⟩
  repeat ((conv => whnf); first | refine ⟨fun h => h, ?_⟩ | refine ⟨(by kernel_rfl : drawOk _ _ = true), ?_⟩ | refine ⟨fun (h : gtrue _) => by first | assumption | exact absurd (Eq.trans (Eq.symm h) (by assumption) : true = false) Bool.noConfusion, ?_⟩ | refine ⟨fun h => (absurd (Eq.trans (Eq.symm h) (by assumption) : true = false) Bool.noConfusion : False), ?_⟩ | refine ⟨_, w64 (by first | omega | ((try dsimp only at *); (try simp only [List.length_take, List.length_drop, List.length_map, List.length_append, List.length_cons, List.length_nil, List.length_replicate] at *); omega)), ?_⟩ | refine ⟨fun _ => ⟨by first | omega | ((try dsimp only at *); (try simp only [List.length_take, List.length_drop, List.length_map, List.length_append, List.length_cons, List.length_nil, List.length_replicate] at *); omega), by first | omega | ((try dsimp only at *); (try simp only [List.length_take, List.length_drop, List.length_map, List.length_append, List.length_cons, List.length_nil, List.length_replicate] at *); omega), by first | omega | ((try dsimp only at *); (try simp only [List.length_take, List.length_drop, List.length_map, List.length_append, List.length_cons, List.length_nil, List.length_replicate] at *); omega)⟩, ?_⟩ | refine ⟨by first | omega | ((try dsimp only at *); (try simp only [List.length_take, List.length_drop, List.length_map, List.length_append, List.length_cons, List.length_nil, List.length_replicate] at *); omega), ?_⟩ | refine ⟨fun h => ⟨by first | omega | ((try dsimp only at *); (try simp only [List.length_take, List.length_drop, List.length_map, List.length_append, List.length_cons, List.length_nil, List.length_replicate] at *); omega), by first | omega | ((try dsimp only at *); (try simp only [List.length_take, List.length_drop, List.length_map, List.length_append, List.length_cons, List.length_nil, List.length_replicate] at *); omega)⟩, ?_⟩ | refine ⟨fun (r : List AV) hr c hc => by simp [encS] at hr; (try subst hr); simp at hc; (try subst hc); rfl, ?_⟩ | refine ⟨noOwn (by rfl), ?_⟩)
  refine ⟨(b, x.path), rfl, fun _ => hs.1, ?_⟩
  repeat ((conv => whnf); first | refine ⟨fun h => h, ?_⟩ | refine ⟨(by kernel_rfl : drawOk _ _ = true), ?_⟩ | refine ⟨fun (h : gtrue _) => by first | assumption | exact absurd (Eq.trans (Eq.symm h) (by assumption) : true = false) Bool.noConfusion, ?_⟩ | refine ⟨fun h => (absurd (Eq.trans (Eq.symm h) (by assumption) : true = false) Bool.noConfusion : False), ?_⟩ | refine ⟨_, w64 (by first | omega | ((try dsimp only at *); (try simp only [List.length_take, List.length_drop, List.length_map, List.length_append, List.length_cons, List.length_nil, List.length_replicate] at *); omega)), ?_⟩ | refine ⟨fun _ => ⟨by first | omega | ((try dsimp only at *); (try simp only [List.length_take, List.length_drop, List.length_map, List.length_append, List.length_cons, List.length_nil, List.length_replicate] at *); omega), by first | omega | ((try dsimp only at *); (try simp only [List.length_take, List.length_drop, List.length_map, List.length_append, List.length_cons, List.length_nil, List.length_replicate] at *); omega), by first | omega | ((try dsimp only at *); (try simp only [List.length_take, List.length_drop, List.length_map, List.length_append, List.length_cons, List.length_nil, List.length_replicate] at *); omega)⟩, ?_⟩ | refine ⟨by first | omega | ((try dsimp only at *); (try simp only [List.length_take, List.length_drop, List.length_map, List.length_append, List.length_cons, List.length_nil, List.length_replicate] at *); omega), ?_⟩ | refine ⟨fun h => ⟨by first | omega | ((try dsimp only at *); (try simp only [List.length_take, List.length_drop, List.length_map, List.length_append, List.length_cons, List.length_nil, List.length_replicate] at *); omega), by first | omega | ((try dsimp only at *); (try simp only [List.length_take, List.length_drop, List.length_map, List.length_append, List.length_cons, List.length_nil, List.length_replicate] at *); omega)⟩, ?_⟩ | refine ⟨fun (r : List AV) hr c hc => by simp [encS] at hr; (try subst hr); simp at hc; (try subst hc); rfl, ?_⟩ | refine ⟨noOwn (by rfl), ?_⟩)
  (conv => whnf); refine ⟨fun h1 => ?_, fun h1 => ?_⟩
  · have h1 : fnd (fun z => z.path == x.path) b < 0 := by simpa using h1
    repeat ((conv => whnf); first | refine ⟨fun h => h, ?_⟩ | refine ⟨(by kernel_rfl : drawOk _ _ = true), ?_⟩ | refine ⟨fun (h : gtrue _) => by first | assumption | exact absurd (Eq.trans (Eq.symm h) (by assumption) : true = false) Bool.noConfusion, ?_⟩ | refine ⟨fun h => (absurd (Eq.trans (Eq.symm h) (by assumption) : true = false) Bool.noConfusion : False), ?_⟩ | refine ⟨_, w64 (by first | omega | ((try dsimp only at *); (try simp only [List.length_take, List.length_drop, List.length_map, List.length_append, List.length_cons, List.length_nil, List.length_replicate] at *); omega)), ?_⟩ | refine ⟨fun _ => ⟨by first | omega | ((try dsimp only at *); (try simp only [List.length_take, List.length_drop, List.length_map, List.length_append, List.length_cons, List.length_nil, List.length_replicate] at *); omega), by first | omega | ((try dsimp only at *); (try simp only [List.length_take, List.length_drop, List.length_map, List.length_append, List.length_cons, List.length_nil, List.length_replicate] at *); omega), by first | omega | ((try dsimp only at *); (try simp only [List.length_take, List.length_drop, List.length_map, List.length_append, List.length_cons, List.length_nil, List.length_replicate] at *); omega)⟩, ?_⟩ | refine ⟨by first | omega | ((try dsimp only at *); (try simp only [List.length_take, List.length_drop, List.length_map, List.length_append, List.length_cons, List.length_nil, List.length_replicate] at *); omega), ?_⟩ | refine ⟨fun h => ⟨by first | omega | ((try dsimp only at *); (try simp only [List.length_take, List.length_drop, List.length_map, List.length_append, List.length_cons, List.length_nil, List.length_replicate] at *); omega), by first | omega | ((try dsimp only at *); (try simp only [List.length_take, List.length_drop, List.length_map, List.length_append, List.length_cons, List.length_nil, List.length_replicate] at *); omega)⟩, ?_⟩ | refine ⟨fun (r : List AV) hr c hc => by simp [encS] at hr; (try subst hr); simp at hc; (try subst hc); rfl, ?_⟩ | refine ⟨noOwn (by rfl), ?_⟩)
    exact ⟨trivial, eqB (by
      rw [show (b.find? fun z => z.path == x.path) = none from any_find (by
        cases hq : b.any fun z => z.path == x.path with
        | false => rfl
        | true => rw [fnd, if_pos hq] at h1; omega)]; rfl)⟩
  · have h1 : ¬ fnd (fun z => z.path == x.path) b < 0 := by simpa using h1
    have hany : (b.any fun z => z.path == x.path) = true := by
      rw [← fnd_pos]; simp; omega
    obtain ⟨y, hy, hf⟩ := fnd_get hany
    have hge : 0 ≤ fnd (fun z => z.path == x.path) b := by omega
    repeat ((conv => whnf); first | refine ⟨fun h => h, ?_⟩ | refine ⟨(by kernel_rfl : drawOk _ _ = true), ?_⟩ | refine ⟨fun (h : gtrue _) => by first | assumption | exact absurd (Eq.trans (Eq.symm h) (by assumption) : true = false) Bool.noConfusion, ?_⟩ | refine ⟨fun h => (absurd (Eq.trans (Eq.symm h) (by assumption) : true = false) Bool.noConfusion : False), ?_⟩ | refine ⟨_, w64 (by first | omega | ((try dsimp only at *); (try simp only [List.length_take, List.length_drop, List.length_map, List.length_append, List.length_cons, List.length_nil, List.length_replicate] at *); omega)), ?_⟩ | refine ⟨fun _ => ⟨by first | omega | ((try dsimp only at *); (try simp only [List.length_take, List.length_drop, List.length_map, List.length_append, List.length_cons, List.length_nil, List.length_replicate] at *); omega), by first | omega | ((try dsimp only at *); (try simp only [List.length_take, List.length_drop, List.length_map, List.length_append, List.length_cons, List.length_nil, List.length_replicate] at *); omega), by first | omega | ((try dsimp only at *); (try simp only [List.length_take, List.length_drop, List.length_map, List.length_append, List.length_cons, List.length_nil, List.length_replicate] at *); omega)⟩, ?_⟩ | refine ⟨by first | omega | ((try dsimp only at *); (try simp only [List.length_take, List.length_drop, List.length_map, List.length_append, List.length_cons, List.length_nil, List.length_replicate] at *); omega), ?_⟩ | refine ⟨fun h => ⟨by first | omega | ((try dsimp only at *); (try simp only [List.length_take, List.length_drop, List.length_map, List.length_append, List.length_cons, List.length_nil, List.length_replicate] at *); omega), by first | omega | ((try dsimp only at *); (try simp only [List.length_take, List.length_drop, List.length_map, List.length_append, List.length_cons, List.length_nil, List.length_replicate] at *); omega)⟩, ?_⟩ | refine ⟨fun (r : List AV) hr c hc => by simp [encS] at hr; (try subst hr); simp at hc; (try subst hc); rfl, ?_⟩ | refine ⟨noOwn (by rfl), ?_⟩ | refine ⟨encI y, fun _ => ⟨hge, get_map hy⟩, ?_⟩)
    refine ⟨trivial, eqB ?_⟩
    show _ = differ x (b.find? fun z => z.path == x.path)
    rw [hf]
    show (x.kind != y.kind || ((x.kind == 3) && !(x.data == y.data))) = (y.kind != x.kind || ((x.kind == 3) && !(y.data == x.data)))
    rw [show (x.kind != y.kind) = (y.kind != x.kind) from bne_comm, show (x.data == y.data) = (y.data == x.data) from BEq.comm]
theorem ok_impl_removed : ConOk Try.prog 47 c_impl_removed := meets_ok (tabT _ _) (FOk.cons ok_impl_itemAt FOk.nil) mixed Try.func47 rfl Try.call47 (by decide) (by kernel_rfl) m_impl_removed (by intro _ (y : (It × Tr)) _; exact ⟨by simp [c_impl_removed, con, AV.noRd, noRdCells, noRdRows, noRdRows_map', encS, encI, encO], by simp [c_impl_removed, con, noRdCells]⟩)

def c_spec_l27New : PCon := con [.rd [none, none, none, none]] true It (fun x => [.agg (encI x)]) (fun _ => True) (fun x => .agg (encO (newO x)))
def E_spec_l27New : Env := ⟨lookup tyTab, lookup [], [0, 1, 2, 4, 5, 10]⟩
set_option maxRecDepth 100000 in
set_option maxHeartbeats 4000000 in
theorem m_spec_l27New : Meets E_spec_l27New (codeOf Try.f46) Try.f46.results.toList c_spec_l27New := by
  intro (x : It) hs
  refine ⟨trivial, ?_⟩
  repeat ((conv => whnf); first | refine ⟨fun h => h, ?_⟩ | refine ⟨(by kernel_rfl : drawOk _ _ = true), ?_⟩ | refine ⟨fun (h : gtrue _) => by first | assumption | exact absurd (Eq.trans (Eq.symm h) (by assumption) : true = false) Bool.noConfusion, ?_⟩ | refine ⟨fun h => (absurd (Eq.trans (Eq.symm h) (by assumption) : true = false) Bool.noConfusion : False), ?_⟩ | refine ⟨_, w64 (by first | omega | ((try dsimp only at *); (try simp only [List.length_take, List.length_drop, List.length_map, List.length_append, List.length_cons, List.length_nil, List.length_replicate] at *); omega)), ?_⟩ | refine ⟨fun _ => ⟨by first | omega | ((try dsimp only at *); (try simp only [List.length_take, List.length_drop, List.length_map, List.length_append, List.length_cons, List.length_nil, List.length_replicate] at *); omega), by first | omega | ((try dsimp only at *); (try simp only [List.length_take, List.length_drop, List.length_map, List.length_append, List.length_cons, List.length_nil, List.length_replicate] at *); omega), by first | omega | ((try dsimp only at *); (try simp only [List.length_take, List.length_drop, List.length_map, List.length_append, List.length_cons, List.length_nil, List.length_replicate] at *); omega)⟩, ?_⟩ | refine ⟨by first | omega | ((try dsimp only at *); (try simp only [List.length_take, List.length_drop, List.length_map, List.length_append, List.length_cons, List.length_nil, List.length_replicate] at *); omega), ?_⟩ | refine ⟨fun h => ⟨by first | omega | ((try dsimp only at *); (try simp only [List.length_take, List.length_drop, List.length_map, List.length_append, List.length_cons, List.length_nil, List.length_replicate] at *); omega), by first | omega | ((try dsimp only at *); (try simp only [List.length_take, List.length_drop, List.length_map, List.length_append, List.length_cons, List.length_nil, List.length_replicate] at *); omega)⟩, ?_⟩ | refine ⟨fun (r : List AV) hr c hc => by simp [encS] at hr; (try subst hr); simp at hc; (try subst hc); rfl, ?_⟩ | refine ⟨noOwn (by rfl), ?_⟩)
  (conv => whnf); refine ⟨fun h1 => ?_, fun h1 => ?_⟩
  · have h1 : (x.kind == 2) = true := h1
    rw [show c_spec_l27New.res x = .agg (encO ⟨0, x.path, [], 0, [], 0⟩) by show AV.agg (encO (newO x)) = _; rw [newO, if_pos h1]]
    repeat ((conv => whnf); first | refine ⟨fun h => h, ?_⟩ | refine ⟨(by kernel_rfl : drawOk _ _ = true), ?_⟩ | refine ⟨fun (h : gtrue _) => by first | assumption | exact absurd (Eq.trans (Eq.symm h) (by assumption) : true = false) Bool.noConfusion, ?_⟩ | refine ⟨fun h => (absurd (Eq.trans (Eq.symm h) (by assumption) : true = false) Bool.noConfusion : False), ?_⟩ | refine ⟨_, w64 (by first | omega | ((try dsimp only at *); (try simp only [List.length_take, List.length_drop, List.length_map, List.length_append, List.length_cons, List.length_nil, List.length_replicate] at *); omega)), ?_⟩ | refine ⟨fun _ => ⟨by first | omega | ((try dsimp only at *); (try simp only [List.length_take, List.length_drop, List.length_map, List.length_append, List.length_cons, List.length_nil, List.length_replicate] at *); omega), by first | omega | ((try dsimp only at *); (try simp only [List.length_take, List.length_drop, List.length_map, List.length_append, List.length_cons, List.length_nil, List.length_replicate] at *); omega), by first | omega | ((try dsimp only at *); (try simp only [List.length_take, List.length_drop, List.length_map, List.length_append, List.length_cons, List.length_nil, List.length_replicate] at *); omega)⟩, ?_⟩ | refine ⟨by first | omega | ((try dsimp only at *); (try simp only [List.length_take, List.length_drop, List.length_map, List.length_append, List.length_cons, List.length_nil, List.length_replicate] at *); omega), ?_⟩ | refine ⟨fun h => ⟨by first | omega | ((try dsimp only at *); (try simp only [List.length_take, List.length_drop, List.length_map, List.length_append, List.length_cons, List.length_nil, List.length_replicate] at *); omega), by first | omega | ((try dsimp only at *); (try simp only [List.length_take, List.length_drop, List.length_map, List.length_append, List.length_cons, List.length_nil, List.length_replicate] at *); omega)⟩, ?_⟩ | refine ⟨fun (r : List AV) hr c hc => by simp [encS] at hr; (try subst hr); simp at hc; (try subst hc); rfl, ?_⟩ | refine ⟨noOwn (by rfl), ?_⟩)
    exact ⟨trivial, rfl, rfl, rfl, rfl, rfl, rfl, trivial⟩
  have h1 : (x.kind == 2) = false := h1
  repeat ((conv => whnf); first | refine ⟨fun h => h, ?_⟩ | refine ⟨(by kernel_rfl : drawOk _ _ = true), ?_⟩ | refine ⟨fun (h : gtrue _) => by first | assumption | exact absurd (Eq.trans (Eq.symm h) (by assumption) : true = false) Bool.noConfusion, ?_⟩ | refine ⟨fun h => (absurd (Eq.trans (Eq.symm h) (by assumption) : true = false) Bool.noConfusion : False), ?_⟩ | refine ⟨_, w64 (by first | omega | ((try dsimp only at *); (try simp only [List.length_take, List.length_drop, List.length_map, List.length_append, List.length_cons, List.length_nil, List.length_replicate] at *); omega)), ?_⟩ | refine ⟨fun _ => ⟨by first | omega | ((try dsimp only at *); (try simp only [List.length_take, List.length_drop, List.length_map, List.length_append, List.length_cons, List.length_nil, List.length_replicate] at *); omega), by first | omega | ((try dsimp only at *); (try simp only [List.length_take, List.length_drop, List.length_map, List.length_append, List.length_cons, List.length_nil, List.length_replicate] at *); omega), by first | omega | ((try dsimp only at *); (try simp only [List.length_take, List.length_drop, List.length_map, List.length_append, List.length_cons, List.length_nil, List.length_replicate] at *); omega)⟩, ?_⟩ | refine ⟨by first | omega | ((try dsimp only at *); (try simp only [List.length_take, List.length_drop, List.length_map, List.length_append, List.length_cons, List.length_nil, List.length_replicate] at *); omega), ?_⟩ | refine ⟨fun h => ⟨by first | omega | ((try dsimp only at *); (try simp only [List.length_take, List.length_drop, List.length_map, List.length_append, List.length_cons, List.length_nil, List.length_replicate] at *); omega), by first | omega | ((try dsimp only at *); (try simp only [List.length_take, List.length_drop, List.length_map, List.length_append, List.length_cons, List.length_nil, List.length_replicate] at *); omega)⟩, ?_⟩ | refine ⟨fun (r : List AV) hr c hc => by simp [encS] at hr; (try subst hr); simp at hc; (try subst hc); rfl, ?_⟩ | refine ⟨noOwn (by rfl), ?_⟩)
  (conv => whnf); refine ⟨fun h2 => ?_, fun h2 => ?_⟩
  · have h2 : (x.kind == 3) = true := h2
    rw [show c_spec_l27New.res x = .agg (encO ⟨2, x.path, [], 0, x.data, x.time⟩) by show AV.agg (encO (newO x)) = _; rw [newO, if_neg (by simp [h1]), if_pos h2]]
    repeat ((conv => whnf); first | refine ⟨fun h => h, ?_⟩ | refine ⟨(by kernel_rfl : drawOk _ _ = true), ?_⟩ | refine ⟨fun (h : gtrue _) => by first | assumption | exact absurd (Eq.trans (Eq.symm h) (by assumption) : true = false) Bool.noConfusion, ?_⟩ | refine ⟨fun h => (absurd (Eq.trans (Eq.symm h) (by assumption) : true = false) Bool.noConfusion : False), ?_⟩ | refine ⟨_, w64 (by first | omega | ((try dsimp only at *); (try simp only [List.length_take, List.length_drop, List.length_map, List.length_append, List.length_cons, List.length_nil, List.length_replicate] at *); omega)), ?_⟩ | refine ⟨fun _ => ⟨by first | omega | ((try dsimp only at *); (try simp only [List.length_take, List.length_drop, List.length_map, List.length_append, List.length_cons, List.length_nil, List.length_replicate] at *); omega), by first | omega | ((try dsimp only at *); (try simp only [List.length_take, List.length_drop, List.length_map, List.length_append, List.length_cons, List.length_nil, List.length_replicate] at *); omega), by first | omega | ((try dsimp only at *); (try simp only [List.length_take, List.length_drop, List.length_map, List.length_append, List.length_cons, List.length_nil, List.length_replicate] at *); omega)⟩, ?_⟩ | refine ⟨by first | omega | ((try dsimp only at *); (try simp only [List.length_take, List.length_drop, List.length_map, List.length_append, List.length_cons, List.length_nil, List.length_replicate] at *); omega), ?_⟩ | refine ⟨fun h => ⟨by first | omega | ((try dsimp only at *); (try simp only [List.length_take, List.length_drop, List.length_map, List.length_append, List.length_cons, List.length_nil, List.length_replicate] at *); omega), by first | omega | ((try dsimp only at *); (try simp only [List.length_take, List.length_drop, List.length_map, List.length_append, List.length_cons, List.length_nil, List.length_replicate] at *); omega)⟩, ?_⟩ | refine ⟨fun (r : List AV) hr c hc => by simp [encS] at hr; (try subst hr); simp at hc; (try subst hc); rfl, ?_⟩ | refine ⟨noOwn (by rfl), ?_⟩)
    exact ⟨trivial, rfl, rfl, rfl, rfl, rfl, rfl, trivial⟩
  have h2 : (x.kind == 3) = false := h2
  rw [show c_spec_l27New.res x = .agg (encO ⟨1, x.path, [], 0, x.data, x.time⟩) by show AV.agg (encO (newO x)) = _; rw [newO, if_neg (by simp [h1]), if_neg (by simp [h2])]]
  repeat ((conv => whnf); first | refine ⟨fun h => h, ?_⟩ | refine ⟨(by kernel_rfl : drawOk _ _ = true), ?_⟩ | refine ⟨fun (h : gtrue _) => by first | assumption | exact absurd (Eq.trans (Eq.symm h) (by assumption) : true = false) Bool.noConfusion, ?_⟩ | refine ⟨fun h => (absurd (Eq.trans (Eq.symm h) (by assumption) : true = false) Bool.noConfusion : False), ?_⟩ | refine ⟨_, w64 (by first | omega | ((try dsimp only at *); (try simp only [List.length_take, List.length_drop, List.length_map, List.length_append, List.length_cons, List.length_nil, List.length_replicate] at *); omega)), ?_⟩ | refine ⟨fun _ => ⟨by first | omega | ((try dsimp only at *); (try simp only [List.length_take, List.length_drop, List.length_map, List.length_append, List.length_cons, List.length_nil, List.length_replicate] at *); omega), by first | omega | ((try dsimp only at *); (try simp only [List.length_take, List.length_drop, List.length_map, List.length_append, List.length_cons, List.length_nil, List.length_replicate] at *); omega), by first | omega | ((try dsimp only at *); (try simp only [List.length_take, List.length_drop, List.length_map, List.length_append, List.length_cons, List.length_nil, List.length_replicate] at *); omega)⟩, ?_⟩ | refine ⟨by first | omega | ((try dsimp only at *); (try simp only [List.length_take, List.length_drop, List.length_map, List.length_append, List.length_cons, List.length_nil, List.length_replicate] at *); omega), ?_⟩ | refine ⟨fun h => ⟨by first | omega | ((try dsimp only at *); (try simp only [List.length_take, List.length_drop, List.length_map, List.length_append, List.length_cons, List.length_nil, List.length_replicate] at *); omega), by first | omega | ((try dsimp only at *); (try simp only [List.length_take, List.length_drop, List.length_map, List.length_append, List.length_cons, List.length_nil, List.length_replicate] at *); omega)⟩, ?_⟩ | refine ⟨fun (r : List AV) hr c hc => by simp [encS] at hr; (try subst hr); simp at hc; (try subst hc); rfl, ?_⟩ | refine ⟨noOwn (by rfl), ?_⟩)
  exact ⟨trivial, rfl, rfl, rfl, rfl, rfl, rfl, trivial⟩
theorem ok_spec_l27New : ConOk Try.prog 46 c_spec_l27New := meets_ok (tabT _ _) FOk.nil mixed Try.func46 rfl Try.call46 (by decide) (by kernel_rfl) m_spec_l27New (by intro _ (y : It) _; exact ⟨by simp [c_spec_l27New, con, AV.noRd, noRdCells, noRdRows, noRdRows_map', encS, encI, encO], by simp [c_spec_l27New, con, noRdCells]⟩)

def c_impl_made : PCon := con [.rd [none, none, none, none]] true It (fun x => [.agg (encI x)]) (fun _ => True) (fun x => .agg (encO (newO x)))
def E_impl_made : Env := ⟨lookup tyTab, lookup [], [0, 1, 2, 4, 5, 10]⟩
set_option maxRecDepth 100000 in
set_option maxHeartbeats 4000000 in
theorem m_impl_made : Meets E_impl_made (codeOf Try.f49) Try.f49.results.toList c_impl_made := by
  intro (x : It) hs
  refine ⟨trivial, ?_⟩
  repeat ((conv => whnf); first | refine ⟨fun h => h, ?_⟩ | refine ⟨(by kernel_rfl : drawOk _ _ = true), ?_⟩ | refine ⟨fun (h : gtrue _) => by first | assumption | exact absurd (Eq.trans (Eq.symm h) (by assumption) : true = false) Bool.noConfusion, ?_⟩ | refine ⟨fun h => (absurd (Eq.trans (Eq.symm h) (by assumption) : true = false) Bool.noConfusion : False), ?_⟩ | refine ⟨_, w64 (by first | omega | ((try dsimp only at *); (try simp only [List.length_take, List.length_drop, List.length_map, List.length_append, List.length_cons, List.length_nil, List.length_replicate] at *); omega)), ?_⟩ | refine ⟨fun _ => ⟨by first | omega | ((try dsimp only at *); (try simp only [List.length_take, List.length_drop, List.length_map, List.length_append, List.length_cons, List.length_nil, List.length_replicate] at *); omega), by first | omega | ((try dsimp only at *); (try simp only [List.length_take, List.length_drop, List.length_map, List.length_append, List.length_cons, List.length_nil, List.length_replicate] at *); omega), by first | omega | ((try dsimp only at *); (try simp only [List.length_take, List.length_drop, List.length_map, List.length_append, List.length_cons, List.length_nil, List.length_replicate] at *); omega)⟩, ?_⟩ | refine ⟨by first | omega | ((try dsimp only at *); (try simp only [List.length_take, List.length_drop, List.length_map, List.length_append, List.length_cons, List.length_nil, List.length_replicate] at *); omega), ?_⟩ | refine ⟨fun h => ⟨by first | omega | ((try dsimp only at *); (try simp only [List.length_take, List.length_drop, List.length_map, List.length_append, List.length_cons, List.length_nil, List.length_replicate] at *); omega), by first | omega | ((try dsimp only at *); (try simp only [List.length_take, List.length_drop, List.length_map, List.length_append, List.length_cons, List.length_nil, List.length_replicate] at *); omega)⟩, ?_⟩ | refine ⟨fun (r : List AV) hr c hc => by simp [encS] at hr; (try subst hr); simp at hc; (try subst hc); rfl, ?_⟩ | refine ⟨noOwn (by rfl), ?_⟩)
  (conv => whnf); refine ⟨fun h1 => ?_, fun h1 => ?_⟩
  · have h1 : (x.kind == 2) = true := h1
    rw [show c_impl_made.res x = .agg (encO ⟨0, x.path, [], 0, [], 0⟩) by show AV.agg (encO (newO x)) = _; rw [newO, if_pos h1]]
    repeat ((conv => whnf); first | refine ⟨fun h => h, ?_⟩ | refine ⟨(by kernel_rfl : drawOk _ _ = true), ?_⟩ | refine ⟨fun (h : gtrue _) => by first | assumption | exact absurd (Eq.trans (Eq.symm h) (by assumption) : true = false) Bool.noConfusion, ?_⟩ | refine ⟨fun h => (absurd (Eq.trans (Eq.symm h) (by assumption) : true = false) Bool.noConfusion : False), ?_⟩ | refine ⟨_, w64 (by first | omega | ((try dsimp only at *); (try simp only [List.length_take, List.length_drop, List.length_map, List.length_append, List.length_cons, List.length_nil, List.length_replicate] at *); omega)), ?_⟩ | refine ⟨fun _ => ⟨by first | omega | ((try dsimp only at *); (try simp only [List.length_take, List.length_drop, List.length_map, List.length_append, List.length_cons, List.length_nil, List.length_replicate] at *); omega), by first | omega | ((try dsimp only at *); (try simp only [List.length_take, List.length_drop, List.length_map, List.length_append, List.length_cons, List.length_nil, List.length_replicate] at *); omega), by first | omega | ((try dsimp only at *); (try simp only [List.length_take, List.length_drop, List.length_map, List.length_append, List.length_cons, List.length_nil, List.length_replicate] at *); omega)⟩, ?_⟩ | refine ⟨by first | omega | ((try dsimp only at *); (try simp only [List.length_take, List.length_drop, List.length_map, List.length_append, List.length_cons, List.length_nil, List.length_replicate] at *); omega), ?_⟩ | refine ⟨fun h => ⟨by first | omega | ((try dsimp only at *); (try simp only [List.length_take, List.length_drop, List.length_map, List.length_append, List.length_cons, List.length_nil, List.length_replicate] at *); omega), by first | omega | ((try dsimp only at *); (try simp only [List.length_take, List.length_drop, List.length_map, List.length_append, List.length_cons, List.length_nil, List.length_replicate] at *); omega)⟩, ?_⟩ | refine ⟨fun (r : List AV) hr c hc => by simp [encS] at hr; (try subst hr); simp at hc; (try subst hc); rfl, ?_⟩ | refine ⟨noOwn (by rfl), ?_⟩)
    exact ⟨trivial, rfl, rfl, rfl, rfl, rfl, rfl, trivial⟩
  have h1 : (x.kind == 2) = false := h1
  repeat ((conv => whnf); first | refine ⟨fun h => h, ?_⟩ | refine ⟨(by kernel_rfl : drawOk _ _ = true), ?_⟩ | refine ⟨fun (h : gtrue _) => by first | assumption | exact absurd (Eq.trans (Eq.symm h) (by assumption) : true = false) Bool.noConfusion, ?_⟩ | refine ⟨fun h => (absurd (Eq.trans (Eq.symm h) (by assumption) : true = false) Bool.noConfusion : False), ?_⟩ | refine ⟨_, w64 (by first | omega | ((try dsimp only at *); (try simp only [List.length_take, List.length_drop, List.length_map, List.length_append, List.length_cons, List.length_nil, List.length_replicate] at *); omega)), ?_⟩ | refine ⟨fun _ => ⟨by first | omega | ((try dsimp only at *); (try simp only [List.length_take, List.length_drop, List.length_map, List.length_append, List.length_cons, List.length_nil, List.length_replicate] at *); omega), by first | omega | ((try dsimp only at *); (try simp only [List.length_take, List.length_drop, List.length_map, List.length_append, List.length_cons, List.length_nil, List.length_replicate] at *); omega), by first | omega | ((try dsimp only at *); (try simp only [List.length_take, List.length_drop, List.length_map, List.length_append, List.length_cons, List.length_nil, List.length_replicate] at *); omega)⟩, ?_⟩ | refine ⟨by first | omega | ((try dsimp only at *); (try simp only [List.length_take, List.length_drop, List.length_map, List.length_append, List.length_cons, List.length_nil, List.length_replicate] at *); omega), ?_⟩ | refine ⟨fun h => ⟨by first | omega | ((try dsimp only at *); (try simp only [List.length_take, List.length_drop, List.length_map, List.length_append, List.length_cons, List.length_nil, List.length_replicate] at *); omega), by first | omega | ((try dsimp only at *); (try simp only [List.length_take, List.length_drop, List.length_map, List.length_append, List.length_cons, List.length_nil, List.length_replicate] at *); omega)⟩, ?_⟩ | refine ⟨fun (r : List AV) hr c hc => by simp [encS] at hr; (try subst hr); simp at hc; (try subst hc); rfl, ?_⟩ | refine ⟨noOwn (by rfl), ?_⟩)
  (conv => whnf); refine ⟨fun h2 => ?_, fun h2 => ?_⟩
  · have h2 : (x.kind == 3) = true := h2
    rw [show c_impl_made.res x = .agg (encO ⟨2, x.path, [], 0, x.data, x.time⟩) by show AV.agg (encO (newO x)) = _; rw [newO, if_neg (by simp [h1]), if_pos h2]]
    repeat ((conv => whnf); first | refine ⟨fun h => h, ?_⟩ | refine ⟨(by kernel_rfl : drawOk _ _ = true), ?_⟩ | refine ⟨fun (h : gtrue _) => by first | assumption | exact absurd (Eq.trans (Eq.symm h) (by assumption) : true = false) Bool.noConfusion, ?_⟩ | refine ⟨fun h => (absurd (Eq.trans (Eq.symm h) (by assumption) : true = false) Bool.noConfusion : False), ?_⟩ | refine ⟨_, w64 (by first | omega | ((try dsimp only at *); (try simp only [List.length_take, List.length_drop, List.length_map, List.length_append, List.length_cons, List.length_nil, List.length_replicate] at *); omega)), ?_⟩ | refine ⟨fun _ => ⟨by first | omega | ((try dsimp only at *); (try simp only [List.length_take, List.length_drop, List.length_map, List.length_append, List.length_cons, List.length_nil, List.length_replicate] at *); omega), by first | omega | ((try dsimp only at *); (try simp only [List.length_take, List.length_drop, List.length_map, List.length_append, List.length_cons, List.length_nil, List.length_replicate] at *); omega), by first | omega | ((try dsimp only at *); (try simp only [List.length_take, List.length_drop, List.length_map, List.length_append, List.length_cons, List.length_nil, List.length_replicate] at *); omega)⟩, ?_⟩ | refine ⟨by first | omega | ((try dsimp only at *); (try simp only [List.length_take, List.length_drop, List.length_map, List.length_append, List.length_cons, List.length_nil, List.length_replicate] at *); omega), ?_⟩ | refine ⟨fun h => ⟨by first | omega | ((try dsimp only at *); (try simp only [List.length_take, List.length_drop, List.length_map, List.length_append, List.length_cons, List.length_nil, List.length_replicate] at *); omega), by first | omega | ((try dsimp only at *); (try simp only [List.length_take, List.length_drop, List.length_map, List.length_append, List.length_cons, List.length_nil, List.length_replicate] at *); omega)⟩, ?_⟩ | refine ⟨fun (r : List AV) hr c hc => by simp [encS] at hr; (try subst hr); simp at hc; (try subst hc); rfl, ?_⟩ | refine ⟨noOwn (by rfl), ?_⟩)
    exact ⟨trivial, rfl, rfl, rfl, rfl, rfl, rfl, trivial⟩
  have h2 : (x.kind == 3) = false := h2
  rw [show c_impl_made.res x = .agg (encO ⟨1, x.path, [], 0, x.data, x.time⟩) by show AV.agg (encO (newO x)) = _; rw [newO, if_neg (by simp [h1]), if_neg (by simp [h2])]]
  repeat ((conv => whnf); first | refine ⟨fun h => h, ?_⟩ | refine ⟨(by kernel_rfl : drawOk _ _ = true), ?_⟩ | refine ⟨fun (h : gtrue _) => by first | assumption | exact absurd (Eq.trans (Eq.symm h) (by assumption) : true = false) Bool.noConfusion, ?_⟩ | refine ⟨fun h => (absurd (Eq.trans (Eq.symm h) (by assumption) : true = false) Bool.noConfusion : False), ?_⟩ | refine ⟨_, w64 (by first | omega | ((try dsimp only at *); (try simp only [List.length_take, List.length_drop, List.length_map, List.length_append, List.length_cons, List.length_nil, List.length_replicate] at *); omega)), ?_⟩ | refine ⟨fun _ => ⟨by first | omega | ((try dsimp only at *); (try simp only [List.length_take, List.length_drop, List.length_map, List.length_append, List.length_cons, List.length_nil, List.length_replicate] at *); omega), by first | omega | ((try dsimp only at *); (try simp only [List.length_take, List.length_drop, List.length_map, List.length_append, List.length_cons, List.length_nil, List.length_replicate] at *); omega), by first | omega | ((try dsimp only at *); (try simp only [List.length_take, List.length_drop, List.length_map, List.length_append, List.length_cons, List.length_nil, List.length_replicate] at *); omega)⟩, ?_⟩ | refine ⟨by first | omega | ((try dsimp only at *); (try simp only [List.length_take, List.length_drop, List.length_map, List.length_append, List.length_cons, List.length_nil, List.length_replicate] at *); omega), ?_⟩ | refine ⟨fun h => ⟨by first | omega | ((try dsimp only at *); (try simp only [List.length_take, List.length_drop, List.length_map, List.length_append, List.length_cons, List.length_nil, List.length_replicate] at *); omega), by first | omega | ((try dsimp only at *); (try simp only [List.length_take, List.length_drop, List.length_map, List.length_append, List.length_cons, List.length_nil, List.length_replicate] at *); omega)⟩, ?_⟩ | refine ⟨fun (r : List AV) hr c hc => by simp [encS] at hr; (try subst hr); simp at hc; (try subst hc); rfl, ?_⟩ | refine ⟨noOwn (by rfl), ?_⟩)
  exact ⟨trivial, rfl, rfl, rfl, rfl, rfl, rfl, trivial⟩
theorem ok_impl_made : ConOk Try.prog 49 c_impl_made := meets_ok (tabT _ _) FOk.nil mixed Try.func49 rfl Try.call49 (by decide) (by kernel_rfl) m_impl_made (by intro _ (y : It) _; exact ⟨by simp [c_impl_made, con, AV.noRd, noRdCells, noRdRows, noRdRows_map', encS, encI, encO], by simp [c_impl_made, con, noRdCells]⟩)


end Go.GH

set_option linter.unusedVariables false
set_option linter.unusedSimpArgs false
namespace Go.GH
open Go Go.Proofs

def c_spec_Delta : PCon := con [mS 4, mS 4] false (Tr × Tr) (fun ⟨a, b⟩ => [rdT a, rdT b]) (fun x => smT x.1 ∧ smT x.2) (fun x => .own 6 ((delta x.1 x.2).map encO))
def E_spec_Delta : Env := ⟨lookup tyTab, lookup [(37, c_spec_TreeOk), (41, c_spec_TreeGet), (45, c_spec_l27Goes), (46, c_spec_l27New)], [0, 1, 2, 3, 4, 5, 6, 7, 8, 9, 10, 11, 12, 21, 28, 38, 41, 53, 68, 81, 108]⟩
set_option maxRecDepth 100000 in
set_option maxHeartbeats 4000000 in
theorem m_spec_Delta : Meets E_spec_Delta (codeOf Try.f23) Try.f23.results.toList c_spec_Delta := by
  rintro ⟨a, b⟩ hs
  obtain ⟨ha, hb⟩ : smT a ∧ smT b := hs
  refine ⟨trivial, ?_⟩
  repeat ((conv => whnf); first | refine ⟨fun h => h, ?_⟩ | refine ⟨(by kernel_rfl : drawOk _ _ = true), ?_⟩ | refine ⟨fun (h : gtrue _) => by first | assumption | exact absurd (Eq.trans (Eq.symm h) (by assumption) : true = false) Bool.noConfusion, ?_⟩ | refine ⟨fun h => (absurd (Eq.trans (Eq.symm h) (by assumption) : true = false) Bool.noConfusion : False), ?_⟩ | refine ⟨_, w64 (by first | omega | ((try dsimp only at *); (try simp only [List.length_take, List.length_drop, List.length_map, List.length_append, List.length_cons, List.length_nil, List.length_replicate] at *); omega)), ?_⟩ | refine ⟨fun _ => ⟨by first | omega | ((try dsimp only at *); (try simp only [List.length_take, List.length_drop, List.length_map, List.length_append, List.length_cons, List.length_nil, List.length_replicate] at *); omega), by first | omega | ((try dsimp only at *); (try simp only [List.length_take, List.length_drop, List.length_map, List.length_append, List.length_cons, List.length_nil, List.length_replicate] at *); omega), by first | omega | ((try dsimp only at *); (try simp only [List.length_take, List.length_drop, List.length_map, List.length_append, List.length_cons, List.length_nil, List.length_replicate] at *); omega)⟩, ?_⟩ | refine ⟨by first | omega | ((try dsimp only at *); (try simp only [List.length_take, List.length_drop, List.length_map, List.length_append, List.length_cons, List.length_nil, List.length_replicate] at *); omega), ?_⟩ | refine ⟨fun h => ⟨by first | omega | ((try dsimp only at *); (try simp only [List.length_take, List.length_drop, List.length_map, List.length_append, List.length_cons, List.length_nil, List.length_replicate] at *); omega), by first | omega | ((try dsimp only at *); (try simp only [List.length_take, List.length_drop, List.length_map, List.length_append, List.length_cons, List.length_nil, List.length_replicate] at *); omega)⟩, ?_⟩ | refine ⟨fun (r : List AV) hr c hc => by simp [encS] at hr; (try subst hr); simp at hc; (try subst hc); rfl, ?_⟩ | refine ⟨noOwn (by rfl), ?_⟩)
  refine ⟨a, rfl, fun _ => ha, ?_⟩
  repeat ((conv => whnf); first | refine ⟨fun h => h, ?_⟩ | refine ⟨(by kernel_rfl : drawOk _ _ = true), ?_⟩ | refine ⟨fun (h : gtrue _) => by first | assumption | exact absurd (Eq.trans (Eq.symm h) (by assumption) : true = false) Bool.noConfusion, ?_⟩ | refine ⟨fun h => (absurd (Eq.trans (Eq.symm h) (by assumption) : true = false) Bool.noConfusion : False), ?_⟩ | refine ⟨_, w64 (by first | omega | ((try dsimp only at *); (try simp only [List.length_take, List.length_drop, List.length_map, List.length_append, List.length_cons, List.length_nil, List.length_replicate] at *); omega)), ?_⟩ | refine ⟨fun _ => ⟨by first | omega | ((try dsimp only at *); (try simp only [List.length_take, List.length_drop, List.length_map, List.length_append, List.length_cons, List.length_nil, List.length_replicate] at *); omega), by first | omega | ((try dsimp only at *); (try simp only [List.length_take, List.length_drop, List.length_map, List.length_append, List.length_cons, List.length_nil, List.length_replicate] at *); omega), by first | omega | ((try dsimp only at *); (try simp only [List.length_take, List.length_drop, List.length_map, List.length_append, List.length_cons, List.length_nil, List.length_replicate] at *); omega)⟩, ?_⟩ | refine ⟨by first | omega | ((try dsimp only at *); (try simp only [List.length_take, List.length_drop, List.length_map, List.length_append, List.length_cons, List.length_nil, List.length_replicate] at *); omega), ?_⟩ | refine ⟨fun h => ⟨by first | omega | ((try dsimp only at *); (try simp only [List.length_take, List.length_drop, List.length_map, List.length_append, List.length_cons, List.length_nil, List.length_replicate] at *); omega), by first | omega | ((try dsimp only at *); (try simp only [List.length_take, List.length_drop, List.length_map, List.length_append, List.length_cons, List.length_nil, List.length_replicate] at *); omega)⟩, ?_⟩ | refine ⟨fun (r : List AV) hr c hc => by simp [encS] at hr; (try subst hr); simp at hc; (try subst hc); rfl, ?_⟩ | refine ⟨noOwn (by rfl), ?_⟩)
  refine ⟨b, rfl, fun _ => hb, ?_⟩
  repeat ((conv => whnf); first | refine ⟨fun h => h, ?_⟩ | refine ⟨(by kernel_rfl : drawOk _ _ = true), ?_⟩ | refine ⟨fun (h : gtrue _) => by first | assumption | exact absurd (Eq.trans (Eq.symm h) (by assumption) : true = false) Bool.noConfusion, ?_⟩ | refine ⟨fun h => (absurd (Eq.trans (Eq.symm h) (by assumption) : true = false) Bool.noConfusion : False), ?_⟩ | refine ⟨_, w64 (by first | omega | ((try dsimp only at *); (try simp only [List.length_take, List.length_drop, List.length_map, List.length_append, List.length_cons, List.length_nil, List.length_replicate] at *); omega)), ?_⟩ | refine ⟨fun _ => ⟨by first | omega | ((try dsimp only at *); (try simp only [List.length_take, List.length_drop, List.length_map, List.length_append, List.length_cons, List.length_nil, List.length_replicate] at *); omega), by first | omega | ((try dsimp only at *); (try simp only [List.length_take, List.length_drop, List.length_map, List.length_append, List.length_cons, List.length_nil, List.length_replicate] at *); omega), by first | omega | ((try dsimp only at *); (try simp only [List.length_take, List.length_drop, List.length_map, List.length_append, List.length_cons, List.length_nil, List.length_replicate] at *); omega)⟩, ?_⟩ | refine ⟨by first | omega | ((try dsimp only at *); (try simp only [List.length_take, List.length_drop, List.length_map, List.length_append, List.length_cons, List.length_nil, List.length_replicate] at *); omega), ?_⟩ | refine ⟨fun h => ⟨by first | omega | ((try dsimp only at *); (try simp only [List.length_take, List.length_drop, List.length_map, List.length_append, List.length_cons, List.length_nil, List.length_replicate] at *); omega), by first | omega | ((try dsimp only at *); (try simp only [List.length_take, List.length_drop, List.length_map, List.length_append, List.length_cons, List.length_nil, List.length_replicate] at *); omega)⟩, ?_⟩ | refine ⟨fun (r : List AV) hr c hc => by simp [encS] at hr; (try subst hr); simp at hc; (try subst hc); rfl, ?_⟩ | refine ⟨noOwn (by rfl), ?_⟩)
  (conv => whnf); refine ⟨fun h1 => ?_, fun h1 => ?_⟩
  · have h1 : (!treeOk a || !treeOk b) = true := h1
    repeat ((conv => whnf); first | refine ⟨fun h => h, ?_⟩ | refine ⟨(by kernel_rfl : drawOk _ _ = true), ?_⟩ | refine ⟨fun (h : gtrue _) => by first | assumption | exact absurd (Eq.trans (Eq.symm h) (by assumption) : true = false) Bool.noConfusion, ?_⟩ | refine ⟨fun h => (absurd (Eq.trans (Eq.symm h) (by assumption) : true = false) Bool.noConfusion : False), ?_⟩ | refine ⟨_, w64 (by first | omega | ((try dsimp only at *); (try simp only [List.length_take, List.length_drop, List.length_map, List.length_append, List.length_cons, List.length_nil, List.length_replicate] at *); omega)), ?_⟩ | refine ⟨fun _ => ⟨by first | omega | ((try dsimp only at *); (try simp only [List.length_take, List.length_drop, List.length_map, List.length_append, List.length_cons, List.length_nil, List.length_replicate] at *); omega), by first | omega | ((try dsimp only at *); (try simp only [List.length_take, List.length_drop, List.length_map, List.length_append, List.length_cons, List.length_nil, List.length_replicate] at *); omega), by first | omega | ((try dsimp only at *); (try simp only [List.length_take, List.length_drop, List.length_map, List.length_append, List.length_cons, List.length_nil, List.length_replicate] at *); omega)⟩, ?_⟩ | refine ⟨by first | omega | ((try dsimp only at *); (try simp only [List.length_take, List.length_drop, List.length_map, List.length_append, List.length_cons, List.length_nil, List.length_replicate] at *); omega), ?_⟩ | refine ⟨fun h => ⟨by first | omega | ((try dsimp only at *); (try simp only [List.length_take, List.length_drop, List.length_map, List.length_append, List.length_cons, List.length_nil, List.length_replicate] at *); omega), by first | omega | ((try dsimp only at *); (try simp only [List.length_take, List.length_drop, List.length_map, List.length_append, List.length_cons, List.length_nil, List.length_replicate] at *); omega)⟩, ?_⟩ | refine ⟨fun (r : List AV) hr c hc => by simp [encS] at hr; (try subst hr); simp at hc; (try subst hc); rfl, ?_⟩ | refine ⟨noOwn (by rfl), ?_⟩)
    have h0 : delta a b = [] := by unfold delta; revert h1; cases treeOk a <;> cases treeOk b <;> simp
    exact ⟨trivial, eqOwn (by show _ = (delta a b).map encO; rw [h0]; rfl)⟩
  have h1 : (!treeOk a || !treeOk b) = false := h1
  have oa : treeOk a = true := by revert h1; cases treeOk a <;> simp
  have ob : treeOk b = true := by revert h1; cases treeOk b <;> simp
  have la := treeOk_len oa
  have lb := treeOk_len ob
  have hd : delta a b = downO a b (back a 0) ++ b.flatMap (stepO a b) := by simp [delta, oa, ob, back]
  repeat ((conv => whnf); first | refine ⟨fun h => h, ?_⟩ | refine ⟨(by kernel_rfl : drawOk _ _ = true), ?_⟩ | refine ⟨fun (h : gtrue _) => by first | assumption | exact absurd (Eq.trans (Eq.symm h) (by assumption) : true = false) Bool.noConfusion, ?_⟩ | refine ⟨fun h => (absurd (Eq.trans (Eq.symm h) (by assumption) : true = false) Bool.noConfusion : False), ?_⟩ | refine ⟨_, w64 (by first | omega | ((try dsimp only at *); (try simp only [List.length_take, List.length_drop, List.length_map, List.length_append, List.length_cons, List.length_nil, List.length_replicate] at *); omega)), ?_⟩ | refine ⟨fun _ => ⟨by first | omega | ((try dsimp only at *); (try simp only [List.length_take, List.length_drop, List.length_map, List.length_append, List.length_cons, List.length_nil, List.length_replicate] at *); omega), by first | omega | ((try dsimp only at *); (try simp only [List.length_take, List.length_drop, List.length_map, List.length_append, List.length_cons, List.length_nil, List.length_replicate] at *); omega), by first | omega | ((try dsimp only at *); (try simp only [List.length_take, List.length_drop, List.length_map, List.length_append, List.length_cons, List.length_nil, List.length_replicate] at *); omega)⟩, ?_⟩ | refine ⟨by first | omega | ((try dsimp only at *); (try simp only [List.length_take, List.length_drop, List.length_map, List.length_append, List.length_cons, List.length_nil, List.length_replicate] at *); omega), ?_⟩ | refine ⟨fun h => ⟨by first | omega | ((try dsimp only at *); (try simp only [List.length_take, List.length_drop, List.length_map, List.length_append, List.length_cons, List.length_nil, List.length_replicate] at *); omega), by first | omega | ((try dsimp only at *); (try simp only [List.length_take, List.length_drop, List.length_map, List.length_append, List.length_cons, List.length_nil, List.length_replicate] at *); omega)⟩, ?_⟩ | refine ⟨fun (r : List AV) hr c hc => by simp [encS] at hr; (try subst hr); simp at hc; (try subst hc); rfl, ?_⟩ | refine ⟨noOwn (by rfl), ?_⟩)
  refine loop_rule (fun j : Nat => ⟨[(2, ⟨none, .bx 0 0⟩), (3, ⟨none, .bx 1 0⟩), (5, ⟨none, .view 2 [] 0 ((downO a b (back a j)).map encO).length⟩), (6, ⟨none, .int .i64 (j - 1)⟩)], [(2, .own 6 ((downO a b (back a j)).map encO)), (1, .own 1 [[.rd 4 (b.map encI)]]), (0, .own 1 [[.rd 4 (a.map encI)]])], 3⟩)
    (fun j => j ≤ a.length) (fun j => j) a.length ?_ (by omega) ?_
  · (refine ⟨?_, ?_, rfl⟩ <;> repeat' (first | exact rfl | exact trivial | refine ⟨?_, ?_⟩ | fail) <;> (conv => whnf))
    all_goals simp [back, downO]
  intro j hj
  have hj : j ≤ a.length := hj
  have hlen : (downO a b (back a j)).length ≤ 40 := by
    have := downO_len (a := a) (b := b) (l := back a j)
    have h2 : (back a j).length = a.length - j := by simp [back]
    omega
  (conv => whnf); refine ⟨fun h2 => ?_, fun h2 => ?_⟩
  · have h2 : 1 ≤ j := by simp at h2; omega
    obtain ⟨i, rfl⟩ : ∃ i, j = i + 1 := ⟨j - 1, by omega⟩
    obtain ⟨x, hx⟩ := get_lt (l := a) (i := i) (by omega)
    have hix : (a.map encI)[(((i + 1 : Nat) : Int) - 1).toNat]? = some (encI x) := by
      rw [show (((i + 1 : Nat) : Int) - 1).toNat = i by omega]; exact get_map hx
    repeat ((conv => whnf); first | refine ⟨fun h => h, ?_⟩ | refine ⟨(by kernel_rfl : drawOk _ _ = true), ?_⟩ | refine ⟨fun (h : gtrue _) => by first | assumption | exact absurd (Eq.trans (Eq.symm h) (by assumption) : true = false) Bool.noConfusion, ?_⟩ | refine ⟨fun h => (absurd (Eq.trans (Eq.symm h) (by assumption) : true = false) Bool.noConfusion : False), ?_⟩ | refine ⟨_, w64 (by first | omega | ((try dsimp only at *); (try simp only [List.length_take, List.length_drop, List.length_map, List.length_append, List.length_cons, List.length_nil, List.length_replicate] at *); omega)), ?_⟩ | refine ⟨fun _ => ⟨by first | omega | ((try dsimp only at *); (try simp only [List.length_take, List.length_drop, List.length_map, List.length_append, List.length_cons, List.length_nil, List.length_replicate] at *); omega), by first | omega | ((try dsimp only at *); (try simp only [List.length_take, List.length_drop, List.length_map, List.length_append, List.length_cons, List.length_nil, List.length_replicate] at *); omega), by first | omega | ((try dsimp only at *); (try simp only [List.length_take, List.length_drop, List.length_map, List.length_append, List.length_cons, List.length_nil, List.length_replicate] at *); omega)⟩, ?_⟩ | refine ⟨by first | omega | ((try dsimp only at *); (try simp only [List.length_take, List.length_drop, List.length_map, List.length_append, List.length_cons, List.length_nil, List.length_replicate] at *); omega), ?_⟩ | refine ⟨fun h => ⟨by first | omega | ((try dsimp only at *); (try simp only [List.length_take, List.length_drop, List.length_map, List.length_append, List.length_cons, List.length_nil, List.length_replicate] at *); omega), by first | omega | ((try dsimp only at *); (try simp only [List.length_take, List.length_drop, List.length_map, List.length_append, List.length_cons, List.length_nil, List.length_replicate] at *); omega)⟩, ?_⟩ | refine ⟨fun (r : List AV) hr c hc => by simp [encS] at hr; (try subst hr); simp at hc; (try subst hc); rfl, ?_⟩ | refine ⟨noOwn (by rfl), ?_⟩ | refine ⟨encI x, fun _ => ⟨by omega, hix⟩, ?_⟩)
    refine ⟨(x, b), by refine argIT ?_; simp [rdI], fun _ => hb, ?_⟩
    repeat ((conv => whnf); first | refine ⟨fun h => h, ?_⟩ | refine ⟨(by kernel_rfl : drawOk _ _ = true), ?_⟩ | refine ⟨fun (h : gtrue _) => by first | assumption | exact absurd (Eq.trans (Eq.symm h) (by assumption) : true = false) Bool.noConfusion, ?_⟩ | refine ⟨fun h => (absurd (Eq.trans (Eq.symm h) (by assumption) : true = false) Bool.noConfusion : False), ?_⟩ | refine ⟨_, w64 (by first | omega | ((try dsimp only at *); (try simp only [List.length_take, List.length_drop, List.length_map, List.length_append, List.length_cons, List.length_nil, List.length_replicate] at *); omega)), ?_⟩ | refine ⟨fun _ => ⟨by first | omega | ((try dsimp only at *); (try simp only [List.length_take, List.length_drop, List.length_map, List.length_append, List.length_cons, List.length_nil, List.length_replicate] at *); omega), by first | omega | ((try dsimp only at *); (try simp only [List.length_take, List.length_drop, List.length_map, List.length_append, List.length_cons, List.length_nil, List.length_replicate] at *); omega), by first | omega | ((try dsimp only at *); (try simp only [List.length_take, List.length_drop, List.length_map, List.length_append, List.length_cons, List.length_nil, List.length_replicate] at *); omega)⟩, ?_⟩ | refine ⟨by first | omega | ((try dsimp only at *); (try simp only [List.length_take, List.length_drop, List.length_map, List.length_append, List.length_cons, List.length_nil, List.length_replicate] at *); omega), ?_⟩ | refine ⟨fun h => ⟨by first | omega | ((try dsimp only at *); (try simp only [List.length_take, List.length_drop, List.length_map, List.length_append, List.length_cons, List.length_nil, List.length_replicate] at *); omega), by first | omega | ((try dsimp only at *); (try simp only [List.length_take, List.length_drop, List.length_map, List.length_append, List.length_cons, List.length_nil, List.length_replicate] at *); omega)⟩, ?_⟩ | refine ⟨fun (r : List AV) hr c hc => by simp [encS] at hr; (try subst hr); simp at hc; (try subst hc); rfl, ?_⟩ | refine ⟨noOwn (by rfl), ?_⟩)
    (conv => whnf); refine ⟨fun h3 => ?_, fun h3 => ?_⟩
    · have h3 : goes x b = true := h3
      have hg : goneO x = ⟨if x.kind == 2 then 7 else 6, x.path, [], 0, [], 0⟩ := rfl
      repeat ((conv => whnf); first | refine ⟨fun h => h, ?_⟩ | refine ⟨(by kernel_rfl : drawOk _ _ = true), ?_⟩ | refine ⟨fun (h : gtrue _) => by first | assumption | exact absurd (Eq.trans (Eq.symm h) (by assumption) : true = false) Bool.noConfusion, ?_⟩ | refine ⟨fun h => (absurd (Eq.trans (Eq.symm h) (by assumption) : true = false) Bool.noConfusion : False), ?_⟩ | refine ⟨_, w64 (by first | omega | ((try dsimp only at *); (try simp only [List.length_take, List.length_drop, List.length_map, List.length_append, List.length_cons, List.length_nil, List.length_replicate] at *); omega)), ?_⟩ | refine ⟨fun _ => ⟨by first | omega | ((try dsimp only at *); (try simp only [List.length_take, List.length_drop, List.length_map, List.length_append, List.length_cons, List.length_nil, List.length_replicate] at *); omega), by first | omega | ((try dsimp only at *); (try simp only [List.length_take, List.length_drop, List.length_map, List.length_append, List.length_cons, List.length_nil, List.length_replicate] at *); omega), by first | omega | ((try dsimp only at *); (try simp only [List.length_take, List.length_drop, List.length_map, List.length_append, List.length_cons, List.length_nil, List.length_replicate] at *); omega)⟩, ?_⟩ | refine ⟨by first | omega | ((try dsimp only at *); (try simp only [List.length_take, List.length_drop, List.length_map, List.length_append, List.length_cons, List.length_nil, List.length_replicate] at *); omega), ?_⟩ | refine ⟨fun h => ⟨by first | omega | ((try dsimp only at *); (try simp only [List.length_take, List.length_drop, List.length_map, List.length_append, List.length_cons, List.length_nil, List.length_replicate] at *); omega), by first | omega | ((try dsimp only at *); (try simp only [List.length_take, List.length_drop, List.length_map, List.length_append, List.length_cons, List.length_nil, List.length_replicate] at *); omega)⟩, ?_⟩ | refine ⟨fun (r : List AV) hr c hc => by simp [encS] at hr; (try subst hr); simp at hc; (try subst hc); rfl, ?_⟩ | refine ⟨noOwn (by rfl), ?_⟩)
      (conv => whnf); refine ⟨fun h4 => ?_, fun h4 => ?_⟩
      · have h4 : (x.kind == 2) = true := h4
        repeat ((conv => whnf); first | refine ⟨fun h => h, ?_⟩ | refine ⟨(by kernel_rfl : drawOk _ _ = true), ?_⟩ | refine ⟨fun (h : gtrue _) => by first | assumption | exact absurd (Eq.trans (Eq.symm h) (by assumption) : true = false) Bool.noConfusion, ?_⟩ | refine ⟨fun h => (absurd (Eq.trans (Eq.symm h) (by assumption) : true = false) Bool.noConfusion : False), ?_⟩ | refine ⟨_, w64 (by first | omega | ((try dsimp only at *); (try simp only [List.length_take, List.length_drop, List.length_map, List.length_append, List.length_cons, List.length_nil, List.length_replicate] at *); omega)), ?_⟩ | refine ⟨fun _ => ⟨by first | omega | ((try dsimp only at *); (try simp only [List.length_take, List.length_drop, List.length_map, List.length_append, List.length_cons, List.length_nil, List.length_replicate] at *); omega), by first | omega | ((try dsimp only at *); (try simp only [List.length_take, List.length_drop, List.length_map, List.length_append, List.length_cons, List.length_nil, List.length_replicate] at *); omega), by first | omega | ((try dsimp only at *); (try simp only [List.length_take, List.length_drop, List.length_map, List.length_append, List.length_cons, List.length_nil, List.length_replicate] at *); omega)⟩, ?_⟩ | refine ⟨by first | omega | ((try dsimp only at *); (try simp only [List.length_take, List.length_drop, List.length_map, List.length_append, List.length_cons, List.length_nil, List.length_replicate] at *); omega), ?_⟩ | refine ⟨fun h => ⟨by first | omega | ((try dsimp only at *); (try simp only [List.length_take, List.length_drop, List.length_map, List.length_append, List.length_cons, List.length_nil, List.length_replicate] at *); omega), by first | omega | ((try dsimp only at *); (try simp only [List.length_take, List.length_drop, List.length_map, List.length_append, List.length_cons, List.length_nil, List.length_replicate] at *); omega)⟩, ?_⟩ | refine ⟨fun (r : List AV) hr c hc => by simp [encS] at hr; (try subst hr); simp at hc; (try subst hc); rfl, ?_⟩ | refine ⟨noOwn (by rfl), ?_⟩)
        refine again i ?_ (by show i ≤ a.length; omega) (by first | omega | (simp; done) | (simp; omega))
        rw [back_at hx, downO_hit h3, hg, if_pos h4]
        (refine ⟨?_, ?_, rfl⟩ <;> repeat' (first | exact rfl | exact trivial | refine ⟨?_, ?_⟩ | fail) <;> (conv => whnf))
        all_goals simp [encO]
      · have h4 : (x.kind == 2) = false := h4
        repeat ((conv => whnf); first | refine ⟨fun h => h, ?_⟩ | refine ⟨(by kernel_rfl : drawOk _ _ = true), ?_⟩ | refine ⟨fun (h : gtrue _) => by first | assumption | exact absurd (Eq.trans (Eq.symm h) (by assumption) : true = false) Bool.noConfusion, ?_⟩ | refine ⟨fun h => (absurd (Eq.trans (Eq.symm h) (by assumption) : true = false) Bool.noConfusion : False), ?_⟩ | refine ⟨_, w64 (by first | omega | ((try dsimp only at *); (try simp only [List.length_take, List.length_drop, List.length_map, List.length_append, List.length_cons, List.length_nil, List.length_replicate] at *); omega)), ?_⟩ | refine ⟨fun _ => ⟨by first | omega | ((try dsimp only at *); (try simp only [List.length_take, List.length_drop, List.length_map, List.length_append, List.length_cons, List.length_nil, List.length_replicate] at *); omega), by first | omega | ((try dsimp only at *); (try simp only [List.length_take, List.length_drop, List.length_map, List.length_append, List.length_cons, List.length_nil, List.length_replicate] at *); omega), by first | omega | ((try dsimp only at *); (try simp only [List.length_take, List.length_drop, List.length_map, List.length_append, List.length_cons, List.length_nil, List.length_replicate] at *); omega)⟩, ?_⟩ | refine ⟨by first | omega | ((try dsimp only at *); (try simp only [List.length_take, List.length_drop, List.length_map, List.length_append, List.length_cons, List.length_nil, List.length_replicate] at *); omega), ?_⟩ | refine ⟨fun h => ⟨by first | omega | ((try dsimp only at *); (try simp only [List.length_take, List.length_drop, List.length_map, List.length_append, List.length_cons, List.length_nil, List.length_replicate] at *); omega), by first | omega | ((try dsimp only at *); (try simp only [List.length_take, List.length_drop, List.length_map, List.length_append, List.length_cons, List.length_nil, List.length_replicate] at *); omega)⟩, ?_⟩ | refine ⟨fun (r : List AV) hr c hc => by simp [encS] at hr; (try subst hr); simp at hc; (try subst hc); rfl, ?_⟩ | refine ⟨noOwn (by rfl), ?_⟩)
        refine again i ?_ (by show i ≤ a.length; omega) (by first | omega | (simp; done) | (simp; omega))
        rw [back_at hx, downO_hit h3, hg, if_neg (by rw [h4]; exact Bool.false_ne_true)]
        (refine ⟨?_, ?_, rfl⟩ <;> repeat' (first | exact rfl | exact trivial | refine ⟨?_, ?_⟩ | fail) <;> (conv => whnf))
        all_goals simp [encO]
    · have h3 : goes x b = false := h3
      repeat ((conv => whnf); first | refine ⟨fun h => h, ?_⟩ | refine ⟨(by kernel_rfl : drawOk _ _ = true), ?_⟩ | refine ⟨fun (h : gtrue _) => by first | assumption | exact absurd (Eq.trans (Eq.symm h) (by assumption) : true = false) Bool.noConfusion, ?_⟩ | refine ⟨fun h => (absurd (Eq.trans (Eq.symm h) (by assumption) : true = false) Bool.noConfusion : False), ?_⟩ | refine ⟨_, w64 (by first | omega | ((try dsimp only at *); (try simp only [List.length_take, List.length_drop, List.length_map, List.length_append, List.length_cons, List.length_nil, List.length_replicate] at *); omega)), ?_⟩ | refine ⟨fun _ => ⟨by first | omega | ((try dsimp only at *); (try simp only [List.length_take, List.length_drop, List.length_map, List.length_append, List.length_cons, List.length_nil, List.length_replicate] at *); omega), by first | omega | ((try dsimp only at *); (try simp only [List.length_take, List.length_drop, List.length_map, List.length_append, List.length_cons, List.length_nil, List.length_replicate] at *); omega), by first | omega | ((try dsimp only at *); (try simp only [List.length_take, List.length_drop, List.length_map, List.length_append, List.length_cons, List.length_nil, List.length_replicate] at *); omega)⟩, ?_⟩ | refine ⟨by first | omega | ((try dsimp only at *); (try simp only [List.length_take, List.length_drop, List.length_map, List.length_append, List.length_cons, List.length_nil, List.length_replicate] at *); omega), ?_⟩ | refine ⟨fun h => ⟨by first | omega | ((try dsimp only at *); (try simp only [List.length_take, List.length_drop, List.length_map, List.length_append, List.length_cons, List.length_nil, List.length_replicate] at *); omega), by first | omega | ((try dsimp only at *); (try simp only [List.length_take, List.length_drop, List.length_map, List.length_append, List.length_cons, List.length_nil, List.length_replicate] at *); omega)⟩, ?_⟩ | refine ⟨fun (r : List AV) hr c hc => by simp [encS] at hr; (try subst hr); simp at hc; (try subst hc); rfl, ?_⟩ | refine ⟨noOwn (by rfl), ?_⟩)
      refine again i ?_ (by show i ≤ a.length; omega) (by first | omega | (simp; done) | (simp; omega))
      rw [back_at hx, downO_pass h3]
      (refine ⟨?_, ?_, rfl⟩ <;> repeat' (first | exact rfl | exact trivial | refine ⟨?_, ?_⟩ | fail) <;> (conv => whnf))
      omega
  · have h2 : j = 0 := by simp at h2; omega
    subst h2
    repeat ((conv => whnf); first | refine ⟨fun h => h, ?_⟩ | refine ⟨(by kernel_rfl : drawOk _ _ = true), ?_⟩ | refine ⟨fun (h : gtrue _) => by first | assumption | exact absurd (Eq.trans (Eq.symm h) (by assumption) : true = false) Bool.noConfusion, ?_⟩ | refine ⟨fun h => (absurd (Eq.trans (Eq.symm h) (by assumption) : true = false) Bool.noConfusion : False), ?_⟩ | refine ⟨_, w64 (by first | omega | ((try dsimp only at *); (try simp only [List.length_take, List.length_drop, List.length_map, List.length_append, List.length_cons, List.length_nil, List.length_replicate] at *); omega)), ?_⟩ | refine ⟨fun _ => ⟨by first | omega | ((try dsimp only at *); (try simp only [List.length_take, List.length_drop, List.length_map, List.length_append, List.length_cons, List.length_nil, List.length_replicate] at *); omega), by first | omega | ((try dsimp only at *); (try simp only [List.length_take, List.length_drop, List.length_map, List.length_append, List.length_cons, List.length_nil, List.length_replicate] at *); omega), by first | omega | ((try dsimp only at *); (try simp only [List.length_take, List.length_drop, List.length_map, List.length_append, List.length_cons, List.length_nil, List.length_replicate] at *); omega)⟩, ?_⟩ | refine ⟨by first | omega | ((try dsimp only at *); (try simp only [List.length_take, List.length_drop, List.length_map, List.length_append, List.length_cons, List.length_nil, List.length_replicate] at *); omega), ?_⟩ | refine ⟨fun h => ⟨by first | omega | ((try dsimp only at *); (try simp only [List.length_take, List.length_drop, List.length_map, List.length_append, List.length_cons, List.length_nil, List.length_replicate] at *); omega), by first | omega | ((try dsimp only at *); (try simp only [List.length_take, List.length_drop, List.length_map, List.length_append, List.length_cons, List.length_nil, List.length_replicate] at *); omega)⟩, ?_⟩ | refine ⟨fun (r : List AV) hr c hc => by simp [encS] at hr; (try subst hr); simp at hc; (try subst hc); rfl, ?_⟩ | refine ⟨noOwn (by rfl), ?_⟩)
    refine loop_rule (fun i : Nat => ⟨[(2, ⟨none, .bx 0 0⟩), (3, ⟨none, .bx 1 0⟩), (5, ⟨none, .view 2 [] 0 ((downO a b (back a 0) ++ (b.take i).flatMap (stepO a b)).map encO).length⟩), (9, ⟨none, .int .i64 i⟩)], [(2, .own 6 ((downO a b (back a 0) ++ (b.take i).flatMap (stepO a b)).map encO)), (1, .own 1 [[.rd 4 (b.map encI)]]), (0, .own 1 [[.rd 4 (a.map encI)]])], 3⟩)
      (fun i => i ≤ b.length) (fun i => b.length - i) 0 ?_ (by omega) ?_
    · (refine ⟨?_, ?_, rfl⟩ <;> repeat' (first | exact rfl | exact trivial | refine ⟨?_, ?_⟩ | fail) <;> (conv => whnf))
      all_goals simp
    intro i hi
    have hi : i ≤ b.length := hi
    have hlen2 : ((b.take i).flatMap (stepO a b)).length ≤ 80 := by
      have := flat_len (stepO_sm a b) (b.take i)
      have h3 : (b.take i).length ≤ b.length := by simp; omega
      omega
    have hlen3 : (downO a b (back a 0) ++ (b.take i).flatMap (stepO a b)).length ≤ 120 := by rw [List.length_append]; omega
    have hd : delta a b = downO a b (back a 0) ++ b.flatMap (stepO a b) := hd
    generalize hout : downO a b (back a 0) ++ (b.take i).flatMap (stepO a b) = out at hlen3 ⊢
    have hnext : ∀ {y : It}, b[i]? = some y → downO a b (back a 0) ++ (b.take (i + 1)).flatMap (stepO a b) = out ++ stepO a b y := fun hy => by
      rw [take_flat hy, ← List.append_assoc, hout]
    (conv => whnf); refine ⟨fun h2 => ?_, fun h2 => ?_⟩
    · have h2 : i < b.length := by simpa using h2
      obtain ⟨y, hy⟩ := get_lt h2
      repeat ((conv => whnf); first | refine ⟨fun h => h, ?_⟩ | refine ⟨(by kernel_rfl : drawOk _ _ = true), ?_⟩ | refine ⟨fun (h : gtrue _) => by first | assumption | exact absurd (Eq.trans (Eq.symm h) (by assumption) : true = false) Bool.noConfusion, ?_⟩ | refine ⟨fun h => (absurd (Eq.trans (Eq.symm h) (by assumption) : true = false) Bool.noConfusion : False), ?_⟩ | refine ⟨_, w64 (by first | omega | ((try dsimp only at *); (try simp only [List.length_take, List.length_drop, List.length_map, List.length_append, List.length_cons, List.length_nil, List.length_replicate] at *); omega)), ?_⟩ | refine ⟨fun _ => ⟨by first | omega | ((try dsimp only at *); (try simp only [List.length_take, List.length_drop, List.length_map, List.length_append, List.length_cons, List.length_nil, List.length_replicate] at *); omega), by first | omega | ((try dsimp only at *); (try simp only [List.length_take, List.length_drop, List.length_map, List.length_append, List.length_cons, List.length_nil, List.length_replicate] at *); omega), by first | omega | ((try dsimp only at *); (try simp only [List.length_take, List.length_drop, List.length_map, List.length_append, List.length_cons, List.length_nil, List.length_replicate] at *); omega)⟩, ?_⟩ | refine ⟨by first | omega | ((try dsimp only at *); (try simp only [List.length_take, List.length_drop, List.length_map, List.length_append, List.length_cons, List.length_nil, List.length_replicate] at *); omega), ?_⟩ | refine ⟨fun h => ⟨by first | omega | ((try dsimp only at *); (try simp only [List.length_take, List.length_drop, List.length_map, List.length_append, List.length_cons, List.length_nil, List.length_replicate] at *); omega), by first | omega | ((try dsimp only at *); (try simp only [List.length_take, List.length_drop, List.length_map, List.length_append, List.length_cons, List.length_nil, List.length_replicate] at *); omega)⟩, ?_⟩ | refine ⟨fun (r : List AV) hr c hc => by simp [encS] at hr; (try subst hr); simp at hc; (try subst hc); rfl, ?_⟩ | refine ⟨noOwn (by rfl), ?_⟩ | refine ⟨encI y, fun _ => ⟨by omega, get_map hy⟩, ?_⟩)
      refine ⟨(a, y.path), rfl, fun _ => ha, ?_⟩
      repeat ((conv => whnf); first | refine ⟨fun h => h, ?_⟩ | refine ⟨(by kernel_rfl : drawOk _ _ = true), ?_⟩ | refine ⟨fun (h : gtrue _) => by first | assumption | exact absurd (Eq.trans (Eq.symm h) (by assumption) : true = false) Bool.noConfusion, ?_⟩ | refine ⟨fun h => (absurd (Eq.trans (Eq.symm h) (by assumption) : true = false) Bool.noConfusion : False), ?_⟩ | refine ⟨_, w64 (by first | omega | ((try dsimp only at *); (try simp only [List.length_take, List.length_drop, List.length_map, List.length_append, List.length_cons, List.length_nil, List.length_replicate] at *); omega)), ?_⟩ | refine ⟨fun _ => ⟨by first | omega | ((try dsimp only at *); (try simp only [List.length_take, List.length_drop, List.length_map, List.length_append, List.length_cons, List.length_nil, List.length_replicate] at *); omega), by first | omega | ((try dsimp only at *); (try simp only [List.length_take, List.length_drop, List.length_map, List.length_append, List.length_cons, List.length_nil, List.length_replicate] at *); omega), by first | omega | ((try dsimp only at *); (try simp only [List.length_take, List.length_drop, List.length_map, List.length_append, List.length_cons, List.length_nil, List.length_replicate] at *); omega)⟩, ?_⟩ | refine ⟨by first | omega | ((try dsimp only at *); (try simp only [List.length_take, List.length_drop, List.length_map, List.length_append, List.length_cons, List.length_nil, List.length_replicate] at *); omega), ?_⟩ | refine ⟨fun h => ⟨by first | omega | ((try dsimp only at *); (try simp only [List.length_take, List.length_drop, List.length_map, List.length_append, List.length_cons, List.length_nil, List.length_replicate] at *); omega), by first | omega | ((try dsimp only at *); (try simp only [List.length_take, List.length_drop, List.length_map, List.length_append, List.length_cons, List.length_nil, List.length_replicate] at *); omega)⟩, ?_⟩ | refine ⟨fun (r : List AV) hr c hc => by simp [encS] at hr; (try subst hr); simp at hc; (try subst hc); rfl, ?_⟩ | refine ⟨noOwn (by rfl), ?_⟩)
      refine ⟨((treeGet a y.path).getD It.none, b), by refine argIT ?_; simp [rdI], fun _ => hb, ?_⟩
      repeat ((conv => whnf); first | refine ⟨fun h => h, ?_⟩ | refine ⟨(by kernel_rfl : drawOk _ _ = true), ?_⟩ | refine ⟨fun (h : gtrue _) => by first | assumption | exact absurd (Eq.trans (Eq.symm h) (by assumption) : true = false) Bool.noConfusion, ?_⟩ | refine ⟨fun h => (absurd (Eq.trans (Eq.symm h) (by assumption) : true = false) Bool.noConfusion : False), ?_⟩ | refine ⟨_, w64 (by first | omega | ((try dsimp only at *); (try simp only [List.length_take, List.length_drop, List.length_map, List.length_append, List.length_cons, List.length_nil, List.length_replicate] at *); omega)), ?_⟩ | refine ⟨fun _ => ⟨by first | omega | ((try dsimp only at *); (try simp only [List.length_take, List.length_drop, List.length_map, List.length_append, List.length_cons, List.length_nil, List.length_replicate] at *); omega), by first | omega | ((try dsimp only at *); (try simp only [List.length_take, List.length_drop, List.length_map, List.length_append, List.length_cons, List.length_nil, List.length_replicate] at *); omega), by first | omega | ((try dsimp only at *); (try simp only [List.length_take, List.length_drop, List.length_map, List.length_append, List.length_cons, List.length_nil, List.length_replicate] at *); omega)⟩, ?_⟩ | refine ⟨by first | omega | ((try dsimp only at *); (try simp only [List.length_take, List.length_drop, List.length_map, List.length_append, List.length_cons, List.length_nil, List.length_replicate] at *); omega), ?_⟩ | refine ⟨fun h => ⟨by first | omega | ((try dsimp only at *); (try simp only [List.length_take, List.length_drop, List.length_map, List.length_append, List.length_cons, List.length_nil, List.length_replicate] at *); omega), by first | omega | ((try dsimp only at *); (try simp only [List.length_take, List.length_drop, List.length_map, List.length_append, List.length_cons, List.length_nil, List.length_replicate] at *); omega)⟩, ?_⟩ | refine ⟨fun (r : List AV) hr c hc => by simp [encS] at hr; (try subst hr); simp at hc; (try subst hc); rfl, ?_⟩ | refine ⟨noOwn (by rfl), ?_⟩)
      (conv => whnf); refine ⟨fun h3 => ?_, fun h3 => ?_⟩
      · have h3 : (!(treeGet a y.path).isSome || goes ((treeGet a y.path).getD It.none) b) = true := h3
        have hst : stepO a b y = [newO y] := by rw [stepO, if_pos h3]
        repeat ((conv => whnf); first | refine ⟨fun h => h, ?_⟩ | refine ⟨(by kernel_rfl : drawOk _ _ = true), ?_⟩ | refine ⟨fun (h : gtrue _) => by first | assumption | exact absurd (Eq.trans (Eq.symm h) (by assumption) : true = false) Bool.noConfusion, ?_⟩ | refine ⟨fun h => (absurd (Eq.trans (Eq.symm h) (by assumption) : true = false) Bool.noConfusion : False), ?_⟩ | refine ⟨_, w64 (by first | omega | ((try dsimp only at *); (try simp only [List.length_take, List.length_drop, List.length_map, List.length_append, List.length_cons, List.length_nil, List.length_replicate] at *); omega)), ?_⟩ | refine ⟨fun _ => ⟨by first | omega | ((try dsimp only at *); (try simp only [List.length_take, List.length_drop, List.length_map, List.length_append, List.length_cons, List.length_nil, List.length_replicate] at *); omega), by first | omega | ((try dsimp only at *); (try simp only [List.length_take, List.length_drop, List.length_map, List.length_append, List.length_cons, List.length_nil, List.length_replicate] at *); omega), by first | omega | ((try dsimp only at *); (try simp only [List.length_take, List.length_drop, List.length_map, List.length_append, List.length_cons, List.length_nil, List.length_replicate] at *); omega)⟩, ?_⟩ | refine ⟨by first | omega | ((try dsimp only at *); (try simp only [List.length_take, List.length_drop, List.length_map, List.length_append, List.length_cons, List.length_nil, List.length_replicate] at *); omega), ?_⟩ | refine ⟨fun h => ⟨by first | omega | ((try dsimp only at *); (try simp only [List.length_take, List.length_drop, List.length_map, List.length_append, List.length_cons, List.length_nil, List.length_replicate] at *); omega), by first | omega | ((try dsimp only at *); (try simp only [List.length_take, List.length_drop, List.length_map, List.length_append, List.length_cons, List.length_nil, List.length_replicate] at *); omega)⟩, ?_⟩ | refine ⟨fun (r : List AV) hr c hc => by simp [encS] at hr; (try subst hr); simp at hc; (try subst hc); rfl, ?_⟩ | refine ⟨noOwn (by rfl), ?_⟩)
        refine ⟨y, rfl, fun _ => trivial, ?_⟩
        repeat ((conv => whnf); first | refine ⟨fun h => h, ?_⟩ | refine ⟨(by kernel_rfl : drawOk _ _ = true), ?_⟩ | refine ⟨fun (h : gtrue _) => by first | assumption | exact absurd (Eq.trans (Eq.symm h) (by assumption) : true = false) Bool.noConfusion, ?_⟩ | refine ⟨fun h => (absurd (Eq.trans (Eq.symm h) (by assumption) : true = false) Bool.noConfusion : False), ?_⟩ | refine ⟨_, w64 (by first | omega | ((try dsimp only at *); (try simp only [List.length_take, List.length_drop, List.length_map, List.length_append, List.length_cons, List.length_nil, List.length_replicate] at *); omega)), ?_⟩ | refine ⟨fun _ => ⟨by first | omega | ((try dsimp only at *); (try simp only [List.length_take, List.length_drop, List.length_map, List.length_append, List.length_cons, List.length_nil, List.length_replicate] at *); omega), by first | omega | ((try dsimp only at *); (try simp only [List.length_take, List.length_drop, List.length_map, List.length_append, List.length_cons, List.length_nil, List.length_replicate] at *); omega), by first | omega | ((try dsimp only at *); (try simp only [List.length_take, List.length_drop, List.length_map, List.length_append, List.length_cons, List.length_nil, List.length_replicate] at *); omega)⟩, ?_⟩ | refine ⟨by first | omega | ((try dsimp only at *); (try simp only [List.length_take, List.length_drop, List.length_map, List.length_append, List.length_cons, List.length_nil, List.length_replicate] at *); omega), ?_⟩ | refine ⟨fun h => ⟨by first | omega | ((try dsimp only at *); (try simp only [List.length_take, List.length_drop, List.length_map, List.length_append, List.length_cons, List.length_nil, List.length_replicate] at *); omega), by first | omega | ((try dsimp only at *); (try simp only [List.length_take, List.length_drop, List.length_map, List.length_append, List.length_cons, List.length_nil, List.length_replicate] at *); omega)⟩, ?_⟩ | refine ⟨fun (r : List AV) hr c hc => by simp [encS] at hr; (try subst hr); simp at hc; (try subst hc); rfl, ?_⟩ | refine ⟨noOwn (by rfl), ?_⟩)
        refine again (i + 1) ?_ h2 (by first | omega | (simp; done) | (simp; omega))
        rw [hnext hy, hst]
        (refine ⟨?_, ?_, rfl⟩ <;> repeat' (first | exact rfl | exact trivial | refine ⟨?_, ?_⟩ | fail) <;> (conv => whnf))
        all_goals first | (simp [encO]; done) | (simp [encO]; rw [List.take_of_length_le (by simp)]; simp)
      have h3 : (!(treeGet a y.path).isSome || goes ((treeGet a y.path).getD It.none) b) = false := h3
      repeat ((conv => whnf); first | refine ⟨fun h => h, ?_⟩ | refine ⟨(by kernel_rfl : drawOk _ _ = true), ?_⟩ | refine ⟨fun (h : gtrue _) => by first | assumption | exact absurd (Eq.trans (Eq.symm h) (by assumption) : true = false) Bool.noConfusion, ?_⟩ | refine ⟨fun h => (absurd (Eq.trans (Eq.symm h) (by assumption) : true = false) Bool.noConfusion : False), ?_⟩ | refine ⟨_, w64 (by first | omega | ((try dsimp only at *); (try simp only [List.length_take, List.length_drop, List.length_map, List.length_append, List.length_cons, List.length_nil, List.length_replicate] at *); omega)), ?_⟩ | refine ⟨fun _ => ⟨by first | omega | ((try dsimp only at *); (try simp only [List.length_take, List.length_drop, List.length_map, List.length_append, List.length_cons, List.length_nil, List.length_replicate] at *); omega), by first | omega | ((try dsimp only at *); (try simp only [List.length_take, List.length_drop, List.length_map, List.length_append, List.length_cons, List.length_nil, List.length_replicate] at *); omega), by first | omega | ((try dsimp only at *); (try simp only [List.length_take, List.length_drop, List.length_map, List.length_append, List.length_cons, List.length_nil, List.length_replicate] at *); omega)⟩, ?_⟩ | refine ⟨by first | omega | ((try dsimp only at *); (try simp only [List.length_take, List.length_drop, List.length_map, List.length_append, List.length_cons, List.length_nil, List.length_replicate] at *); omega), ?_⟩ | refine ⟨fun h => ⟨by first | omega | ((try dsimp only at *); (try simp only [List.length_take, List.length_drop, List.length_map, List.length_append, List.length_cons, List.length_nil, List.length_replicate] at *); omega), by first | omega | ((try dsimp only at *); (try simp only [List.length_take, List.length_drop, List.length_map, List.length_append, List.length_cons, List.length_nil, List.length_replicate] at *); omega)⟩, ?_⟩ | refine ⟨fun (r : List AV) hr c hc => by simp [encS] at hr; (try subst hr); simp at hc; (try subst hc); rfl, ?_⟩ | refine ⟨noOwn (by rfl), ?_⟩)
      (conv => whnf); refine ⟨fun h4 => ?_, fun h4 => ?_⟩
      · have h4 : (!(((treeGet a y.path).getD It.none).data == y.data)) = true := h4
        have hst : stepO a b y = [⟨3, y.path, [], 0, y.data, y.time⟩, ⟨4, y.path, [], y.data.length, [], y.time⟩] := by rw [stepO, if_neg (by rw [h3]; exact Bool.false_ne_true), if_pos h4]
        repeat ((conv => whnf); first | refine ⟨fun h => h, ?_⟩ | refine ⟨(by kernel_rfl : drawOk _ _ = true), ?_⟩ | refine ⟨fun (h : gtrue _) => by first | assumption | exact absurd (Eq.trans (Eq.symm h) (by assumption) : true = false) Bool.noConfusion, ?_⟩ | refine ⟨fun h => (absurd (Eq.trans (Eq.symm h) (by assumption) : true = false) Bool.noConfusion : False), ?_⟩ | refine ⟨_, w64 (by first | omega | ((try dsimp only at *); (try simp only [List.length_take, List.length_drop, List.length_map, List.length_append, List.length_cons, List.length_nil, List.length_replicate] at *); omega)), ?_⟩ | refine ⟨fun _ => ⟨by first | omega | ((try dsimp only at *); (try simp only [List.length_take, List.length_drop, List.length_map, List.length_append, List.length_cons, List.length_nil, List.length_replicate] at *); omega), by first | omega | ((try dsimp only at *); (try simp only [List.length_take, List.length_drop, List.length_map, List.length_append, List.length_cons, List.length_nil, List.length_replicate] at *); omega), by first | omega | ((try dsimp only at *); (try simp only [List.length_take, List.length_drop, List.length_map, List.length_append, List.length_cons, List.length_nil, List.length_replicate] at *); omega)⟩, ?_⟩ | refine ⟨by first | omega | ((try dsimp only at *); (try simp only [List.length_take, List.length_drop, List.length_map, List.length_append, List.length_cons, List.length_nil, List.length_replicate] at *); omega), ?_⟩ | refine ⟨fun h => ⟨by first | omega | ((try dsimp only at *); (try simp only [List.length_take, List.length_drop, List.length_map, List.length_append, List.length_cons, List.length_nil, List.length_replicate] at *); omega), by first | omega | ((try dsimp only at *); (try simp only [List.length_take, List.length_drop, List.length_map, List.length_append, List.length_cons, List.length_nil, List.length_replicate] at *); omega)⟩, ?_⟩ | refine ⟨fun (r : List AV) hr c hc => by simp [encS] at hr; (try subst hr); simp at hc; (try subst hc); rfl, ?_⟩ | refine ⟨noOwn (by rfl), ?_⟩)
        refine again (i + 1) ?_ h2 (by first | omega | (simp; done) | (simp; omega))
        rw [hnext hy, hst]
        (refine ⟨?_, ?_, rfl⟩ <;> repeat' (first | exact rfl | exact trivial | refine ⟨?_, ?_⟩ | fail) <;> (conv => whnf))
        all_goals first | (simp [encO]; done) | (simp [encO]; rw [List.take_of_length_le (by simp)]; simp)
      have h4 : (!(((treeGet a y.path).getD It.none).data == y.data)) = false := h4
      repeat ((conv => whnf); first | refine ⟨fun h => h, ?_⟩ | refine ⟨(by kernel_rfl : drawOk _ _ = true), ?_⟩ | refine ⟨fun (h : gtrue _) => by first | assumption | exact absurd (Eq.trans (Eq.symm h) (by assumption) : true = false) Bool.noConfusion, ?_⟩ | refine ⟨fun h => (absurd (Eq.trans (Eq.symm h) (by assumption) : true = false) Bool.noConfusion : False), ?_⟩ | refine ⟨_, w64 (by first | omega | ((try dsimp only at *); (try simp only [List.length_take, List.length_drop, List.length_map, List.length_append, List.length_cons, List.length_nil, List.length_replicate] at *); omega)), ?_⟩ | refine ⟨fun _ => ⟨by first | omega | ((try dsimp only at *); (try simp only [List.length_take, List.length_drop, List.length_map, List.length_append, List.length_cons, List.length_nil, List.length_replicate] at *); omega), by first | omega | ((try dsimp only at *); (try simp only [List.length_take, List.length_drop, List.length_map, List.length_append, List.length_cons, List.length_nil, List.length_replicate] at *); omega), by first | omega | ((try dsimp only at *); (try simp only [List.length_take, List.length_drop, List.length_map, List.length_append, List.length_cons, List.length_nil, List.length_replicate] at *); omega)⟩, ?_⟩ | refine ⟨by first | omega | ((try dsimp only at *); (try simp only [List.length_take, List.length_drop, List.length_map, List.length_append, List.length_cons, List.length_nil, List.length_replicate] at *); omega), ?_⟩ | refine ⟨fun h => ⟨by first | omega | ((try dsimp only at *); (try simp only [List.length_take, List.length_drop, List.length_map, List.length_append, List.length_cons, List.length_nil, List.length_replicate] at *); omega), by first | omega | ((try dsimp only at *); (try simp only [List.length_take, List.length_drop, List.length_map, List.length_append, List.length_cons, List.length_nil, List.length_replicate] at *); omega)⟩, ?_⟩ | refine ⟨fun (r : List AV) hr c hc => by simp [encS] at hr; (try subst hr); simp at hc; (try subst hc); rfl, ?_⟩ | refine ⟨noOwn (by rfl), ?_⟩)
      (conv => whnf); refine ⟨fun h5 => ?_, fun h5 => ?_⟩
      · have h5 : (((treeGet a y.path).getD It.none).time != y.time) = true := h5
        have hst : stepO a b y = [⟨5, y.path, [], 0, [], y.time⟩] := by rw [stepO, if_neg (by rw [h3]; exact Bool.false_ne_true), if_neg (by rw [h4]; exact Bool.false_ne_true), if_pos h5]
        repeat ((conv => whnf); first | refine ⟨fun h => h, ?_⟩ | refine ⟨(by kernel_rfl : drawOk _ _ = true), ?_⟩ | refine ⟨fun (h : gtrue _) => by first | assumption | exact absurd (Eq.trans (Eq.symm h) (by assumption) : true = false) Bool.noConfusion, ?_⟩ | refine ⟨fun h => (absurd (Eq.trans (Eq.symm h) (by assumption) : true = false) Bool.noConfusion : False), ?_⟩ | refine ⟨_, w64 (by first | omega | ((try dsimp only at *); (try simp only [List.length_take, List.length_drop, List.length_map, List.length_append, List.length_cons, List.length_nil, List.length_replicate] at *); omega)), ?_⟩ | refine ⟨fun _ => ⟨by first | omega | ((try dsimp only at *); (try simp only [List.length_take, List.length_drop, List.length_map, List.length_append, List.length_cons, List.length_nil, List.length_replicate] at *); omega), by first | omega | ((try dsimp only at *); (try simp only [List.length_take, List.length_drop, List.length_map, List.length_append, List.length_cons, List.length_nil, List.length_replicate] at *); omega), by first | omega | ((try dsimp only at *); (try simp only [List.length_take, List.length_drop, List.length_map, List.length_append, List.length_cons, List.length_nil, List.length_replicate] at *); omega)⟩, ?_⟩ | refine ⟨by first | omega | ((try dsimp only at *); (try simp only [List.length_take, List.length_drop, List.length_map, List.length_append, List.length_cons, List.length_nil, List.length_replicate] at *); omega), ?_⟩ | refine ⟨fun h => ⟨by first | omega | ((try dsimp only at *); (try simp only [List.length_take, List.length_drop, List.length_map, List.length_append, List.length_cons, List.length_nil, List.length_replicate] at *); omega), by first | omega | ((try dsimp only at *); (try simp only [List.length_take, List.length_drop, List.length_map, List.length_append, List.length_cons, List.length_nil, List.length_replicate] at *); omega)⟩, ?_⟩ | refine ⟨fun (r : List AV) hr c hc => by simp [encS] at hr; (try subst hr); simp at hc; (try subst hc); rfl, ?_⟩ | refine ⟨noOwn (by rfl), ?_⟩)
        refine again (i + 1) ?_ h2 (by first | omega | (simp; done) | (simp; omega))
        rw [hnext hy, hst]
        (refine ⟨?_, ?_, rfl⟩ <;> repeat' (first | exact rfl | exact trivial | refine ⟨?_, ?_⟩ | fail) <;> (conv => whnf))
        all_goals first | (simp [encO]; done) | (simp [encO]; rw [List.take_of_length_le (by simp)]; simp)
      · have h5 : (((treeGet a y.path).getD It.none).time != y.time) = false := h5
        have hst : stepO a b y = [] := by rw [stepO, if_neg (by rw [h3]; exact Bool.false_ne_true), if_neg (by rw [h4]; exact Bool.false_ne_true), if_neg (by rw [h5]; exact Bool.false_ne_true)]
        repeat ((conv => whnf); first | refine ⟨fun h => h, ?_⟩ | refine ⟨(by kernel_rfl : drawOk _ _ = true), ?_⟩ | refine ⟨fun (h : gtrue _) => by first | assumption | exact absurd (Eq.trans (Eq.symm h) (by assumption) : true = false) Bool.noConfusion, ?_⟩ | refine ⟨fun h => (absurd (Eq.trans (Eq.symm h) (by assumption) : true = false) Bool.noConfusion : False), ?_⟩ | refine ⟨_, w64 (by first | omega | ((try dsimp only at *); (try simp only [List.length_take, List.length_drop, List.length_map, List.length_append, List.length_cons, List.length_nil, List.length_replicate] at *); omega)), ?_⟩ | refine ⟨fun _ => ⟨by first | omega | ((try dsimp only at *); (try simp only [List.length_take, List.length_drop, List.length_map, List.length_append, List.length_cons, List.length_nil, List.length_replicate] at *); omega), by first | omega | ((try dsimp only at *); (try simp only [List.length_take, List.length_drop, List.length_map, List.length_append, List.length_cons, List.length_nil, List.length_replicate] at *); omega), by first | omega | ((try dsimp only at *); (try simp only [List.length_take, List.length_drop, List.length_map, List.length_append, List.length_cons, List.length_nil, List.length_replicate] at *); omega)⟩, ?_⟩ | refine ⟨by first | omega | ((try dsimp only at *); (try simp only [List.length_take, List.length_drop, List.length_map, List.length_append, List.length_cons, List.length_nil, List.length_replicate] at *); omega), ?_⟩ | refine ⟨fun h => ⟨by first | omega | ((try dsimp only at *); (try simp only [List.length_take, List.length_drop, List.length_map, List.length_append, List.length_cons, List.length_nil, List.length_replicate] at *); omega), by first | omega | ((try dsimp only at *); (try simp only [List.length_take, List.length_drop, List.length_map, List.length_append, List.length_cons, List.length_nil, List.length_replicate] at *); omega)⟩, ?_⟩ | refine ⟨fun (r : List AV) hr c hc => by simp [encS] at hr; (try subst hr); simp at hc; (try subst hc); rfl, ?_⟩ | refine ⟨noOwn (by rfl), ?_⟩)
        refine again (i + 1) ?_ h2 (by first | omega | (simp; done) | (simp; omega))
        rw [hnext hy, hst]
        (refine ⟨?_, ?_, rfl⟩ <;> repeat' (first | exact rfl | exact trivial | refine ⟨?_, ?_⟩ | fail) <;> (conv => whnf))
        all_goals first | (simp [encO]; done) | (simp [encO]; rw [List.take_of_length_le (by simp)]; simp)
    · have h2 : i = b.length := by
        have : ¬ i < b.length := by simpa using h2
        omega
      subst h2
      rw [List.take_length] at hout
      repeat ((conv => whnf); first | refine ⟨fun h => h, ?_⟩ | refine ⟨(by kernel_rfl : drawOk _ _ = true), ?_⟩ | refine ⟨fun (h : gtrue _) => by first | assumption | exact absurd (Eq.trans (Eq.symm h) (by assumption) : true = false) Bool.noConfusion, ?_⟩ | refine ⟨fun h => (absurd (Eq.trans (Eq.symm h) (by assumption) : true = false) Bool.noConfusion : False), ?_⟩ | refine ⟨_, w64 (by first | omega | ((try dsimp only at *); (try simp only [List.length_take, List.length_drop, List.length_map, List.length_append, List.length_cons, List.length_nil, List.length_replicate] at *); omega)), ?_⟩ | refine ⟨fun _ => ⟨by first | omega | ((try dsimp only at *); (try simp only [List.length_take, List.length_drop, List.length_map, List.length_append, List.length_cons, List.length_nil, List.length_replicate] at *); omega), by first | omega | ((try dsimp only at *); (try simp only [List.length_take, List.length_drop, List.length_map, List.length_append, List.length_cons, List.length_nil, List.length_replicate] at *); omega), by first | omega | ((try dsimp only at *); (try simp only [List.length_take, List.length_drop, List.length_map, List.length_append, List.length_cons, List.length_nil, List.length_replicate] at *); omega)⟩, ?_⟩ | refine ⟨by first | omega | ((try dsimp only at *); (try simp only [List.length_take, List.length_drop, List.length_map, List.length_append, List.length_cons, List.length_nil, List.length_replicate] at *); omega), ?_⟩ | refine ⟨fun h => ⟨by first | omega | ((try dsimp only at *); (try simp only [List.length_take, List.length_drop, List.length_map, List.length_append, List.length_cons, List.length_nil, List.length_replicate] at *); omega), by first | omega | ((try dsimp only at *); (try simp only [List.length_take, List.length_drop, List.length_map, List.length_append, List.length_cons, List.length_nil, List.length_replicate] at *); omega)⟩, ?_⟩ | refine ⟨fun (r : List AV) hr c hc => by simp [encS] at hr; (try subst hr); simp at hc; (try subst hc); rfl, ?_⟩ | refine ⟨noOwn (by rfl), ?_⟩)
      exact ⟨trivial, eqOwn (by show _ = (delta a b).map encO; rw [hd, hout]; simp)⟩
theorem ok_spec_Delta : ConOk Try.prog 23 c_spec_Delta := meets_ok (tabT _ _) (FOk.cons ok_spec_TreeOk (FOk.cons ok_spec_TreeGet (FOk.cons ok_spec_l27Goes (FOk.cons ok_spec_l27New FOk.nil)))) mixed Try.func23 rfl Try.call23 (by decide) (by kernel_rfl) m_spec_Delta (by intro _ (y : (Tr × Tr)) _; exact ⟨by simp [c_spec_Delta, con, AV.noRd, noRdCells, noRdRows, noRdRows_map', encS, encI, encO], by simp [c_spec_Delta, con, noRdCells]⟩)


end Go.GH

