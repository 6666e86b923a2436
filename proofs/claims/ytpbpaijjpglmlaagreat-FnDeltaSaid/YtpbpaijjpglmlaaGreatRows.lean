/-
  No cell of these rows narrows 'for every input' (looked for: loops, veiled, ifaces, maps, wideKeys, modest, calm, conditions, laid).
  DERIVED. THE GIVEN ROWS OF THIS SEAT. 4 by the template 'for every input the law returns true; each argument reads behind the call as it read before'; 0 by the template 'total and deterministic' (their statements: YtpbpaijjpglmlaaGreatTotals.lean).
  GIVEN WITH THE SEED: the statements are not yours to turn. If you find one false, say at which input.
  Laid BY PROGRAM, IN A SANDBOX (cutbox-rows.mjs): the forced cells as the released guide's own fill.sh prints them over the translation 9e325425ddc3f4a8… (all of the seat's roots in one cut). By AI agents, Wed Nov 11 2026. No macro, syntax, notation, axiom, sorry.
-/
import Derived.Test.YtpbpaijjpglmlaaGreatChecked
import GoSem.Claim
import GoSem.ClaimJoined
import GoSem.ClaimMapViews
import Derived.JoinedTies
import Derived.KernelRfl
namespace Go.Proofs.YtpbpaijjpglmlaaGreat
/- THE CELL 'sum', in the pinned program and in every row, IS THE sha256 OF THE DUMP (.gsa) THAT YtpbpaijjpglmlaaGreatProg.lean LOADS. Nothing in Lean hashes anything: it is a label: what it is worth is what the hold of that sum in a sandbox is worth. -/
noncomputable def Tryz.pinned : Pinned := { name := "ytpbpaijjpglmlaagreat", sum := "9e325425ddc3f4a8537bd4fdaa3fad7d21f2c29c2017cddf6b611c5e87aec877", checked := Tryz.checked }
namespace Rows
def none {H : Type} : Left H := { results := [], args := [] }

/-- 'laws.FnUsage': WHATEVER THE INPUT: true; the input reads as it did. -/
def fnUsageSpec : ChangeSpec := { name := "fnUsage", fn := fun _ => fun
  | [d] => { results := [.lit (.bool true)], args := [d] }
  | _ => none }
def fnUsageRow : OpenClaim := { program := "ytpbpaijjpglmlaagreat", sum := "9e325425ddc3f4a8537bd4fdaa3fad7d21f2c29c2017cddf6b611c5e87aec877", func := "loop.example/g00483/laws.FnUsage", spec := "fnUsage", inPlace := ["internal/abi.NoEscape", "internal/bytealg.MakeNoZero"], unfollowed := true, recurses := true, apart := false }
def FnUsageSaid : Prop := fnUsageRow.holds Tryz.pinned (OpenSpec.ofChange fnUsageSpec)

/-- ITS FALSE NEIGHBOUR: 'it returns false'. Refute it at one input. -/
def fnUsageWrong : ChangeSpec := { name := "fnUsage", fn := fun _ => fun
  | [d] => { results := [.lit (.bool false)], args := [d] }
  | _ => none }
def FnUsageWrongFalsely : Prop := fnUsageRow.holds Tryz.pinned (OpenSpec.ofChange fnUsageWrong)

/-- 'laws.FnExactTreeDoAll': WHATEVER THE INPUT: true; the input reads as it did. -/
def fnExactTreeDoAllSpec : ChangeSpec := { name := "fnExactTreeDoAll", fn := fun _ => fun
  | [d1, d2] => { results := [.lit (.bool true)], args := [d1, d2] }
  | _ => none }
def fnExactTreeDoAllRow : OpenClaim := { program := "ytpbpaijjpglmlaagreat", sum := "9e325425ddc3f4a8537bd4fdaa3fad7d21f2c29c2017cddf6b611c5e87aec877", func := "loop.example/g00483/laws.FnExactTreeDoAll", spec := "fnExactTreeDoAll", inPlace := ["internal/abi.NoEscape", "internal/bytealg.MakeNoZero", "internal/bytealg.abigen_runtime_cmpstring"], unfollowed := true, recurses := true, apart := false }
def FnExactTreeDoAllSaid : Prop := fnExactTreeDoAllRow.holds Tryz.pinned (OpenSpec.ofChange fnExactTreeDoAllSpec)

/-- ITS FALSE NEIGHBOUR: 'it returns false'. Refute it at one input. -/
def fnExactTreeDoAllWrong : ChangeSpec := { name := "fnExactTreeDoAll", fn := fun _ => fun
  | [d1, d2] => { results := [.lit (.bool false)], args := [d1, d2] }
  | _ => none }
def FnExactTreeDoAllWrongFalsely : Prop := fnExactTreeDoAllRow.holds Tryz.pinned (OpenSpec.ofChange fnExactTreeDoAllWrong)

/-- 'laws.FnMerged': WHATEVER THE INPUT: true; the input reads as it did. -/
def fnMergedSpec : ChangeSpec := { name := "fnMerged", fn := fun _ => fun
  | [d] => { results := [.lit (.bool true)], args := [d] }
  | _ => none }
def fnMergedRow : OpenClaim := { program := "ytpbpaijjpglmlaagreat", sum := "9e325425ddc3f4a8537bd4fdaa3fad7d21f2c29c2017cddf6b611c5e87aec877", func := "loop.example/g00483/laws.FnMerged", spec := "fnMerged", inPlace := ["internal/abi.NoEscape", "internal/bytealg.MakeNoZero", "internal/bytealg.abigen_runtime_cmpstring"], unfollowed := true, recurses := true, apart := false }
def FnMergedSaid : Prop := fnMergedRow.holds Tryz.pinned (OpenSpec.ofChange fnMergedSpec)

/-- ITS FALSE NEIGHBOUR: 'it returns false'. Refute it at one input. -/
def fnMergedWrong : ChangeSpec := { name := "fnMerged", fn := fun _ => fun
  | [d] => { results := [.lit (.bool false)], args := [d] }
  | _ => none }
def FnMergedWrongFalsely : Prop := fnMergedRow.holds Tryz.pinned (OpenSpec.ofChange fnMergedWrong)

/-- 'laws.FnDelta': WHATEVER THE INPUT: true; the input reads as it did. -/
def fnDeltaSpec : ChangeSpec := { name := "fnDelta", fn := fun _ => fun
  | [d] => { results := [.lit (.bool true)], args := [d] }
  | _ => none }
def fnDeltaRow : OpenClaim := { program := "ytpbpaijjpglmlaagreat", sum := "9e325425ddc3f4a8537bd4fdaa3fad7d21f2c29c2017cddf6b611c5e87aec877", func := "loop.example/g00483/laws.FnDelta", spec := "fnDelta", inPlace := ["internal/abi.NoEscape", "internal/bytealg.MakeNoZero", "internal/bytealg.abigen_runtime_cmpstring"], unfollowed := true, recurses := true, apart := false }
def FnDeltaSaid : Prop := fnDeltaRow.holds Tryz.pinned (OpenSpec.ofChange fnDeltaSpec)

/-- ITS FALSE NEIGHBOUR: 'it returns false'. Refute it at one input. -/
def fnDeltaWrong : ChangeSpec := { name := "fnDelta", fn := fun _ => fun
  | [d] => { results := [.lit (.bool false)], args := [d] }
  | _ => none }
def FnDeltaWrongFalsely : Prop := fnDeltaRow.holds Tryz.pinned (OpenSpec.ofChange fnDeltaWrong)

/- THE SECOND FORM. 'bulk': how many values and letters a reading holds, each counted each time it is reached (what is shared counts as often as it is met; a slice's spare places count too). A statement '..UptoSaid' is the law's where the arguments, and the package variables that the reading takes, are together of bulk at most 1048576: NARROWER than '..Said'. Prove '..Said' where nothing that the law and all that it calls make is longer than what came in: it says more and counts as full. Else prove '..UptoSaid'. A law counts once. -/
mutual
def uptoBulk {H : Type} : DataW H → Nat
  | .lit (.string bytes) => bytes.length + 1
  | .lit _ => 1
  | .nil => 1
  | .ptr d => uptoBulk d + 1
  | .slice elems spare => uptoBulkAll elems + uptoBulkAll spare + 1
  | .agg parts => uptoBulkAll parts + 1
  | .iface _ d => uptoBulk d + 1
  | .map entries => uptoBulkEntries entries + 1
  | .held _ => 1
def uptoBulkAll {H : Type} : List (DataW H) → Nat
  | [] => 0
  | d :: r => uptoBulk d + uptoBulkAll r
def uptoBulkEntries {H : Type} : List (Lit × DataW H) → Nat
  | [] => 0
  | x :: r => uptoBulkEntry x + uptoBulkEntries r
def uptoBulkEntry {H : Type} : Lit × DataW H → Nat
  | (.string bytes, d) => bytes.length + uptoBulk d + 1
  | (_, d) => uptoBulk d + 1
 end
def uptoSmall : (H : Type) → List (DataW H) → Bool := fun _ ds => decide (uptoBulkAll ds ≤ 1048576)
def OpenSpec.upto (s : _root_.Go.ChangeSpec) : _root_.Go.OpenSpec := { _root_.Go.OpenSpec.ofChange s with cond := some uptoSmall }

/-- 'laws.FnUsage', WHERE WHAT IT READS IS OF BULK AT MOST 1048576: true; the input reads as it did. -/
def fnUsageUptoRow : OpenClaim := { program := "ytpbpaijjpglmlaagreat", sum := "9e325425ddc3f4a8537bd4fdaa3fad7d21f2c29c2017cddf6b611c5e87aec877", func := "loop.example/g00483/laws.FnUsage", spec := "fnUsage", inPlace := ["internal/abi.NoEscape", "internal/bytealg.MakeNoZero"], unfollowed := true, recurses := true, apart := false, narrowed := true }
def FnUsageUptoSaid : Prop := fnUsageUptoRow.holds Tryz.pinned (OpenSpec.upto fnUsageSpec)

/-- 'laws.FnExactTreeDoAll', WHERE WHAT IT READS IS OF BULK AT MOST 1048576: true; the input reads as it did. -/
def fnExactTreeDoAllUptoRow : OpenClaim := { program := "ytpbpaijjpglmlaagreat", sum := "9e325425ddc3f4a8537bd4fdaa3fad7d21f2c29c2017cddf6b611c5e87aec877", func := "loop.example/g00483/laws.FnExactTreeDoAll", spec := "fnExactTreeDoAll", inPlace := ["internal/abi.NoEscape", "internal/bytealg.MakeNoZero", "internal/bytealg.abigen_runtime_cmpstring"], unfollowed := true, recurses := true, apart := false, narrowed := true }
def FnExactTreeDoAllUptoSaid : Prop := fnExactTreeDoAllUptoRow.holds Tryz.pinned (OpenSpec.upto fnExactTreeDoAllSpec)

/-- 'laws.FnMerged', WHERE WHAT IT READS IS OF BULK AT MOST 1048576: true; the input reads as it did. -/
def fnMergedUptoRow : OpenClaim := { program := "ytpbpaijjpglmlaagreat", sum := "9e325425ddc3f4a8537bd4fdaa3fad7d21f2c29c2017cddf6b611c5e87aec877", func := "loop.example/g00483/laws.FnMerged", spec := "fnMerged", inPlace := ["internal/abi.NoEscape", "internal/bytealg.MakeNoZero", "internal/bytealg.abigen_runtime_cmpstring"], unfollowed := true, recurses := true, apart := false, narrowed := true }
def FnMergedUptoSaid : Prop := fnMergedUptoRow.holds Tryz.pinned (OpenSpec.upto fnMergedSpec)

/-- 'laws.FnDelta', WHERE WHAT IT READS IS OF BULK AT MOST 1048576: true; the input reads as it did. -/
def fnDeltaUptoRow : OpenClaim := { program := "ytpbpaijjpglmlaagreat", sum := "9e325425ddc3f4a8537bd4fdaa3fad7d21f2c29c2017cddf6b611c5e87aec877", func := "loop.example/g00483/laws.FnDelta", spec := "fnDelta", inPlace := ["internal/abi.NoEscape", "internal/bytealg.MakeNoZero", "internal/bytealg.abigen_runtime_cmpstring"], unfollowed := true, recurses := true, apart := false, narrowed := true }
def FnDeltaUptoSaid : Prop := fnDeltaUptoRow.holds Tryz.pinned (OpenSpec.upto fnDeltaSpec)

end Rows
end Go.Proofs.YtpbpaijjpglmlaaGreat
