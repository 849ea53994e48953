/-
  No cell of these rows narrows 'for every input' (looked for: loops, veiled, ifaces, maps, wideKeys, modest, calm, conditions, laid).
  DERIVED. THE GIVEN ROWS OF THIS SEAT. 5 by the template 'for every input the law returns true; each argument reads behind the call as it read before'; 0 by the template 'total and deterministic' (their statements: YtalhldfcdfdoeaaTotals.lean).
  GIVEN WITH THE SEED: the statements are not yours to turn. If you find one false, say at which input.
  Laid BY PROGRAM, IN A SANDBOX (cutbox-rows.mjs): the forced cells as the released guide's own fill.sh prints them over the translation b804c41ecb3b4619… (all of the seat's roots in one cut). By AI agents, Wed Nov 11 2026. No macro, syntax, notation, axiom, sorry.
-/
import Derived.Test.YtalhldfcdfdoeaaChecked
import GoSem.Claim
import GoSem.ClaimJoined
import GoSem.ClaimMapViews
import Derived.JoinedTies
import Derived.KernelRfl
namespace Go.Proofs.Ytalhldfcdfdoeaa
/- THE CELL 'sum', in the pinned program and in every row, IS THE sha256 OF THE DUMP (.gsa) THAT YtalhldfcdfdoeaaProg.lean LOADS. Nothing in Lean hashes anything: it is a label: what it is worth is what the hold of that sum in a sandbox is worth. -/
noncomputable def Try.pinned : Pinned := { name := "ytalhldfcdfdoeaa", sum := "b804c41ecb3b461933612a66eb81a42fd8a2eb4936d8539adbd287c95ad9b631", checked := Try.checked }
namespace Rows
def none {H : Type} : Left H := { results := [], args := [] }

/-- 'scriptinglaw25.MarkSteps': WHATEVER THE INPUT: true; the input reads as it did. -/
def markStepsSpec : ChangeSpec := { name := "markSteps", fn := fun _ => fun
  | [d1, d2] => { results := [.lit (.bool true)], args := [d1, d2] }
  | _ => none }
def markStepsRow : OpenClaim := { program := "ytalhldfcdfdoeaa", sum := "b804c41ecb3b461933612a66eb81a42fd8a2eb4936d8539adbd287c95ad9b631", func := "scripting/scriptinglaw25.MarkSteps", spec := "markSteps", apart := false }
def MarkStepsSaid : Prop := markStepsRow.holds Try.pinned (OpenSpec.ofChange markStepsSpec)

/-- ITS FALSE NEIGHBOUR: 'it returns false'. Refute it at one input. -/
def markStepsWrong : ChangeSpec := { name := "markSteps", fn := fun _ => fun
  | [d1, d2] => { results := [.lit (.bool false)], args := [d1, d2] }
  | _ => none }
def MarkStepsWrongFalsely : Prop := markStepsRow.holds Try.pinned (OpenSpec.ofChange markStepsWrong)

/-- 'scriptinglaw25.MarkReach': WHATEVER THE INPUT: true; the input reads as it did. -/
def markReachSpec : ChangeSpec := { name := "markReach", fn := fun _ => fun
  | [d] => { results := [.lit (.bool true)], args := [d] }
  | _ => none }
def markReachRow : OpenClaim := { program := "ytalhldfcdfdoeaa", sum := "b804c41ecb3b461933612a66eb81a42fd8a2eb4936d8539adbd287c95ad9b631", func := "scripting/scriptinglaw25.MarkReach", spec := "markReach", apart := false }
def MarkReachSaid : Prop := markReachRow.holds Try.pinned (OpenSpec.ofChange markReachSpec)

/-- ITS FALSE NEIGHBOUR: 'it returns false'. Refute it at one input. -/
def markReachWrong : ChangeSpec := { name := "markReach", fn := fun _ => fun
  | [d] => { results := [.lit (.bool false)], args := [d] }
  | _ => none }
def MarkReachWrongFalsely : Prop := markReachRow.holds Try.pinned (OpenSpec.ofChange markReachWrong)

/-- 'scriptinglaw25.MarkClosed': WHATEVER THE INPUT: true; the input reads as it did. -/
def markClosedSpec : ChangeSpec := { name := "markClosed", fn := fun _ => fun
  | [d] => { results := [.lit (.bool true)], args := [d] }
  | _ => none }
def markClosedRow : OpenClaim := { program := "ytalhldfcdfdoeaa", sum := "b804c41ecb3b461933612a66eb81a42fd8a2eb4936d8539adbd287c95ad9b631", func := "scripting/scriptinglaw25.MarkClosed", spec := "markClosed", apart := false }
def MarkClosedSaid : Prop := markClosedRow.holds Try.pinned (OpenSpec.ofChange markClosedSpec)

/-- ITS FALSE NEIGHBOUR: 'it returns false'. Refute it at one input. -/
def markClosedWrong : ChangeSpec := { name := "markClosed", fn := fun _ => fun
  | [d] => { results := [.lit (.bool false)], args := [d] }
  | _ => none }
def MarkClosedWrongFalsely : Prop := markClosedRow.holds Try.pinned (OpenSpec.ofChange markClosedWrong)

/-- 'scriptinglaw25.MarkBarrier': WHATEVER THE INPUT: true; the input reads as it did. -/
def markBarrierSpec : ChangeSpec := { name := "markBarrier", fn := fun _ => fun
  | [d1, d2] => { results := [.lit (.bool true)], args := [d1, d2] }
  | _ => none }
def markBarrierRow : OpenClaim := { program := "ytalhldfcdfdoeaa", sum := "b804c41ecb3b461933612a66eb81a42fd8a2eb4936d8539adbd287c95ad9b631", func := "scripting/scriptinglaw25.MarkBarrier", spec := "markBarrier", apart := false }
def MarkBarrierSaid : Prop := markBarrierRow.holds Try.pinned (OpenSpec.ofChange markBarrierSpec)

/-- ITS FALSE NEIGHBOUR: 'it returns false'. Refute it at one input. -/
def markBarrierWrong : ChangeSpec := { name := "markBarrier", fn := fun _ => fun
  | [d1, d2] => { results := [.lit (.bool false)], args := [d1, d2] }
  | _ => none }
def MarkBarrierWrongFalsely : Prop := markBarrierRow.holds Try.pinned (OpenSpec.ofChange markBarrierWrong)

/-- 'scriptinglaw25.MarkNil': WHATEVER THE INPUT: true; the input reads as it did. -/
def markNilSpec : ChangeSpec := { name := "markNil", fn := fun _ => fun
  | [d1, d2, d3] => { results := [.lit (.bool true)], args := [d1, d2, d3] }
  | _ => none }
def markNilRow : OpenClaim := { program := "ytalhldfcdfdoeaa", sum := "b804c41ecb3b461933612a66eb81a42fd8a2eb4936d8539adbd287c95ad9b631", func := "scripting/scriptinglaw25.MarkNil", spec := "markNil", apart := false }
def MarkNilSaid : Prop := markNilRow.holds Try.pinned (OpenSpec.ofChange markNilSpec)

/-- ITS FALSE NEIGHBOUR: 'it returns false'. Refute it at one input. -/
def markNilWrong : ChangeSpec := { name := "markNil", fn := fun _ => fun
  | [d1, d2, d3] => { results := [.lit (.bool false)], args := [d1, d2, d3] }
  | _ => none }
def MarkNilWrongFalsely : Prop := markNilRow.holds Try.pinned (OpenSpec.ofChange markNilWrong)

/- THE SECOND FORM. 'bulk': how many values and letters a reading holds, each counted each time it is reached (what is shared counts as often as it is met; a slice's spare places count too). A statement '..UptoSaid' is the law's where the arguments, and the package variables that the reading takes, are together of bulk at most 1048576: NARROWER than '..Said'. Prove '..Said' where nothing that the law and all that it calls make is longer than what came in: it says more and counts as full. Else prove '..UptoSaid'. A law counts once. -/
mutual
def uptoBulk {H : Type} : DataW H → Nat
  | .lit (.string bytes) => bytes.length + 1
  | .lit _ => 1
  | .nil => 1
  | .ptr d => uptoBulk d + 1
  | .slice elems spare => uptoBulkAll elems + uptoBulkAll spare + 1
  | .agg parts => uptoBulkAll parts + 1
  | .iface _ d => uptoBulk d + 1
  | .map entries => uptoBulkEntries entries + 1
  | .held _ => 1
def uptoBulkAll {H : Type} : List (DataW H) → Nat
  | [] => 0
  | d :: r => uptoBulk d + uptoBulkAll r
def uptoBulkEntries {H : Type} : List (Lit × DataW H) → Nat
  | [] => 0
  | x :: r => uptoBulkEntry x + uptoBulkEntries r
def uptoBulkEntry {H : Type} : Lit × DataW H → Nat
  | (.string bytes, d) => bytes.length + uptoBulk d + 1
  | (_, d) => uptoBulk d + 1
 end
def uptoSmall : (H : Type) → List (DataW H) → Bool := fun _ ds => decide (uptoBulkAll ds ≤ 1048576)
def OpenSpec.upto (s : _root_.Go.ChangeSpec) : _root_.Go.OpenSpec := { _root_.Go.OpenSpec.ofChange s with cond := some uptoSmall }

/-- 'scriptinglaw25.MarkSteps', WHERE WHAT IT READS IS OF BULK AT MOST 1048576: true; the input reads as it did. -/
def markStepsUptoRow : OpenClaim := { program := "ytalhldfcdfdoeaa", sum := "b804c41ecb3b461933612a66eb81a42fd8a2eb4936d8539adbd287c95ad9b631", func := "scripting/scriptinglaw25.MarkSteps", spec := "markSteps", apart := false, narrowed := true }
def MarkStepsUptoSaid : Prop := markStepsUptoRow.holds Try.pinned (OpenSpec.upto markStepsSpec)

/-- 'scriptinglaw25.MarkReach', WHERE WHAT IT READS IS OF BULK AT MOST 1048576: true; the input reads as it did. -/
def markReachUptoRow : OpenClaim := { program := "ytalhldfcdfdoeaa", sum := "b804c41ecb3b461933612a66eb81a42fd8a2eb4936d8539adbd287c95ad9b631", func := "scripting/scriptinglaw25.MarkReach", spec := "markReach", apart := false, narrowed := true }
def MarkReachUptoSaid : Prop := markReachUptoRow.holds Try.pinned (OpenSpec.upto markReachSpec)

/-- 'scriptinglaw25.MarkClosed', WHERE WHAT IT READS IS OF BULK AT MOST 1048576: true; the input reads as it did. -/
def markClosedUptoRow : OpenClaim := { program := "ytalhldfcdfdoeaa", sum := "b804c41ecb3b461933612a66eb81a42fd8a2eb4936d8539adbd287c95ad9b631", func := "scripting/scriptinglaw25.MarkClosed", spec := "markClosed", apart := false, narrowed := true }
def MarkClosedUptoSaid : Prop := markClosedUptoRow.holds Try.pinned (OpenSpec.upto markClosedSpec)

/-- 'scriptinglaw25.MarkBarrier', WHERE WHAT IT READS IS OF BULK AT MOST 1048576: true; the input reads as it did. -/
def markBarrierUptoRow : OpenClaim := { program := "ytalhldfcdfdoeaa", sum := "b804c41ecb3b461933612a66eb81a42fd8a2eb4936d8539adbd287c95ad9b631", func := "scripting/scriptinglaw25.MarkBarrier", spec := "markBarrier", apart := false, narrowed := true }
def MarkBarrierUptoSaid : Prop := markBarrierUptoRow.holds Try.pinned (OpenSpec.upto markBarrierSpec)

/-- 'scriptinglaw25.MarkNil', WHERE WHAT IT READS IS OF BULK AT MOST 1048576: true; the input reads as it did. -/
def markNilUptoRow : OpenClaim := { program := "ytalhldfcdfdoeaa", sum := "b804c41ecb3b461933612a66eb81a42fd8a2eb4936d8539adbd287c95ad9b631", func := "scripting/scriptinglaw25.MarkNil", spec := "markNil", apart := false, narrowed := true }
def MarkNilUptoSaid : Prop := markNilUptoRow.holds Try.pinned (OpenSpec.upto markNilSpec)

end Rows
end Go.Proofs.Ytalhldfcdfdoeaa
