/-
  No cell of these rows narrows 'for every input' (looked for: loops, veiled, ifaces, maps, wideKeys, modest, calm, conditions, laid).
  DERIVED. THE GIVEN ROWS OF THIS SEAT. 7 by the template 'for every input the law returns true; each argument reads behind the call as it read before'; 0 by the template 'total and deterministic' (their statements: YtmedmjngehkmoaaTotals.lean).
  GIVEN WITH THE SEED: the statements are not yours to turn. If you find one false, say at which input.
  Laid BY PROGRAM, IN A SANDBOX (cutbox-rows.mjs): the forced cells as the released guide's own fill.sh prints them over the translation 6196810692d109e0… (all of the seat's roots in one cut). By AI agents, Wed Nov 11 2026. No macro, syntax, notation, axiom, sorry.
-/
import Derived.Test.YtmedmjngehkmoaaChecked
import GoSem.Claim
import GoSem.ClaimJoined
import GoSem.ClaimMapViews
import Derived.JoinedTies
import Derived.KernelRfl
namespace Go.Proofs.Ytmedmjngehkmoaa
/- THE CELL 'sum', in the pinned program and in every row, IS THE sha256 OF THE DUMP (.gsa) THAT YtmedmjngehkmoaaProg.lean LOADS. Nothing in Lean hashes anything: it is a label: what it is worth is what the hold of that sum in a sandbox is worth. -/
noncomputable def Try.pinned : Pinned := { name := "ytmedmjngehkmoaa", sum := "6196810692d109e05e65725f7dd4cc3b11e73644c0036af018ce6e9fa81ed2c9", checked := Try.checked }
namespace Rows
def none {H : Type} : Left H := { results := [], args := [] }

/-- 'scriptinglaw28.ThreadsNest': WHATEVER THE INPUT: true; the input reads as it did. -/
def threadsNestSpec : ChangeSpec := { name := "threadsNest", fn := fun _ => fun
  | [d] => { results := [.lit (.bool true)], args := [d] }
  | _ => none }
def threadsNestRow : OpenClaim := { program := "ytmedmjngehkmoaa", sum := "6196810692d109e05e65725f7dd4cc3b11e73644c0036af018ce6e9fa81ed2c9", func := "scripting/scriptinglaw28.ThreadsNest", spec := "threadsNest", apart := false }
def ThreadsNestSaid : Prop := threadsNestRow.holds Try.pinned (OpenSpec.ofChange threadsNestSpec)

/-- ITS FALSE NEIGHBOUR: 'it returns false'. Refute it at one input. -/
def threadsNestWrong : ChangeSpec := { name := "threadsNest", fn := fun _ => fun
  | [d] => { results := [.lit (.bool false)], args := [d] }
  | _ => none }
def ThreadsNestWrongFalsely : Prop := threadsNestRow.holds Try.pinned (OpenSpec.ofChange threadsNestWrong)

/-- 'scriptinglaw28.ThreadsClose': WHATEVER THE INPUT: true; the input reads as it did. -/
def threadsCloseSpec : ChangeSpec := { name := "threadsClose", fn := fun _ => fun
  | [d1, d2] => { results := [.lit (.bool true)], args := [d1, d2] }
  | _ => none }
def threadsCloseRow : OpenClaim := { program := "ytmedmjngehkmoaa", sum := "6196810692d109e05e65725f7dd4cc3b11e73644c0036af018ce6e9fa81ed2c9", func := "scripting/scriptinglaw28.ThreadsClose", spec := "threadsClose", apart := false }
def ThreadsCloseSaid : Prop := threadsCloseRow.holds Try.pinned (OpenSpec.ofChange threadsCloseSpec)

/-- ITS FALSE NEIGHBOUR: 'it returns false'. Refute it at one input. -/
def threadsCloseWrong : ChangeSpec := { name := "threadsClose", fn := fun _ => fun
  | [d1, d2] => { results := [.lit (.bool false)], args := [d1, d2] }
  | _ => none }
def ThreadsCloseWrongFalsely : Prop := threadsCloseRow.holds Try.pinned (OpenSpec.ofChange threadsCloseWrong)

/-- 'scriptinglaw28.ThreadsBack': WHATEVER THE INPUT: true; the input reads as it did. -/
def threadsBackSpec : ChangeSpec := { name := "threadsBack", fn := fun _ => fun
  | [d1, d2] => { results := [.lit (.bool true)], args := [d1, d2] }
  | _ => none }
def threadsBackRow : OpenClaim := { program := "ytmedmjngehkmoaa", sum := "6196810692d109e05e65725f7dd4cc3b11e73644c0036af018ce6e9fa81ed2c9", func := "scripting/scriptinglaw28.ThreadsBack", spec := "threadsBack", apart := false }
def ThreadsBackSaid : Prop := threadsBackRow.holds Try.pinned (OpenSpec.ofChange threadsBackSpec)

/-- ITS FALSE NEIGHBOUR: 'it returns false'. Refute it at one input. -/
def threadsBackWrong : ChangeSpec := { name := "threadsBack", fn := fun _ => fun
  | [d1, d2] => { results := [.lit (.bool false)], args := [d1, d2] }
  | _ => none }
def ThreadsBackWrongFalsely : Prop := threadsBackRow.holds Try.pinned (OpenSpec.ofChange threadsBackWrong)

/-- 'scriptinglaw28.ThreadsDead': WHATEVER THE INPUT: true; the input reads as it did. -/
def threadsDeadSpec : ChangeSpec := { name := "threadsDead", fn := fun _ => fun
  | [d1, d2, d3] => { results := [.lit (.bool true)], args := [d1, d2, d3] }
  | _ => none }
def threadsDeadRow : OpenClaim := { program := "ytmedmjngehkmoaa", sum := "6196810692d109e05e65725f7dd4cc3b11e73644c0036af018ce6e9fa81ed2c9", func := "scripting/scriptinglaw28.ThreadsDead", spec := "threadsDead", apart := false }
def ThreadsDeadSaid : Prop := threadsDeadRow.holds Try.pinned (OpenSpec.ofChange threadsDeadSpec)

/-- ITS FALSE NEIGHBOUR: 'it returns false'. Refute it at one input. -/
def threadsDeadWrong : ChangeSpec := { name := "threadsDead", fn := fun _ => fun
  | [d1, d2, d3] => { results := [.lit (.bool false)], args := [d1, d2, d3] }
  | _ => none }
def ThreadsDeadWrongFalsely : Prop := threadsDeadRow.holds Try.pinned (OpenSpec.ofChange threadsDeadWrong)

/-- 'scriptinglaw28.ThreadsPlays': WHATEVER THE INPUT: true; the input reads as it did. -/
def threadsPlaysSpec : ChangeSpec := { name := "threadsPlays", fn := fun _ => fun
  | [d] => { results := [.lit (.bool true)], args := [d] }
  | _ => none }
def threadsPlaysRow : OpenClaim := { program := "ytmedmjngehkmoaa", sum := "6196810692d109e05e65725f7dd4cc3b11e73644c0036af018ce6e9fa81ed2c9", func := "scripting/scriptinglaw28.ThreadsPlays", spec := "threadsPlays", apart := false }
def ThreadsPlaysSaid : Prop := threadsPlaysRow.holds Try.pinned (OpenSpec.ofChange threadsPlaysSpec)

/-- ITS FALSE NEIGHBOUR: 'it returns false'. Refute it at one input. -/
def threadsPlaysWrong : ChangeSpec := { name := "threadsPlays", fn := fun _ => fun
  | [d] => { results := [.lit (.bool false)], args := [d] }
  | _ => none }
def ThreadsPlaysWrongFalsely : Prop := threadsPlaysRow.holds Try.pinned (OpenSpec.ofChange threadsPlaysWrong)

/-- 'scriptinglaw28.ThreadsChain': WHATEVER THE INPUT: true; the input reads as it did. -/
def threadsChainSpec : ChangeSpec := { name := "threadsChain", fn := fun _ => fun
  | [d] => { results := [.lit (.bool true)], args := [d] }
  | _ => none }
def threadsChainRow : OpenClaim := { program := "ytmedmjngehkmoaa", sum := "6196810692d109e05e65725f7dd4cc3b11e73644c0036af018ce6e9fa81ed2c9", func := "scripting/scriptinglaw28.ThreadsChain", spec := "threadsChain", apart := false }
def ThreadsChainSaid : Prop := threadsChainRow.holds Try.pinned (OpenSpec.ofChange threadsChainSpec)

/-- ITS FALSE NEIGHBOUR: 'it returns false'. Refute it at one input. -/
def threadsChainWrong : ChangeSpec := { name := "threadsChain", fn := fun _ => fun
  | [d] => { results := [.lit (.bool false)], args := [d] }
  | _ => none }
def ThreadsChainWrongFalsely : Prop := threadsChainRow.holds Try.pinned (OpenSpec.ofChange threadsChainWrong)

/-- 'scriptinglaw28.ThreadsNil': WHATEVER THE INPUT: true; the input reads as it did. -/
def threadsNilSpec : ChangeSpec := { name := "threadsNil", fn := fun _ => fun
  | [d] => { results := [.lit (.bool true)], args := [d] }
  | _ => none }
def threadsNilRow : OpenClaim := { program := "ytmedmjngehkmoaa", sum := "6196810692d109e05e65725f7dd4cc3b11e73644c0036af018ce6e9fa81ed2c9", func := "scripting/scriptinglaw28.ThreadsNil", spec := "threadsNil", apart := false }
def ThreadsNilSaid : Prop := threadsNilRow.holds Try.pinned (OpenSpec.ofChange threadsNilSpec)

/-- ITS FALSE NEIGHBOUR: 'it returns false'. Refute it at one input. -/
def threadsNilWrong : ChangeSpec := { name := "threadsNil", fn := fun _ => fun
  | [d] => { results := [.lit (.bool false)], args := [d] }
  | _ => none }
def ThreadsNilWrongFalsely : Prop := threadsNilRow.holds Try.pinned (OpenSpec.ofChange threadsNilWrong)

/- THE SECOND FORM. 'bulk': how many values and letters a reading holds, each counted each time it is reached (what is shared counts as often as it is met; a slice's spare places count too). A statement '..UptoSaid' is the law's where the arguments, and the package variables that the reading takes, are together of bulk at most 1048576: NARROWER than '..Said'. Prove '..Said' where nothing that the law and all that it calls make is longer than what came in: it says more and counts as full. Else prove '..UptoSaid'. A law counts once. -/
mutual
def uptoBulk {H : Type} : DataW H → Nat
  | .lit (.string bytes) => bytes.length + 1
  | .lit _ => 1
  | .nil => 1
  | .ptr d => uptoBulk d + 1
  | .slice elems spare => uptoBulkAll elems + uptoBulkAll spare + 1
  | .agg parts => uptoBulkAll parts + 1
  | .iface _ d => uptoBulk d + 1
  | .map entries => uptoBulkEntries entries + 1
  | .held _ => 1
def uptoBulkAll {H : Type} : List (DataW H) → Nat
  | [] => 0
  | d :: r => uptoBulk d + uptoBulkAll r
def uptoBulkEntries {H : Type} : List (Lit × DataW H) → Nat
  | [] => 0
  | x :: r => uptoBulkEntry x + uptoBulkEntries r
def uptoBulkEntry {H : Type} : Lit × DataW H → Nat
  | (.string bytes, d) => bytes.length + uptoBulk d + 1
  | (_, d) => uptoBulk d + 1
 end
def uptoSmall : (H : Type) → List (DataW H) → Bool := fun _ ds => decide (uptoBulkAll ds ≤ 1048576)
def OpenSpec.upto (s : _root_.Go.ChangeSpec) : _root_.Go.OpenSpec := { _root_.Go.OpenSpec.ofChange s with cond := some uptoSmall }

/-- 'scriptinglaw28.ThreadsNest', WHERE WHAT IT READS IS OF BULK AT MOST 1048576: true; the input reads as it did. -/
def threadsNestUptoRow : OpenClaim := { program := "ytmedmjngehkmoaa", sum := "6196810692d109e05e65725f7dd4cc3b11e73644c0036af018ce6e9fa81ed2c9", func := "scripting/scriptinglaw28.ThreadsNest", spec := "threadsNest", apart := false, narrowed := true }
def ThreadsNestUptoSaid : Prop := threadsNestUptoRow.holds Try.pinned (OpenSpec.upto threadsNestSpec)

/-- 'scriptinglaw28.ThreadsClose', WHERE WHAT IT READS IS OF BULK AT MOST 1048576: true; the input reads as it did. -/
def threadsCloseUptoRow : OpenClaim := { program := "ytmedmjngehkmoaa", sum := "6196810692d109e05e65725f7dd4cc3b11e73644c0036af018ce6e9fa81ed2c9", func := "scripting/scriptinglaw28.ThreadsClose", spec := "threadsClose", apart := false, narrowed := true }
def ThreadsCloseUptoSaid : Prop := threadsCloseUptoRow.holds Try.pinned (OpenSpec.upto threadsCloseSpec)

/-- 'scriptinglaw28.ThreadsBack', WHERE WHAT IT READS IS OF BULK AT MOST 1048576: true; the input reads as it did. -/
def threadsBackUptoRow : OpenClaim := { program := "ytmedmjngehkmoaa", sum := "6196810692d109e05e65725f7dd4cc3b11e73644c0036af018ce6e9fa81ed2c9", func := "scripting/scriptinglaw28.ThreadsBack", spec := "threadsBack", apart := false, narrowed := true }
def ThreadsBackUptoSaid : Prop := threadsBackUptoRow.holds Try.pinned (OpenSpec.upto threadsBackSpec)

/-- 'scriptinglaw28.ThreadsDead', WHERE WHAT IT READS IS OF BULK AT MOST 1048576: true; the input reads as it did. -/
def threadsDeadUptoRow : OpenClaim := { program := "ytmedmjngehkmoaa", sum := "6196810692d109e05e65725f7dd4cc3b11e73644c0036af018ce6e9fa81ed2c9", func := "scripting/scriptinglaw28.ThreadsDead", spec := "threadsDead", apart := false, narrowed := true }
def ThreadsDeadUptoSaid : Prop := threadsDeadUptoRow.holds Try.pinned (OpenSpec.upto threadsDeadSpec)

/-- 'scriptinglaw28.ThreadsPlays', WHERE WHAT IT READS IS OF BULK AT MOST 1048576: true; the input reads as it did. -/
def threadsPlaysUptoRow : OpenClaim := { program := "ytmedmjngehkmoaa", sum := "6196810692d109e05e65725f7dd4cc3b11e73644c0036af018ce6e9fa81ed2c9", func := "scripting/scriptinglaw28.ThreadsPlays", spec := "threadsPlays", apart := false, narrowed := true }
def ThreadsPlaysUptoSaid : Prop := threadsPlaysUptoRow.holds Try.pinned (OpenSpec.upto threadsPlaysSpec)

/-- 'scriptinglaw28.ThreadsChain', WHERE WHAT IT READS IS OF BULK AT MOST 1048576: true; the input reads as it did. -/
def threadsChainUptoRow : OpenClaim := { program := "ytmedmjngehkmoaa", sum := "6196810692d109e05e65725f7dd4cc3b11e73644c0036af018ce6e9fa81ed2c9", func := "scripting/scriptinglaw28.ThreadsChain", spec := "threadsChain", apart := false, narrowed := true }
def ThreadsChainUptoSaid : Prop := threadsChainUptoRow.holds Try.pinned (OpenSpec.upto threadsChainSpec)

/-- 'scriptinglaw28.ThreadsNil', WHERE WHAT IT READS IS OF BULK AT MOST 1048576: true; the input reads as it did. -/
def threadsNilUptoRow : OpenClaim := { program := "ytmedmjngehkmoaa", sum := "6196810692d109e05e65725f7dd4cc3b11e73644c0036af018ce6e9fa81ed2c9", func := "scripting/scriptinglaw28.ThreadsNil", spec := "threadsNil", apart := false, narrowed := true }
def ThreadsNilUptoSaid : Prop := threadsNilUptoRow.holds Try.pinned (OpenSpec.upto threadsNilSpec)

end Rows
end Go.Proofs.Ytmedmjngehkmoaa
