/-
  No cell of these rows narrows 'for every input' (looked for: loops, veiled, ifaces, maps, wideKeys, modest, calm, conditions, laid).
  DERIVED. THE GIVEN ROWS OF THIS SEAT. 4 by the template 'for every input the law returns true; each argument reads behind the call as it read before'; 0 by the template 'total and deterministic' (their statements: YtoapgkmgehbnpaaTotals.lean).
  GIVEN WITH THE SEED: the statements are not yours to turn. If you find one false, say at which input.
  Laid BY PROGRAM, IN A SANDBOX (cutbox-rows.mjs): the forced cells as the released guide's own fill.sh prints them over the translation 1a6ba00110a0b7ce… (all of the seat's roots in one cut). By AI agents, Wed Nov 11 2026. No macro, syntax, notation, axiom, sorry.
-/
import Derived.Test.YtoapgkmgehbnpaaChecked
import GoSem.Claim
import GoSem.ClaimJoined
import GoSem.ClaimMapViews
import Derived.JoinedTies
import Derived.KernelRfl
namespace Go.Proofs.Ytoapgkmgehbnpaa
/- THE CELL 'sum', in the pinned program and in every row, IS THE sha256 OF THE DUMP (.gsa) THAT YtoapgkmgehbnpaaProg.lean LOADS. Nothing in Lean hashes anything: it is a label: what it is worth is what the hold of that sum in a sandbox is worth. -/
noncomputable def Try.pinned : Pinned := { name := "ytoapgkmgehbnpaa", sum := "1a6ba00110a0b7cef231afdd74b8da8be05290d1863765f01bd1fc865ab82051", checked := Try.checked }
namespace Rows
def none {H : Type} : Left H := { results := [], args := [] }

/-- 'laws.FnExactRaftBeat': WHATEVER THE INPUT: true; the input reads as it did. -/
def fnExactRaftBeatSpec : ChangeSpec := { name := "fnExactRaftBeat", fn := fun _ => fun
  | [d] => { results := [.lit (.bool true)], args := [d] }
  | _ => none }
def fnExactRaftBeatRow : OpenClaim := { program := "ytoapgkmgehbnpaa", sum := "1a6ba00110a0b7cef231afdd74b8da8be05290d1863765f01bd1fc865ab82051", func := "loop.example/g00106/laws.FnExactRaftBeat", spec := "fnExactRaftBeat", apart := false }
def FnExactRaftBeatSaid : Prop := fnExactRaftBeatRow.holds Try.pinned (OpenSpec.ofChange fnExactRaftBeatSpec)

/-- ITS FALSE NEIGHBOUR: 'it returns false'. Refute it at one input. -/
def fnExactRaftBeatWrong : ChangeSpec := { name := "fnExactRaftBeat", fn := fun _ => fun
  | [d] => { results := [.lit (.bool false)], args := [d] }
  | _ => none }
def FnExactRaftBeatWrongFalsely : Prop := fnExactRaftBeatRow.holds Try.pinned (OpenSpec.ofChange fnExactRaftBeatWrong)

/-- 'laws.FnExactRaftPropose': WHATEVER THE INPUT: true; the input reads as it did. -/
def fnExactRaftProposeSpec : ChangeSpec := { name := "fnExactRaftPropose", fn := fun _ => fun
  | [d1, d2] => { results := [.lit (.bool true)], args := [d1, d2] }
  | _ => none }
def fnExactRaftProposeRow : OpenClaim := { program := "ytoapgkmgehbnpaa", sum := "1a6ba00110a0b7cef231afdd74b8da8be05290d1863765f01bd1fc865ab82051", func := "loop.example/g00106/laws.FnExactRaftPropose", spec := "fnExactRaftPropose", apart := false }
def FnExactRaftProposeSaid : Prop := fnExactRaftProposeRow.holds Try.pinned (OpenSpec.ofChange fnExactRaftProposeSpec)

/-- ITS FALSE NEIGHBOUR: 'it returns false'. Refute it at one input. -/
def fnExactRaftProposeWrong : ChangeSpec := { name := "fnExactRaftPropose", fn := fun _ => fun
  | [d1, d2] => { results := [.lit (.bool false)], args := [d1, d2] }
  | _ => none }
def FnExactRaftProposeWrongFalsely : Prop := fnExactRaftProposeRow.holds Try.pinned (OpenSpec.ofChange fnExactRaftProposeWrong)

/-- 'laws.FnExactRaftStand': WHATEVER THE INPUT: true; the input reads as it did. -/
def fnExactRaftStandSpec : ChangeSpec := { name := "fnExactRaftStand", fn := fun _ => fun
  | [d] => { results := [.lit (.bool true)], args := [d] }
  | _ => none }
def fnExactRaftStandRow : OpenClaim := { program := "ytoapgkmgehbnpaa", sum := "1a6ba00110a0b7cef231afdd74b8da8be05290d1863765f01bd1fc865ab82051", func := "loop.example/g00106/laws.FnExactRaftStand", spec := "fnExactRaftStand", apart := false }
def FnExactRaftStandSaid : Prop := fnExactRaftStandRow.holds Try.pinned (OpenSpec.ofChange fnExactRaftStandSpec)

/-- ITS FALSE NEIGHBOUR: 'it returns false'. Refute it at one input. -/
def fnExactRaftStandWrong : ChangeSpec := { name := "fnExactRaftStand", fn := fun _ => fun
  | [d] => { results := [.lit (.bool false)], args := [d] }
  | _ => none }
def FnExactRaftStandWrongFalsely : Prop := fnExactRaftStandRow.holds Try.pinned (OpenSpec.ofChange fnExactRaftStandWrong)

/-- 'laws.FnExactOnAsk': WHATEVER THE INPUT: true; the input reads as it did. -/
def fnExactOnAskSpec : ChangeSpec := { name := "fnExactOnAsk", fn := fun _ => fun
  | [d1, d2] => { results := [.lit (.bool true)], args := [d1, d2] }
  | _ => none }
def fnExactOnAskRow : OpenClaim := { program := "ytoapgkmgehbnpaa", sum := "1a6ba00110a0b7cef231afdd74b8da8be05290d1863765f01bd1fc865ab82051", func := "loop.example/g00106/laws.FnExactOnAsk", spec := "fnExactOnAsk", apart := false }
def FnExactOnAskSaid : Prop := fnExactOnAskRow.holds Try.pinned (OpenSpec.ofChange fnExactOnAskSpec)

/-- ITS FALSE NEIGHBOUR: 'it returns false'. Refute it at one input. -/
def fnExactOnAskWrong : ChangeSpec := { name := "fnExactOnAsk", fn := fun _ => fun
  | [d1, d2] => { results := [.lit (.bool false)], args := [d1, d2] }
  | _ => none }
def FnExactOnAskWrongFalsely : Prop := fnExactOnAskRow.holds Try.pinned (OpenSpec.ofChange fnExactOnAskWrong)

/- THE SECOND FORM. 'bulk': how many values and letters a reading holds, each counted each time it is reached (what is shared counts as often as it is met; a slice's spare places count too). A statement '..UptoSaid' is the law's where the arguments, and the package variables that the reading takes, are together of bulk at most 1048576: NARROWER than '..Said'. Prove '..Said' where nothing that the law and all that it calls make is longer than what came in: it says more and counts as full. Else prove '..UptoSaid'. A law counts once. -/
mutual
def uptoBulk {H : Type} : DataW H → Nat
  | .lit (.string bytes) => bytes.length + 1
  | .lit _ => 1
  | .nil => 1
  | .ptr d => uptoBulk d + 1
  | .slice elems spare => uptoBulkAll elems + uptoBulkAll spare + 1
  | .agg parts => uptoBulkAll parts + 1
  | .iface _ d => uptoBulk d + 1
  | .map entries => uptoBulkEntries entries + 1
  | .held _ => 1
def uptoBulkAll {H : Type} : List (DataW H) → Nat
  | [] => 0
  | d :: r => uptoBulk d + uptoBulkAll r
def uptoBulkEntries {H : Type} : List (Lit × DataW H) → Nat
  | [] => 0
  | x :: r => uptoBulkEntry x + uptoBulkEntries r
def uptoBulkEntry {H : Type} : Lit × DataW H → Nat
  | (.string bytes, d) => bytes.length + uptoBulk d + 1
  | (_, d) => uptoBulk d + 1
 end
def uptoSmall : (H : Type) → List (DataW H) → Bool := fun _ ds => decide (uptoBulkAll ds ≤ 1048576)
def OpenSpec.upto (s : _root_.Go.ChangeSpec) : _root_.Go.OpenSpec := { _root_.Go.OpenSpec.ofChange s with cond := some uptoSmall }

/-- 'laws.FnExactRaftBeat', WHERE WHAT IT READS IS OF BULK AT MOST 1048576: true; the input reads as it did. -/
def fnExactRaftBeatUptoRow : OpenClaim := { program := "ytoapgkmgehbnpaa", sum := "1a6ba00110a0b7cef231afdd74b8da8be05290d1863765f01bd1fc865ab82051", func := "loop.example/g00106/laws.FnExactRaftBeat", spec := "fnExactRaftBeat", apart := false, narrowed := true }
def FnExactRaftBeatUptoSaid : Prop := fnExactRaftBeatUptoRow.holds Try.pinned (OpenSpec.upto fnExactRaftBeatSpec)

/-- 'laws.FnExactRaftPropose', WHERE WHAT IT READS IS OF BULK AT MOST 1048576: true; the input reads as it did. -/
def fnExactRaftProposeUptoRow : OpenClaim := { program := "ytoapgkmgehbnpaa", sum := "1a6ba00110a0b7cef231afdd74b8da8be05290d1863765f01bd1fc865ab82051", func := "loop.example/g00106/laws.FnExactRaftPropose", spec := "fnExactRaftPropose", apart := false, narrowed := true }
def FnExactRaftProposeUptoSaid : Prop := fnExactRaftProposeUptoRow.holds Try.pinned (OpenSpec.upto fnExactRaftProposeSpec)

/-- 'laws.FnExactRaftStand', WHERE WHAT IT READS IS OF BULK AT MOST 1048576: true; the input reads as it did. -/
def fnExactRaftStandUptoRow : OpenClaim := { program := "ytoapgkmgehbnpaa", sum := "1a6ba00110a0b7cef231afdd74b8da8be05290d1863765f01bd1fc865ab82051", func := "loop.example/g00106/laws.FnExactRaftStand", spec := "fnExactRaftStand", apart := false, narrowed := true }
def FnExactRaftStandUptoSaid : Prop := fnExactRaftStandUptoRow.holds Try.pinned (OpenSpec.upto fnExactRaftStandSpec)

/-- 'laws.FnExactOnAsk', WHERE WHAT IT READS IS OF BULK AT MOST 1048576: true; the input reads as it did. -/
def fnExactOnAskUptoRow : OpenClaim := { program := "ytoapgkmgehbnpaa", sum := "1a6ba00110a0b7cef231afdd74b8da8be05290d1863765f01bd1fc865ab82051", func := "loop.example/g00106/laws.FnExactOnAsk", spec := "fnExactOnAsk", apart := false, narrowed := true }
def FnExactOnAskUptoSaid : Prop := fnExactOnAskUptoRow.holds Try.pinned (OpenSpec.upto fnExactOnAskSpec)

end Rows
end Go.Proofs.Ytoapgkmgehbnpaa
