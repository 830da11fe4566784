/-
  No cell of these rows narrows 'for every input' (looked for: loops, veiled, ifaces, maps, wideKeys, modest, calm, conditions, laid).
  DERIVED. THE GIVEN ROWS OF THIS SEAT. 6 by the template 'for every input the law returns true; each argument reads behind the call as it read before'; 0 by the template 'total and deterministic' (their statements: YtfjdegohjnejkaaTotals.lean).
  GIVEN WITH THE SEED: the statements are not yours to turn. If you find one false, say at which input.
  Laid BY PROGRAM, IN A SANDBOX (cutbox-rows.mjs): the forced cells as the released guide's own fill.sh prints them over the translation f8f7b1e95fa01d6b… (all of the seat's roots in one cut). By AI agents, Wed Nov 11 2026. No macro, syntax, notation, axiom, sorry.
-/
import Derived.Test.YtfjdegohjnejkaaChecked
import GoSem.Claim
import GoSem.ClaimJoined
import GoSem.ClaimMapViews
import Derived.JoinedTies
import Derived.KernelRfl
namespace Go.Proofs.Ytfjdegohjnejkaa
/- THE CELL 'sum', in the pinned program and in every row, IS THE sha256 OF THE DUMP (.gsa) THAT YtfjdegohjnejkaaProg.lean LOADS. Nothing in Lean hashes anything: it is a label: what it is worth is what the hold of that sum in a sandbox is worth. -/
noncomputable def Try.pinned : Pinned := { name := "ytfjdegohjnejkaa", sum := "f8f7b1e95fa01d6bb72c1f76e00581360fc0719c78f160c42f6f3064a7afe5bf", checked := Try.checked }
namespace Rows
def none {H : Type} : Left H := { results := [], args := [] }

/-- 'paddocklaw07.SetsMade': WHATEVER THE INPUT: true; the input reads as it did. -/
def setsMadeSpec : ChangeSpec := { name := "setsMade", fn := fun _ => fun
  | [d1, d2, d3, d4, d5] => { results := [.lit (.bool true)], args := [d1, d2, d3, d4, d5] }
  | _ => none }
def setsMadeRow : OpenClaim := { program := "ytfjdegohjnejkaa", sum := "f8f7b1e95fa01d6bb72c1f76e00581360fc0719c78f160c42f6f3064a7afe5bf", func := "paddock/paddocklaw07.SetsMade", spec := "setsMade", apart := false }
def SetsMadeSaid : Prop := setsMadeRow.holds Try.pinned (OpenSpec.ofChange setsMadeSpec)

/-- ITS FALSE NEIGHBOUR: 'it returns false'. Refute it at one input. -/
def setsMadeWrong : ChangeSpec := { name := "setsMade", fn := fun _ => fun
  | [d1, d2, d3, d4, d5] => { results := [.lit (.bool false)], args := [d1, d2, d3, d4, d5] }
  | _ => none }
def SetsMadeWrongFalsely : Prop := setsMadeRow.holds Try.pinned (OpenSpec.ofChange setsMadeWrong)

/-- 'paddocklaw07.SetsBrackets': WHATEVER THE INPUT: true; the input reads as it did. -/
def setsBracketsSpec : ChangeSpec := { name := "setsBrackets", fn := fun _ => fun
  | [d] => { results := [.lit (.bool true)], args := [d] }
  | _ => none }
def setsBracketsRow : OpenClaim := { program := "ytfjdegohjnejkaa", sum := "f8f7b1e95fa01d6bb72c1f76e00581360fc0719c78f160c42f6f3064a7afe5bf", func := "paddock/paddocklaw07.SetsBrackets", spec := "setsBrackets", apart := false }
def SetsBracketsSaid : Prop := setsBracketsRow.holds Try.pinned (OpenSpec.ofChange setsBracketsSpec)

/-- ITS FALSE NEIGHBOUR: 'it returns false'. Refute it at one input. -/
def setsBracketsWrong : ChangeSpec := { name := "setsBrackets", fn := fun _ => fun
  | [d] => { results := [.lit (.bool false)], args := [d] }
  | _ => none }
def SetsBracketsWrongFalsely : Prop := setsBracketsRow.holds Try.pinned (OpenSpec.ofChange setsBracketsWrong)

/-- 'paddocklaw07.SetsBack': WHATEVER THE INPUT: true; the input reads as it did. -/
def setsBackSpec : ChangeSpec := { name := "setsBack", fn := fun _ => fun
  | [d1, d2, d3] => { results := [.lit (.bool true)], args := [d1, d2, d3] }
  | _ => none }
def setsBackRow : OpenClaim := { program := "ytfjdegohjnejkaa", sum := "f8f7b1e95fa01d6bb72c1f76e00581360fc0719c78f160c42f6f3064a7afe5bf", func := "paddock/paddocklaw07.SetsBack", spec := "setsBack", apart := false }
def SetsBackSaid : Prop := setsBackRow.holds Try.pinned (OpenSpec.ofChange setsBackSpec)

/-- ITS FALSE NEIGHBOUR: 'it returns false'. Refute it at one input. -/
def setsBackWrong : ChangeSpec := { name := "setsBack", fn := fun _ => fun
  | [d1, d2, d3] => { results := [.lit (.bool false)], args := [d1, d2, d3] }
  | _ => none }
def SetsBackWrongFalsely : Prop := setsBackRow.holds Try.pinned (OpenSpec.ofChange setsBackWrong)

/-- 'paddocklaw07.SetsOwn': WHATEVER THE INPUT: true; the input reads as it did. -/
def setsOwnSpec : ChangeSpec := { name := "setsOwn", fn := fun _ => fun
  | [d] => { results := [.lit (.bool true)], args := [d] }
  | _ => none }
def setsOwnRow : OpenClaim := { program := "ytfjdegohjnejkaa", sum := "f8f7b1e95fa01d6bb72c1f76e00581360fc0719c78f160c42f6f3064a7afe5bf", func := "paddock/paddocklaw07.SetsOwn", spec := "setsOwn", apart := false }
def SetsOwnSaid : Prop := setsOwnRow.holds Try.pinned (OpenSpec.ofChange setsOwnSpec)

/-- ITS FALSE NEIGHBOUR: 'it returns false'. Refute it at one input. -/
def setsOwnWrong : ChangeSpec := { name := "setsOwn", fn := fun _ => fun
  | [d] => { results := [.lit (.bool false)], args := [d] }
  | _ => none }
def SetsOwnWrongFalsely : Prop := setsOwnRow.holds Try.pinned (OpenSpec.ofChange setsOwnWrong)

/-- 'paddocklaw07.SetsTurned': WHATEVER THE INPUT: true; the input reads as it did. -/
def setsTurnedSpec : ChangeSpec := { name := "setsTurned", fn := fun _ => fun
  | [d1, d2] => { results := [.lit (.bool true)], args := [d1, d2] }
  | _ => none }
def setsTurnedRow : OpenClaim := { program := "ytfjdegohjnejkaa", sum := "f8f7b1e95fa01d6bb72c1f76e00581360fc0719c78f160c42f6f3064a7afe5bf", func := "paddock/paddocklaw07.SetsTurned", spec := "setsTurned", apart := false }
def SetsTurnedSaid : Prop := setsTurnedRow.holds Try.pinned (OpenSpec.ofChange setsTurnedSpec)

/-- ITS FALSE NEIGHBOUR: 'it returns false'. Refute it at one input. -/
def setsTurnedWrong : ChangeSpec := { name := "setsTurned", fn := fun _ => fun
  | [d1, d2] => { results := [.lit (.bool false)], args := [d1, d2] }
  | _ => none }
def SetsTurnedWrongFalsely : Prop := setsTurnedRow.holds Try.pinned (OpenSpec.ofChange setsTurnedWrong)

/-- 'paddocklaw07.SetsLaws': WHATEVER THE INPUT: true; the input reads as it did. -/
def setsLawsSpec : ChangeSpec := { name := "setsLaws", fn := fun _ => fun
  | [d1, d2, d3] => { results := [.lit (.bool true)], args := [d1, d2, d3] }
  | _ => none }
def setsLawsRow : OpenClaim := { program := "ytfjdegohjnejkaa", sum := "f8f7b1e95fa01d6bb72c1f76e00581360fc0719c78f160c42f6f3064a7afe5bf", func := "paddock/paddocklaw07.SetsLaws", spec := "setsLaws", apart := false }
def SetsLawsSaid : Prop := setsLawsRow.holds Try.pinned (OpenSpec.ofChange setsLawsSpec)

/-- ITS FALSE NEIGHBOUR: 'it returns false'. Refute it at one input. -/
def setsLawsWrong : ChangeSpec := { name := "setsLaws", fn := fun _ => fun
  | [d1, d2, d3] => { results := [.lit (.bool false)], args := [d1, d2, d3] }
  | _ => none }
def SetsLawsWrongFalsely : Prop := setsLawsRow.holds Try.pinned (OpenSpec.ofChange setsLawsWrong)

/- THE SECOND FORM. 'bulk': how many values and letters a reading holds, each counted each time it is reached (what is shared counts as often as it is met; a slice's spare places count too). A statement '..UptoSaid' is the law's where the arguments, and the package variables that the reading takes, are together of bulk at most 1048576: NARROWER than '..Said'. Prove '..Said' where nothing that the law and all that it calls make is longer than what came in: it says more and counts as full. Else prove '..UptoSaid'. A law counts once. -/
mutual
def uptoBulk {H : Type} : DataW H → Nat
  | .lit (.string bytes) => bytes.length + 1
  | .lit _ => 1
  | .nil => 1
  | .ptr d => uptoBulk d + 1
  | .slice elems spare => uptoBulkAll elems + uptoBulkAll spare + 1
  | .agg parts => uptoBulkAll parts + 1
  | .iface _ d => uptoBulk d + 1
  | .map entries => uptoBulkEntries entries + 1
  | .held _ => 1
def uptoBulkAll {H : Type} : List (DataW H) → Nat
  | [] => 0
  | d :: r => uptoBulk d + uptoBulkAll r
def uptoBulkEntries {H : Type} : List (Lit × DataW H) → Nat
  | [] => 0
  | x :: r => uptoBulkEntry x + uptoBulkEntries r
def uptoBulkEntry {H : Type} : Lit × DataW H → Nat
  | (.string bytes, d) => bytes.length + uptoBulk d + 1
  | (_, d) => uptoBulk d + 1
 end
def uptoSmall : (H : Type) → List (DataW H) → Bool := fun _ ds => decide (uptoBulkAll ds ≤ 1048576)
def OpenSpec.upto (s : _root_.Go.ChangeSpec) : _root_.Go.OpenSpec := { _root_.Go.OpenSpec.ofChange s with cond := some uptoSmall }

/-- 'paddocklaw07.SetsMade', WHERE WHAT IT READS IS OF BULK AT MOST 1048576: true; the input reads as it did. -/
def setsMadeUptoRow : OpenClaim := { program := "ytfjdegohjnejkaa", sum := "f8f7b1e95fa01d6bb72c1f76e00581360fc0719c78f160c42f6f3064a7afe5bf", func := "paddock/paddocklaw07.SetsMade", spec := "setsMade", apart := false, narrowed := true }
def SetsMadeUptoSaid : Prop := setsMadeUptoRow.holds Try.pinned (OpenSpec.upto setsMadeSpec)

/-- 'paddocklaw07.SetsBrackets', WHERE WHAT IT READS IS OF BULK AT MOST 1048576: true; the input reads as it did. -/
def setsBracketsUptoRow : OpenClaim := { program := "ytfjdegohjnejkaa", sum := "f8f7b1e95fa01d6bb72c1f76e00581360fc0719c78f160c42f6f3064a7afe5bf", func := "paddock/paddocklaw07.SetsBrackets", spec := "setsBrackets", apart := false, narrowed := true }
def SetsBracketsUptoSaid : Prop := setsBracketsUptoRow.holds Try.pinned (OpenSpec.upto setsBracketsSpec)

/-- 'paddocklaw07.SetsBack', WHERE WHAT IT READS IS OF BULK AT MOST 1048576: true; the input reads as it did. -/
def setsBackUptoRow : OpenClaim := { program := "ytfjdegohjnejkaa", sum := "f8f7b1e95fa01d6bb72c1f76e00581360fc0719c78f160c42f6f3064a7afe5bf", func := "paddock/paddocklaw07.SetsBack", spec := "setsBack", apart := false, narrowed := true }
def SetsBackUptoSaid : Prop := setsBackUptoRow.holds Try.pinned (OpenSpec.upto setsBackSpec)

/-- 'paddocklaw07.SetsOwn', WHERE WHAT IT READS IS OF BULK AT MOST 1048576: true; the input reads as it did. -/
def setsOwnUptoRow : OpenClaim := { program := "ytfjdegohjnejkaa", sum := "f8f7b1e95fa01d6bb72c1f76e00581360fc0719c78f160c42f6f3064a7afe5bf", func := "paddock/paddocklaw07.SetsOwn", spec := "setsOwn", apart := false, narrowed := true }
def SetsOwnUptoSaid : Prop := setsOwnUptoRow.holds Try.pinned (OpenSpec.upto setsOwnSpec)

/-- 'paddocklaw07.SetsTurned', WHERE WHAT IT READS IS OF BULK AT MOST 1048576: true; the input reads as it did. -/
def setsTurnedUptoRow : OpenClaim := { program := "ytfjdegohjnejkaa", sum := "f8f7b1e95fa01d6bb72c1f76e00581360fc0719c78f160c42f6f3064a7afe5bf", func := "paddock/paddocklaw07.SetsTurned", spec := "setsTurned", apart := false, narrowed := true }
def SetsTurnedUptoSaid : Prop := setsTurnedUptoRow.holds Try.pinned (OpenSpec.upto setsTurnedSpec)

/-- 'paddocklaw07.SetsLaws', WHERE WHAT IT READS IS OF BULK AT MOST 1048576: true; the input reads as it did. -/
def setsLawsUptoRow : OpenClaim := { program := "ytfjdegohjnejkaa", sum := "f8f7b1e95fa01d6bb72c1f76e00581360fc0719c78f160c42f6f3064a7afe5bf", func := "paddock/paddocklaw07.SetsLaws", spec := "setsLaws", apart := false, narrowed := true }
def SetsLawsUptoSaid : Prop := setsLawsUptoRow.holds Try.pinned (OpenSpec.upto setsLawsSpec)

end Rows
end Go.Proofs.Ytfjdegohjnejkaa
