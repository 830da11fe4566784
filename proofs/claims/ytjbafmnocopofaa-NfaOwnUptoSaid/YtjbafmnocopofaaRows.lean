/-
  NARROWER THAN 'FOR EVERY INPUT', by the rows' own cells (each row's printed sentence says how): NfaSizes: loops · NfaParts: loops · NfaOwn: loops.
  DERIVED. THE GIVEN ROWS OF THIS SEAT. 5 by the template 'for every input the law returns true; each argument reads behind the call as it read before'; 0 by the template 'total and deterministic' (their statements: YtjbafmnocopofaaTotals.lean).
  GIVEN WITH THE SEED: the statements are not yours to turn. If you find one false, say at which input.
  Laid BY PROGRAM, IN A SANDBOX (cutbox-rows.mjs): the forced cells as the released guide's own fill.sh prints them over the translation d8e0c39046e3ce66… (all of the seat's roots in one cut). By AI agents, Wed Nov 11 2026. No macro, syntax, notation, axiom, sorry.
-/
import Derived.Test.YtjbafmnocopofaaChecked
import GoSem.Claim
import GoSem.ClaimJoined
import GoSem.ClaimMapViews
import Derived.JoinedTies
import Derived.KernelRfl
namespace Go.Proofs.Ytjbafmnocopofaa
/- THE CELL 'sum', in the pinned program and in every row, IS THE sha256 OF THE DUMP (.gsa) THAT YtjbafmnocopofaaProg.lean LOADS. Nothing in Lean hashes anything: it is a label: what it is worth is what the hold of that sum in a sandbox is worth. -/
noncomputable def Try.pinned : Pinned := { name := "ytjbafmnocopofaa", sum := "d8e0c39046e3ce66daedceb9066d3daf818950cf576b6c1547531584bba0cf4c", checked := Try.checked }
namespace Rows
def none {H : Type} : Left H := { results := [], args := [] }

/-- 'paddocklaw10.NfaSizes': WHATEVER THE INPUT: true; the input reads as it did. -/
def nfaSizesSpec : ChangeSpec := { name := "nfaSizes", fn := fun _ => fun
  | [d] => { results := [.lit (.bool true)], args := [d] }
  | _ => none }
def nfaSizesRow : OpenClaim := { program := "ytjbafmnocopofaa", sum := "d8e0c39046e3ce66daedceb9066d3daf818950cf576b6c1547531584bba0cf4c", func := "paddock/paddocklaw10.NfaSizes", spec := "nfaSizes", unfollowed := true, recurses := true, loops := true, apart := false }
def NfaSizesSaid : Prop := nfaSizesRow.holds Try.pinned (OpenSpec.ofChange nfaSizesSpec)

/-- ITS FALSE NEIGHBOUR: 'it returns false'. Refute it at one input. -/
def nfaSizesWrong : ChangeSpec := { name := "nfaSizes", fn := fun _ => fun
  | [d] => { results := [.lit (.bool false)], args := [d] }
  | _ => none }
def NfaSizesWrongFalsely : Prop := nfaSizesRow.holds Try.pinned (OpenSpec.ofChange nfaSizesWrong)

/-- 'paddocklaw10.NfaParts': WHATEVER THE INPUT: true; the input reads as it did. -/
def nfaPartsSpec : ChangeSpec := { name := "nfaParts", fn := fun _ => fun
  | [d1, d2, d3, d4] => { results := [.lit (.bool true)], args := [d1, d2, d3, d4] }
  | _ => none }
def nfaPartsRow : OpenClaim := { program := "ytjbafmnocopofaa", sum := "d8e0c39046e3ce66daedceb9066d3daf818950cf576b6c1547531584bba0cf4c", func := "paddock/paddocklaw10.NfaParts", spec := "nfaParts", unfollowed := true, recurses := true, loops := true, apart := false }
def NfaPartsSaid : Prop := nfaPartsRow.holds Try.pinned (OpenSpec.ofChange nfaPartsSpec)

/-- ITS FALSE NEIGHBOUR: 'it returns false'. Refute it at one input. -/
def nfaPartsWrong : ChangeSpec := { name := "nfaParts", fn := fun _ => fun
  | [d1, d2, d3, d4] => { results := [.lit (.bool false)], args := [d1, d2, d3, d4] }
  | _ => none }
def NfaPartsWrongFalsely : Prop := nfaPartsRow.holds Try.pinned (OpenSpec.ofChange nfaPartsWrong)

/-- 'paddocklaw10.NfaOwn': WHATEVER THE INPUT: true; the input reads as it did. -/
def nfaOwnSpec : ChangeSpec := { name := "nfaOwn", fn := fun _ => fun
  | [d1, d2] => { results := [.lit (.bool true)], args := [d1, d2] }
  | _ => none }
def nfaOwnRow : OpenClaim := { program := "ytjbafmnocopofaa", sum := "d8e0c39046e3ce66daedceb9066d3daf818950cf576b6c1547531584bba0cf4c", func := "paddock/paddocklaw10.NfaOwn", spec := "nfaOwn", unfollowed := true, recurses := true, loops := true, apart := false }
def NfaOwnSaid : Prop := nfaOwnRow.holds Try.pinned (OpenSpec.ofChange nfaOwnSpec)

/-- ITS FALSE NEIGHBOUR: 'it returns false'. Refute it at one input. -/
def nfaOwnWrong : ChangeSpec := { name := "nfaOwn", fn := fun _ => fun
  | [d1, d2] => { results := [.lit (.bool false)], args := [d1, d2] }
  | _ => none }
def NfaOwnWrongFalsely : Prop := nfaOwnRow.holds Try.pinned (OpenSpec.ofChange nfaOwnWrong)

/-- 'paddocklaw10.NfaRuns': WHATEVER THE INPUT: true; the input reads as it did. -/
def nfaRunsSpec : ChangeSpec := { name := "nfaRuns", fn := fun _ => fun
  | [d1, d2, d3] => { results := [.lit (.bool true)], args := [d1, d2, d3] }
  | _ => none }
def nfaRunsRow : OpenClaim := { program := "ytjbafmnocopofaa", sum := "d8e0c39046e3ce66daedceb9066d3daf818950cf576b6c1547531584bba0cf4c", func := "paddock/paddocklaw10.NfaRuns", spec := "nfaRuns", unfollowed := true, recurses := true, apart := false }
def NfaRunsSaid : Prop := nfaRunsRow.holds Try.pinned (OpenSpec.ofChange nfaRunsSpec)

/-- ITS FALSE NEIGHBOUR: 'it returns false'. Refute it at one input. -/
def nfaRunsWrong : ChangeSpec := { name := "nfaRuns", fn := fun _ => fun
  | [d1, d2, d3] => { results := [.lit (.bool false)], args := [d1, d2, d3] }
  | _ => none }
def NfaRunsWrongFalsely : Prop := nfaRunsRow.holds Try.pinned (OpenSpec.ofChange nfaRunsWrong)

/-- 'paddocklaw10.NfaLongest': WHATEVER THE INPUT: true; the input reads as it did. -/
def nfaLongestSpec : ChangeSpec := { name := "nfaLongest", fn := fun _ => fun
  | [d1, d2, d3] => { results := [.lit (.bool true)], args := [d1, d2, d3] }
  | _ => none }
def nfaLongestRow : OpenClaim := { program := "ytjbafmnocopofaa", sum := "d8e0c39046e3ce66daedceb9066d3daf818950cf576b6c1547531584bba0cf4c", func := "paddock/paddocklaw10.NfaLongest", spec := "nfaLongest", unfollowed := true, recurses := true, apart := false }
def NfaLongestSaid : Prop := nfaLongestRow.holds Try.pinned (OpenSpec.ofChange nfaLongestSpec)

/-- ITS FALSE NEIGHBOUR: 'it returns false'. Refute it at one input. -/
def nfaLongestWrong : ChangeSpec := { name := "nfaLongest", fn := fun _ => fun
  | [d1, d2, d3] => { results := [.lit (.bool false)], args := [d1, d2, d3] }
  | _ => none }
def NfaLongestWrongFalsely : Prop := nfaLongestRow.holds Try.pinned (OpenSpec.ofChange nfaLongestWrong)

/- THE SECOND FORM. 'bulk': how many values and letters a reading holds, each counted each time it is reached (what is shared counts as often as it is met; a slice's spare places count too). A statement '..UptoSaid' is the law's where the arguments, and the package variables that the reading takes, are together of bulk at most 1048576: NARROWER than '..Said'. Prove '..Said' where nothing that the law and all that it calls make is longer than what came in: it says more and counts as full. Else prove '..UptoSaid'. A law counts once. -/
mutual
def uptoBulk {H : Type} : DataW H → Nat
  | .lit (.string bytes) => bytes.length + 1
  | .lit _ => 1
  | .nil => 1
  | .ptr d => uptoBulk d + 1
  | .slice elems spare => uptoBulkAll elems + uptoBulkAll spare + 1
  | .agg parts => uptoBulkAll parts + 1
  | .iface _ d => uptoBulk d + 1
  | .map entries => uptoBulkEntries entries + 1
  | .held _ => 1
def uptoBulkAll {H : Type} : List (DataW H) → Nat
  | [] => 0
  | d :: r => uptoBulk d + uptoBulkAll r
def uptoBulkEntries {H : Type} : List (Lit × DataW H) → Nat
  | [] => 0
  | x :: r => uptoBulkEntry x + uptoBulkEntries r
def uptoBulkEntry {H : Type} : Lit × DataW H → Nat
  | (.string bytes, d) => bytes.length + uptoBulk d + 1
  | (_, d) => uptoBulk d + 1
 end
def uptoSmall : (H : Type) → List (DataW H) → Bool := fun _ ds => decide (uptoBulkAll ds ≤ 1048576)
def OpenSpec.upto (s : _root_.Go.ChangeSpec) : _root_.Go.OpenSpec := { _root_.Go.OpenSpec.ofChange s with cond := some uptoSmall }

/-- 'paddocklaw10.NfaSizes', WHERE WHAT IT READS IS OF BULK AT MOST 1048576: true; the input reads as it did. -/
def nfaSizesUptoRow : OpenClaim := { program := "ytjbafmnocopofaa", sum := "d8e0c39046e3ce66daedceb9066d3daf818950cf576b6c1547531584bba0cf4c", func := "paddock/paddocklaw10.NfaSizes", spec := "nfaSizes", unfollowed := true, recurses := true, loops := true, apart := false, narrowed := true }
def NfaSizesUptoSaid : Prop := nfaSizesUptoRow.holds Try.pinned (OpenSpec.upto nfaSizesSpec)

/-- 'paddocklaw10.NfaParts', WHERE WHAT IT READS IS OF BULK AT MOST 1048576: true; the input reads as it did. -/
def nfaPartsUptoRow : OpenClaim := { program := "ytjbafmnocopofaa", sum := "d8e0c39046e3ce66daedceb9066d3daf818950cf576b6c1547531584bba0cf4c", func := "paddock/paddocklaw10.NfaParts", spec := "nfaParts", unfollowed := true, recurses := true, loops := true, apart := false, narrowed := true }
def NfaPartsUptoSaid : Prop := nfaPartsUptoRow.holds Try.pinned (OpenSpec.upto nfaPartsSpec)

/-- 'paddocklaw10.NfaOwn', WHERE WHAT IT READS IS OF BULK AT MOST 1048576: true; the input reads as it did. -/
def nfaOwnUptoRow : OpenClaim := { program := "ytjbafmnocopofaa", sum := "d8e0c39046e3ce66daedceb9066d3daf818950cf576b6c1547531584bba0cf4c", func := "paddock/paddocklaw10.NfaOwn", spec := "nfaOwn", unfollowed := true, recurses := true, loops := true, apart := false, narrowed := true }
def NfaOwnUptoSaid : Prop := nfaOwnUptoRow.holds Try.pinned (OpenSpec.upto nfaOwnSpec)

/-- 'paddocklaw10.NfaRuns', WHERE WHAT IT READS IS OF BULK AT MOST 1048576: true; the input reads as it did. -/
def nfaRunsUptoRow : OpenClaim := { program := "ytjbafmnocopofaa", sum := "d8e0c39046e3ce66daedceb9066d3daf818950cf576b6c1547531584bba0cf4c", func := "paddock/paddocklaw10.NfaRuns", spec := "nfaRuns", unfollowed := true, recurses := true, apart := false, narrowed := true }
def NfaRunsUptoSaid : Prop := nfaRunsUptoRow.holds Try.pinned (OpenSpec.upto nfaRunsSpec)

/-- 'paddocklaw10.NfaLongest', WHERE WHAT IT READS IS OF BULK AT MOST 1048576: true; the input reads as it did. -/
def nfaLongestUptoRow : OpenClaim := { program := "ytjbafmnocopofaa", sum := "d8e0c39046e3ce66daedceb9066d3daf818950cf576b6c1547531584bba0cf4c", func := "paddock/paddocklaw10.NfaLongest", spec := "nfaLongest", unfollowed := true, recurses := true, apart := false, narrowed := true }
def NfaLongestUptoSaid : Prop := nfaLongestUptoRow.holds Try.pinned (OpenSpec.upto nfaLongestSpec)

end Rows
end Go.Proofs.Ytjbafmnocopofaa
