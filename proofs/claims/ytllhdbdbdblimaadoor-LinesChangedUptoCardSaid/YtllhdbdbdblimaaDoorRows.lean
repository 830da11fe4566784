/-
  NARROWER THAN 'FOR EVERY INPUT', by the rows' own cells (each row's printed sentence says how): LinesOwn: laid · LinesSplits: laid · LinesBack: laid · LinesParts: laid · LinesQuotes: laid · LinesLists: laid · LinesTold: laid · LinesUnified: laid · LinesDiffs: laid · LinesChanged: laid.
  DERIVED. THE GIVEN ROWS OF THIS SEAT. 10 by the template 'for every input the law returns true; each argument reads behind the call as it read before'; 0 by the template 'total and deterministic' (their statements: YtllhdbdbdblimaaDoorTotals.lean).
  GIVEN WITH THE SEED: the statements are not yours to turn. If you find one false, say at which input.
  Laid BY PROGRAM, IN A SANDBOX (cutbox-rows.mjs): the forced cells as the released guide's own fill.sh prints them over the translation 3d63802f0d33d62c… (all of the seat's roots in one cut). By AI agents, Wed Nov 11 2026. No macro, syntax, notation, axiom, sorry.
-/
import Derived.Test.YtllhdbdbdblimaaDoorChecked
import GoSem.Claim
import GoSem.ClaimJoined
import GoSem.ClaimMapViews
import Derived.JoinedTies
import Derived.KernelRfl
namespace Go.Proofs.YtllhdbdbdblimaaDoor
/- THE CELL 'sum', in the pinned program and in every row, IS THE sha256 OF THE DUMP (.gsa) THAT YtllhdbdbdblimaaDoorProg.lean LOADS. Nothing in Lean hashes anything: it is a label: what it is worth is what the hold of that sum in a sandbox is worth. -/
noncomputable def Tryd.pinned : Pinned := { name := "ytllhdbdbdblimaadoor", sum := "3d63802f0d33d62c11d561ddb97abf0f428fb6d53ce40086d09179fab710d248", checked := Tryd.checked }
namespace Rows
def none {H : Type} : Left H := { results := [], args := [] }

/- WHAT THE LISTED PACKAGE-LEVEL VARIABLES READ AS WHEN THE CALL BEGINS. Each datum BY PROGRAM (the guide's laid-datum.mjs) off the statement by which the dump's own 'gosem.cut.vars' lays the variable. In a bare row this is a premise. The card (YtllhdbdbdblimaaDoorCards.lean) ties it to the program's text. -/
def laid_paddock_lines_short {H : Type} : DataW H := .agg [.lit (.int .u8 0), .lit (.int .u8 0), .lit (.int .u8 0), .lit (.int .u8 0), .lit (.int .u8 0), .lit (.int .u8 0), .lit (.int .u8 0), .lit (.int .u8 97), .lit (.int .u8 98), .lit (.int .u8 116), .lit (.int .u8 110), .lit (.int .u8 118), .lit (.int .u8 102), .lit (.int .u8 114)]
def laid_math_bits_deBruijn32tab {H : Type} : DataW H := .agg [.lit (.int .u8 0), .lit (.int .u8 1), .lit (.int .u8 28), .lit (.int .u8 2), .lit (.int .u8 29), .lit (.int .u8 14), .lit (.int .u8 24), .lit (.int .u8 3), .lit (.int .u8 30), .lit (.int .u8 22), .lit (.int .u8 20), .lit (.int .u8 15), .lit (.int .u8 25), .lit (.int .u8 17), .lit (.int .u8 4), .lit (.int .u8 8), .lit (.int .u8 31), .lit (.int .u8 27), .lit (.int .u8 13), .lit (.int .u8 23), .lit (.int .u8 21), .lit (.int .u8 19), .lit (.int .u8 16), .lit (.int .u8 7), .lit (.int .u8 26), .lit (.int .u8 12), .lit (.int .u8 18), .lit (.int .u8 6), .lit (.int .u8 11), .lit (.int .u8 5), .lit (.int .u8 10), .lit (.int .u8 9)]
def laid_math_bits_deBruijn64tab {H : Type} : DataW H := .agg [.lit (.int .u8 0), .lit (.int .u8 1), .lit (.int .u8 56), .lit (.int .u8 2), .lit (.int .u8 57), .lit (.int .u8 49), .lit (.int .u8 28), .lit (.int .u8 3), .lit (.int .u8 61), .lit (.int .u8 58), .lit (.int .u8 42), .lit (.int .u8 50), .lit (.int .u8 38), .lit (.int .u8 29), .lit (.int .u8 17), .lit (.int .u8 4), .lit (.int .u8 62), .lit (.int .u8 47), .lit (.int .u8 59), .lit (.int .u8 36), .lit (.int .u8 45), .lit (.int .u8 43), .lit (.int .u8 51), .lit (.int .u8 22), .lit (.int .u8 53), .lit (.int .u8 39), .lit (.int .u8 33), .lit (.int .u8 30), .lit (.int .u8 24), .lit (.int .u8 18), .lit (.int .u8 12), .lit (.int .u8 5), .lit (.int .u8 63), .lit (.int .u8 55), .lit (.int .u8 48), .lit (.int .u8 27), .lit (.int .u8 60), .lit (.int .u8 41), .lit (.int .u8 37), .lit (.int .u8 16), .lit (.int .u8 46), .lit (.int .u8 35), .lit (.int .u8 44), .lit (.int .u8 21), .lit (.int .u8 52), .lit (.int .u8 32), .lit (.int .u8 23), .lit (.int .u8 11), .lit (.int .u8 54), .lit (.int .u8 26), .lit (.int .u8 40), .lit (.int .u8 15), .lit (.int .u8 34), .lit (.int .u8 20), .lit (.int .u8 31), .lit (.int .u8 10), .lit (.int .u8 25), .lit (.int .u8 14), .lit (.int .u8 19), .lit (.int .u8 9), .lit (.int .u8 13), .lit (.int .u8 8), .lit (.int .u8 7), .lit (.int .u8 6)]
def laid_internal_strconv_uint64pow10 {H : Type} : DataW H := .agg [.lit (.int .u64 1), .lit (.int .u64 10), .lit (.int .u64 100), .lit (.int .u64 1000), .lit (.int .u64 10000), .lit (.int .u64 100000), .lit (.int .u64 1000000), .lit (.int .u64 10000000), .lit (.int .u64 100000000), .lit (.int .u64 1000000000), .lit (.int .u64 10000000000), .lit (.int .u64 100000000000), .lit (.int .u64 1000000000000), .lit (.int .u64 10000000000000), .lit (.int .u64 100000000000000), .lit (.int .u64 1000000000000000), .lit (.int .u64 10000000000000000), .lit (.int .u64 100000000000000000), .lit (.int .u64 1000000000000000000), .lit (.int .u64 10000000000000000000)]
def laid_paddock_lines_marks {H : Type} : DataW H := .agg [.lit (.string []), .lit (.string [32]), .lit (.string [45]), .lit (.string [43])]

/-- 'paddocklaw01.LinesOwn': WHATEVER THE INPUT: true; the input reads as it did. -/
def linesOwnSpec : ChangeSpec := { name := "linesOwn", fn := fun _ => fun
  | [d] => { results := [.lit (.bool true)], args := [d] }
  | _ => none }
def linesOwnRow : OpenClaim := { program := "ytllhdbdbdblimaadoor", sum := "3d63802f0d33d62c11d561ddb97abf0f428fb6d53ce40086d09179fab710d248", func := "paddock/paddocklaw01.LinesOwn", spec := "linesOwn", inPlace := ["internal/abi.NoEscape", "internal/bytealg.IndexByteString", "internal/bytealg.IndexString"], named := ["paddock/lines.short", "internal/bytealg.MaxLen"], apart := false, laid := [("paddock/lines.short", laid_paddock_lines_short)] }
def LinesOwnSaid : Prop := linesOwnRow.holds Tryd.pinned (OpenSpec.ofChange linesOwnSpec)

/-- ITS FALSE NEIGHBOUR: 'it returns false'. Refute it at one input. -/
def linesOwnWrong : ChangeSpec := { name := "linesOwn", fn := fun _ => fun
  | [d] => { results := [.lit (.bool false)], args := [d] }
  | _ => none }
def LinesOwnWrongFalsely : Prop := linesOwnRow.holds Tryd.pinned (OpenSpec.ofChange linesOwnWrong)

/-- 'paddocklaw01.LinesSplits': WHATEVER THE INPUT: true; the input reads as it did. -/
def linesSplitsSpec : ChangeSpec := { name := "linesSplits", fn := fun _ => fun
  | [d1, d2] => { results := [.lit (.bool true)], args := [d1, d2] }
  | _ => none }
def linesSplitsRow : OpenClaim := { program := "ytllhdbdbdblimaadoor", sum := "3d63802f0d33d62c11d561ddb97abf0f428fb6d53ce40086d09179fab710d248", func := "paddock/paddocklaw01.LinesSplits", spec := "linesSplits", inPlace := ["internal/bytealg.IndexByteString", "internal/bytealg.IndexString", "internal/abi.NoEscape"], named := ["internal/bytealg.MaxLen", "paddock/lines.short"], apart := false, laid := [("paddock/lines.short", laid_paddock_lines_short)] }
def LinesSplitsSaid : Prop := linesSplitsRow.holds Tryd.pinned (OpenSpec.ofChange linesSplitsSpec)

/-- ITS FALSE NEIGHBOUR: 'it returns false'. Refute it at one input. -/
def linesSplitsWrong : ChangeSpec := { name := "linesSplits", fn := fun _ => fun
  | [d1, d2] => { results := [.lit (.bool false)], args := [d1, d2] }
  | _ => none }
def LinesSplitsWrongFalsely : Prop := linesSplitsRow.holds Tryd.pinned (OpenSpec.ofChange linesSplitsWrong)

/-- 'paddocklaw01.LinesBack': WHATEVER THE INPUT: true; the input reads as it did. -/
def linesBackSpec : ChangeSpec := { name := "linesBack", fn := fun _ => fun
  | [d1, d2] => { results := [.lit (.bool true)], args := [d1, d2] }
  | _ => none }
def linesBackRow : OpenClaim := { program := "ytllhdbdbdblimaadoor", sum := "3d63802f0d33d62c11d561ddb97abf0f428fb6d53ce40086d09179fab710d248", func := "paddock/paddocklaw01.LinesBack", spec := "linesBack", inPlace := ["internal/abi.NoEscape", "internal/bytealg.IndexByteString", "internal/bytealg.IndexString"], named := ["paddock/lines.short", "internal/bytealg.MaxLen"], apart := false, laid := [("paddock/lines.short", laid_paddock_lines_short)] }
def LinesBackSaid : Prop := linesBackRow.holds Tryd.pinned (OpenSpec.ofChange linesBackSpec)

/-- ITS FALSE NEIGHBOUR: 'it returns false'. Refute it at one input. -/
def linesBackWrong : ChangeSpec := { name := "linesBack", fn := fun _ => fun
  | [d1, d2] => { results := [.lit (.bool false)], args := [d1, d2] }
  | _ => none }
def LinesBackWrongFalsely : Prop := linesBackRow.holds Tryd.pinned (OpenSpec.ofChange linesBackWrong)

/-- 'paddocklaw01.LinesParts': WHATEVER THE INPUT: true; the input reads as it did. -/
def linesPartsSpec : ChangeSpec := { name := "linesParts", fn := fun _ => fun
  | [d1, d2] => { results := [.lit (.bool true)], args := [d1, d2] }
  | _ => none }
def linesPartsRow : OpenClaim := { program := "ytllhdbdbdblimaadoor", sum := "3d63802f0d33d62c11d561ddb97abf0f428fb6d53ce40086d09179fab710d248", func := "paddock/paddocklaw01.LinesParts", spec := "linesParts", inPlace := ["internal/abi.NoEscape", "internal/bytealg.IndexByteString", "internal/bytealg.IndexString"], named := ["paddock/lines.short", "internal/bytealg.MaxLen"], apart := false, laid := [("paddock/lines.short", laid_paddock_lines_short)] }
def LinesPartsSaid : Prop := linesPartsRow.holds Tryd.pinned (OpenSpec.ofChange linesPartsSpec)

/-- ITS FALSE NEIGHBOUR: 'it returns false'. Refute it at one input. -/
def linesPartsWrong : ChangeSpec := { name := "linesParts", fn := fun _ => fun
  | [d1, d2] => { results := [.lit (.bool false)], args := [d1, d2] }
  | _ => none }
def LinesPartsWrongFalsely : Prop := linesPartsRow.holds Tryd.pinned (OpenSpec.ofChange linesPartsWrong)

/-- 'paddocklaw01.LinesQuotes': WHATEVER THE INPUT: true; the input reads as it did. -/
def linesQuotesSpec : ChangeSpec := { name := "linesQuotes", fn := fun _ => fun
  | [d1, d2] => { results := [.lit (.bool true)], args := [d1, d2] }
  | _ => none }
def linesQuotesRow : OpenClaim := { program := "ytllhdbdbdblimaadoor", sum := "3d63802f0d33d62c11d561ddb97abf0f428fb6d53ce40086d09179fab710d248", func := "paddock/paddocklaw01.LinesQuotes", spec := "linesQuotes", inPlace := ["internal/abi.NoEscape", "internal/bytealg.IndexByteString", "internal/bytealg.IndexString"], named := ["paddock/lines.short", "internal/bytealg.MaxLen"], apart := false, laid := [("paddock/lines.short", laid_paddock_lines_short)] }
def LinesQuotesSaid : Prop := linesQuotesRow.holds Tryd.pinned (OpenSpec.ofChange linesQuotesSpec)

/-- ITS FALSE NEIGHBOUR: 'it returns false'. Refute it at one input. -/
def linesQuotesWrong : ChangeSpec := { name := "linesQuotes", fn := fun _ => fun
  | [d1, d2] => { results := [.lit (.bool false)], args := [d1, d2] }
  | _ => none }
def LinesQuotesWrongFalsely : Prop := linesQuotesRow.holds Tryd.pinned (OpenSpec.ofChange linesQuotesWrong)

/-- 'paddocklaw01.LinesLists': WHATEVER THE INPUT: true; the input reads as it did. -/
def linesListsSpec : ChangeSpec := { name := "linesLists", fn := fun _ => fun
  | [d1, d2, d3] => { results := [.lit (.bool true)], args := [d1, d2, d3] }
  | _ => none }
def linesListsRow : OpenClaim := { program := "ytllhdbdbdblimaadoor", sum := "3d63802f0d33d62c11d561ddb97abf0f428fb6d53ce40086d09179fab710d248", func := "paddock/paddocklaw01.LinesLists", spec := "linesLists", inPlace := ["internal/abi.NoEscape", "internal/bytealg.IndexByteString", "internal/bytealg.IndexString"], named := ["paddock/lines.short", "internal/bytealg.MaxLen"], apart := false, laid := [("paddock/lines.short", laid_paddock_lines_short)] }
def LinesListsSaid : Prop := linesListsRow.holds Tryd.pinned (OpenSpec.ofChange linesListsSpec)

/-- ITS FALSE NEIGHBOUR: 'it returns false'. Refute it at one input. -/
def linesListsWrong : ChangeSpec := { name := "linesLists", fn := fun _ => fun
  | [d1, d2, d3] => { results := [.lit (.bool false)], args := [d1, d2, d3] }
  | _ => none }
def LinesListsWrongFalsely : Prop := linesListsRow.holds Tryd.pinned (OpenSpec.ofChange linesListsWrong)

/-- 'paddocklaw01.LinesTold': WHATEVER THE INPUT: true; the input reads as it did. -/
def linesToldSpec : ChangeSpec := { name := "linesTold", fn := fun _ => fun
  | [d1, d2, d3] => { results := [.lit (.bool true)], args := [d1, d2, d3] }
  | _ => none }
def linesToldRow : OpenClaim := { program := "ytllhdbdbdblimaadoor", sum := "3d63802f0d33d62c11d561ddb97abf0f428fb6d53ce40086d09179fab710d248", func := "paddock/paddocklaw01.LinesTold", spec := "linesTold", inPlace := ["internal/abi.NoEscape", "internal/bytealg.IndexByteString", "internal/bytealg.IndexString"], named := ["paddock/lines.short", "internal/bytealg.MaxLen"], apart := false, laid := [("paddock/lines.short", laid_paddock_lines_short)] }
def LinesToldSaid : Prop := linesToldRow.holds Tryd.pinned (OpenSpec.ofChange linesToldSpec)

/-- ITS FALSE NEIGHBOUR: 'it returns false'. Refute it at one input. -/
def linesToldWrong : ChangeSpec := { name := "linesTold", fn := fun _ => fun
  | [d1, d2, d3] => { results := [.lit (.bool false)], args := [d1, d2, d3] }
  | _ => none }
def LinesToldWrongFalsely : Prop := linesToldRow.holds Tryd.pinned (OpenSpec.ofChange linesToldWrong)

/-- 'paddocklaw01.LinesUnified': WHATEVER THE INPUT: true; the input reads as it did. -/
def linesUnifiedSpec : ChangeSpec := { name := "linesUnified", fn := fun _ => fun
  | [d1, d2, d3, d4] => { results := [.lit (.bool true)], args := [d1, d2, d3, d4] }
  | _ => none }
def linesUnifiedRow : OpenClaim := { program := "ytllhdbdbdblimaadoor", sum := "3d63802f0d33d62c11d561ddb97abf0f428fb6d53ce40086d09179fab710d248", func := "paddock/paddocklaw01.LinesUnified", spec := "linesUnified", inPlace := ["internal/bytealg.IndexByteString", "internal/bytealg.IndexString", "internal/abi.NoEscape"], recurses := true, named := ["paddock/lines.marks", "internal/bytealg.MaxLen", "paddock/lines.short", "internal/strconv.uint64pow10", "math/bits.deBruijn32tab", "math/bits.deBruijn64tab"], apart := false, laid := [("math/bits.deBruijn32tab", laid_math_bits_deBruijn32tab), ("math/bits.deBruijn64tab", laid_math_bits_deBruijn64tab), ("internal/strconv.uint64pow10", laid_internal_strconv_uint64pow10), ("paddock/lines.marks", laid_paddock_lines_marks), ("paddock/lines.short", laid_paddock_lines_short)] }
def LinesUnifiedSaid : Prop := linesUnifiedRow.holds Tryd.pinned (OpenSpec.ofChange linesUnifiedSpec)

/-- ITS FALSE NEIGHBOUR: 'it returns false'. Refute it at one input. -/
def linesUnifiedWrong : ChangeSpec := { name := "linesUnified", fn := fun _ => fun
  | [d1, d2, d3, d4] => { results := [.lit (.bool false)], args := [d1, d2, d3, d4] }
  | _ => none }
def LinesUnifiedWrongFalsely : Prop := linesUnifiedRow.holds Tryd.pinned (OpenSpec.ofChange linesUnifiedWrong)

/-- 'paddocklaw01.LinesDiffs': WHATEVER THE INPUT: true; the input reads as it did. -/
def linesDiffsSpec : ChangeSpec := { name := "linesDiffs", fn := fun _ => fun
  | [d1, d2, d3] => { results := [.lit (.bool true)], args := [d1, d2, d3] }
  | _ => none }
def linesDiffsRow : OpenClaim := { program := "ytllhdbdbdblimaadoor", sum := "3d63802f0d33d62c11d561ddb97abf0f428fb6d53ce40086d09179fab710d248", func := "paddock/paddocklaw01.LinesDiffs", spec := "linesDiffs", inPlace := ["internal/bytealg.IndexByteString", "internal/bytealg.IndexString", "internal/abi.NoEscape"], named := ["internal/bytealg.MaxLen", "paddock/lines.marks", "paddock/lines.short", "internal/strconv.uint64pow10", "math/bits.deBruijn32tab", "math/bits.deBruijn64tab"], apart := false, laid := [("math/bits.deBruijn32tab", laid_math_bits_deBruijn32tab), ("math/bits.deBruijn64tab", laid_math_bits_deBruijn64tab), ("internal/strconv.uint64pow10", laid_internal_strconv_uint64pow10), ("paddock/lines.marks", laid_paddock_lines_marks), ("paddock/lines.short", laid_paddock_lines_short)] }
def LinesDiffsSaid : Prop := linesDiffsRow.holds Tryd.pinned (OpenSpec.ofChange linesDiffsSpec)

/-- ITS FALSE NEIGHBOUR: 'it returns false'. Refute it at one input. -/
def linesDiffsWrong : ChangeSpec := { name := "linesDiffs", fn := fun _ => fun
  | [d1, d2, d3] => { results := [.lit (.bool false)], args := [d1, d2, d3] }
  | _ => none }
def LinesDiffsWrongFalsely : Prop := linesDiffsRow.holds Tryd.pinned (OpenSpec.ofChange linesDiffsWrong)

/-- 'paddocklaw01.LinesChanged': WHATEVER THE INPUT: true; the input reads as it did. -/
def linesChangedSpec : ChangeSpec := { name := "linesChanged", fn := fun _ => fun
  | [d1, d2, d3] => { results := [.lit (.bool true)], args := [d1, d2, d3] }
  | _ => none }
def linesChangedRow : OpenClaim := { program := "ytllhdbdbdblimaadoor", sum := "3d63802f0d33d62c11d561ddb97abf0f428fb6d53ce40086d09179fab710d248", func := "paddock/paddocklaw01.LinesChanged", spec := "linesChanged", inPlace := ["internal/bytealg.IndexByteString", "internal/bytealg.IndexString", "internal/abi.NoEscape"], named := ["paddock/lines.marks", "internal/bytealg.MaxLen", "paddock/lines.short", "internal/strconv.uint64pow10", "math/bits.deBruijn32tab", "math/bits.deBruijn64tab"], apart := false, laid := [("math/bits.deBruijn32tab", laid_math_bits_deBruijn32tab), ("math/bits.deBruijn64tab", laid_math_bits_deBruijn64tab), ("internal/strconv.uint64pow10", laid_internal_strconv_uint64pow10), ("paddock/lines.marks", laid_paddock_lines_marks), ("paddock/lines.short", laid_paddock_lines_short)] }
def LinesChangedSaid : Prop := linesChangedRow.holds Tryd.pinned (OpenSpec.ofChange linesChangedSpec)

/-- ITS FALSE NEIGHBOUR: 'it returns false'. Refute it at one input. -/
def linesChangedWrong : ChangeSpec := { name := "linesChanged", fn := fun _ => fun
  | [d1, d2, d3] => { results := [.lit (.bool false)], args := [d1, d2, d3] }
  | _ => none }
def LinesChangedWrongFalsely : Prop := linesChangedRow.holds Tryd.pinned (OpenSpec.ofChange linesChangedWrong)

/- THE SECOND FORM. 'bulk': how many values and letters a reading holds, each counted each time it is reached (what is shared counts as often as it is met; a slice's spare places count too). A statement '..UptoSaid' is the law's where the arguments, and the package variables that the reading takes, are together of bulk at most 1048576: NARROWER than '..Said'. Prove '..Said' where nothing that the law and all that it calls make is longer than what came in: it says more and counts as full. Else prove '..UptoSaid'. A law counts once. -/
mutual
def uptoBulk {H : Type} : DataW H → Nat
  | .lit (.string bytes) => bytes.length + 1
  | .lit _ => 1
  | .nil => 1
  | .ptr d => uptoBulk d + 1
  | .slice elems spare => uptoBulkAll elems + uptoBulkAll spare + 1
  | .agg parts => uptoBulkAll parts + 1
  | .iface _ d => uptoBulk d + 1
  | .map entries => uptoBulkEntries entries + 1
  | .held _ => 1
def uptoBulkAll {H : Type} : List (DataW H) → Nat
  | [] => 0
  | d :: r => uptoBulk d + uptoBulkAll r
def uptoBulkEntries {H : Type} : List (Lit × DataW H) → Nat
  | [] => 0
  | x :: r => uptoBulkEntry x + uptoBulkEntries r
def uptoBulkEntry {H : Type} : Lit × DataW H → Nat
  | (.string bytes, d) => bytes.length + uptoBulk d + 1
  | (_, d) => uptoBulk d + 1
 end
def uptoSmall : (H : Type) → List (DataW H) → Bool := fun _ ds => decide (uptoBulkAll ds ≤ 1048576)
def OpenSpec.upto (s : _root_.Go.ChangeSpec) : _root_.Go.OpenSpec := { _root_.Go.OpenSpec.ofChange s with cond := some uptoSmall }

/-- 'paddocklaw01.LinesOwn', WHERE WHAT IT READS IS OF BULK AT MOST 1048576: true; the input reads as it did. -/
def linesOwnUptoRow : OpenClaim := { program := "ytllhdbdbdblimaadoor", sum := "3d63802f0d33d62c11d561ddb97abf0f428fb6d53ce40086d09179fab710d248", func := "paddock/paddocklaw01.LinesOwn", spec := "linesOwn", inPlace := ["internal/abi.NoEscape", "internal/bytealg.IndexByteString", "internal/bytealg.IndexString"], named := ["paddock/lines.short", "internal/bytealg.MaxLen"], apart := false, laid := [("paddock/lines.short", laid_paddock_lines_short)], narrowed := true }
def LinesOwnUptoSaid : Prop := linesOwnUptoRow.holds Tryd.pinned (OpenSpec.upto linesOwnSpec)

/-- 'paddocklaw01.LinesSplits', WHERE WHAT IT READS IS OF BULK AT MOST 1048576: true; the input reads as it did. -/
def linesSplitsUptoRow : OpenClaim := { program := "ytllhdbdbdblimaadoor", sum := "3d63802f0d33d62c11d561ddb97abf0f428fb6d53ce40086d09179fab710d248", func := "paddock/paddocklaw01.LinesSplits", spec := "linesSplits", inPlace := ["internal/bytealg.IndexByteString", "internal/bytealg.IndexString", "internal/abi.NoEscape"], named := ["internal/bytealg.MaxLen", "paddock/lines.short"], apart := false, laid := [("paddock/lines.short", laid_paddock_lines_short)], narrowed := true }
def LinesSplitsUptoSaid : Prop := linesSplitsUptoRow.holds Tryd.pinned (OpenSpec.upto linesSplitsSpec)

/-- 'paddocklaw01.LinesBack', WHERE WHAT IT READS IS OF BULK AT MOST 1048576: true; the input reads as it did. -/
def linesBackUptoRow : OpenClaim := { program := "ytllhdbdbdblimaadoor", sum := "3d63802f0d33d62c11d561ddb97abf0f428fb6d53ce40086d09179fab710d248", func := "paddock/paddocklaw01.LinesBack", spec := "linesBack", inPlace := ["internal/abi.NoEscape", "internal/bytealg.IndexByteString", "internal/bytealg.IndexString"], named := ["paddock/lines.short", "internal/bytealg.MaxLen"], apart := false, laid := [("paddock/lines.short", laid_paddock_lines_short)], narrowed := true }
def LinesBackUptoSaid : Prop := linesBackUptoRow.holds Tryd.pinned (OpenSpec.upto linesBackSpec)

/-- 'paddocklaw01.LinesParts', WHERE WHAT IT READS IS OF BULK AT MOST 1048576: true; the input reads as it did. -/
def linesPartsUptoRow : OpenClaim := { program := "ytllhdbdbdblimaadoor", sum := "3d63802f0d33d62c11d561ddb97abf0f428fb6d53ce40086d09179fab710d248", func := "paddock/paddocklaw01.LinesParts", spec := "linesParts", inPlace := ["internal/abi.NoEscape", "internal/bytealg.IndexByteString", "internal/bytealg.IndexString"], named := ["paddock/lines.short", "internal/bytealg.MaxLen"], apart := false, laid := [("paddock/lines.short", laid_paddock_lines_short)], narrowed := true }
def LinesPartsUptoSaid : Prop := linesPartsUptoRow.holds Tryd.pinned (OpenSpec.upto linesPartsSpec)

/-- 'paddocklaw01.LinesQuotes', WHERE WHAT IT READS IS OF BULK AT MOST 1048576: true; the input reads as it did. -/
def linesQuotesUptoRow : OpenClaim := { program := "ytllhdbdbdblimaadoor", sum := "3d63802f0d33d62c11d561ddb97abf0f428fb6d53ce40086d09179fab710d248", func := "paddock/paddocklaw01.LinesQuotes", spec := "linesQuotes", inPlace := ["internal/abi.NoEscape", "internal/bytealg.IndexByteString", "internal/bytealg.IndexString"], named := ["paddock/lines.short", "internal/bytealg.MaxLen"], apart := false, laid := [("paddock/lines.short", laid_paddock_lines_short)], narrowed := true }
def LinesQuotesUptoSaid : Prop := linesQuotesUptoRow.holds Tryd.pinned (OpenSpec.upto linesQuotesSpec)

/-- 'paddocklaw01.LinesLists', WHERE WHAT IT READS IS OF BULK AT MOST 1048576: true; the input reads as it did. -/
def linesListsUptoRow : OpenClaim := { program := "ytllhdbdbdblimaadoor", sum := "3d63802f0d33d62c11d561ddb97abf0f428fb6d53ce40086d09179fab710d248", func := "paddock/paddocklaw01.LinesLists", spec := "linesLists", inPlace := ["internal/abi.NoEscape", "internal/bytealg.IndexByteString", "internal/bytealg.IndexString"], named := ["paddock/lines.short", "internal/bytealg.MaxLen"], apart := false, laid := [("paddock/lines.short", laid_paddock_lines_short)], narrowed := true }
def LinesListsUptoSaid : Prop := linesListsUptoRow.holds Tryd.pinned (OpenSpec.upto linesListsSpec)

/-- 'paddocklaw01.LinesTold', WHERE WHAT IT READS IS OF BULK AT MOST 1048576: true; the input reads as it did. -/
def linesToldUptoRow : OpenClaim := { program := "ytllhdbdbdblimaadoor", sum := "3d63802f0d33d62c11d561ddb97abf0f428fb6d53ce40086d09179fab710d248", func := "paddock/paddocklaw01.LinesTold", spec := "linesTold", inPlace := ["internal/abi.NoEscape", "internal/bytealg.IndexByteString", "internal/bytealg.IndexString"], named := ["paddock/lines.short", "internal/bytealg.MaxLen"], apart := false, laid := [("paddock/lines.short", laid_paddock_lines_short)], narrowed := true }
def LinesToldUptoSaid : Prop := linesToldUptoRow.holds Tryd.pinned (OpenSpec.upto linesToldSpec)

/-- 'paddocklaw01.LinesUnified', WHERE WHAT IT READS IS OF BULK AT MOST 1048576: true; the input reads as it did. -/
def linesUnifiedUptoRow : OpenClaim := { program := "ytllhdbdbdblimaadoor", sum := "3d63802f0d33d62c11d561ddb97abf0f428fb6d53ce40086d09179fab710d248", func := "paddock/paddocklaw01.LinesUnified", spec := "linesUnified", inPlace := ["internal/bytealg.IndexByteString", "internal/bytealg.IndexString", "internal/abi.NoEscape"], recurses := true, named := ["paddock/lines.marks", "internal/bytealg.MaxLen", "paddock/lines.short", "internal/strconv.uint64pow10", "math/bits.deBruijn32tab", "math/bits.deBruijn64tab"], apart := false, laid := [("math/bits.deBruijn32tab", laid_math_bits_deBruijn32tab), ("math/bits.deBruijn64tab", laid_math_bits_deBruijn64tab), ("internal/strconv.uint64pow10", laid_internal_strconv_uint64pow10), ("paddock/lines.marks", laid_paddock_lines_marks), ("paddock/lines.short", laid_paddock_lines_short)], narrowed := true }
def LinesUnifiedUptoSaid : Prop := linesUnifiedUptoRow.holds Tryd.pinned (OpenSpec.upto linesUnifiedSpec)

/-- 'paddocklaw01.LinesDiffs', WHERE WHAT IT READS IS OF BULK AT MOST 1048576: true; the input reads as it did. -/
def linesDiffsUptoRow : OpenClaim := { program := "ytllhdbdbdblimaadoor", sum := "3d63802f0d33d62c11d561ddb97abf0f428fb6d53ce40086d09179fab710d248", func := "paddock/paddocklaw01.LinesDiffs", spec := "linesDiffs", inPlace := ["internal/bytealg.IndexByteString", "internal/bytealg.IndexString", "internal/abi.NoEscape"], named := ["internal/bytealg.MaxLen", "paddock/lines.marks", "paddock/lines.short", "internal/strconv.uint64pow10", "math/bits.deBruijn32tab", "math/bits.deBruijn64tab"], apart := false, laid := [("math/bits.deBruijn32tab", laid_math_bits_deBruijn32tab), ("math/bits.deBruijn64tab", laid_math_bits_deBruijn64tab), ("internal/strconv.uint64pow10", laid_internal_strconv_uint64pow10), ("paddock/lines.marks", laid_paddock_lines_marks), ("paddock/lines.short", laid_paddock_lines_short)], narrowed := true }
def LinesDiffsUptoSaid : Prop := linesDiffsUptoRow.holds Tryd.pinned (OpenSpec.upto linesDiffsSpec)

/-- 'paddocklaw01.LinesChanged', WHERE WHAT IT READS IS OF BULK AT MOST 1048576: true; the input reads as it did. -/
def linesChangedUptoRow : OpenClaim := { program := "ytllhdbdbdblimaadoor", sum := "3d63802f0d33d62c11d561ddb97abf0f428fb6d53ce40086d09179fab710d248", func := "paddock/paddocklaw01.LinesChanged", spec := "linesChanged", inPlace := ["internal/bytealg.IndexByteString", "internal/bytealg.IndexString", "internal/abi.NoEscape"], named := ["paddock/lines.marks", "internal/bytealg.MaxLen", "paddock/lines.short", "internal/strconv.uint64pow10", "math/bits.deBruijn32tab", "math/bits.deBruijn64tab"], apart := false, laid := [("math/bits.deBruijn32tab", laid_math_bits_deBruijn32tab), ("math/bits.deBruijn64tab", laid_math_bits_deBruijn64tab), ("internal/strconv.uint64pow10", laid_internal_strconv_uint64pow10), ("paddock/lines.marks", laid_paddock_lines_marks), ("paddock/lines.short", laid_paddock_lines_short)], narrowed := true }
def LinesChangedUptoSaid : Prop := linesChangedUptoRow.holds Tryd.pinned (OpenSpec.upto linesChangedSpec)

end Rows
end Go.Proofs.YtllhdbdbdblimaaDoor
