/-
  NARROWER THAN 'FOR EVERY INPUT', by the rows' own cells (each row's printed sentence says how): StreamChunks: laid · StreamOwn: laid · StreamFull: laid · StreamOrders: laid · StreamRuns: laid · StreamKeeps: laid · StreamNobody: laid.
  DERIVED. THE GIVEN ROWS OF THIS SEAT. 7 by the template 'for every input the law returns true; each argument reads behind the call as it read before'; 0 by the template 'total and deterministic' (their statements: YtdolfkffgcmcgaaDoorTotals.lean).
  GIVEN WITH THE SEED: the statements are not yours to turn. If you find one false, say at which input.
  Laid BY PROGRAM, IN A SANDBOX (cutbox-rows.mjs): the forced cells as the released guide's own fill.sh prints them over the translation aa9f601a32c42b80… (all of the seat's roots in one cut). By AI agents, Wed Nov 11 2026. No macro, syntax, notation, axiom, sorry.
-/
import Derived.Test.YtdolfkffgcmcgaaDoorChecked
import GoSem.Claim
import GoSem.ClaimJoined
import GoSem.ClaimMapViews
import Derived.JoinedTies
import Derived.KernelRfl
namespace Go.Proofs.YtdolfkffgcmcgaaDoor
/- THE CELL 'sum', in the pinned program and in every row, IS THE sha256 OF THE DUMP (.gsa) THAT YtdolfkffgcmcgaaDoorProg.lean LOADS. Nothing in Lean hashes anything: it is a label: what it is worth is what the hold of that sum in a sandbox is worth. -/
noncomputable def Tryd.pinned : Pinned := { name := "ytdolfkffgcmcgaadoor", sum := "aa9f601a32c42b80e80df4e20727744caf474a47b4ee88134866c16148ec2e2e", checked := Tryd.checked }
namespace Rows
def none {H : Type} : Left H := { results := [], args := [] }

/- WHAT THE LISTED PACKAGE-LEVEL VARIABLES READ AS WHEN THE CALL BEGINS. Each datum BY PROGRAM (the guide's laid-datum.mjs) off the statement by which the dump's own 'gosem.cut.vars' lays the variable. In a bare row this is a premise. The card (YtdolfkffgcmcgaaDoorCards.lean) ties it to the program's text. -/
def laid_errors_errorType {H : Type} : DataW H := .iface "internal/reflectlite.rtype" (.agg [.ptr (.lit (.string [101, 114, 114, 111, 114]))])

/-- 'heddlelaw05.StreamChunks': WHATEVER THE INPUT: true; the input reads as it did. -/
def streamChunksSpec : ChangeSpec := { name := "streamChunks", fn := fun _ => fun
  | [d1, d2] => { results := [.lit (.bool true)], args := [d1, d2] }
  | _ => none }
def streamChunksRow : OpenClaim := { program := "ytdolfkffgcmcgaadoor", sum := "aa9f601a32c42b80e80df4e20727744caf474a47b4ee88134866c16148ec2e2e", func := "heddle/heddlelaw05.StreamChunks", spec := "streamChunks", inPlace := ["internal/reflectlite.TypeOf", "internal/reflectlite.ValueOf", "(internal/reflectlite.Value).Type", "(internal/reflectlite.Value).IsNil", "(internal/reflectlite.Value).Elem", "(internal/reflectlite.Value).Set"], unfollowed := true, recurses := true, named := ["errors.errorType"], apart := false, laid := [("errors.errorType", laid_errors_errorType)] }
def StreamChunksSaid : Prop := streamChunksRow.holds Tryd.pinned (OpenSpec.ofChange streamChunksSpec)

/-- ITS FALSE NEIGHBOUR: 'it returns false'. Refute it at one input. -/
def streamChunksWrong : ChangeSpec := { name := "streamChunks", fn := fun _ => fun
  | [d1, d2] => { results := [.lit (.bool false)], args := [d1, d2] }
  | _ => none }
def StreamChunksWrongFalsely : Prop := streamChunksRow.holds Tryd.pinned (OpenSpec.ofChange streamChunksWrong)

/-- 'heddlelaw05.StreamOwn': WHATEVER THE INPUT: true; the input reads as it did. -/
def streamOwnSpec : ChangeSpec := { name := "streamOwn", fn := fun _ => fun
  | [d] => { results := [.lit (.bool true)], args := [d] }
  | _ => none }
def streamOwnRow : OpenClaim := { program := "ytdolfkffgcmcgaadoor", sum := "aa9f601a32c42b80e80df4e20727744caf474a47b4ee88134866c16148ec2e2e", func := "heddle/heddlelaw05.StreamOwn", spec := "streamOwn", inPlace := ["internal/reflectlite.TypeOf", "internal/reflectlite.ValueOf", "(internal/reflectlite.Value).Type", "(internal/reflectlite.Value).IsNil", "(internal/reflectlite.Value).Elem", "(internal/reflectlite.Value).Set"], unfollowed := true, recurses := true, named := ["errors.errorType"], apart := false, laid := [("errors.errorType", laid_errors_errorType)] }
def StreamOwnSaid : Prop := streamOwnRow.holds Tryd.pinned (OpenSpec.ofChange streamOwnSpec)

/-- ITS FALSE NEIGHBOUR: 'it returns false'. Refute it at one input. -/
def streamOwnWrong : ChangeSpec := { name := "streamOwn", fn := fun _ => fun
  | [d] => { results := [.lit (.bool false)], args := [d] }
  | _ => none }
def StreamOwnWrongFalsely : Prop := streamOwnRow.holds Tryd.pinned (OpenSpec.ofChange streamOwnWrong)

/-- 'heddlelaw05.StreamFull': WHATEVER THE INPUT: true; the input reads as it did. -/
def streamFullSpec : ChangeSpec := { name := "streamFull", fn := fun _ => fun
  | [d] => { results := [.lit (.bool true)], args := [d] }
  | _ => none }
def streamFullRow : OpenClaim := { program := "ytdolfkffgcmcgaadoor", sum := "aa9f601a32c42b80e80df4e20727744caf474a47b4ee88134866c16148ec2e2e", func := "heddle/heddlelaw05.StreamFull", spec := "streamFull", inPlace := ["internal/reflectlite.TypeOf", "internal/reflectlite.ValueOf", "(internal/reflectlite.Value).Type", "(internal/reflectlite.Value).IsNil", "(internal/reflectlite.Value).Elem", "(internal/reflectlite.Value).Set"], unfollowed := true, recurses := true, named := ["errors.errorType"], apart := false, laid := [("errors.errorType", laid_errors_errorType)] }
def StreamFullSaid : Prop := streamFullRow.holds Tryd.pinned (OpenSpec.ofChange streamFullSpec)

/-- ITS FALSE NEIGHBOUR: 'it returns false'. Refute it at one input. -/
def streamFullWrong : ChangeSpec := { name := "streamFull", fn := fun _ => fun
  | [d] => { results := [.lit (.bool false)], args := [d] }
  | _ => none }
def StreamFullWrongFalsely : Prop := streamFullRow.holds Tryd.pinned (OpenSpec.ofChange streamFullWrong)

/-- 'heddlelaw05.StreamOrders': WHATEVER THE INPUT: true; the input reads as it did. -/
def streamOrdersSpec : ChangeSpec := { name := "streamOrders", fn := fun _ => fun
  | [d] => { results := [.lit (.bool true)], args := [d] }
  | _ => none }
def streamOrdersRow : OpenClaim := { program := "ytdolfkffgcmcgaadoor", sum := "aa9f601a32c42b80e80df4e20727744caf474a47b4ee88134866c16148ec2e2e", func := "heddle/heddlelaw05.StreamOrders", spec := "streamOrders", inPlace := ["internal/reflectlite.TypeOf", "internal/reflectlite.ValueOf", "(internal/reflectlite.Value).Type", "(internal/reflectlite.Value).IsNil", "(internal/reflectlite.Value).Elem", "(internal/reflectlite.Value).Set"], unfollowed := true, recurses := true, named := ["errors.errorType"], apart := false, laid := [("errors.errorType", laid_errors_errorType)] }
def StreamOrdersSaid : Prop := streamOrdersRow.holds Tryd.pinned (OpenSpec.ofChange streamOrdersSpec)

/-- ITS FALSE NEIGHBOUR: 'it returns false'. Refute it at one input. -/
def streamOrdersWrong : ChangeSpec := { name := "streamOrders", fn := fun _ => fun
  | [d] => { results := [.lit (.bool false)], args := [d] }
  | _ => none }
def StreamOrdersWrongFalsely : Prop := streamOrdersRow.holds Tryd.pinned (OpenSpec.ofChange streamOrdersWrong)

/-- 'heddlelaw05.StreamRuns': WHATEVER THE INPUT: true; the input reads as it did. -/
def streamRunsSpec : ChangeSpec := { name := "streamRuns", fn := fun _ => fun
  | [d] => { results := [.lit (.bool true)], args := [d] }
  | _ => none }
def streamRunsRow : OpenClaim := { program := "ytdolfkffgcmcgaadoor", sum := "aa9f601a32c42b80e80df4e20727744caf474a47b4ee88134866c16148ec2e2e", func := "heddle/heddlelaw05.StreamRuns", spec := "streamRuns", inPlace := ["internal/reflectlite.TypeOf", "internal/reflectlite.ValueOf", "(internal/reflectlite.Value).Type", "(internal/reflectlite.Value).IsNil", "(internal/reflectlite.Value).Elem", "(internal/reflectlite.Value).Set"], unfollowed := true, recurses := true, named := ["errors.errorType"], apart := false, laid := [("errors.errorType", laid_errors_errorType)] }
def StreamRunsSaid : Prop := streamRunsRow.holds Tryd.pinned (OpenSpec.ofChange streamRunsSpec)

/-- ITS FALSE NEIGHBOUR: 'it returns false'. Refute it at one input. -/
def streamRunsWrong : ChangeSpec := { name := "streamRuns", fn := fun _ => fun
  | [d] => { results := [.lit (.bool false)], args := [d] }
  | _ => none }
def StreamRunsWrongFalsely : Prop := streamRunsRow.holds Tryd.pinned (OpenSpec.ofChange streamRunsWrong)

/-- 'heddlelaw05.StreamKeeps': WHATEVER THE INPUT: true; the input reads as it did. -/
def streamKeepsSpec : ChangeSpec := { name := "streamKeeps", fn := fun _ => fun
  | [d] => { results := [.lit (.bool true)], args := [d] }
  | _ => none }
def streamKeepsRow : OpenClaim := { program := "ytdolfkffgcmcgaadoor", sum := "aa9f601a32c42b80e80df4e20727744caf474a47b4ee88134866c16148ec2e2e", func := "heddle/heddlelaw05.StreamKeeps", spec := "streamKeeps", inPlace := ["internal/reflectlite.ValueOf", "(internal/reflectlite.Value).Type", "(internal/reflectlite.Value).IsNil", "internal/reflectlite.TypeOf", "(internal/reflectlite.Value).Elem", "(internal/reflectlite.Value).Set"], unfollowed := true, recurses := true, named := ["errors.errorType"], apart := false, laid := [("errors.errorType", laid_errors_errorType)] }
def StreamKeepsSaid : Prop := streamKeepsRow.holds Tryd.pinned (OpenSpec.ofChange streamKeepsSpec)

/-- ITS FALSE NEIGHBOUR: 'it returns false'. Refute it at one input. -/
def streamKeepsWrong : ChangeSpec := { name := "streamKeeps", fn := fun _ => fun
  | [d] => { results := [.lit (.bool false)], args := [d] }
  | _ => none }
def StreamKeepsWrongFalsely : Prop := streamKeepsRow.holds Tryd.pinned (OpenSpec.ofChange streamKeepsWrong)

/-- 'heddlelaw05.StreamNobody': WHATEVER THE INPUT: true; the input reads as it did. -/
def streamNobodySpec : ChangeSpec := { name := "streamNobody", fn := fun _ => fun
  | [d] => { results := [.lit (.bool true)], args := [d] }
  | _ => none }
def streamNobodyRow : OpenClaim := { program := "ytdolfkffgcmcgaadoor", sum := "aa9f601a32c42b80e80df4e20727744caf474a47b4ee88134866c16148ec2e2e", func := "heddle/heddlelaw05.StreamNobody", spec := "streamNobody", inPlace := ["internal/reflectlite.TypeOf", "internal/reflectlite.ValueOf", "(internal/reflectlite.Value).Type", "(internal/reflectlite.Value).IsNil", "(internal/reflectlite.Value).Elem", "(internal/reflectlite.Value).Set"], unfollowed := true, recurses := true, named := ["errors.errorType"], apart := false, laid := [("errors.errorType", laid_errors_errorType)] }
def StreamNobodySaid : Prop := streamNobodyRow.holds Tryd.pinned (OpenSpec.ofChange streamNobodySpec)

/-- ITS FALSE NEIGHBOUR: 'it returns false'. Refute it at one input. -/
def streamNobodyWrong : ChangeSpec := { name := "streamNobody", fn := fun _ => fun
  | [d] => { results := [.lit (.bool false)], args := [d] }
  | _ => none }
def StreamNobodyWrongFalsely : Prop := streamNobodyRow.holds Tryd.pinned (OpenSpec.ofChange streamNobodyWrong)

/- THE SECOND FORM. 'bulk': how many values and letters a reading holds, each counted each time it is reached (what is shared counts as often as it is met; a slice's spare places count too). A statement '..UptoSaid' is the law's where the arguments, and the package variables that the reading takes, are together of bulk at most 1048576: NARROWER than '..Said'. Prove '..Said' where nothing that the law and all that it calls make is longer than what came in: it says more and counts as full. Else prove '..UptoSaid'. A law counts once. -/
mutual
def uptoBulk {H : Type} : DataW H → Nat
  | .lit (.string bytes) => bytes.length + 1
  | .lit _ => 1
  | .nil => 1
  | .ptr d => uptoBulk d + 1
  | .slice elems spare => uptoBulkAll elems + uptoBulkAll spare + 1
  | .agg parts => uptoBulkAll parts + 1
  | .iface _ d => uptoBulk d + 1
  | .map entries => uptoBulkEntries entries + 1
  | .held _ => 1
def uptoBulkAll {H : Type} : List (DataW H) → Nat
  | [] => 0
  | d :: r => uptoBulk d + uptoBulkAll r
def uptoBulkEntries {H : Type} : List (Lit × DataW H) → Nat
  | [] => 0
  | x :: r => uptoBulkEntry x + uptoBulkEntries r
def uptoBulkEntry {H : Type} : Lit × DataW H → Nat
  | (.string bytes, d) => bytes.length + uptoBulk d + 1
  | (_, d) => uptoBulk d + 1
 end
def uptoSmall : (H : Type) → List (DataW H) → Bool := fun _ ds => decide (uptoBulkAll ds ≤ 1048576)
def OpenSpec.upto (s : _root_.Go.ChangeSpec) : _root_.Go.OpenSpec := { _root_.Go.OpenSpec.ofChange s with cond := some uptoSmall }

/-- 'heddlelaw05.StreamChunks', WHERE WHAT IT READS IS OF BULK AT MOST 1048576: true; the input reads as it did. -/
def streamChunksUptoRow : OpenClaim := { program := "ytdolfkffgcmcgaadoor", sum := "aa9f601a32c42b80e80df4e20727744caf474a47b4ee88134866c16148ec2e2e", func := "heddle/heddlelaw05.StreamChunks", spec := "streamChunks", inPlace := ["internal/reflectlite.TypeOf", "internal/reflectlite.ValueOf", "(internal/reflectlite.Value).Type", "(internal/reflectlite.Value).IsNil", "(internal/reflectlite.Value).Elem", "(internal/reflectlite.Value).Set"], unfollowed := true, recurses := true, named := ["errors.errorType"], apart := false, laid := [("errors.errorType", laid_errors_errorType)], narrowed := true }
def StreamChunksUptoSaid : Prop := streamChunksUptoRow.holds Tryd.pinned (OpenSpec.upto streamChunksSpec)

/-- 'heddlelaw05.StreamOwn', WHERE WHAT IT READS IS OF BULK AT MOST 1048576: true; the input reads as it did. -/
def streamOwnUptoRow : OpenClaim := { program := "ytdolfkffgcmcgaadoor", sum := "aa9f601a32c42b80e80df4e20727744caf474a47b4ee88134866c16148ec2e2e", func := "heddle/heddlelaw05.StreamOwn", spec := "streamOwn", inPlace := ["internal/reflectlite.TypeOf", "internal/reflectlite.ValueOf", "(internal/reflectlite.Value).Type", "(internal/reflectlite.Value).IsNil", "(internal/reflectlite.Value).Elem", "(internal/reflectlite.Value).Set"], unfollowed := true, recurses := true, named := ["errors.errorType"], apart := false, laid := [("errors.errorType", laid_errors_errorType)], narrowed := true }
def StreamOwnUptoSaid : Prop := streamOwnUptoRow.holds Tryd.pinned (OpenSpec.upto streamOwnSpec)

/-- 'heddlelaw05.StreamFull', WHERE WHAT IT READS IS OF BULK AT MOST 1048576: true; the input reads as it did. -/
def streamFullUptoRow : OpenClaim := { program := "ytdolfkffgcmcgaadoor", sum := "aa9f601a32c42b80e80df4e20727744caf474a47b4ee88134866c16148ec2e2e", func := "heddle/heddlelaw05.StreamFull", spec := "streamFull", inPlace := ["internal/reflectlite.TypeOf", "internal/reflectlite.ValueOf", "(internal/reflectlite.Value).Type", "(internal/reflectlite.Value).IsNil", "(internal/reflectlite.Value).Elem", "(internal/reflectlite.Value).Set"], unfollowed := true, recurses := true, named := ["errors.errorType"], apart := false, laid := [("errors.errorType", laid_errors_errorType)], narrowed := true }
def StreamFullUptoSaid : Prop := streamFullUptoRow.holds Tryd.pinned (OpenSpec.upto streamFullSpec)

/-- 'heddlelaw05.StreamOrders', WHERE WHAT IT READS IS OF BULK AT MOST 1048576: true; the input reads as it did. -/
def streamOrdersUptoRow : OpenClaim := { program := "ytdolfkffgcmcgaadoor", sum := "aa9f601a32c42b80e80df4e20727744caf474a47b4ee88134866c16148ec2e2e", func := "heddle/heddlelaw05.StreamOrders", spec := "streamOrders", inPlace := ["internal/reflectlite.TypeOf", "internal/reflectlite.ValueOf", "(internal/reflectlite.Value).Type", "(internal/reflectlite.Value).IsNil", "(internal/reflectlite.Value).Elem", "(internal/reflectlite.Value).Set"], unfollowed := true, recurses := true, named := ["errors.errorType"], apart := false, laid := [("errors.errorType", laid_errors_errorType)], narrowed := true }
def StreamOrdersUptoSaid : Prop := streamOrdersUptoRow.holds Tryd.pinned (OpenSpec.upto streamOrdersSpec)

/-- 'heddlelaw05.StreamRuns', WHERE WHAT IT READS IS OF BULK AT MOST 1048576: true; the input reads as it did. -/
def streamRunsUptoRow : OpenClaim := { program := "ytdolfkffgcmcgaadoor", sum := "aa9f601a32c42b80e80df4e20727744caf474a47b4ee88134866c16148ec2e2e", func := "heddle/heddlelaw05.StreamRuns", spec := "streamRuns", inPlace := ["internal/reflectlite.TypeOf", "internal/reflectlite.ValueOf", "(internal/reflectlite.Value).Type", "(internal/reflectlite.Value).IsNil", "(internal/reflectlite.Value).Elem", "(internal/reflectlite.Value).Set"], unfollowed := true, recurses := true, named := ["errors.errorType"], apart := false, laid := [("errors.errorType", laid_errors_errorType)], narrowed := true }
def StreamRunsUptoSaid : Prop := streamRunsUptoRow.holds Tryd.pinned (OpenSpec.upto streamRunsSpec)

/-- 'heddlelaw05.StreamKeeps', WHERE WHAT IT READS IS OF BULK AT MOST 1048576: true; the input reads as it did. -/
def streamKeepsUptoRow : OpenClaim := { program := "ytdolfkffgcmcgaadoor", sum := "aa9f601a32c42b80e80df4e20727744caf474a47b4ee88134866c16148ec2e2e", func := "heddle/heddlelaw05.StreamKeeps", spec := "streamKeeps", inPlace := ["internal/reflectlite.ValueOf", "(internal/reflectlite.Value).Type", "(internal/reflectlite.Value).IsNil", "internal/reflectlite.TypeOf", "(internal/reflectlite.Value).Elem", "(internal/reflectlite.Value).Set"], unfollowed := true, recurses := true, named := ["errors.errorType"], apart := false, laid := [("errors.errorType", laid_errors_errorType)], narrowed := true }
def StreamKeepsUptoSaid : Prop := streamKeepsUptoRow.holds Tryd.pinned (OpenSpec.upto streamKeepsSpec)

/-- 'heddlelaw05.StreamNobody', WHERE WHAT IT READS IS OF BULK AT MOST 1048576: true; the input reads as it did. -/
def streamNobodyUptoRow : OpenClaim := { program := "ytdolfkffgcmcgaadoor", sum := "aa9f601a32c42b80e80df4e20727744caf474a47b4ee88134866c16148ec2e2e", func := "heddle/heddlelaw05.StreamNobody", spec := "streamNobody", inPlace := ["internal/reflectlite.TypeOf", "internal/reflectlite.ValueOf", "(internal/reflectlite.Value).Type", "(internal/reflectlite.Value).IsNil", "(internal/reflectlite.Value).Elem", "(internal/reflectlite.Value).Set"], unfollowed := true, recurses := true, named := ["errors.errorType"], apart := false, laid := [("errors.errorType", laid_errors_errorType)], narrowed := true }
def StreamNobodyUptoSaid : Prop := streamNobodyUptoRow.holds Tryd.pinned (OpenSpec.upto streamNobodySpec)

end Rows
end Go.Proofs.YtdolfkffgcmcgaaDoor
