/-
  No cell of these rows narrows 'for every input' (looked for: loops, veiled, ifaces, maps, wideKeys, modest, calm, conditions, laid).
  DERIVED. THE GIVEN ROWS OF THIS SEAT. 14 by the template 'for every input the law returns true; each argument reads behind the call as it read before'; 0 by the template 'total and deterministic' (their statements: YtdbeeclkknhjaaaTotals.lean).
  GIVEN WITH THE SEED: the statements are not yours to turn. If you find one false, say at which input.
  Laid BY PROGRAM, IN A SANDBOX (cutbox-rows.mjs): the forced cells as the released guide's own fill.sh prints them over the translation 96b9fa48d093f248… (all of the seat's roots in one cut). By AI agents, Wed Nov 11 2026. No macro, syntax, notation, axiom, sorry.
-/
import Derived.Test.YtdbeeclkknhjaaaChecked
import GoSem.Claim
import GoSem.ClaimJoined
import GoSem.ClaimMapViews
import Derived.JoinedTies
import Derived.KernelRfl
namespace Go.Proofs.Ytdbeeclkknhjaaa
/- THE CELL 'sum', in the pinned program and in every row, IS THE sha256 OF THE DUMP (.gsa) THAT YtdbeeclkknhjaaaProg.lean LOADS. Nothing in Lean hashes anything: it is a label: what it is worth is what the hold of that sum in a sandbox is worth. -/
noncomputable def Try.pinned : Pinned := { name := "ytdbeeclkknhjaaa", sum := "96b9fa48d093f24833866f8ade5ca50d16108e9a7a963f5d13419ebc34079df2", checked := Try.checked }
namespace Rows
def none {H : Type} : Left H := { results := [], args := [] }

/-- 'plumblaw1.BitsParts': WHATEVER THE INPUT: true; the input reads as it did. -/
def bitsPartsSpec : ChangeSpec := { name := "bitsParts", fn := fun _ => fun
  | [d] => { results := [.lit (.bool true)], args := [d] }
  | _ => none }
def bitsPartsRow : OpenClaim := { program := "ytdbeeclkknhjaaa", sum := "96b9fa48d093f24833866f8ade5ca50d16108e9a7a963f5d13419ebc34079df2", func := "plumb/plumblaw1.BitsParts", spec := "bitsParts", inPlace := ["math.Float64frombits", "math.Float64bits", "math.Float32frombits"], apart := false }
def BitsPartsSaid : Prop := bitsPartsRow.holds Try.pinned (OpenSpec.ofChange bitsPartsSpec)

/-- ITS FALSE NEIGHBOUR: 'it returns false'. Refute it at one input. -/
def bitsPartsWrong : ChangeSpec := { name := "bitsParts", fn := fun _ => fun
  | [d] => { results := [.lit (.bool false)], args := [d] }
  | _ => none }
def BitsPartsWrongFalsely : Prop := bitsPartsRow.holds Try.pinned (OpenSpec.ofChange bitsPartsWrong)

/-- 'plumblaw1.BitsFloats': WHATEVER THE INPUT: true; the input reads as it did. -/
def bitsFloatsSpec : ChangeSpec := { name := "bitsFloats", fn := fun _ => fun
  | [d] => { results := [.lit (.bool true)], args := [d] }
  | _ => none }
def bitsFloatsRow : OpenClaim := { program := "ytdbeeclkknhjaaa", sum := "96b9fa48d093f24833866f8ade5ca50d16108e9a7a963f5d13419ebc34079df2", func := "plumb/plumblaw1.BitsFloats", spec := "bitsFloats", inPlace := ["math.Float64frombits", "math.Float64bits", "math.Float32frombits", "math.Float32bits"], apart := false }
def BitsFloatsSaid : Prop := bitsFloatsRow.holds Try.pinned (OpenSpec.ofChange bitsFloatsSpec)

/-- ITS FALSE NEIGHBOUR: 'it returns false'. Refute it at one input. -/
def bitsFloatsWrong : ChangeSpec := { name := "bitsFloats", fn := fun _ => fun
  | [d] => { results := [.lit (.bool false)], args := [d] }
  | _ => none }
def BitsFloatsWrongFalsely : Prop := bitsFloatsRow.holds Try.pinned (OpenSpec.ofChange bitsFloatsWrong)

/-- 'plumblaw1.BitsParts32': WHATEVER THE INPUT: true; the input reads as it did. -/
def bitsParts32Spec : ChangeSpec := { name := "bitsParts32", fn := fun _ => fun
  | [d] => { results := [.lit (.bool true)], args := [d] }
  | _ => none }
def bitsParts32Row : OpenClaim := { program := "ytdbeeclkknhjaaa", sum := "96b9fa48d093f24833866f8ade5ca50d16108e9a7a963f5d13419ebc34079df2", func := "plumb/plumblaw1.BitsParts32", spec := "bitsParts32", inPlace := ["math.Float64frombits", "math.Float64bits", "math.Float32frombits"], apart := false }
def BitsParts32Said : Prop := bitsParts32Row.holds Try.pinned (OpenSpec.ofChange bitsParts32Spec)

/-- ITS FALSE NEIGHBOUR: 'it returns false'. Refute it at one input. -/
def bitsParts32Wrong : ChangeSpec := { name := "bitsParts32", fn := fun _ => fun
  | [d] => { results := [.lit (.bool false)], args := [d] }
  | _ => none }
def BitsParts32WrongFalsely : Prop := bitsParts32Row.holds Try.pinned (OpenSpec.ofChange bitsParts32Wrong)

/-- 'plumblaw1.BitsOrder': WHATEVER THE INPUT: true; the input reads as it did. -/
def bitsOrderSpec : ChangeSpec := { name := "bitsOrder", fn := fun _ => fun
  | [d1, d2] => { results := [.lit (.bool true)], args := [d1, d2] }
  | _ => none }
def bitsOrderRow : OpenClaim := { program := "ytdbeeclkknhjaaa", sum := "96b9fa48d093f24833866f8ade5ca50d16108e9a7a963f5d13419ebc34079df2", func := "plumb/plumblaw1.BitsOrder", spec := "bitsOrder", inPlace := ["math.Float64frombits", "math.Float64bits", "math.Float32frombits"], apart := false }
def BitsOrderSaid : Prop := bitsOrderRow.holds Try.pinned (OpenSpec.ofChange bitsOrderSpec)

/-- ITS FALSE NEIGHBOUR: 'it returns false'. Refute it at one input. -/
def bitsOrderWrong : ChangeSpec := { name := "bitsOrder", fn := fun _ => fun
  | [d1, d2] => { results := [.lit (.bool false)], args := [d1, d2] }
  | _ => none }
def BitsOrderWrongFalsely : Prop := bitsOrderRow.holds Try.pinned (OpenSpec.ofChange bitsOrderWrong)

/-- 'plumblaw1.BitsChain': WHATEVER THE INPUT: true; the input reads as it did. -/
def bitsChainSpec : ChangeSpec := { name := "bitsChain", fn := fun _ => fun
  | [d1, d2, d3] => { results := [.lit (.bool true)], args := [d1, d2, d3] }
  | _ => none }
def bitsChainRow : OpenClaim := { program := "ytdbeeclkknhjaaa", sum := "96b9fa48d093f24833866f8ade5ca50d16108e9a7a963f5d13419ebc34079df2", func := "plumb/plumblaw1.BitsChain", spec := "bitsChain", inPlace := ["math.Float64frombits", "math.Float64bits", "math.Float32frombits"], apart := false }
def BitsChainSaid : Prop := bitsChainRow.holds Try.pinned (OpenSpec.ofChange bitsChainSpec)

/-- ITS FALSE NEIGHBOUR: 'it returns false'. Refute it at one input. -/
def bitsChainWrong : ChangeSpec := { name := "bitsChain", fn := fun _ => fun
  | [d1, d2, d3] => { results := [.lit (.bool false)], args := [d1, d2, d3] }
  | _ => none }
def BitsChainWrongFalsely : Prop := bitsChainRow.holds Try.pinned (OpenSpec.ofChange bitsChainWrong)

/-- 'plumblaw1.BitsTurns32': WHATEVER THE INPUT: true; the input reads as it did. -/
def bitsTurns32Spec : ChangeSpec := { name := "bitsTurns32", fn := fun _ => fun
  | [d] => { results := [.lit (.bool true)], args := [d] }
  | _ => none }
def bitsTurns32Row : OpenClaim := { program := "ytdbeeclkknhjaaa", sum := "96b9fa48d093f24833866f8ade5ca50d16108e9a7a963f5d13419ebc34079df2", func := "plumb/plumblaw1.BitsTurns32", spec := "bitsTurns32", inPlace := ["math.Float64frombits", "math.Float64bits", "math.Float32frombits", "math.Float32bits"], apart := false }
def BitsTurns32Said : Prop := bitsTurns32Row.holds Try.pinned (OpenSpec.ofChange bitsTurns32Spec)

/-- ITS FALSE NEIGHBOUR: 'it returns false'. Refute it at one input. -/
def bitsTurns32Wrong : ChangeSpec := { name := "bitsTurns32", fn := fun _ => fun
  | [d] => { results := [.lit (.bool false)], args := [d] }
  | _ => none }
def BitsTurns32WrongFalsely : Prop := bitsTurns32Row.holds Try.pinned (OpenSpec.ofChange bitsTurns32Wrong)

/-- 'plumblaw1.BitsNext': WHATEVER THE INPUT: true; the input reads as it did. -/
def bitsNextSpec : ChangeSpec := { name := "bitsNext", fn := fun _ => fun
  | [d1, d2] => { results := [.lit (.bool true)], args := [d1, d2] }
  | _ => none }
def bitsNextRow : OpenClaim := { program := "ytdbeeclkknhjaaa", sum := "96b9fa48d093f24833866f8ade5ca50d16108e9a7a963f5d13419ebc34079df2", func := "plumb/plumblaw1.BitsNext", spec := "bitsNext", inPlace := ["math.Float64frombits", "math.Float64bits", "math.Float32frombits"], apart := false }
def BitsNextSaid : Prop := bitsNextRow.holds Try.pinned (OpenSpec.ofChange bitsNextSpec)

/-- ITS FALSE NEIGHBOUR: 'it returns false'. Refute it at one input. -/
def bitsNextWrong : ChangeSpec := { name := "bitsNext", fn := fun _ => fun
  | [d1, d2] => { results := [.lit (.bool false)], args := [d1, d2] }
  | _ => none }
def BitsNextWrongFalsely : Prop := bitsNextRow.holds Try.pinned (OpenSpec.ofChange bitsNextWrong)

/-- 'plumblaw1.BitsTurns': WHATEVER THE INPUT: true; the input reads as it did. -/
def bitsTurnsSpec : ChangeSpec := { name := "bitsTurns", fn := fun _ => fun
  | [d] => { results := [.lit (.bool true)], args := [d] }
  | _ => none }
def bitsTurnsRow : OpenClaim := { program := "ytdbeeclkknhjaaa", sum := "96b9fa48d093f24833866f8ade5ca50d16108e9a7a963f5d13419ebc34079df2", func := "plumb/plumblaw1.BitsTurns", spec := "bitsTurns", inPlace := ["math.Float64frombits", "math.Float64bits", "math.Float32frombits"], apart := false }
def BitsTurnsSaid : Prop := bitsTurnsRow.holds Try.pinned (OpenSpec.ofChange bitsTurnsSpec)

/-- ITS FALSE NEIGHBOUR: 'it returns false'. Refute it at one input. -/
def bitsTurnsWrong : ChangeSpec := { name := "bitsTurns", fn := fun _ => fun
  | [d] => { results := [.lit (.bool false)], args := [d] }
  | _ => none }
def BitsTurnsWrongFalsely : Prop := bitsTurnsRow.holds Try.pinned (OpenSpec.ofChange bitsTurnsWrong)

/-- 'plumblaw1.BitsUlp': WHATEVER THE INPUT: true; the input reads as it did. -/
def bitsUlpSpec : ChangeSpec := { name := "bitsUlp", fn := fun _ => fun
  | [d] => { results := [.lit (.bool true)], args := [d] }
  | _ => none }
def bitsUlpRow : OpenClaim := { program := "ytdbeeclkknhjaaa", sum := "96b9fa48d093f24833866f8ade5ca50d16108e9a7a963f5d13419ebc34079df2", func := "plumb/plumblaw1.BitsUlp", spec := "bitsUlp", inPlace := ["math.Float64frombits", "math.Float64bits", "math.Float32frombits"], apart := false }
def BitsUlpSaid : Prop := bitsUlpRow.holds Try.pinned (OpenSpec.ofChange bitsUlpSpec)

/-- ITS FALSE NEIGHBOUR: 'it returns false'. Refute it at one input. -/
def bitsUlpWrong : ChangeSpec := { name := "bitsUlp", fn := fun _ => fun
  | [d] => { results := [.lit (.bool false)], args := [d] }
  | _ => none }
def BitsUlpWrongFalsely : Prop := bitsUlpRow.holds Try.pinned (OpenSpec.ofChange bitsUlpWrong)

/-- 'plumblaw1.BitsJoin': WHATEVER THE INPUT: true; the input reads as it did. -/
def bitsJoinSpec : ChangeSpec := { name := "bitsJoin", fn := fun _ => fun
  | [d1, d2, d3] => { results := [.lit (.bool true)], args := [d1, d2, d3] }
  | _ => none }
def bitsJoinRow : OpenClaim := { program := "ytdbeeclkknhjaaa", sum := "96b9fa48d093f24833866f8ade5ca50d16108e9a7a963f5d13419ebc34079df2", func := "plumb/plumblaw1.BitsJoin", spec := "bitsJoin", inPlace := ["math.Float64frombits", "math.Float64bits", "math.Float32frombits", "math.Float32bits"], apart := false }
def BitsJoinSaid : Prop := bitsJoinRow.holds Try.pinned (OpenSpec.ofChange bitsJoinSpec)

/-- ITS FALSE NEIGHBOUR: 'it returns false'. Refute it at one input. -/
def bitsJoinWrong : ChangeSpec := { name := "bitsJoin", fn := fun _ => fun
  | [d1, d2, d3] => { results := [.lit (.bool false)], args := [d1, d2, d3] }
  | _ => none }
def BitsJoinWrongFalsely : Prop := bitsJoinRow.holds Try.pinned (OpenSpec.ofChange bitsJoinWrong)

/-- 'plumbtop.TopNames': WHATEVER THE INPUT: true; the input reads as it did. -/
def topNamesSpec : ChangeSpec := { name := "topNames", fn := fun _ => fun
  | [] => { results := [.lit (.bool true)], args := [] }
  | _ => none }
def topNamesRow : OpenClaim := { program := "ytdbeeclkknhjaaa", sum := "96b9fa48d093f24833866f8ade5ca50d16108e9a7a963f5d13419ebc34079df2", func := "plumb/plumbtop.TopNames", spec := "topNames", apart := false }
def TopNamesSaid : Prop := topNamesRow.holds Try.pinned (OpenSpec.ofChange topNamesSpec)

/-- ITS FALSE NEIGHBOUR: 'it returns false'. Refute it at one input. -/
def topNamesWrong : ChangeSpec := { name := "topNames", fn := fun _ => fun
  | [] => { results := [.lit (.bool false)], args := [] }
  | _ => none }
def TopNamesWrongFalsely : Prop := topNamesRow.holds Try.pinned (OpenSpec.ofChange topNamesWrong)

/-- 'plumblaw1.BitsBack': WHATEVER THE INPUT: true; the input reads as it did. -/
def bitsBackSpec : ChangeSpec := { name := "bitsBack", fn := fun _ => fun
  | [d] => { results := [.lit (.bool true)], args := [d] }
  | _ => none }
def bitsBackRow : OpenClaim := { program := "ytdbeeclkknhjaaa", sum := "96b9fa48d093f24833866f8ade5ca50d16108e9a7a963f5d13419ebc34079df2", func := "plumb/plumblaw1.BitsBack", spec := "bitsBack", inPlace := ["math.Float64bits", "math.Float64frombits", "math.Float32frombits", "math.Float32bits"], apart := false }
def BitsBackSaid : Prop := bitsBackRow.holds Try.pinned (OpenSpec.ofChange bitsBackSpec)

/-- ITS FALSE NEIGHBOUR: 'it returns false'. Refute it at one input. -/
def bitsBackWrong : ChangeSpec := { name := "bitsBack", fn := fun _ => fun
  | [d] => { results := [.lit (.bool false)], args := [d] }
  | _ => none }
def BitsBackWrongFalsely : Prop := bitsBackRow.holds Try.pinned (OpenSpec.ofChange bitsBackWrong)

/-- 'plumblaw1.BitsWide': WHATEVER THE INPUT: true; the input reads as it did. -/
def bitsWideSpec : ChangeSpec := { name := "bitsWide", fn := fun _ => fun
  | [d] => { results := [.lit (.bool true)], args := [d] }
  | _ => none }
def bitsWideRow : OpenClaim := { program := "ytdbeeclkknhjaaa", sum := "96b9fa48d093f24833866f8ade5ca50d16108e9a7a963f5d13419ebc34079df2", func := "plumb/plumblaw1.BitsWide", spec := "bitsWide", inPlace := ["math.Float64frombits", "math.Float64bits", "math.Float32frombits", "math.Float32bits"], apart := false }
def BitsWideSaid : Prop := bitsWideRow.holds Try.pinned (OpenSpec.ofChange bitsWideSpec)

/-- ITS FALSE NEIGHBOUR: 'it returns false'. Refute it at one input. -/
def bitsWideWrong : ChangeSpec := { name := "bitsWide", fn := fun _ => fun
  | [d] => { results := [.lit (.bool false)], args := [d] }
  | _ => none }
def BitsWideWrongFalsely : Prop := bitsWideRow.holds Try.pinned (OpenSpec.ofChange bitsWideWrong)

/-- 'plumblaw1.BitsAll': WHATEVER THE INPUT: true; the input reads as it did. -/
def bitsAllSpec : ChangeSpec := { name := "bitsAll", fn := fun _ => fun
  | [d] => { results := [.lit (.bool true)], args := [d] }
  | _ => none }
def bitsAllRow : OpenClaim := { program := "ytdbeeclkknhjaaa", sum := "96b9fa48d093f24833866f8ade5ca50d16108e9a7a963f5d13419ebc34079df2", func := "plumb/plumblaw1.BitsAll", spec := "bitsAll", inPlace := ["math.Float64bits", "math.Float64frombits", "math.Float32bits", "math.Float32frombits"], apart := false }
def BitsAllSaid : Prop := bitsAllRow.holds Try.pinned (OpenSpec.ofChange bitsAllSpec)

/-- ITS FALSE NEIGHBOUR: 'it returns false'. Refute it at one input. -/
def bitsAllWrong : ChangeSpec := { name := "bitsAll", fn := fun _ => fun
  | [d] => { results := [.lit (.bool false)], args := [d] }
  | _ => none }
def BitsAllWrongFalsely : Prop := bitsAllRow.holds Try.pinned (OpenSpec.ofChange bitsAllWrong)

/- THE SECOND FORM. 'bulk': how many values and letters a reading holds, each counted each time it is reached (what is shared counts as often as it is met; a slice's spare places count too). A statement '..UptoSaid' is the law's where the arguments, and the package variables that the reading takes, are together of bulk at most 1048576: NARROWER than '..Said'. Prove '..Said' where nothing that the law and all that it calls make is longer than what came in: it says more and counts as full. Else prove '..UptoSaid'. A law counts once. -/
mutual
def uptoBulk {H : Type} : DataW H → Nat
  | .lit (.string bytes) => bytes.length + 1
  | .lit _ => 1
  | .nil => 1
  | .ptr d => uptoBulk d + 1
  | .slice elems spare => uptoBulkAll elems + uptoBulkAll spare + 1
  | .agg parts => uptoBulkAll parts + 1
  | .iface _ d => uptoBulk d + 1
  | .map entries => uptoBulkEntries entries + 1
  | .held _ => 1
def uptoBulkAll {H : Type} : List (DataW H) → Nat
  | [] => 0
  | d :: r => uptoBulk d + uptoBulkAll r
def uptoBulkEntries {H : Type} : List (Lit × DataW H) → Nat
  | [] => 0
  | x :: r => uptoBulkEntry x + uptoBulkEntries r
def uptoBulkEntry {H : Type} : Lit × DataW H → Nat
  | (.string bytes, d) => bytes.length + uptoBulk d + 1
  | (_, d) => uptoBulk d + 1
 end
def uptoSmall : (H : Type) → List (DataW H) → Bool := fun _ ds => decide (uptoBulkAll ds ≤ 1048576)
def OpenSpec.upto (s : _root_.Go.ChangeSpec) : _root_.Go.OpenSpec := { _root_.Go.OpenSpec.ofChange s with cond := some uptoSmall }

/-- 'plumblaw1.BitsParts', WHERE WHAT IT READS IS OF BULK AT MOST 1048576: true; the input reads as it did. -/
def bitsPartsUptoRow : OpenClaim := { program := "ytdbeeclkknhjaaa", sum := "96b9fa48d093f24833866f8ade5ca50d16108e9a7a963f5d13419ebc34079df2", func := "plumb/plumblaw1.BitsParts", spec := "bitsParts", inPlace := ["math.Float64frombits", "math.Float64bits", "math.Float32frombits"], apart := false, narrowed := true }
def BitsPartsUptoSaid : Prop := bitsPartsUptoRow.holds Try.pinned (OpenSpec.upto bitsPartsSpec)

/-- 'plumblaw1.BitsFloats', WHERE WHAT IT READS IS OF BULK AT MOST 1048576: true; the input reads as it did. -/
def bitsFloatsUptoRow : OpenClaim := { program := "ytdbeeclkknhjaaa", sum := "96b9fa48d093f24833866f8ade5ca50d16108e9a7a963f5d13419ebc34079df2", func := "plumb/plumblaw1.BitsFloats", spec := "bitsFloats", inPlace := ["math.Float64frombits", "math.Float64bits", "math.Float32frombits", "math.Float32bits"], apart := false, narrowed := true }
def BitsFloatsUptoSaid : Prop := bitsFloatsUptoRow.holds Try.pinned (OpenSpec.upto bitsFloatsSpec)

/-- 'plumblaw1.BitsParts32', WHERE WHAT IT READS IS OF BULK AT MOST 1048576: true; the input reads as it did. -/
def bitsParts32UptoRow : OpenClaim := { program := "ytdbeeclkknhjaaa", sum := "96b9fa48d093f24833866f8ade5ca50d16108e9a7a963f5d13419ebc34079df2", func := "plumb/plumblaw1.BitsParts32", spec := "bitsParts32", inPlace := ["math.Float64frombits", "math.Float64bits", "math.Float32frombits"], apart := false, narrowed := true }
def BitsParts32UptoSaid : Prop := bitsParts32UptoRow.holds Try.pinned (OpenSpec.upto bitsParts32Spec)

/-- 'plumblaw1.BitsOrder', WHERE WHAT IT READS IS OF BULK AT MOST 1048576: true; the input reads as it did. -/
def bitsOrderUptoRow : OpenClaim := { program := "ytdbeeclkknhjaaa", sum := "96b9fa48d093f24833866f8ade5ca50d16108e9a7a963f5d13419ebc34079df2", func := "plumb/plumblaw1.BitsOrder", spec := "bitsOrder", inPlace := ["math.Float64frombits", "math.Float64bits", "math.Float32frombits"], apart := false, narrowed := true }
def BitsOrderUptoSaid : Prop := bitsOrderUptoRow.holds Try.pinned (OpenSpec.upto bitsOrderSpec)

/-- 'plumblaw1.BitsChain', WHERE WHAT IT READS IS OF BULK AT MOST 1048576: true; the input reads as it did. -/
def bitsChainUptoRow : OpenClaim := { program := "ytdbeeclkknhjaaa", sum := "96b9fa48d093f24833866f8ade5ca50d16108e9a7a963f5d13419ebc34079df2", func := "plumb/plumblaw1.BitsChain", spec := "bitsChain", inPlace := ["math.Float64frombits", "math.Float64bits", "math.Float32frombits"], apart := false, narrowed := true }
def BitsChainUptoSaid : Prop := bitsChainUptoRow.holds Try.pinned (OpenSpec.upto bitsChainSpec)

/-- 'plumblaw1.BitsTurns32', WHERE WHAT IT READS IS OF BULK AT MOST 1048576: true; the input reads as it did. -/
def bitsTurns32UptoRow : OpenClaim := { program := "ytdbeeclkknhjaaa", sum := "96b9fa48d093f24833866f8ade5ca50d16108e9a7a963f5d13419ebc34079df2", func := "plumb/plumblaw1.BitsTurns32", spec := "bitsTurns32", inPlace := ["math.Float64frombits", "math.Float64bits", "math.Float32frombits", "math.Float32bits"], apart := false, narrowed := true }
def BitsTurns32UptoSaid : Prop := bitsTurns32UptoRow.holds Try.pinned (OpenSpec.upto bitsTurns32Spec)

/-- 'plumblaw1.BitsNext', WHERE WHAT IT READS IS OF BULK AT MOST 1048576: true; the input reads as it did. -/
def bitsNextUptoRow : OpenClaim := { program := "ytdbeeclkknhjaaa", sum := "96b9fa48d093f24833866f8ade5ca50d16108e9a7a963f5d13419ebc34079df2", func := "plumb/plumblaw1.BitsNext", spec := "bitsNext", inPlace := ["math.Float64frombits", "math.Float64bits", "math.Float32frombits"], apart := false, narrowed := true }
def BitsNextUptoSaid : Prop := bitsNextUptoRow.holds Try.pinned (OpenSpec.upto bitsNextSpec)

/-- 'plumblaw1.BitsTurns', WHERE WHAT IT READS IS OF BULK AT MOST 1048576: true; the input reads as it did. -/
def bitsTurnsUptoRow : OpenClaim := { program := "ytdbeeclkknhjaaa", sum := "96b9fa48d093f24833866f8ade5ca50d16108e9a7a963f5d13419ebc34079df2", func := "plumb/plumblaw1.BitsTurns", spec := "bitsTurns", inPlace := ["math.Float64frombits", "math.Float64bits", "math.Float32frombits"], apart := false, narrowed := true }
def BitsTurnsUptoSaid : Prop := bitsTurnsUptoRow.holds Try.pinned (OpenSpec.upto bitsTurnsSpec)

/-- 'plumblaw1.BitsUlp', WHERE WHAT IT READS IS OF BULK AT MOST 1048576: true; the input reads as it did. -/
def bitsUlpUptoRow : OpenClaim := { program := "ytdbeeclkknhjaaa", sum := "96b9fa48d093f24833866f8ade5ca50d16108e9a7a963f5d13419ebc34079df2", func := "plumb/plumblaw1.BitsUlp", spec := "bitsUlp", inPlace := ["math.Float64frombits", "math.Float64bits", "math.Float32frombits"], apart := false, narrowed := true }
def BitsUlpUptoSaid : Prop := bitsUlpUptoRow.holds Try.pinned (OpenSpec.upto bitsUlpSpec)

/-- 'plumblaw1.BitsJoin', WHERE WHAT IT READS IS OF BULK AT MOST 1048576: true; the input reads as it did. -/
def bitsJoinUptoRow : OpenClaim := { program := "ytdbeeclkknhjaaa", sum := "96b9fa48d093f24833866f8ade5ca50d16108e9a7a963f5d13419ebc34079df2", func := "plumb/plumblaw1.BitsJoin", spec := "bitsJoin", inPlace := ["math.Float64frombits", "math.Float64bits", "math.Float32frombits", "math.Float32bits"], apart := false, narrowed := true }
def BitsJoinUptoSaid : Prop := bitsJoinUptoRow.holds Try.pinned (OpenSpec.upto bitsJoinSpec)

/-- 'plumbtop.TopNames', WHERE WHAT IT READS IS OF BULK AT MOST 1048576: true; the input reads as it did. -/
def topNamesUptoRow : OpenClaim := { program := "ytdbeeclkknhjaaa", sum := "96b9fa48d093f24833866f8ade5ca50d16108e9a7a963f5d13419ebc34079df2", func := "plumb/plumbtop.TopNames", spec := "topNames", apart := false, narrowed := true }
def TopNamesUptoSaid : Prop := topNamesUptoRow.holds Try.pinned (OpenSpec.upto topNamesSpec)

/-- 'plumblaw1.BitsBack', WHERE WHAT IT READS IS OF BULK AT MOST 1048576: true; the input reads as it did. -/
def bitsBackUptoRow : OpenClaim := { program := "ytdbeeclkknhjaaa", sum := "96b9fa48d093f24833866f8ade5ca50d16108e9a7a963f5d13419ebc34079df2", func := "plumb/plumblaw1.BitsBack", spec := "bitsBack", inPlace := ["math.Float64bits", "math.Float64frombits", "math.Float32frombits", "math.Float32bits"], apart := false, narrowed := true }
def BitsBackUptoSaid : Prop := bitsBackUptoRow.holds Try.pinned (OpenSpec.upto bitsBackSpec)

/-- 'plumblaw1.BitsWide', WHERE WHAT IT READS IS OF BULK AT MOST 1048576: true; the input reads as it did. -/
def bitsWideUptoRow : OpenClaim := { program := "ytdbeeclkknhjaaa", sum := "96b9fa48d093f24833866f8ade5ca50d16108e9a7a963f5d13419ebc34079df2", func := "plumb/plumblaw1.BitsWide", spec := "bitsWide", inPlace := ["math.Float64frombits", "math.Float64bits", "math.Float32frombits", "math.Float32bits"], apart := false, narrowed := true }
def BitsWideUptoSaid : Prop := bitsWideUptoRow.holds Try.pinned (OpenSpec.upto bitsWideSpec)

/-- 'plumblaw1.BitsAll', WHERE WHAT IT READS IS OF BULK AT MOST 1048576: true; the input reads as it did. -/
def bitsAllUptoRow : OpenClaim := { program := "ytdbeeclkknhjaaa", sum := "96b9fa48d093f24833866f8ade5ca50d16108e9a7a963f5d13419ebc34079df2", func := "plumb/plumblaw1.BitsAll", spec := "bitsAll", inPlace := ["math.Float64bits", "math.Float64frombits", "math.Float32bits", "math.Float32frombits"], apart := false, narrowed := true }
def BitsAllUptoSaid : Prop := bitsAllUptoRow.holds Try.pinned (OpenSpec.upto bitsAllSpec)

end Rows
end Go.Proofs.Ytdbeeclkknhjaaa
