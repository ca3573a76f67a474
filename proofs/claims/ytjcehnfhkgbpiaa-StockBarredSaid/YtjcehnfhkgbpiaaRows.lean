/-
  No cell of these rows narrows 'for every input' (looked for: loops, veiled, ifaces, maps, wideKeys, modest, calm, conditions, laid).
  DERIVED. THE GIVEN ROWS OF THIS SEAT. 12 by the template 'for every input the law returns true; each argument reads behind the call as it read before'; 0 by the template 'total and deterministic' (their statements: YtjcehnfhkgbpiaaTotals.lean).
  GIVEN WITH THE SEED: the statements are not yours to turn. If you find one false, say at which input.
  Laid BY PROGRAM, IN A SANDBOX (cutbox-rows.mjs): the forced cells as the released guide's own fill.sh prints them over the translation 0f5011cbe5f4bd54… (all of the seat's roots in one cut). By AI agents, Wed Nov 11 2026. No macro, syntax, notation, axiom, sorry.
-/
import Derived.Test.YtjcehnfhkgbpiaaChecked
import GoSem.Claim
import GoSem.ClaimJoined
import GoSem.ClaimMapViews
import Derived.JoinedTies
import Derived.KernelRfl
namespace Go.Proofs.Ytjcehnfhkgbpiaa
/- THE CELL 'sum', in the pinned program and in every row, IS THE sha256 OF THE DUMP (.gsa) THAT YtjcehnfhkgbpiaaProg.lean LOADS. Nothing in Lean hashes anything: it is a label: what it is worth is what the hold of that sum in a sandbox is worth. -/
noncomputable def Try.pinned : Pinned := { name := "ytjcehnfhkgbpiaa", sum := "0f5011cbe5f4bd54fdfd47b85e159716558e7643f2bc1a7a2db0e3be48765a7a", checked := Try.checked }
namespace Rows
def none {H : Type} : Left H := { results := [], args := [] }

/-- 'forecourtlaw03.StockNets': WHATEVER THE INPUT: true; the input reads as it did. -/
def stockNetsSpec : ChangeSpec := { name := "stockNets", fn := fun _ => fun
  | [d1, d2, d3] => { results := [.lit (.bool true)], args := [d1, d2, d3] }
  | _ => none }
def stockNetsRow : OpenClaim := { program := "ytjcehnfhkgbpiaa", sum := "0f5011cbe5f4bd54fdfd47b85e159716558e7643f2bc1a7a2db0e3be48765a7a", func := "forecourt/forecourtlaw03.StockNets", spec := "stockNets", unfollowed := true, recurses := true, apart := false }
def StockNetsSaid : Prop := stockNetsRow.holds Try.pinned (OpenSpec.ofChange stockNetsSpec)

/-- ITS FALSE NEIGHBOUR: 'it returns false'. Refute it at one input. -/
def stockNetsWrong : ChangeSpec := { name := "stockNets", fn := fun _ => fun
  | [d1, d2, d3] => { results := [.lit (.bool false)], args := [d1, d2, d3] }
  | _ => none }
def StockNetsWrongFalsely : Prop := stockNetsRow.holds Try.pinned (OpenSpec.ofChange stockNetsWrong)

/-- 'forecourtlaw03.StockSpans': WHATEVER THE INPUT: true; the input reads as it did. -/
def stockSpansSpec : ChangeSpec := { name := "stockSpans", fn := fun _ => fun
  | [d1, d2, d3] => { results := [.lit (.bool true)], args := [d1, d2, d3] }
  | _ => none }
def stockSpansRow : OpenClaim := { program := "ytjcehnfhkgbpiaa", sum := "0f5011cbe5f4bd54fdfd47b85e159716558e7643f2bc1a7a2db0e3be48765a7a", func := "forecourt/forecourtlaw03.StockSpans", spec := "stockSpans", unfollowed := true, recurses := true, apart := false }
def StockSpansSaid : Prop := stockSpansRow.holds Try.pinned (OpenSpec.ofChange stockSpansSpec)

/-- ITS FALSE NEIGHBOUR: 'it returns false'. Refute it at one input. -/
def stockSpansWrong : ChangeSpec := { name := "stockSpans", fn := fun _ => fun
  | [d1, d2, d3] => { results := [.lit (.bool false)], args := [d1, d2, d3] }
  | _ => none }
def StockSpansWrongFalsely : Prop := stockSpansRow.holds Try.pinned (OpenSpec.ofChange stockSpansWrong)

/-- 'forecourtlaw03.StockProofs': WHATEVER THE INPUT: true; the input reads as it did. -/
def stockProofsSpec : ChangeSpec := { name := "stockProofs", fn := fun _ => fun
  | [d1, d2, d3, d4] => { results := [.lit (.bool true)], args := [d1, d2, d3, d4] }
  | _ => none }
def stockProofsRow : OpenClaim := { program := "ytjcehnfhkgbpiaa", sum := "0f5011cbe5f4bd54fdfd47b85e159716558e7643f2bc1a7a2db0e3be48765a7a", func := "forecourt/forecourtlaw03.StockProofs", spec := "stockProofs", unfollowed := true, recurses := true, apart := false }
def StockProofsSaid : Prop := stockProofsRow.holds Try.pinned (OpenSpec.ofChange stockProofsSpec)

/-- ITS FALSE NEIGHBOUR: 'it returns false'. Refute it at one input. -/
def stockProofsWrong : ChangeSpec := { name := "stockProofs", fn := fun _ => fun
  | [d1, d2, d3, d4] => { results := [.lit (.bool false)], args := [d1, d2, d3, d4] }
  | _ => none }
def StockProofsWrongFalsely : Prop := stockProofsRow.holds Try.pinned (OpenSpec.ofChange stockProofsWrong)

/-- 'forecourtlaw03.StockMeters': WHATEVER THE INPUT: true; the input reads as it did. -/
def stockMetersSpec : ChangeSpec := { name := "stockMeters", fn := fun _ => fun
  | [d1, d2, d3] => { results := [.lit (.bool true)], args := [d1, d2, d3] }
  | _ => none }
def stockMetersRow : OpenClaim := { program := "ytjcehnfhkgbpiaa", sum := "0f5011cbe5f4bd54fdfd47b85e159716558e7643f2bc1a7a2db0e3be48765a7a", func := "forecourt/forecourtlaw03.StockMeters", spec := "stockMeters", unfollowed := true, recurses := true, apart := false }
def StockMetersSaid : Prop := stockMetersRow.holds Try.pinned (OpenSpec.ofChange stockMetersSpec)

/-- ITS FALSE NEIGHBOUR: 'it returns false'. Refute it at one input. -/
def stockMetersWrong : ChangeSpec := { name := "stockMeters", fn := fun _ => fun
  | [d1, d2, d3] => { results := [.lit (.bool false)], args := [d1, d2, d3] }
  | _ => none }
def StockMetersWrongFalsely : Prop := stockMetersRow.holds Try.pinned (OpenSpec.ofChange stockMetersWrong)

/-- 'forecourtlaw03.StockHeld': WHATEVER THE INPUT: true; the input reads as it did. -/
def stockHeldSpec : ChangeSpec := { name := "stockHeld", fn := fun _ => fun
  | [d1, d2, d3] => { results := [.lit (.bool true)], args := [d1, d2, d3] }
  | _ => none }
def stockHeldRow : OpenClaim := { program := "ytjcehnfhkgbpiaa", sum := "0f5011cbe5f4bd54fdfd47b85e159716558e7643f2bc1a7a2db0e3be48765a7a", func := "forecourt/forecourtlaw03.StockHeld", spec := "stockHeld", unfollowed := true, recurses := true, apart := false }
def StockHeldSaid : Prop := stockHeldRow.holds Try.pinned (OpenSpec.ofChange stockHeldSpec)

/-- ITS FALSE NEIGHBOUR: 'it returns false'. Refute it at one input. -/
def stockHeldWrong : ChangeSpec := { name := "stockHeld", fn := fun _ => fun
  | [d1, d2, d3] => { results := [.lit (.bool false)], args := [d1, d2, d3] }
  | _ => none }
def StockHeldWrongFalsely : Prop := stockHeldRow.holds Try.pinned (OpenSpec.ofChange stockHeldWrong)

/-- 'forecourtlaw03.StockEither': WHATEVER THE INPUT: true; the input reads as it did. -/
def stockEitherSpec : ChangeSpec := { name := "stockEither", fn := fun _ => fun
  | [d1, d2, d3] => { results := [.lit (.bool true)], args := [d1, d2, d3] }
  | _ => none }
def stockEitherRow : OpenClaim := { program := "ytjcehnfhkgbpiaa", sum := "0f5011cbe5f4bd54fdfd47b85e159716558e7643f2bc1a7a2db0e3be48765a7a", func := "forecourt/forecourtlaw03.StockEither", spec := "stockEither", unfollowed := true, recurses := true, apart := false }
def StockEitherSaid : Prop := stockEitherRow.holds Try.pinned (OpenSpec.ofChange stockEitherSpec)

/-- ITS FALSE NEIGHBOUR: 'it returns false'. Refute it at one input. -/
def stockEitherWrong : ChangeSpec := { name := "stockEither", fn := fun _ => fun
  | [d1, d2, d3] => { results := [.lit (.bool false)], args := [d1, d2, d3] }
  | _ => none }
def StockEitherWrongFalsely : Prop := stockEitherRow.holds Try.pinned (OpenSpec.ofChange stockEitherWrong)

/-- 'forecourtlaw03.StockBarred': WHATEVER THE INPUT: true; the input reads as it did. -/
def stockBarredSpec : ChangeSpec := { name := "stockBarred", fn := fun _ => fun
  | [d1, d2, d3, d4] => { results := [.lit (.bool true)], args := [d1, d2, d3, d4] }
  | _ => none }
def stockBarredRow : OpenClaim := { program := "ytjcehnfhkgbpiaa", sum := "0f5011cbe5f4bd54fdfd47b85e159716558e7643f2bc1a7a2db0e3be48765a7a", func := "forecourt/forecourtlaw03.StockBarred", spec := "stockBarred", unfollowed := true, recurses := true, apart := false }
def StockBarredSaid : Prop := stockBarredRow.holds Try.pinned (OpenSpec.ofChange stockBarredSpec)

/-- ITS FALSE NEIGHBOUR: 'it returns false'. Refute it at one input. -/
def stockBarredWrong : ChangeSpec := { name := "stockBarred", fn := fun _ => fun
  | [d1, d2, d3, d4] => { results := [.lit (.bool false)], args := [d1, d2, d3, d4] }
  | _ => none }
def StockBarredWrongFalsely : Prop := stockBarredRow.holds Try.pinned (OpenSpec.ofChange stockBarredWrong)

/-- 'forecourtlaw03.StockNarrower': WHATEVER THE INPUT: true; the input reads as it did. -/
def stockNarrowerSpec : ChangeSpec := { name := "stockNarrower", fn := fun _ => fun
  | [d1, d2, d3, d4, d5] => { results := [.lit (.bool true)], args := [d1, d2, d3, d4, d5] }
  | _ => none }
def stockNarrowerRow : OpenClaim := { program := "ytjcehnfhkgbpiaa", sum := "0f5011cbe5f4bd54fdfd47b85e159716558e7643f2bc1a7a2db0e3be48765a7a", func := "forecourt/forecourtlaw03.StockNarrower", spec := "stockNarrower", unfollowed := true, recurses := true, apart := false }
def StockNarrowerSaid : Prop := stockNarrowerRow.holds Try.pinned (OpenSpec.ofChange stockNarrowerSpec)

/-- ITS FALSE NEIGHBOUR: 'it returns false'. Refute it at one input. -/
def stockNarrowerWrong : ChangeSpec := { name := "stockNarrower", fn := fun _ => fun
  | [d1, d2, d3, d4, d5] => { results := [.lit (.bool false)], args := [d1, d2, d3, d4, d5] }
  | _ => none }
def StockNarrowerWrongFalsely : Prop := stockNarrowerRow.holds Try.pinned (OpenSpec.ofChange stockNarrowerWrong)

/-- 'forecourtlaw03.StockTurned': WHATEVER THE INPUT: true; the input reads as it did. -/
def stockTurnedSpec : ChangeSpec := { name := "stockTurned", fn := fun _ => fun
  | [d1, d2, d3, d4] => { results := [.lit (.bool true)], args := [d1, d2, d3, d4] }
  | _ => none }
def stockTurnedRow : OpenClaim := { program := "ytjcehnfhkgbpiaa", sum := "0f5011cbe5f4bd54fdfd47b85e159716558e7643f2bc1a7a2db0e3be48765a7a", func := "forecourt/forecourtlaw03.StockTurned", spec := "stockTurned", unfollowed := true, recurses := true, apart := false }
def StockTurnedSaid : Prop := stockTurnedRow.holds Try.pinned (OpenSpec.ofChange stockTurnedSpec)

/-- ITS FALSE NEIGHBOUR: 'it returns false'. Refute it at one input. -/
def stockTurnedWrong : ChangeSpec := { name := "stockTurned", fn := fun _ => fun
  | [d1, d2, d3, d4] => { results := [.lit (.bool false)], args := [d1, d2, d3, d4] }
  | _ => none }
def StockTurnedWrongFalsely : Prop := stockTurnedRow.holds Try.pinned (OpenSpec.ofChange stockTurnedWrong)

/-- 'forecourtlaw03.StockTogether': WHATEVER THE INPUT: true; the input reads as it did. -/
def stockTogetherSpec : ChangeSpec := { name := "stockTogether", fn := fun _ => fun
  | [d1, d2, d3] => { results := [.lit (.bool true)], args := [d1, d2, d3] }
  | _ => none }
def stockTogetherRow : OpenClaim := { program := "ytjcehnfhkgbpiaa", sum := "0f5011cbe5f4bd54fdfd47b85e159716558e7643f2bc1a7a2db0e3be48765a7a", func := "forecourt/forecourtlaw03.StockTogether", spec := "stockTogether", unfollowed := true, recurses := true, apart := false }
def StockTogetherSaid : Prop := stockTogetherRow.holds Try.pinned (OpenSpec.ofChange stockTogetherSpec)

/-- ITS FALSE NEIGHBOUR: 'it returns false'. Refute it at one input. -/
def stockTogetherWrong : ChangeSpec := { name := "stockTogether", fn := fun _ => fun
  | [d1, d2, d3] => { results := [.lit (.bool false)], args := [d1, d2, d3] }
  | _ => none }
def StockTogetherWrongFalsely : Prop := stockTogetherRow.holds Try.pinned (OpenSpec.ofChange stockTogetherWrong)

/-- 'forecourtlaw03.StockCans': WHATEVER THE INPUT: true; the input reads as it did. -/
def stockCansSpec : ChangeSpec := { name := "stockCans", fn := fun _ => fun
  | [d1, d2, d3, d4, d5] => { results := [.lit (.bool true)], args := [d1, d2, d3, d4, d5] }
  | _ => none }
def stockCansRow : OpenClaim := { program := "ytjcehnfhkgbpiaa", sum := "0f5011cbe5f4bd54fdfd47b85e159716558e7643f2bc1a7a2db0e3be48765a7a", func := "forecourt/forecourtlaw03.StockCans", spec := "stockCans", unfollowed := true, recurses := true, apart := false }
def StockCansSaid : Prop := stockCansRow.holds Try.pinned (OpenSpec.ofChange stockCansSpec)

/-- ITS FALSE NEIGHBOUR: 'it returns false'. Refute it at one input. -/
def stockCansWrong : ChangeSpec := { name := "stockCans", fn := fun _ => fun
  | [d1, d2, d3, d4, d5] => { results := [.lit (.bool false)], args := [d1, d2, d3, d4, d5] }
  | _ => none }
def StockCansWrongFalsely : Prop := stockCansRow.holds Try.pinned (OpenSpec.ofChange stockCansWrong)

/-- 'forecourtlaw03.StockKnown': WHATEVER THE INPUT: true; the input reads as it did. -/
def stockKnownSpec : ChangeSpec := { name := "stockKnown", fn := fun _ => fun
  | [] => { results := [.lit (.bool true)], args := [] }
  | _ => none }
def stockKnownRow : OpenClaim := { program := "ytjcehnfhkgbpiaa", sum := "0f5011cbe5f4bd54fdfd47b85e159716558e7643f2bc1a7a2db0e3be48765a7a", func := "forecourt/forecourtlaw03.StockKnown", spec := "stockKnown", unfollowed := true, recurses := true, apart := false }
def StockKnownSaid : Prop := stockKnownRow.holds Try.pinned (OpenSpec.ofChange stockKnownSpec)

/-- ITS FALSE NEIGHBOUR: 'it returns false'. Refute it at one input. -/
def stockKnownWrong : ChangeSpec := { name := "stockKnown", fn := fun _ => fun
  | [] => { results := [.lit (.bool false)], args := [] }
  | _ => none }
def StockKnownWrongFalsely : Prop := stockKnownRow.holds Try.pinned (OpenSpec.ofChange stockKnownWrong)

/- THE SECOND FORM. 'bulk': how many values and letters a reading holds, each counted each time it is reached (what is shared counts as often as it is met; a slice's spare places count too). A statement '..UptoSaid' is the law's where the arguments, and the package variables that the reading takes, are together of bulk at most 1048576: NARROWER than '..Said'. Prove '..Said' where nothing that the law and all that it calls make is longer than what came in: it says more and counts as full. Else prove '..UptoSaid'. A law counts once. -/
mutual
def uptoBulk {H : Type} : DataW H → Nat
  | .lit (.string bytes) => bytes.length + 1
  | .lit _ => 1
  | .nil => 1
  | .ptr d => uptoBulk d + 1
  | .slice elems spare => uptoBulkAll elems + uptoBulkAll spare + 1
  | .agg parts => uptoBulkAll parts + 1
  | .iface _ d => uptoBulk d + 1
  | .map entries => uptoBulkEntries entries + 1
  | .held _ => 1
def uptoBulkAll {H : Type} : List (DataW H) → Nat
  | [] => 0
  | d :: r => uptoBulk d + uptoBulkAll r
def uptoBulkEntries {H : Type} : List (Lit × DataW H) → Nat
  | [] => 0
  | x :: r => uptoBulkEntry x + uptoBulkEntries r
def uptoBulkEntry {H : Type} : Lit × DataW H → Nat
  | (.string bytes, d) => bytes.length + uptoBulk d + 1
  | (_, d) => uptoBulk d + 1
 end
def uptoSmall : (H : Type) → List (DataW H) → Bool := fun _ ds => decide (uptoBulkAll ds ≤ 1048576)
def OpenSpec.upto (s : _root_.Go.ChangeSpec) : _root_.Go.OpenSpec := { _root_.Go.OpenSpec.ofChange s with cond := some uptoSmall }

/-- 'forecourtlaw03.StockNets', WHERE WHAT IT READS IS OF BULK AT MOST 1048576: true; the input reads as it did. -/
def stockNetsUptoRow : OpenClaim := { program := "ytjcehnfhkgbpiaa", sum := "0f5011cbe5f4bd54fdfd47b85e159716558e7643f2bc1a7a2db0e3be48765a7a", func := "forecourt/forecourtlaw03.StockNets", spec := "stockNets", unfollowed := true, recurses := true, apart := false, narrowed := true }
def StockNetsUptoSaid : Prop := stockNetsUptoRow.holds Try.pinned (OpenSpec.upto stockNetsSpec)

/-- 'forecourtlaw03.StockSpans', WHERE WHAT IT READS IS OF BULK AT MOST 1048576: true; the input reads as it did. -/
def stockSpansUptoRow : OpenClaim := { program := "ytjcehnfhkgbpiaa", sum := "0f5011cbe5f4bd54fdfd47b85e159716558e7643f2bc1a7a2db0e3be48765a7a", func := "forecourt/forecourtlaw03.StockSpans", spec := "stockSpans", unfollowed := true, recurses := true, apart := false, narrowed := true }
def StockSpansUptoSaid : Prop := stockSpansUptoRow.holds Try.pinned (OpenSpec.upto stockSpansSpec)

/-- 'forecourtlaw03.StockProofs', WHERE WHAT IT READS IS OF BULK AT MOST 1048576: true; the input reads as it did. -/
def stockProofsUptoRow : OpenClaim := { program := "ytjcehnfhkgbpiaa", sum := "0f5011cbe5f4bd54fdfd47b85e159716558e7643f2bc1a7a2db0e3be48765a7a", func := "forecourt/forecourtlaw03.StockProofs", spec := "stockProofs", unfollowed := true, recurses := true, apart := false, narrowed := true }
def StockProofsUptoSaid : Prop := stockProofsUptoRow.holds Try.pinned (OpenSpec.upto stockProofsSpec)

/-- 'forecourtlaw03.StockMeters', WHERE WHAT IT READS IS OF BULK AT MOST 1048576: true; the input reads as it did. -/
def stockMetersUptoRow : OpenClaim := { program := "ytjcehnfhkgbpiaa", sum := "0f5011cbe5f4bd54fdfd47b85e159716558e7643f2bc1a7a2db0e3be48765a7a", func := "forecourt/forecourtlaw03.StockMeters", spec := "stockMeters", unfollowed := true, recurses := true, apart := false, narrowed := true }
def StockMetersUptoSaid : Prop := stockMetersUptoRow.holds Try.pinned (OpenSpec.upto stockMetersSpec)

/-- 'forecourtlaw03.StockHeld', WHERE WHAT IT READS IS OF BULK AT MOST 1048576: true; the input reads as it did. -/
def stockHeldUptoRow : OpenClaim := { program := "ytjcehnfhkgbpiaa", sum := "0f5011cbe5f4bd54fdfd47b85e159716558e7643f2bc1a7a2db0e3be48765a7a", func := "forecourt/forecourtlaw03.StockHeld", spec := "stockHeld", unfollowed := true, recurses := true, apart := false, narrowed := true }
def StockHeldUptoSaid : Prop := stockHeldUptoRow.holds Try.pinned (OpenSpec.upto stockHeldSpec)

/-- 'forecourtlaw03.StockEither', WHERE WHAT IT READS IS OF BULK AT MOST 1048576: true; the input reads as it did. -/
def stockEitherUptoRow : OpenClaim := { program := "ytjcehnfhkgbpiaa", sum := "0f5011cbe5f4bd54fdfd47b85e159716558e7643f2bc1a7a2db0e3be48765a7a", func := "forecourt/forecourtlaw03.StockEither", spec := "stockEither", unfollowed := true, recurses := true, apart := false, narrowed := true }
def StockEitherUptoSaid : Prop := stockEitherUptoRow.holds Try.pinned (OpenSpec.upto stockEitherSpec)

/-- 'forecourtlaw03.StockBarred', WHERE WHAT IT READS IS OF BULK AT MOST 1048576: true; the input reads as it did. -/
def stockBarredUptoRow : OpenClaim := { program := "ytjcehnfhkgbpiaa", sum := "0f5011cbe5f4bd54fdfd47b85e159716558e7643f2bc1a7a2db0e3be48765a7a", func := "forecourt/forecourtlaw03.StockBarred", spec := "stockBarred", unfollowed := true, recurses := true, apart := false, narrowed := true }
def StockBarredUptoSaid : Prop := stockBarredUptoRow.holds Try.pinned (OpenSpec.upto stockBarredSpec)

/-- 'forecourtlaw03.StockNarrower', WHERE WHAT IT READS IS OF BULK AT MOST 1048576: true; the input reads as it did. -/
def stockNarrowerUptoRow : OpenClaim := { program := "ytjcehnfhkgbpiaa", sum := "0f5011cbe5f4bd54fdfd47b85e159716558e7643f2bc1a7a2db0e3be48765a7a", func := "forecourt/forecourtlaw03.StockNarrower", spec := "stockNarrower", unfollowed := true, recurses := true, apart := false, narrowed := true }
def StockNarrowerUptoSaid : Prop := stockNarrowerUptoRow.holds Try.pinned (OpenSpec.upto stockNarrowerSpec)

/-- 'forecourtlaw03.StockTurned', WHERE WHAT IT READS IS OF BULK AT MOST 1048576: true; the input reads as it did. -/
def stockTurnedUptoRow : OpenClaim := { program := "ytjcehnfhkgbpiaa", sum := "0f5011cbe5f4bd54fdfd47b85e159716558e7643f2bc1a7a2db0e3be48765a7a", func := "forecourt/forecourtlaw03.StockTurned", spec := "stockTurned", unfollowed := true, recurses := true, apart := false, narrowed := true }
def StockTurnedUptoSaid : Prop := stockTurnedUptoRow.holds Try.pinned (OpenSpec.upto stockTurnedSpec)

/-- 'forecourtlaw03.StockTogether', WHERE WHAT IT READS IS OF BULK AT MOST 1048576: true; the input reads as it did. -/
def stockTogetherUptoRow : OpenClaim := { program := "ytjcehnfhkgbpiaa", sum := "0f5011cbe5f4bd54fdfd47b85e159716558e7643f2bc1a7a2db0e3be48765a7a", func := "forecourt/forecourtlaw03.StockTogether", spec := "stockTogether", unfollowed := true, recurses := true, apart := false, narrowed := true }
def StockTogetherUptoSaid : Prop := stockTogetherUptoRow.holds Try.pinned (OpenSpec.upto stockTogetherSpec)

/-- 'forecourtlaw03.StockCans', WHERE WHAT IT READS IS OF BULK AT MOST 1048576: true; the input reads as it did. -/
def stockCansUptoRow : OpenClaim := { program := "ytjcehnfhkgbpiaa", sum := "0f5011cbe5f4bd54fdfd47b85e159716558e7643f2bc1a7a2db0e3be48765a7a", func := "forecourt/forecourtlaw03.StockCans", spec := "stockCans", unfollowed := true, recurses := true, apart := false, narrowed := true }
def StockCansUptoSaid : Prop := stockCansUptoRow.holds Try.pinned (OpenSpec.upto stockCansSpec)

/-- 'forecourtlaw03.StockKnown', WHERE WHAT IT READS IS OF BULK AT MOST 1048576: true; the input reads as it did. -/
def stockKnownUptoRow : OpenClaim := { program := "ytjcehnfhkgbpiaa", sum := "0f5011cbe5f4bd54fdfd47b85e159716558e7643f2bc1a7a2db0e3be48765a7a", func := "forecourt/forecourtlaw03.StockKnown", spec := "stockKnown", unfollowed := true, recurses := true, apart := false, narrowed := true }
def StockKnownUptoSaid : Prop := stockKnownUptoRow.holds Try.pinned (OpenSpec.upto stockKnownSpec)

end Rows
end Go.Proofs.Ytjcehnfhkgbpiaa
