/-
  No cell of these rows narrows 'for every input' (looked for: loops, veiled, ifaces, maps, wideKeys, modest, calm, conditions, laid).
  DERIVED. THE GIVEN ROWS OF THIS SEAT. 12 by the template 'for every input the law returns true; each argument reads behind the call as it read before'; 0 by the template 'total and deterministic' (their statements: YthhiaieibnaklaaTotals.lean).
  GIVEN WITH THE SEED: the statements are not yours to turn. If you find one false, say at which input.
  Laid BY PROGRAM, IN A SANDBOX (cutbox-rows.mjs): the forced cells as the released guide's own fill.sh prints them over the translation 9d08881d27ea78d8… (all of the seat's roots in one cut). By AI agents, Wed Nov 11 2026. No macro, syntax, notation, axiom, sorry.
-/
import Derived.Test.YthhiaieibnaklaaChecked
import GoSem.Claim
import GoSem.ClaimJoined
import GoSem.ClaimMapViews
import Derived.JoinedTies
import Derived.KernelRfl
namespace Go.Proofs.Ythhiaieibnaklaa
/- THE CELL 'sum', in the pinned program and in every row, IS THE sha256 OF THE DUMP (.gsa) THAT YthhiaieibnaklaaProg.lean LOADS. Nothing in Lean hashes anything: it is a label: what it is worth is what the hold of that sum in a sandbox is worth. -/
noncomputable def Try.pinned : Pinned := { name := "ythhiaieibnaklaa", sum := "9d08881d27ea78d88045fd0f31d213c0adecb56bd25004eb573fe0c7e08f8ba0", checked := Try.checked }
namespace Rows
def none {H : Type} : Left H := { results := [], args := [] }

/-- 'forecourtlaw04.HoseCounts': WHATEVER THE INPUT: true; the input reads as it did. -/
def hoseCountsSpec : ChangeSpec := { name := "hoseCounts", fn := fun _ => fun
  | [d] => { results := [.lit (.bool true)], args := [d] }
  | _ => none }
def hoseCountsRow : OpenClaim := { program := "ythhiaieibnaklaa", sum := "9d08881d27ea78d88045fd0f31d213c0adecb56bd25004eb573fe0c7e08f8ba0", func := "forecourt/forecourtlaw04.HoseCounts", spec := "hoseCounts", unfollowed := true, recurses := true, plainKeys := false, apart := false }
def HoseCountsSaid : Prop := hoseCountsRow.holds Try.pinned (OpenSpec.ofChange hoseCountsSpec)

/-- ITS FALSE NEIGHBOUR: 'it returns false'. Refute it at one input. -/
def hoseCountsWrong : ChangeSpec := { name := "hoseCounts", fn := fun _ => fun
  | [d] => { results := [.lit (.bool false)], args := [d] }
  | _ => none }
def HoseCountsWrongFalsely : Prop := hoseCountsRow.holds Try.pinned (OpenSpec.ofChange hoseCountsWrong)

/-- 'forecourtlaw04.HoseEnds': WHATEVER THE INPUT: true; the input reads as it did. -/
def hoseEndsSpec : ChangeSpec := { name := "hoseEnds", fn := fun _ => fun
  | [d1, d2] => { results := [.lit (.bool true)], args := [d1, d2] }
  | _ => none }
def hoseEndsRow : OpenClaim := { program := "ythhiaieibnaklaa", sum := "9d08881d27ea78d88045fd0f31d213c0adecb56bd25004eb573fe0c7e08f8ba0", func := "forecourt/forecourtlaw04.HoseEnds", spec := "hoseEnds", unfollowed := true, recurses := true, plainKeys := false, apart := false }
def HoseEndsSaid : Prop := hoseEndsRow.holds Try.pinned (OpenSpec.ofChange hoseEndsSpec)

/-- ITS FALSE NEIGHBOUR: 'it returns false'. Refute it at one input. -/
def hoseEndsWrong : ChangeSpec := { name := "hoseEnds", fn := fun _ => fun
  | [d1, d2] => { results := [.lit (.bool false)], args := [d1, d2] }
  | _ => none }
def HoseEndsWrongFalsely : Prop := hoseEndsRow.holds Try.pinned (OpenSpec.ofChange hoseEndsWrong)

/-- 'forecourtlaw04.HoseReached': WHATEVER THE INPUT: true; the input reads as it did. -/
def hoseReachedSpec : ChangeSpec := { name := "hoseReached", fn := fun _ => fun
  | [d1, d2, d3] => { results := [.lit (.bool true)], args := [d1, d2, d3] }
  | _ => none }
def hoseReachedRow : OpenClaim := { program := "ythhiaieibnaklaa", sum := "9d08881d27ea78d88045fd0f31d213c0adecb56bd25004eb573fe0c7e08f8ba0", func := "forecourt/forecourtlaw04.HoseReached", spec := "hoseReached", unfollowed := true, recurses := true, plainKeys := false, apart := false }
def HoseReachedSaid : Prop := hoseReachedRow.holds Try.pinned (OpenSpec.ofChange hoseReachedSpec)

/-- ITS FALSE NEIGHBOUR: 'it returns false'. Refute it at one input. -/
def hoseReachedWrong : ChangeSpec := { name := "hoseReached", fn := fun _ => fun
  | [d1, d2, d3] => { results := [.lit (.bool false)], args := [d1, d2, d3] }
  | _ => none }
def HoseReachedWrongFalsely : Prop := hoseReachedRow.holds Try.pinned (OpenSpec.ofChange hoseReachedWrong)

/-- 'forecourtlaw04.HosePlanned': WHATEVER THE INPUT: true; the input reads as it did. -/
def hosePlannedSpec : ChangeSpec := { name := "hosePlanned", fn := fun _ => fun
  | [d1, d2] => { results := [.lit (.bool true)], args := [d1, d2] }
  | _ => none }
def hosePlannedRow : OpenClaim := { program := "ythhiaieibnaklaa", sum := "9d08881d27ea78d88045fd0f31d213c0adecb56bd25004eb573fe0c7e08f8ba0", func := "forecourt/forecourtlaw04.HosePlanned", spec := "hosePlanned", unfollowed := true, recurses := true, plainKeys := false, apart := false }
def HosePlannedSaid : Prop := hosePlannedRow.holds Try.pinned (OpenSpec.ofChange hosePlannedSpec)

/-- ITS FALSE NEIGHBOUR: 'it returns false'. Refute it at one input. -/
def hosePlannedWrong : ChangeSpec := { name := "hosePlanned", fn := fun _ => fun
  | [d1, d2] => { results := [.lit (.bool false)], args := [d1, d2] }
  | _ => none }
def HosePlannedWrongFalsely : Prop := hosePlannedRow.holds Try.pinned (OpenSpec.ofChange hosePlannedWrong)

/-- 'forecourtlaw04.HoseTurned': WHATEVER THE INPUT: true; the input reads as it did. -/
def hoseTurnedSpec : ChangeSpec := { name := "hoseTurned", fn := fun _ => fun
  | [d1, d2] => { results := [.lit (.bool true)], args := [d1, d2] }
  | _ => none }
def hoseTurnedRow : OpenClaim := { program := "ythhiaieibnaklaa", sum := "9d08881d27ea78d88045fd0f31d213c0adecb56bd25004eb573fe0c7e08f8ba0", func := "forecourt/forecourtlaw04.HoseTurned", spec := "hoseTurned", unfollowed := true, recurses := true, plainKeys := false, apart := false }
def HoseTurnedSaid : Prop := hoseTurnedRow.holds Try.pinned (OpenSpec.ofChange hoseTurnedSpec)

/-- ITS FALSE NEIGHBOUR: 'it returns false'. Refute it at one input. -/
def hoseTurnedWrong : ChangeSpec := { name := "hoseTurned", fn := fun _ => fun
  | [d1, d2] => { results := [.lit (.bool false)], args := [d1, d2] }
  | _ => none }
def HoseTurnedWrongFalsely : Prop := hoseTurnedRow.holds Try.pinned (OpenSpec.ofChange hoseTurnedWrong)

/-- 'forecourtlaw04.HosePairs': WHATEVER THE INPUT: true; the input reads as it did. -/
def hosePairsSpec : ChangeSpec := { name := "hosePairs", fn := fun _ => fun
  | [d1, d2, d3] => { results := [.lit (.bool true)], args := [d1, d2, d3] }
  | _ => none }
def hosePairsRow : OpenClaim := { program := "ythhiaieibnaklaa", sum := "9d08881d27ea78d88045fd0f31d213c0adecb56bd25004eb573fe0c7e08f8ba0", func := "forecourt/forecourtlaw04.HosePairs", spec := "hosePairs", unfollowed := true, recurses := true, plainKeys := false, apart := false }
def HosePairsSaid : Prop := hosePairsRow.holds Try.pinned (OpenSpec.ofChange hosePairsSpec)

/-- ITS FALSE NEIGHBOUR: 'it returns false'. Refute it at one input. -/
def hosePairsWrong : ChangeSpec := { name := "hosePairs", fn := fun _ => fun
  | [d1, d2, d3] => { results := [.lit (.bool false)], args := [d1, d2, d3] }
  | _ => none }
def HosePairsWrongFalsely : Prop := hosePairsRow.holds Try.pinned (OpenSpec.ofChange hosePairsWrong)

/-- 'forecourtlaw04.HoseMixes': WHATEVER THE INPUT: true; the input reads as it did. -/
def hoseMixesSpec : ChangeSpec := { name := "hoseMixes", fn := fun _ => fun
  | [d1, d2] => { results := [.lit (.bool true)], args := [d1, d2] }
  | _ => none }
def hoseMixesRow : OpenClaim := { program := "ythhiaieibnaklaa", sum := "9d08881d27ea78d88045fd0f31d213c0adecb56bd25004eb573fe0c7e08f8ba0", func := "forecourt/forecourtlaw04.HoseMixes", spec := "hoseMixes", unfollowed := true, recurses := true, plainKeys := false, apart := false }
def HoseMixesSaid : Prop := hoseMixesRow.holds Try.pinned (OpenSpec.ofChange hoseMixesSpec)

/-- ITS FALSE NEIGHBOUR: 'it returns false'. Refute it at one input. -/
def hoseMixesWrong : ChangeSpec := { name := "hoseMixes", fn := fun _ => fun
  | [d1, d2] => { results := [.lit (.bool false)], args := [d1, d2] }
  | _ => none }
def HoseMixesWrongFalsely : Prop := hoseMixesRow.holds Try.pinned (OpenSpec.ofChange hoseMixesWrong)

/-- 'forecourtlaw04.HoseKnown': WHATEVER THE INPUT: true; the input reads as it did. -/
def hoseKnownSpec : ChangeSpec := { name := "hoseKnown", fn := fun _ => fun
  | [d1, d2, d3, d4] => { results := [.lit (.bool true)], args := [d1, d2, d3, d4] }
  | _ => none }
def hoseKnownRow : OpenClaim := { program := "ythhiaieibnaklaa", sum := "9d08881d27ea78d88045fd0f31d213c0adecb56bd25004eb573fe0c7e08f8ba0", func := "forecourt/forecourtlaw04.HoseKnown", spec := "hoseKnown", unfollowed := true, recurses := true, plainKeys := false, apart := false }
def HoseKnownSaid : Prop := hoseKnownRow.holds Try.pinned (OpenSpec.ofChange hoseKnownSpec)

/-- ITS FALSE NEIGHBOUR: 'it returns false'. Refute it at one input. -/
def hoseKnownWrong : ChangeSpec := { name := "hoseKnown", fn := fun _ => fun
  | [d1, d2, d3, d4] => { results := [.lit (.bool false)], args := [d1, d2, d3, d4] }
  | _ => none }
def HoseKnownWrongFalsely : Prop := hoseKnownRow.holds Try.pinned (OpenSpec.ofChange hoseKnownWrong)

/-- 'forecourtlaw04.HoseMeets': WHATEVER THE INPUT: true; the input reads as it did. -/
def hoseMeetsSpec : ChangeSpec := { name := "hoseMeets", fn := fun _ => fun
  | [d1, d2, d3] => { results := [.lit (.bool true)], args := [d1, d2, d3] }
  | _ => none }
def hoseMeetsRow : OpenClaim := { program := "ythhiaieibnaklaa", sum := "9d08881d27ea78d88045fd0f31d213c0adecb56bd25004eb573fe0c7e08f8ba0", func := "forecourt/forecourtlaw04.HoseMeets", spec := "hoseMeets", unfollowed := true, recurses := true, plainKeys := false, apart := false }
def HoseMeetsSaid : Prop := hoseMeetsRow.holds Try.pinned (OpenSpec.ofChange hoseMeetsSpec)

/-- ITS FALSE NEIGHBOUR: 'it returns false'. Refute it at one input. -/
def hoseMeetsWrong : ChangeSpec := { name := "hoseMeets", fn := fun _ => fun
  | [d1, d2, d3] => { results := [.lit (.bool false)], args := [d1, d2, d3] }
  | _ => none }
def HoseMeetsWrongFalsely : Prop := hoseMeetsRow.holds Try.pinned (OpenSpec.ofChange hoseMeetsWrong)

/-- 'forecourtlaw04.HoseProved': WHATEVER THE INPUT: true; the input reads as it did. -/
def hoseProvedSpec : ChangeSpec := { name := "hoseProved", fn := fun _ => fun
  | [d1, d2, d3, d4] => { results := [.lit (.bool true)], args := [d1, d2, d3, d4] }
  | _ => none }
def hoseProvedRow : OpenClaim := { program := "ythhiaieibnaklaa", sum := "9d08881d27ea78d88045fd0f31d213c0adecb56bd25004eb573fe0c7e08f8ba0", func := "forecourt/forecourtlaw04.HoseProved", spec := "hoseProved", unfollowed := true, recurses := true, plainKeys := false, apart := false }
def HoseProvedSaid : Prop := hoseProvedRow.holds Try.pinned (OpenSpec.ofChange hoseProvedSpec)

/-- ITS FALSE NEIGHBOUR: 'it returns false'. Refute it at one input. -/
def hoseProvedWrong : ChangeSpec := { name := "hoseProved", fn := fun _ => fun
  | [d1, d2, d3, d4] => { results := [.lit (.bool false)], args := [d1, d2, d3, d4] }
  | _ => none }
def HoseProvedWrongFalsely : Prop := hoseProvedRow.holds Try.pinned (OpenSpec.ofChange hoseProvedWrong)

/-- 'forecourtlaw04.HoseJobs': WHATEVER THE INPUT: true; the input reads as it did. -/
def hoseJobsSpec : ChangeSpec := { name := "hoseJobs", fn := fun _ => fun
  | [d1, d2, d3, d4, d5] => { results := [.lit (.bool true)], args := [d1, d2, d3, d4, d5] }
  | _ => none }
def hoseJobsRow : OpenClaim := { program := "ythhiaieibnaklaa", sum := "9d08881d27ea78d88045fd0f31d213c0adecb56bd25004eb573fe0c7e08f8ba0", func := "forecourt/forecourtlaw04.HoseJobs", spec := "hoseJobs", unfollowed := true, recurses := true, plainKeys := false, apart := false }
def HoseJobsSaid : Prop := hoseJobsRow.holds Try.pinned (OpenSpec.ofChange hoseJobsSpec)

/-- ITS FALSE NEIGHBOUR: 'it returns false'. Refute it at one input. -/
def hoseJobsWrong : ChangeSpec := { name := "hoseJobs", fn := fun _ => fun
  | [d1, d2, d3, d4, d5] => { results := [.lit (.bool false)], args := [d1, d2, d3, d4, d5] }
  | _ => none }
def HoseJobsWrongFalsely : Prop := hoseJobsRow.holds Try.pinned (OpenSpec.ofChange hoseJobsWrong)

/-- 'forecourtlaw04.HoseExamples': WHATEVER THE INPUT: true; the input reads as it did. -/
def hoseExamplesSpec : ChangeSpec := { name := "hoseExamples", fn := fun _ => fun
  | [] => { results := [.lit (.bool true)], args := [] }
  | _ => none }
def hoseExamplesRow : OpenClaim := { program := "ythhiaieibnaklaa", sum := "9d08881d27ea78d88045fd0f31d213c0adecb56bd25004eb573fe0c7e08f8ba0", func := "forecourt/forecourtlaw04.HoseExamples", spec := "hoseExamples", unfollowed := true, recurses := true, plainKeys := false, apart := false }
def HoseExamplesSaid : Prop := hoseExamplesRow.holds Try.pinned (OpenSpec.ofChange hoseExamplesSpec)

/-- ITS FALSE NEIGHBOUR: 'it returns false'. Refute it at one input. -/
def hoseExamplesWrong : ChangeSpec := { name := "hoseExamples", fn := fun _ => fun
  | [] => { results := [.lit (.bool false)], args := [] }
  | _ => none }
def HoseExamplesWrongFalsely : Prop := hoseExamplesRow.holds Try.pinned (OpenSpec.ofChange hoseExamplesWrong)

/- THE SECOND FORM. 'bulk': how many values and letters a reading holds, each counted each time it is reached (what is shared counts as often as it is met; a slice's spare places count too). A statement '..UptoSaid' is the law's where the arguments, and the package variables that the reading takes, are together of bulk at most 1048576: NARROWER than '..Said'. Prove '..Said' where nothing that the law and all that it calls make is longer than what came in: it says more and counts as full. Else prove '..UptoSaid'. A law counts once. -/
mutual
def uptoBulk {H : Type} : DataW H → Nat
  | .lit (.string bytes) => bytes.length + 1
  | .lit _ => 1
  | .nil => 1
  | .ptr d => uptoBulk d + 1
  | .slice elems spare => uptoBulkAll elems + uptoBulkAll spare + 1
  | .agg parts => uptoBulkAll parts + 1
  | .iface _ d => uptoBulk d + 1
  | .map entries => uptoBulkEntries entries + 1
  | .held _ => 1
def uptoBulkAll {H : Type} : List (DataW H) → Nat
  | [] => 0
  | d :: r => uptoBulk d + uptoBulkAll r
def uptoBulkEntries {H : Type} : List (Lit × DataW H) → Nat
  | [] => 0
  | x :: r => uptoBulkEntry x + uptoBulkEntries r
def uptoBulkEntry {H : Type} : Lit × DataW H → Nat
  | (.string bytes, d) => bytes.length + uptoBulk d + 1
  | (_, d) => uptoBulk d + 1
 end
def uptoSmall : (H : Type) → List (DataW H) → Bool := fun _ ds => decide (uptoBulkAll ds ≤ 1048576)
def OpenSpec.upto (s : _root_.Go.ChangeSpec) : _root_.Go.OpenSpec := { _root_.Go.OpenSpec.ofChange s with cond := some uptoSmall }

/-- 'forecourtlaw04.HoseCounts', WHERE WHAT IT READS IS OF BULK AT MOST 1048576: true; the input reads as it did. -/
def hoseCountsUptoRow : OpenClaim := { program := "ythhiaieibnaklaa", sum := "9d08881d27ea78d88045fd0f31d213c0adecb56bd25004eb573fe0c7e08f8ba0", func := "forecourt/forecourtlaw04.HoseCounts", spec := "hoseCounts", unfollowed := true, recurses := true, plainKeys := false, apart := false, narrowed := true }
def HoseCountsUptoSaid : Prop := hoseCountsUptoRow.holds Try.pinned (OpenSpec.upto hoseCountsSpec)

/-- 'forecourtlaw04.HoseEnds', WHERE WHAT IT READS IS OF BULK AT MOST 1048576: true; the input reads as it did. -/
def hoseEndsUptoRow : OpenClaim := { program := "ythhiaieibnaklaa", sum := "9d08881d27ea78d88045fd0f31d213c0adecb56bd25004eb573fe0c7e08f8ba0", func := "forecourt/forecourtlaw04.HoseEnds", spec := "hoseEnds", unfollowed := true, recurses := true, plainKeys := false, apart := false, narrowed := true }
def HoseEndsUptoSaid : Prop := hoseEndsUptoRow.holds Try.pinned (OpenSpec.upto hoseEndsSpec)

/-- 'forecourtlaw04.HoseReached', WHERE WHAT IT READS IS OF BULK AT MOST 1048576: true; the input reads as it did. -/
def hoseReachedUptoRow : OpenClaim := { program := "ythhiaieibnaklaa", sum := "9d08881d27ea78d88045fd0f31d213c0adecb56bd25004eb573fe0c7e08f8ba0", func := "forecourt/forecourtlaw04.HoseReached", spec := "hoseReached", unfollowed := true, recurses := true, plainKeys := false, apart := false, narrowed := true }
def HoseReachedUptoSaid : Prop := hoseReachedUptoRow.holds Try.pinned (OpenSpec.upto hoseReachedSpec)

/-- 'forecourtlaw04.HosePlanned', WHERE WHAT IT READS IS OF BULK AT MOST 1048576: true; the input reads as it did. -/
def hosePlannedUptoRow : OpenClaim := { program := "ythhiaieibnaklaa", sum := "9d08881d27ea78d88045fd0f31d213c0adecb56bd25004eb573fe0c7e08f8ba0", func := "forecourt/forecourtlaw04.HosePlanned", spec := "hosePlanned", unfollowed := true, recurses := true, plainKeys := false, apart := false, narrowed := true }
def HosePlannedUptoSaid : Prop := hosePlannedUptoRow.holds Try.pinned (OpenSpec.upto hosePlannedSpec)

/-- 'forecourtlaw04.HoseTurned', WHERE WHAT IT READS IS OF BULK AT MOST 1048576: true; the input reads as it did. -/
def hoseTurnedUptoRow : OpenClaim := { program := "ythhiaieibnaklaa", sum := "9d08881d27ea78d88045fd0f31d213c0adecb56bd25004eb573fe0c7e08f8ba0", func := "forecourt/forecourtlaw04.HoseTurned", spec := "hoseTurned", unfollowed := true, recurses := true, plainKeys := false, apart := false, narrowed := true }
def HoseTurnedUptoSaid : Prop := hoseTurnedUptoRow.holds Try.pinned (OpenSpec.upto hoseTurnedSpec)

/-- 'forecourtlaw04.HosePairs', WHERE WHAT IT READS IS OF BULK AT MOST 1048576: true; the input reads as it did. -/
def hosePairsUptoRow : OpenClaim := { program := "ythhiaieibnaklaa", sum := "9d08881d27ea78d88045fd0f31d213c0adecb56bd25004eb573fe0c7e08f8ba0", func := "forecourt/forecourtlaw04.HosePairs", spec := "hosePairs", unfollowed := true, recurses := true, plainKeys := false, apart := false, narrowed := true }
def HosePairsUptoSaid : Prop := hosePairsUptoRow.holds Try.pinned (OpenSpec.upto hosePairsSpec)

/-- 'forecourtlaw04.HoseMixes', WHERE WHAT IT READS IS OF BULK AT MOST 1048576: true; the input reads as it did. -/
def hoseMixesUptoRow : OpenClaim := { program := "ythhiaieibnaklaa", sum := "9d08881d27ea78d88045fd0f31d213c0adecb56bd25004eb573fe0c7e08f8ba0", func := "forecourt/forecourtlaw04.HoseMixes", spec := "hoseMixes", unfollowed := true, recurses := true, plainKeys := false, apart := false, narrowed := true }
def HoseMixesUptoSaid : Prop := hoseMixesUptoRow.holds Try.pinned (OpenSpec.upto hoseMixesSpec)

/-- 'forecourtlaw04.HoseKnown', WHERE WHAT IT READS IS OF BULK AT MOST 1048576: true; the input reads as it did. -/
def hoseKnownUptoRow : OpenClaim := { program := "ythhiaieibnaklaa", sum := "9d08881d27ea78d88045fd0f31d213c0adecb56bd25004eb573fe0c7e08f8ba0", func := "forecourt/forecourtlaw04.HoseKnown", spec := "hoseKnown", unfollowed := true, recurses := true, plainKeys := false, apart := false, narrowed := true }
def HoseKnownUptoSaid : Prop := hoseKnownUptoRow.holds Try.pinned (OpenSpec.upto hoseKnownSpec)

/-- 'forecourtlaw04.HoseMeets', WHERE WHAT IT READS IS OF BULK AT MOST 1048576: true; the input reads as it did. -/
def hoseMeetsUptoRow : OpenClaim := { program := "ythhiaieibnaklaa", sum := "9d08881d27ea78d88045fd0f31d213c0adecb56bd25004eb573fe0c7e08f8ba0", func := "forecourt/forecourtlaw04.HoseMeets", spec := "hoseMeets", unfollowed := true, recurses := true, plainKeys := false, apart := false, narrowed := true }
def HoseMeetsUptoSaid : Prop := hoseMeetsUptoRow.holds Try.pinned (OpenSpec.upto hoseMeetsSpec)

/-- 'forecourtlaw04.HoseProved', WHERE WHAT IT READS IS OF BULK AT MOST 1048576: true; the input reads as it did. -/
def hoseProvedUptoRow : OpenClaim := { program := "ythhiaieibnaklaa", sum := "9d08881d27ea78d88045fd0f31d213c0adecb56bd25004eb573fe0c7e08f8ba0", func := "forecourt/forecourtlaw04.HoseProved", spec := "hoseProved", unfollowed := true, recurses := true, plainKeys := false, apart := false, narrowed := true }
def HoseProvedUptoSaid : Prop := hoseProvedUptoRow.holds Try.pinned (OpenSpec.upto hoseProvedSpec)

/-- 'forecourtlaw04.HoseJobs', WHERE WHAT IT READS IS OF BULK AT MOST 1048576: true; the input reads as it did. -/
def hoseJobsUptoRow : OpenClaim := { program := "ythhiaieibnaklaa", sum := "9d08881d27ea78d88045fd0f31d213c0adecb56bd25004eb573fe0c7e08f8ba0", func := "forecourt/forecourtlaw04.HoseJobs", spec := "hoseJobs", unfollowed := true, recurses := true, plainKeys := false, apart := false, narrowed := true }
def HoseJobsUptoSaid : Prop := hoseJobsUptoRow.holds Try.pinned (OpenSpec.upto hoseJobsSpec)

/-- 'forecourtlaw04.HoseExamples', WHERE WHAT IT READS IS OF BULK AT MOST 1048576: true; the input reads as it did. -/
def hoseExamplesUptoRow : OpenClaim := { program := "ythhiaieibnaklaa", sum := "9d08881d27ea78d88045fd0f31d213c0adecb56bd25004eb573fe0c7e08f8ba0", func := "forecourt/forecourtlaw04.HoseExamples", spec := "hoseExamples", unfollowed := true, recurses := true, plainKeys := false, apart := false, narrowed := true }
def HoseExamplesUptoSaid : Prop := hoseExamplesUptoRow.holds Try.pinned (OpenSpec.upto hoseExamplesSpec)

end Rows
end Go.Proofs.Ythhiaieibnaklaa
