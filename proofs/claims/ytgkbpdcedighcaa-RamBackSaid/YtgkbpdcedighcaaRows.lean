/-
  No cell of these rows narrows 'for every input' (looked for: loops, veiled, ifaces, maps, wideKeys, modest, calm, conditions, laid).
  DERIVED. THE GIVEN ROWS OF THIS SEAT. 12 by the template 'for every input the law returns true; each argument reads behind the call as it read before'; 0 by the template 'total and deterministic' (their statements: YtgkbpdcedighcaaTotals.lean).
  GIVEN WITH THE SEED: the statements are not yours to turn. If you find one false, say at which input.
  Laid BY PROGRAM, IN A SANDBOX (cutbox-rows.mjs): the forced cells as the released guide's own fill.sh prints them over the translation 9a6b381c7a29d5cc… (all of the seat's roots in one cut). By AI agents, Wed Nov 11 2026. No macro, syntax, notation, axiom, sorry.
-/
import Derived.Test.YtgkbpdcedighcaaChecked
import GoSem.Claim
import GoSem.ClaimJoined
import GoSem.ClaimMapViews
import Derived.JoinedTies
import Derived.KernelRfl
namespace Go.Proofs.Ytgkbpdcedighcaa
/- THE CELL 'sum', in the pinned program and in every row, IS THE sha256 OF THE DUMP (.gsa) THAT YtgkbpdcedighcaaProg.lean LOADS. Nothing in Lean hashes anything: it is a label: what it is worth is what the hold of that sum in a sandbox is worth. -/
noncomputable def Try.pinned : Pinned := { name := "ytgkbpdcedighcaa", sum := "9a6b381c7a29d5ccb58f46998a0c4b4dd2dd459e6bc131e5f52f01d39bc66ef0", checked := Try.checked }
namespace Rows
def none {H : Type} : Left H := { results := [], args := [] }

/-- 'gannetlaw02.ClockRuns': WHATEVER THE INPUT: true; the input reads as it did. -/
def clockRunsSpec : ChangeSpec := { name := "clockRuns", fn := fun _ => fun
  | [d1, d2, d3, d4] => { results := [.lit (.bool true)], args := [d1, d2, d3, d4] }
  | _ => none }
def clockRunsRow : OpenClaim := { program := "ytgkbpdcedighcaa", sum := "9a6b381c7a29d5ccb58f46998a0c4b4dd2dd459e6bc131e5f52f01d39bc66ef0", func := "gannet/gannetlaw02.ClockRuns", spec := "clockRuns", apart := false }
def ClockRunsSaid : Prop := clockRunsRow.holds Try.pinned (OpenSpec.ofChange clockRunsSpec)

/-- ITS FALSE NEIGHBOUR: 'it returns false'. Refute it at one input. -/
def clockRunsWrong : ChangeSpec := { name := "clockRuns", fn := fun _ => fun
  | [d1, d2, d3, d4] => { results := [.lit (.bool false)], args := [d1, d2, d3, d4] }
  | _ => none }
def ClockRunsWrongFalsely : Prop := clockRunsRow.holds Try.pinned (OpenSpec.ofChange clockRunsWrong)

/-- 'gannetlaw02.ClockRises': WHATEVER THE INPUT: true; the input reads as it did. -/
def clockRisesSpec : ChangeSpec := { name := "clockRises", fn := fun _ => fun
  | [d] => { results := [.lit (.bool true)], args := [d] }
  | _ => none }
def clockRisesRow : OpenClaim := { program := "ytgkbpdcedighcaa", sum := "9a6b381c7a29d5ccb58f46998a0c4b4dd2dd459e6bc131e5f52f01d39bc66ef0", func := "gannet/gannetlaw02.ClockRises", spec := "clockRises", apart := false }
def ClockRisesSaid : Prop := clockRisesRow.holds Try.pinned (OpenSpec.ofChange clockRisesSpec)

/-- ITS FALSE NEIGHBOUR: 'it returns false'. Refute it at one input. -/
def clockRisesWrong : ChangeSpec := { name := "clockRises", fn := fun _ => fun
  | [d] => { results := [.lit (.bool false)], args := [d] }
  | _ => none }
def ClockRisesWrongFalsely : Prop := clockRisesRow.holds Try.pinned (OpenSpec.ofChange clockRisesWrong)

/-- 'gannetlaw02.ClockStamps': WHATEVER THE INPUT: true; the input reads as it did. -/
def clockStampsSpec : ChangeSpec := { name := "clockStamps", fn := fun _ => fun
  | [d1, d2, d3] => { results := [.lit (.bool true)], args := [d1, d2, d3] }
  | _ => none }
def clockStampsRow : OpenClaim := { program := "ytgkbpdcedighcaa", sum := "9a6b381c7a29d5ccb58f46998a0c4b4dd2dd459e6bc131e5f52f01d39bc66ef0", func := "gannet/gannetlaw02.ClockStamps", spec := "clockStamps", apart := false }
def ClockStampsSaid : Prop := clockStampsRow.holds Try.pinned (OpenSpec.ofChange clockStampsSpec)

/-- ITS FALSE NEIGHBOUR: 'it returns false'. Refute it at one input. -/
def clockStampsWrong : ChangeSpec := { name := "clockStamps", fn := fun _ => fun
  | [d1, d2, d3] => { results := [.lit (.bool false)], args := [d1, d2, d3] }
  | _ => none }
def ClockStampsWrongFalsely : Prop := clockStampsRow.holds Try.pinned (OpenSpec.ofChange clockStampsWrong)

/-- 'gannetlaw02.ClockSplits': WHATEVER THE INPUT: true; the input reads as it did. -/
def clockSplitsSpec : ChangeSpec := { name := "clockSplits", fn := fun _ => fun
  | [d1, d2, d3, d4] => { results := [.lit (.bool true)], args := [d1, d2, d3, d4] }
  | _ => none }
def clockSplitsRow : OpenClaim := { program := "ytgkbpdcedighcaa", sum := "9a6b381c7a29d5ccb58f46998a0c4b4dd2dd459e6bc131e5f52f01d39bc66ef0", func := "gannet/gannetlaw02.ClockSplits", spec := "clockSplits", apart := false }
def ClockSplitsSaid : Prop := clockSplitsRow.holds Try.pinned (OpenSpec.ofChange clockSplitsSpec)

/-- ITS FALSE NEIGHBOUR: 'it returns false'. Refute it at one input. -/
def clockSplitsWrong : ChangeSpec := { name := "clockSplits", fn := fun _ => fun
  | [d1, d2, d3, d4] => { results := [.lit (.bool false)], args := [d1, d2, d3, d4] }
  | _ => none }
def ClockSplitsWrongFalsely : Prop := clockSplitsRow.holds Try.pinned (OpenSpec.ofChange clockSplitsWrong)

/-- 'gannetlaw05.RamWraps': WHATEVER THE INPUT: true; the input reads as it did. -/
def ramWrapsSpec : ChangeSpec := { name := "ramWraps", fn := fun _ => fun
  | [d1, d2, d3] => { results := [.lit (.bool true)], args := [d1, d2, d3] }
  | _ => none }
def ramWrapsRow : OpenClaim := { program := "ytgkbpdcedighcaa", sum := "9a6b381c7a29d5ccb58f46998a0c4b4dd2dd459e6bc131e5f52f01d39bc66ef0", func := "gannet/gannetlaw05.RamWraps", spec := "ramWraps", inPlace := ["maps.clone"], apart := false }
def RamWrapsSaid : Prop := ramWrapsRow.holds Try.pinned (OpenSpec.ofChange ramWrapsSpec)

/-- ITS FALSE NEIGHBOUR: 'it returns false'. Refute it at one input. -/
def ramWrapsWrong : ChangeSpec := { name := "ramWraps", fn := fun _ => fun
  | [d1, d2, d3] => { results := [.lit (.bool false)], args := [d1, d2, d3] }
  | _ => none }
def RamWrapsWrongFalsely : Prop := ramWrapsRow.holds Try.pinned (OpenSpec.ofChange ramWrapsWrong)

/-- 'gannetlaw09.TimerCounts': WHATEVER THE INPUT: true; the input reads as it did. -/
def timerCountsSpec : ChangeSpec := { name := "timerCounts", fn := fun _ => fun
  | [d1, d2] => { results := [.lit (.bool true)], args := [d1, d2] }
  | _ => none }
def timerCountsRow : OpenClaim := { program := "ytgkbpdcedighcaa", sum := "9a6b381c7a29d5ccb58f46998a0c4b4dd2dd459e6bc131e5f52f01d39bc66ef0", func := "gannet/gannetlaw09.TimerCounts", spec := "timerCounts", unfollowed := true, recurses := true, apart := false }
def TimerCountsSaid : Prop := timerCountsRow.holds Try.pinned (OpenSpec.ofChange timerCountsSpec)

/-- ITS FALSE NEIGHBOUR: 'it returns false'. Refute it at one input. -/
def timerCountsWrong : ChangeSpec := { name := "timerCounts", fn := fun _ => fun
  | [d1, d2] => { results := [.lit (.bool false)], args := [d1, d2] }
  | _ => none }
def TimerCountsWrongFalsely : Prop := timerCountsRow.holds Try.pinned (OpenSpec.ofChange timerCountsWrong)

/-- 'gannetlaw09.TimerParts': WHATEVER THE INPUT: true; the input reads as it did. -/
def timerPartsSpec : ChangeSpec := { name := "timerParts", fn := fun _ => fun
  | [d1, d2, d3, d4] => { results := [.lit (.bool true)], args := [d1, d2, d3, d4] }
  | _ => none }
def timerPartsRow : OpenClaim := { program := "ytgkbpdcedighcaa", sum := "9a6b381c7a29d5ccb58f46998a0c4b4dd2dd459e6bc131e5f52f01d39bc66ef0", func := "gannet/gannetlaw09.TimerParts", spec := "timerParts", unfollowed := true, recurses := true, apart := false }
def TimerPartsSaid : Prop := timerPartsRow.holds Try.pinned (OpenSpec.ofChange timerPartsSpec)

/-- ITS FALSE NEIGHBOUR: 'it returns false'. Refute it at one input. -/
def timerPartsWrong : ChangeSpec := { name := "timerParts", fn := fun _ => fun
  | [d1, d2, d3, d4] => { results := [.lit (.bool false)], args := [d1, d2, d3, d4] }
  | _ => none }
def TimerPartsWrongFalsely : Prop := timerPartsRow.holds Try.pinned (OpenSpec.ofChange timerPartsWrong)

/-- 'gannetlaw09.TimerRounds': WHATEVER THE INPUT: true; the input reads as it did. -/
def timerRoundsSpec : ChangeSpec := { name := "timerRounds", fn := fun _ => fun
  | [d1, d2, d3] => { results := [.lit (.bool true)], args := [d1, d2, d3] }
  | _ => none }
def timerRoundsRow : OpenClaim := { program := "ytgkbpdcedighcaa", sum := "9a6b381c7a29d5ccb58f46998a0c4b4dd2dd459e6bc131e5f52f01d39bc66ef0", func := "gannet/gannetlaw09.TimerRounds", spec := "timerRounds", unfollowed := true, recurses := true, apart := false }
def TimerRoundsSaid : Prop := timerRoundsRow.holds Try.pinned (OpenSpec.ofChange timerRoundsSpec)

/-- ITS FALSE NEIGHBOUR: 'it returns false'. Refute it at one input. -/
def timerRoundsWrong : ChangeSpec := { name := "timerRounds", fn := fun _ => fun
  | [d1, d2, d3] => { results := [.lit (.bool false)], args := [d1, d2, d3] }
  | _ => none }
def TimerRoundsWrongFalsely : Prop := timerRoundsRow.holds Try.pinned (OpenSpec.ofChange timerRoundsWrong)

/-- 'gannetlaw09.TimerStands': WHATEVER THE INPUT: true; the input reads as it did. -/
def timerStandsSpec : ChangeSpec := { name := "timerStands", fn := fun _ => fun
  | [d1, d2] => { results := [.lit (.bool true)], args := [d1, d2] }
  | _ => none }
def timerStandsRow : OpenClaim := { program := "ytgkbpdcedighcaa", sum := "9a6b381c7a29d5ccb58f46998a0c4b4dd2dd459e6bc131e5f52f01d39bc66ef0", func := "gannet/gannetlaw09.TimerStands", spec := "timerStands", unfollowed := true, recurses := true, apart := false }
def TimerStandsSaid : Prop := timerStandsRow.holds Try.pinned (OpenSpec.ofChange timerStandsSpec)

/-- ITS FALSE NEIGHBOUR: 'it returns false'. Refute it at one input. -/
def timerStandsWrong : ChangeSpec := { name := "timerStands", fn := fun _ => fun
  | [d1, d2] => { results := [.lit (.bool false)], args := [d1, d2] }
  | _ => none }
def TimerStandsWrongFalsely : Prop := timerStandsRow.holds Try.pinned (OpenSpec.ofChange timerStandsWrong)

/-- 'gannetlaw05.RamHolds': WHATEVER THE INPUT: true; the input reads as it did. -/
def ramHoldsSpec : ChangeSpec := { name := "ramHolds", fn := fun _ => fun
  | [d1, d2, d3] => { results := [.lit (.bool true)], args := [d1, d2, d3] }
  | _ => none }
def ramHoldsRow : OpenClaim := { program := "ytgkbpdcedighcaa", sum := "9a6b381c7a29d5ccb58f46998a0c4b4dd2dd459e6bc131e5f52f01d39bc66ef0", func := "gannet/gannetlaw05.RamHolds", spec := "ramHolds", inPlace := ["maps.clone"], apart := false }
def RamHoldsSaid : Prop := ramHoldsRow.holds Try.pinned (OpenSpec.ofChange ramHoldsSpec)

/-- ITS FALSE NEIGHBOUR: 'it returns false'. Refute it at one input. -/
def ramHoldsWrong : ChangeSpec := { name := "ramHolds", fn := fun _ => fun
  | [d1, d2, d3] => { results := [.lit (.bool false)], args := [d1, d2, d3] }
  | _ => none }
def RamHoldsWrongFalsely : Prop := ramHoldsRow.holds Try.pinned (OpenSpec.ofChange ramHoldsWrong)

/-- 'gannetlaw05.RamBack': WHATEVER THE INPUT: true; the input reads as it did. -/
def ramBackSpec : ChangeSpec := { name := "ramBack", fn := fun _ => fun
  | [d1, d2] => { results := [.lit (.bool true)], args := [d1, d2] }
  | _ => none }
def ramBackRow : OpenClaim := { program := "ytgkbpdcedighcaa", sum := "9a6b381c7a29d5ccb58f46998a0c4b4dd2dd459e6bc131e5f52f01d39bc66ef0", func := "gannet/gannetlaw05.RamBack", spec := "ramBack", inPlace := ["maps.clone"], apart := false }
def RamBackSaid : Prop := ramBackRow.holds Try.pinned (OpenSpec.ofChange ramBackSpec)

/-- ITS FALSE NEIGHBOUR: 'it returns false'. Refute it at one input. -/
def ramBackWrong : ChangeSpec := { name := "ramBack", fn := fun _ => fun
  | [d1, d2] => { results := [.lit (.bool false)], args := [d1, d2] }
  | _ => none }
def RamBackWrongFalsely : Prop := ramBackRow.holds Try.pinned (OpenSpec.ofChange ramBackWrong)

/-- 'gannettop.TopStamped': WHATEVER THE INPUT: true; the input reads as it did. -/
def topStampedSpec : ChangeSpec := { name := "topStamped", fn := fun _ => fun
  | [d1, d2, d3] => { results := [.lit (.bool true)], args := [d1, d2, d3] }
  | _ => none }
def topStampedRow : OpenClaim := { program := "ytgkbpdcedighcaa", sum := "9a6b381c7a29d5ccb58f46998a0c4b4dd2dd459e6bc131e5f52f01d39bc66ef0", func := "gannet/gannettop.TopStamped", spec := "topStamped", apart := false }
def TopStampedSaid : Prop := topStampedRow.holds Try.pinned (OpenSpec.ofChange topStampedSpec)

/-- ITS FALSE NEIGHBOUR: 'it returns false'. Refute it at one input. -/
def topStampedWrong : ChangeSpec := { name := "topStamped", fn := fun _ => fun
  | [d1, d2, d3] => { results := [.lit (.bool false)], args := [d1, d2, d3] }
  | _ => none }
def TopStampedWrongFalsely : Prop := topStampedRow.holds Try.pinned (OpenSpec.ofChange topStampedWrong)

/- THE SECOND FORM. 'bulk': how many values and letters a reading holds, each counted each time it is reached (what is shared counts as often as it is met; a slice's spare places count too). A statement '..UptoSaid' is the law's where the arguments, and the package variables that the reading takes, are together of bulk at most 1048576: NARROWER than '..Said'. Prove '..Said' where nothing that the law and all that it calls make is longer than what came in: it says more and counts as full. Else prove '..UptoSaid'. A law counts once. -/
mutual
def uptoBulk {H : Type} : DataW H → Nat
  | .lit (.string bytes) => bytes.length + 1
  | .lit _ => 1
  | .nil => 1
  | .ptr d => uptoBulk d + 1
  | .slice elems spare => uptoBulkAll elems + uptoBulkAll spare + 1
  | .agg parts => uptoBulkAll parts + 1
  | .iface _ d => uptoBulk d + 1
  | .map entries => uptoBulkEntries entries + 1
  | .held _ => 1
def uptoBulkAll {H : Type} : List (DataW H) → Nat
  | [] => 0
  | d :: r => uptoBulk d + uptoBulkAll r
def uptoBulkEntries {H : Type} : List (Lit × DataW H) → Nat
  | [] => 0
  | x :: r => uptoBulkEntry x + uptoBulkEntries r
def uptoBulkEntry {H : Type} : Lit × DataW H → Nat
  | (.string bytes, d) => bytes.length + uptoBulk d + 1
  | (_, d) => uptoBulk d + 1
 end
def uptoSmall : (H : Type) → List (DataW H) → Bool := fun _ ds => decide (uptoBulkAll ds ≤ 1048576)
def OpenSpec.upto (s : _root_.Go.ChangeSpec) : _root_.Go.OpenSpec := { _root_.Go.OpenSpec.ofChange s with cond := some uptoSmall }

/-- 'gannetlaw02.ClockRuns', WHERE WHAT IT READS IS OF BULK AT MOST 1048576: true; the input reads as it did. -/
def clockRunsUptoRow : OpenClaim := { program := "ytgkbpdcedighcaa", sum := "9a6b381c7a29d5ccb58f46998a0c4b4dd2dd459e6bc131e5f52f01d39bc66ef0", func := "gannet/gannetlaw02.ClockRuns", spec := "clockRuns", apart := false, narrowed := true }
def ClockRunsUptoSaid : Prop := clockRunsUptoRow.holds Try.pinned (OpenSpec.upto clockRunsSpec)

/-- 'gannetlaw02.ClockRises', WHERE WHAT IT READS IS OF BULK AT MOST 1048576: true; the input reads as it did. -/
def clockRisesUptoRow : OpenClaim := { program := "ytgkbpdcedighcaa", sum := "9a6b381c7a29d5ccb58f46998a0c4b4dd2dd459e6bc131e5f52f01d39bc66ef0", func := "gannet/gannetlaw02.ClockRises", spec := "clockRises", apart := false, narrowed := true }
def ClockRisesUptoSaid : Prop := clockRisesUptoRow.holds Try.pinned (OpenSpec.upto clockRisesSpec)

/-- 'gannetlaw02.ClockStamps', WHERE WHAT IT READS IS OF BULK AT MOST 1048576: true; the input reads as it did. -/
def clockStampsUptoRow : OpenClaim := { program := "ytgkbpdcedighcaa", sum := "9a6b381c7a29d5ccb58f46998a0c4b4dd2dd459e6bc131e5f52f01d39bc66ef0", func := "gannet/gannetlaw02.ClockStamps", spec := "clockStamps", apart := false, narrowed := true }
def ClockStampsUptoSaid : Prop := clockStampsUptoRow.holds Try.pinned (OpenSpec.upto clockStampsSpec)

/-- 'gannetlaw02.ClockSplits', WHERE WHAT IT READS IS OF BULK AT MOST 1048576: true; the input reads as it did. -/
def clockSplitsUptoRow : OpenClaim := { program := "ytgkbpdcedighcaa", sum := "9a6b381c7a29d5ccb58f46998a0c4b4dd2dd459e6bc131e5f52f01d39bc66ef0", func := "gannet/gannetlaw02.ClockSplits", spec := "clockSplits", apart := false, narrowed := true }
def ClockSplitsUptoSaid : Prop := clockSplitsUptoRow.holds Try.pinned (OpenSpec.upto clockSplitsSpec)

/-- 'gannetlaw05.RamWraps', WHERE WHAT IT READS IS OF BULK AT MOST 1048576: true; the input reads as it did. -/
def ramWrapsUptoRow : OpenClaim := { program := "ytgkbpdcedighcaa", sum := "9a6b381c7a29d5ccb58f46998a0c4b4dd2dd459e6bc131e5f52f01d39bc66ef0", func := "gannet/gannetlaw05.RamWraps", spec := "ramWraps", inPlace := ["maps.clone"], apart := false, narrowed := true }
def RamWrapsUptoSaid : Prop := ramWrapsUptoRow.holds Try.pinned (OpenSpec.upto ramWrapsSpec)

/-- 'gannetlaw09.TimerCounts', WHERE WHAT IT READS IS OF BULK AT MOST 1048576: true; the input reads as it did. -/
def timerCountsUptoRow : OpenClaim := { program := "ytgkbpdcedighcaa", sum := "9a6b381c7a29d5ccb58f46998a0c4b4dd2dd459e6bc131e5f52f01d39bc66ef0", func := "gannet/gannetlaw09.TimerCounts", spec := "timerCounts", unfollowed := true, recurses := true, apart := false, narrowed := true }
def TimerCountsUptoSaid : Prop := timerCountsUptoRow.holds Try.pinned (OpenSpec.upto timerCountsSpec)

/-- 'gannetlaw09.TimerParts', WHERE WHAT IT READS IS OF BULK AT MOST 1048576: true; the input reads as it did. -/
def timerPartsUptoRow : OpenClaim := { program := "ytgkbpdcedighcaa", sum := "9a6b381c7a29d5ccb58f46998a0c4b4dd2dd459e6bc131e5f52f01d39bc66ef0", func := "gannet/gannetlaw09.TimerParts", spec := "timerParts", unfollowed := true, recurses := true, apart := false, narrowed := true }
def TimerPartsUptoSaid : Prop := timerPartsUptoRow.holds Try.pinned (OpenSpec.upto timerPartsSpec)

/-- 'gannetlaw09.TimerRounds', WHERE WHAT IT READS IS OF BULK AT MOST 1048576: true; the input reads as it did. -/
def timerRoundsUptoRow : OpenClaim := { program := "ytgkbpdcedighcaa", sum := "9a6b381c7a29d5ccb58f46998a0c4b4dd2dd459e6bc131e5f52f01d39bc66ef0", func := "gannet/gannetlaw09.TimerRounds", spec := "timerRounds", unfollowed := true, recurses := true, apart := false, narrowed := true }
def TimerRoundsUptoSaid : Prop := timerRoundsUptoRow.holds Try.pinned (OpenSpec.upto timerRoundsSpec)

/-- 'gannetlaw09.TimerStands', WHERE WHAT IT READS IS OF BULK AT MOST 1048576: true; the input reads as it did. -/
def timerStandsUptoRow : OpenClaim := { program := "ytgkbpdcedighcaa", sum := "9a6b381c7a29d5ccb58f46998a0c4b4dd2dd459e6bc131e5f52f01d39bc66ef0", func := "gannet/gannetlaw09.TimerStands", spec := "timerStands", unfollowed := true, recurses := true, apart := false, narrowed := true }
def TimerStandsUptoSaid : Prop := timerStandsUptoRow.holds Try.pinned (OpenSpec.upto timerStandsSpec)

/-- 'gannetlaw05.RamHolds', WHERE WHAT IT READS IS OF BULK AT MOST 1048576: true; the input reads as it did. -/
def ramHoldsUptoRow : OpenClaim := { program := "ytgkbpdcedighcaa", sum := "9a6b381c7a29d5ccb58f46998a0c4b4dd2dd459e6bc131e5f52f01d39bc66ef0", func := "gannet/gannetlaw05.RamHolds", spec := "ramHolds", inPlace := ["maps.clone"], apart := false, narrowed := true }
def RamHoldsUptoSaid : Prop := ramHoldsUptoRow.holds Try.pinned (OpenSpec.upto ramHoldsSpec)

/-- 'gannetlaw05.RamBack', WHERE WHAT IT READS IS OF BULK AT MOST 1048576: true; the input reads as it did. -/
def ramBackUptoRow : OpenClaim := { program := "ytgkbpdcedighcaa", sum := "9a6b381c7a29d5ccb58f46998a0c4b4dd2dd459e6bc131e5f52f01d39bc66ef0", func := "gannet/gannetlaw05.RamBack", spec := "ramBack", inPlace := ["maps.clone"], apart := false, narrowed := true }
def RamBackUptoSaid : Prop := ramBackUptoRow.holds Try.pinned (OpenSpec.upto ramBackSpec)

/-- 'gannettop.TopStamped', WHERE WHAT IT READS IS OF BULK AT MOST 1048576: true; the input reads as it did. -/
def topStampedUptoRow : OpenClaim := { program := "ytgkbpdcedighcaa", sum := "9a6b381c7a29d5ccb58f46998a0c4b4dd2dd459e6bc131e5f52f01d39bc66ef0", func := "gannet/gannettop.TopStamped", spec := "topStamped", apart := false, narrowed := true }
def TopStampedUptoSaid : Prop := topStampedUptoRow.holds Try.pinned (OpenSpec.upto topStampedSpec)

end Rows
end Go.Proofs.Ytgkbpdcedighcaa
