/-
  No cell of these rows narrows 'for every input' (looked for: loops, veiled, ifaces, maps, wideKeys, modest, calm, conditions, laid).
  DERIVED. THE GIVEN ROWS OF THIS SEAT. 12 by the template 'for every input the law returns true; each argument reads behind the call as it read before'; 0 by the template 'total and deterministic' (their statements: YtgkbpdcedighcabTotals.lean).
  GIVEN WITH THE SEED: the statements are not yours to turn. If you find one false, say at which input.
  Laid BY PROGRAM, IN A SANDBOX (cutbox-rows.mjs): the forced cells as the released guide's own fill.sh prints them over the translation 60476b485d435170… (all of the seat's roots in one cut). By AI agents, Wed Nov 11 2026. No macro, syntax, notation, axiom, sorry.
-/
import Derived.Test.YtgkbpdcedighcabChecked
import GoSem.Claim
import GoSem.ClaimJoined
import GoSem.ClaimMapViews
import Derived.JoinedTies
import Derived.KernelRfl
namespace Go.Proofs.Ytgkbpdcedighcab
/- THE CELL 'sum', in the pinned program and in every row, IS THE sha256 OF THE DUMP (.gsa) THAT YtgkbpdcedighcabProg.lean LOADS. Nothing in Lean hashes anything: it is a label: what it is worth is what the hold of that sum in a sandbox is worth. -/
noncomputable def Try.pinned : Pinned := { name := "ytgkbpdcedighcab", sum := "60476b485d43517074bfa266adda6798bfbbb5d998f8fbcd5c09d311f8f56fc9", checked := Try.checked }
namespace Rows
def none {H : Type} : Left H := { results := [], args := [] }

/-- 'gannetlaw17.TurnsBack': WHATEVER THE INPUT: true; the input reads as it did. -/
def turnsBackSpec : ChangeSpec := { name := "turnsBack", fn := fun _ => fun
  | [d1, d2] => { results := [.lit (.bool true)], args := [d1, d2] }
  | _ => none }
def turnsBackRow : OpenClaim := { program := "ytgkbpdcedighcab", sum := "60476b485d43517074bfa266adda6798bfbbb5d998f8fbcd5c09d311f8f56fc9", func := "gannet/gannetlaw17.TurnsBack", spec := "turnsBack", unfollowed := true, recurses := true, apart := false }
def TurnsBackSaid : Prop := turnsBackRow.holds Try.pinned (OpenSpec.ofChange turnsBackSpec)

/-- ITS FALSE NEIGHBOUR: 'it returns false'. Refute it at one input. -/
def turnsBackWrong : ChangeSpec := { name := "turnsBack", fn := fun _ => fun
  | [d1, d2] => { results := [.lit (.bool false)], args := [d1, d2] }
  | _ => none }
def TurnsBackWrongFalsely : Prop := turnsBackRow.holds Try.pinned (OpenSpec.ofChange turnsBackWrong)

/-- 'gannetlaw17.TurnsLater': WHATEVER THE INPUT: true; the input reads as it did. -/
def turnsLaterSpec : ChangeSpec := { name := "turnsLater", fn := fun _ => fun
  | [d1, d2] => { results := [.lit (.bool true)], args := [d1, d2] }
  | _ => none }
def turnsLaterRow : OpenClaim := { program := "ytgkbpdcedighcab", sum := "60476b485d43517074bfa266adda6798bfbbb5d998f8fbcd5c09d311f8f56fc9", func := "gannet/gannetlaw17.TurnsLater", spec := "turnsLater", unfollowed := true, recurses := true, apart := false }
def TurnsLaterSaid : Prop := turnsLaterRow.holds Try.pinned (OpenSpec.ofChange turnsLaterSpec)

/-- ITS FALSE NEIGHBOUR: 'it returns false'. Refute it at one input. -/
def turnsLaterWrong : ChangeSpec := { name := "turnsLater", fn := fun _ => fun
  | [d1, d2] => { results := [.lit (.bool false)], args := [d1, d2] }
  | _ => none }
def TurnsLaterWrongFalsely : Prop := turnsLaterRow.holds Try.pinned (OpenSpec.ofChange turnsLaterWrong)

/-- 'gannetlaw17.TurnsWave': WHATEVER THE INPUT: true; the input reads as it did. -/
def turnsWaveSpec : ChangeSpec := { name := "turnsWave", fn := fun _ => fun
  | [d] => { results := [.lit (.bool true)], args := [d] }
  | _ => none }
def turnsWaveRow : OpenClaim := { program := "ytgkbpdcedighcab", sum := "60476b485d43517074bfa266adda6798bfbbb5d998f8fbcd5c09d311f8f56fc9", func := "gannet/gannetlaw17.TurnsWave", spec := "turnsWave", unfollowed := true, recurses := true, apart := false }
def TurnsWaveSaid : Prop := turnsWaveRow.holds Try.pinned (OpenSpec.ofChange turnsWaveSpec)

/-- ITS FALSE NEIGHBOUR: 'it returns false'. Refute it at one input. -/
def turnsWaveWrong : ChangeSpec := { name := "turnsWave", fn := fun _ => fun
  | [d] => { results := [.lit (.bool false)], args := [d] }
  | _ => none }
def TurnsWaveWrongFalsely : Prop := turnsWaveRow.holds Try.pinned (OpenSpec.ofChange turnsWaveWrong)

/-- 'gannetlaw17.TurnsRound': WHATEVER THE INPUT: true; the input reads as it did. -/
def turnsRoundSpec : ChangeSpec := { name := "turnsRound", fn := fun _ => fun
  | [d1, d2] => { results := [.lit (.bool true)], args := [d1, d2] }
  | _ => none }
def turnsRoundRow : OpenClaim := { program := "ytgkbpdcedighcab", sum := "60476b485d43517074bfa266adda6798bfbbb5d998f8fbcd5c09d311f8f56fc9", func := "gannet/gannetlaw17.TurnsRound", spec := "turnsRound", unfollowed := true, recurses := true, apart := false }
def TurnsRoundSaid : Prop := turnsRoundRow.holds Try.pinned (OpenSpec.ofChange turnsRoundSpec)

/-- ITS FALSE NEIGHBOUR: 'it returns false'. Refute it at one input. -/
def turnsRoundWrong : ChangeSpec := { name := "turnsRound", fn := fun _ => fun
  | [d1, d2] => { results := [.lit (.bool false)], args := [d1, d2] }
  | _ => none }
def TurnsRoundWrongFalsely : Prop := turnsRoundRow.holds Try.pinned (OpenSpec.ofChange turnsRoundWrong)

/-- 'gannettop.TopProduct': WHATEVER THE INPUT: true; the input reads as it did. -/
def topProductSpec : ChangeSpec := { name := "topProduct", fn := fun _ => fun
  | [d1, d2] => { results := [.lit (.bool true)], args := [d1, d2] }
  | _ => none }
def topProductRow : OpenClaim := { program := "ytgkbpdcedighcab", sum := "60476b485d43517074bfa266adda6798bfbbb5d998f8fbcd5c09d311f8f56fc9", func := "gannet/gannettop.TopProduct", spec := "topProduct", unfollowed := true, recurses := true, apart := false }
def TopProductSaid : Prop := topProductRow.holds Try.pinned (OpenSpec.ofChange topProductSpec)

/-- ITS FALSE NEIGHBOUR: 'it returns false'. Refute it at one input. -/
def topProductWrong : ChangeSpec := { name := "topProduct", fn := fun _ => fun
  | [d1, d2] => { results := [.lit (.bool false)], args := [d1, d2] }
  | _ => none }
def TopProductWrongFalsely : Prop := topProductRow.holds Try.pinned (OpenSpec.ofChange topProductWrong)

/-- 'gannetlaw13.NoiseSteps': WHATEVER THE INPUT: true; the input reads as it did. -/
def noiseStepsSpec : ChangeSpec := { name := "noiseSteps", fn := fun _ => fun
  | [d1, d2] => { results := [.lit (.bool true)], args := [d1, d2] }
  | _ => none }
def noiseStepsRow : OpenClaim := { program := "ytgkbpdcedighcab", sum := "60476b485d43517074bfa266adda6798bfbbb5d998f8fbcd5c09d311f8f56fc9", func := "gannet/gannetlaw13.NoiseSteps", spec := "noiseSteps", unfollowed := true, recurses := true, apart := false }
def NoiseStepsSaid : Prop := noiseStepsRow.holds Try.pinned (OpenSpec.ofChange noiseStepsSpec)

/-- ITS FALSE NEIGHBOUR: 'it returns false'. Refute it at one input. -/
def noiseStepsWrong : ChangeSpec := { name := "noiseSteps", fn := fun _ => fun
  | [d1, d2] => { results := [.lit (.bool false)], args := [d1, d2] }
  | _ => none }
def NoiseStepsWrongFalsely : Prop := noiseStepsRow.holds Try.pinned (OpenSpec.ofChange noiseStepsWrong)

/-- 'gannetlaw13.NoiseJumps': WHATEVER THE INPUT: true; the input reads as it did. -/
def noiseJumpsSpec : ChangeSpec := { name := "noiseJumps", fn := fun _ => fun
  | [d1, d2, d3] => { results := [.lit (.bool true)], args := [d1, d2, d3] }
  | _ => none }
def noiseJumpsRow : OpenClaim := { program := "ytgkbpdcedighcab", sum := "60476b485d43517074bfa266adda6798bfbbb5d998f8fbcd5c09d311f8f56fc9", func := "gannet/gannetlaw13.NoiseJumps", spec := "noiseJumps", unfollowed := true, recurses := true, apart := false }
def NoiseJumpsSaid : Prop := noiseJumpsRow.holds Try.pinned (OpenSpec.ofChange noiseJumpsSpec)

/-- ITS FALSE NEIGHBOUR: 'it returns false'. Refute it at one input. -/
def noiseJumpsWrong : ChangeSpec := { name := "noiseJumps", fn := fun _ => fun
  | [d1, d2, d3] => { results := [.lit (.bool false)], args := [d1, d2, d3] }
  | _ => none }
def NoiseJumpsWrongFalsely : Prop := noiseJumpsRow.holds Try.pinned (OpenSpec.ofChange noiseJumpsWrong)

/-- 'gannetlaw13.NoiseLinear': WHATEVER THE INPUT: true; the input reads as it did. -/
def noiseLinearSpec : ChangeSpec := { name := "noiseLinear", fn := fun _ => fun
  | [d1, d2, d3] => { results := [.lit (.bool true)], args := [d1, d2, d3] }
  | _ => none }
def noiseLinearRow : OpenClaim := { program := "ytgkbpdcedighcab", sum := "60476b485d43517074bfa266adda6798bfbbb5d998f8fbcd5c09d311f8f56fc9", func := "gannet/gannetlaw13.NoiseLinear", spec := "noiseLinear", unfollowed := true, recurses := true, apart := false }
def NoiseLinearSaid : Prop := noiseLinearRow.holds Try.pinned (OpenSpec.ofChange noiseLinearSpec)

/-- ITS FALSE NEIGHBOUR: 'it returns false'. Refute it at one input. -/
def noiseLinearWrong : ChangeSpec := { name := "noiseLinear", fn := fun _ => fun
  | [d1, d2, d3] => { results := [.lit (.bool false)], args := [d1, d2, d3] }
  | _ => none }
def NoiseLinearWrongFalsely : Prop := noiseLinearRow.holds Try.pinned (OpenSpec.ofChange noiseLinearWrong)

/-- 'gannetlaw13.NoiseGoes': WHATEVER THE INPUT: true; the input reads as it did. -/
def noiseGoesSpec : ChangeSpec := { name := "noiseGoes", fn := fun _ => fun
  | [d1, d2, d3] => { results := [.lit (.bool true)], args := [d1, d2, d3] }
  | _ => none }
def noiseGoesRow : OpenClaim := { program := "ytgkbpdcedighcab", sum := "60476b485d43517074bfa266adda6798bfbbb5d998f8fbcd5c09d311f8f56fc9", func := "gannet/gannetlaw13.NoiseGoes", spec := "noiseGoes", unfollowed := true, recurses := true, apart := false }
def NoiseGoesSaid : Prop := noiseGoesRow.holds Try.pinned (OpenSpec.ofChange noiseGoesSpec)

/-- ITS FALSE NEIGHBOUR: 'it returns false'. Refute it at one input. -/
def noiseGoesWrong : ChangeSpec := { name := "noiseGoes", fn := fun _ => fun
  | [d1, d2, d3] => { results := [.lit (.bool false)], args := [d1, d2, d3] }
  | _ => none }
def NoiseGoesWrongFalsely : Prop := noiseGoesRow.holds Try.pinned (OpenSpec.ofChange noiseGoesWrong)

/-- 'gannetlaw13.NoiseFar': WHATEVER THE INPUT: true; the input reads as it did. -/
def noiseFarSpec : ChangeSpec := { name := "noiseFar", fn := fun _ => fun
  | [d1, d2, d3] => { results := [.lit (.bool true)], args := [d1, d2, d3] }
  | _ => none }
def noiseFarRow : OpenClaim := { program := "ytgkbpdcedighcab", sum := "60476b485d43517074bfa266adda6798bfbbb5d998f8fbcd5c09d311f8f56fc9", func := "gannet/gannetlaw13.NoiseFar", spec := "noiseFar", unfollowed := true, recurses := true, apart := false }
def NoiseFarSaid : Prop := noiseFarRow.holds Try.pinned (OpenSpec.ofChange noiseFarSpec)

/-- ITS FALSE NEIGHBOUR: 'it returns false'. Refute it at one input. -/
def noiseFarWrong : ChangeSpec := { name := "noiseFar", fn := fun _ => fun
  | [d1, d2, d3] => { results := [.lit (.bool false)], args := [d1, d2, d3] }
  | _ => none }
def NoiseFarWrongFalsely : Prop := noiseFarRow.holds Try.pinned (OpenSpec.ofChange noiseFarWrong)

/-- 'gannettop.TopDecimals': WHATEVER THE INPUT: true; the input reads as it did. -/
def topDecimalsSpec : ChangeSpec := { name := "topDecimals", fn := fun _ => fun
  | [d1, d2] => { results := [.lit (.bool true)], args := [d1, d2] }
  | _ => none }
def topDecimalsRow : OpenClaim := { program := "ytgkbpdcedighcab", sum := "60476b485d43517074bfa266adda6798bfbbb5d998f8fbcd5c09d311f8f56fc9", func := "gannet/gannettop.TopDecimals", spec := "topDecimals", unfollowed := true, recurses := true, apart := false }
def TopDecimalsSaid : Prop := topDecimalsRow.holds Try.pinned (OpenSpec.ofChange topDecimalsSpec)

/-- ITS FALSE NEIGHBOUR: 'it returns false'. Refute it at one input. -/
def topDecimalsWrong : ChangeSpec := { name := "topDecimals", fn := fun _ => fun
  | [d1, d2] => { results := [.lit (.bool false)], args := [d1, d2] }
  | _ => none }
def TopDecimalsWrongFalsely : Prop := topDecimalsRow.holds Try.pinned (OpenSpec.ofChange topDecimalsWrong)

/-- 'gannetlaw17.TurnsTell': WHATEVER THE INPUT: true; the input reads as it did. -/
def turnsTellSpec : ChangeSpec := { name := "turnsTell", fn := fun _ => fun
  | [d] => { results := [.lit (.bool true)], args := [d] }
  | _ => none }
def turnsTellRow : OpenClaim := { program := "ytgkbpdcedighcab", sum := "60476b485d43517074bfa266adda6798bfbbb5d998f8fbcd5c09d311f8f56fc9", func := "gannet/gannetlaw17.TurnsTell", spec := "turnsTell", unfollowed := true, recurses := true, apart := false }
def TurnsTellSaid : Prop := turnsTellRow.holds Try.pinned (OpenSpec.ofChange turnsTellSpec)

/-- ITS FALSE NEIGHBOUR: 'it returns false'. Refute it at one input. -/
def turnsTellWrong : ChangeSpec := { name := "turnsTell", fn := fun _ => fun
  | [d] => { results := [.lit (.bool false)], args := [d] }
  | _ => none }
def TurnsTellWrongFalsely : Prop := turnsTellRow.holds Try.pinned (OpenSpec.ofChange turnsTellWrong)

/- THE SECOND FORM. 'bulk': how many values and letters a reading holds, each counted each time it is reached (what is shared counts as often as it is met; a slice's spare places count too). A statement '..UptoSaid' is the law's where the arguments, and the package variables that the reading takes, are together of bulk at most 1048576: NARROWER than '..Said'. Prove '..Said' where nothing that the law and all that it calls make is longer than what came in: it says more and counts as full. Else prove '..UptoSaid'. A law counts once. -/
mutual
def uptoBulk {H : Type} : DataW H → Nat
  | .lit (.string bytes) => bytes.length + 1
  | .lit _ => 1
  | .nil => 1
  | .ptr d => uptoBulk d + 1
  | .slice elems spare => uptoBulkAll elems + uptoBulkAll spare + 1
  | .agg parts => uptoBulkAll parts + 1
  | .iface _ d => uptoBulk d + 1
  | .map entries => uptoBulkEntries entries + 1
  | .held _ => 1
def uptoBulkAll {H : Type} : List (DataW H) → Nat
  | [] => 0
  | d :: r => uptoBulk d + uptoBulkAll r
def uptoBulkEntries {H : Type} : List (Lit × DataW H) → Nat
  | [] => 0
  | x :: r => uptoBulkEntry x + uptoBulkEntries r
def uptoBulkEntry {H : Type} : Lit × DataW H → Nat
  | (.string bytes, d) => bytes.length + uptoBulk d + 1
  | (_, d) => uptoBulk d + 1
 end
def uptoSmall : (H : Type) → List (DataW H) → Bool := fun _ ds => decide (uptoBulkAll ds ≤ 1048576)
def OpenSpec.upto (s : _root_.Go.ChangeSpec) : _root_.Go.OpenSpec := { _root_.Go.OpenSpec.ofChange s with cond := some uptoSmall }

/-- 'gannetlaw17.TurnsBack', WHERE WHAT IT READS IS OF BULK AT MOST 1048576: true; the input reads as it did. -/
def turnsBackUptoRow : OpenClaim := { program := "ytgkbpdcedighcab", sum := "60476b485d43517074bfa266adda6798bfbbb5d998f8fbcd5c09d311f8f56fc9", func := "gannet/gannetlaw17.TurnsBack", spec := "turnsBack", unfollowed := true, recurses := true, apart := false, narrowed := true }
def TurnsBackUptoSaid : Prop := turnsBackUptoRow.holds Try.pinned (OpenSpec.upto turnsBackSpec)

/-- 'gannetlaw17.TurnsLater', WHERE WHAT IT READS IS OF BULK AT MOST 1048576: true; the input reads as it did. -/
def turnsLaterUptoRow : OpenClaim := { program := "ytgkbpdcedighcab", sum := "60476b485d43517074bfa266adda6798bfbbb5d998f8fbcd5c09d311f8f56fc9", func := "gannet/gannetlaw17.TurnsLater", spec := "turnsLater", unfollowed := true, recurses := true, apart := false, narrowed := true }
def TurnsLaterUptoSaid : Prop := turnsLaterUptoRow.holds Try.pinned (OpenSpec.upto turnsLaterSpec)

/-- 'gannetlaw17.TurnsWave', WHERE WHAT IT READS IS OF BULK AT MOST 1048576: true; the input reads as it did. -/
def turnsWaveUptoRow : OpenClaim := { program := "ytgkbpdcedighcab", sum := "60476b485d43517074bfa266adda6798bfbbb5d998f8fbcd5c09d311f8f56fc9", func := "gannet/gannetlaw17.TurnsWave", spec := "turnsWave", unfollowed := true, recurses := true, apart := false, narrowed := true }
def TurnsWaveUptoSaid : Prop := turnsWaveUptoRow.holds Try.pinned (OpenSpec.upto turnsWaveSpec)

/-- 'gannetlaw17.TurnsRound', WHERE WHAT IT READS IS OF BULK AT MOST 1048576: true; the input reads as it did. -/
def turnsRoundUptoRow : OpenClaim := { program := "ytgkbpdcedighcab", sum := "60476b485d43517074bfa266adda6798bfbbb5d998f8fbcd5c09d311f8f56fc9", func := "gannet/gannetlaw17.TurnsRound", spec := "turnsRound", unfollowed := true, recurses := true, apart := false, narrowed := true }
def TurnsRoundUptoSaid : Prop := turnsRoundUptoRow.holds Try.pinned (OpenSpec.upto turnsRoundSpec)

/-- 'gannettop.TopProduct', WHERE WHAT IT READS IS OF BULK AT MOST 1048576: true; the input reads as it did. -/
def topProductUptoRow : OpenClaim := { program := "ytgkbpdcedighcab", sum := "60476b485d43517074bfa266adda6798bfbbb5d998f8fbcd5c09d311f8f56fc9", func := "gannet/gannettop.TopProduct", spec := "topProduct", unfollowed := true, recurses := true, apart := false, narrowed := true }
def TopProductUptoSaid : Prop := topProductUptoRow.holds Try.pinned (OpenSpec.upto topProductSpec)

/-- 'gannetlaw13.NoiseSteps', WHERE WHAT IT READS IS OF BULK AT MOST 1048576: true; the input reads as it did. -/
def noiseStepsUptoRow : OpenClaim := { program := "ytgkbpdcedighcab", sum := "60476b485d43517074bfa266adda6798bfbbb5d998f8fbcd5c09d311f8f56fc9", func := "gannet/gannetlaw13.NoiseSteps", spec := "noiseSteps", unfollowed := true, recurses := true, apart := false, narrowed := true }
def NoiseStepsUptoSaid : Prop := noiseStepsUptoRow.holds Try.pinned (OpenSpec.upto noiseStepsSpec)

/-- 'gannetlaw13.NoiseJumps', WHERE WHAT IT READS IS OF BULK AT MOST 1048576: true; the input reads as it did. -/
def noiseJumpsUptoRow : OpenClaim := { program := "ytgkbpdcedighcab", sum := "60476b485d43517074bfa266adda6798bfbbb5d998f8fbcd5c09d311f8f56fc9", func := "gannet/gannetlaw13.NoiseJumps", spec := "noiseJumps", unfollowed := true, recurses := true, apart := false, narrowed := true }
def NoiseJumpsUptoSaid : Prop := noiseJumpsUptoRow.holds Try.pinned (OpenSpec.upto noiseJumpsSpec)

/-- 'gannetlaw13.NoiseLinear', WHERE WHAT IT READS IS OF BULK AT MOST 1048576: true; the input reads as it did. -/
def noiseLinearUptoRow : OpenClaim := { program := "ytgkbpdcedighcab", sum := "60476b485d43517074bfa266adda6798bfbbb5d998f8fbcd5c09d311f8f56fc9", func := "gannet/gannetlaw13.NoiseLinear", spec := "noiseLinear", unfollowed := true, recurses := true, apart := false, narrowed := true }
def NoiseLinearUptoSaid : Prop := noiseLinearUptoRow.holds Try.pinned (OpenSpec.upto noiseLinearSpec)

/-- 'gannetlaw13.NoiseGoes', WHERE WHAT IT READS IS OF BULK AT MOST 1048576: true; the input reads as it did. -/
def noiseGoesUptoRow : OpenClaim := { program := "ytgkbpdcedighcab", sum := "60476b485d43517074bfa266adda6798bfbbb5d998f8fbcd5c09d311f8f56fc9", func := "gannet/gannetlaw13.NoiseGoes", spec := "noiseGoes", unfollowed := true, recurses := true, apart := false, narrowed := true }
def NoiseGoesUptoSaid : Prop := noiseGoesUptoRow.holds Try.pinned (OpenSpec.upto noiseGoesSpec)

/-- 'gannetlaw13.NoiseFar', WHERE WHAT IT READS IS OF BULK AT MOST 1048576: true; the input reads as it did. -/
def noiseFarUptoRow : OpenClaim := { program := "ytgkbpdcedighcab", sum := "60476b485d43517074bfa266adda6798bfbbb5d998f8fbcd5c09d311f8f56fc9", func := "gannet/gannetlaw13.NoiseFar", spec := "noiseFar", unfollowed := true, recurses := true, apart := false, narrowed := true }
def NoiseFarUptoSaid : Prop := noiseFarUptoRow.holds Try.pinned (OpenSpec.upto noiseFarSpec)

/-- 'gannettop.TopDecimals', WHERE WHAT IT READS IS OF BULK AT MOST 1048576: true; the input reads as it did. -/
def topDecimalsUptoRow : OpenClaim := { program := "ytgkbpdcedighcab", sum := "60476b485d43517074bfa266adda6798bfbbb5d998f8fbcd5c09d311f8f56fc9", func := "gannet/gannettop.TopDecimals", spec := "topDecimals", unfollowed := true, recurses := true, apart := false, narrowed := true }
def TopDecimalsUptoSaid : Prop := topDecimalsUptoRow.holds Try.pinned (OpenSpec.upto topDecimalsSpec)

/-- 'gannetlaw17.TurnsTell', WHERE WHAT IT READS IS OF BULK AT MOST 1048576: true; the input reads as it did. -/
def turnsTellUptoRow : OpenClaim := { program := "ytgkbpdcedighcab", sum := "60476b485d43517074bfa266adda6798bfbbb5d998f8fbcd5c09d311f8f56fc9", func := "gannet/gannetlaw17.TurnsTell", spec := "turnsTell", unfollowed := true, recurses := true, apart := false, narrowed := true }
def TurnsTellUptoSaid : Prop := turnsTellUptoRow.holds Try.pinned (OpenSpec.upto turnsTellSpec)

end Rows
end Go.Proofs.Ytgkbpdcedighcab
