/-
  No cell of these rows narrows 'for every input' (looked for: loops, veiled, ifaces, maps, wideKeys, modest, calm, conditions, laid).
  DERIVED. THE GIVEN ROWS OF THIS SEAT. 12 by the template 'for every input the law returns true; each argument reads behind the call as it read before'; 0 by the template 'total and deterministic' (their statements: YtgkbpdcedighcacTotals.lean).
  GIVEN WITH THE SEED: the statements are not yours to turn. If you find one false, say at which input.
  Laid BY PROGRAM, IN A SANDBOX (cutbox-rows.mjs): the forced cells as the released guide's own fill.sh prints them over the translation fac9bc4d1eeb466e… (all of the seat's roots in one cut). By AI agents, Wed Nov 11 2026. No macro, syntax, notation, axiom, sorry.
-/
import Derived.Test.YtgkbpdcedighcacChecked
import GoSem.Claim
import GoSem.ClaimJoined
import GoSem.ClaimMapViews
import Derived.JoinedTies
import Derived.KernelRfl
namespace Go.Proofs.Ytgkbpdcedighcac
/- THE CELL 'sum', in the pinned program and in every row, IS THE sha256 OF THE DUMP (.gsa) THAT YtgkbpdcedighcacProg.lean LOADS. Nothing in Lean hashes anything: it is a label: what it is worth is what the hold of that sum in a sandbox is worth. -/
noncomputable def Try.pinned : Pinned := { name := "ytgkbpdcedighcac", sum := "fac9bc4d1eeb466ee9427a9ed6dbb3e34c3ef23bccf58958d688274edaabe663", checked := Try.checked }
namespace Rows
def none {H : Type} : Left H := { results := [], args := [] }

/-- 'gannetlaw16.MixPowers': WHATEVER THE INPUT: true; the input reads as it did. -/
def mixPowersSpec : ChangeSpec := { name := "mixPowers", fn := fun _ => fun
  | [d1, d2, d3, d4] => { results := [.lit (.bool true)], args := [d1, d2, d3, d4] }
  | _ => none }
def mixPowersRow : OpenClaim := { program := "ytgkbpdcedighcac", sum := "fac9bc4d1eeb466ee9427a9ed6dbb3e34c3ef23bccf58958d688274edaabe663", func := "gannet/gannetlaw16.MixPowers", spec := "mixPowers", apart := false }
def MixPowersSaid : Prop := mixPowersRow.holds Try.pinned (OpenSpec.ofChange mixPowersSpec)

/-- ITS FALSE NEIGHBOUR: 'it returns false'. Refute it at one input. -/
def mixPowersWrong : ChangeSpec := { name := "mixPowers", fn := fun _ => fun
  | [d1, d2, d3, d4] => { results := [.lit (.bool false)], args := [d1, d2, d3, d4] }
  | _ => none }
def MixPowersWrongFalsely : Prop := mixPowersRow.holds Try.pinned (OpenSpec.ofChange mixPowersWrong)

/-- 'gannetlaw16.MixSums': WHATEVER THE INPUT: true; the input reads as it did. -/
def mixSumsSpec : ChangeSpec := { name := "mixSums", fn := fun _ => fun
  | [d1, d2, d3] => { results := [.lit (.bool true)], args := [d1, d2, d3] }
  | _ => none }
def mixSumsRow : OpenClaim := { program := "ytgkbpdcedighcac", sum := "fac9bc4d1eeb466ee9427a9ed6dbb3e34c3ef23bccf58958d688274edaabe663", func := "gannet/gannetlaw16.MixSums", spec := "mixSums", apart := false }
def MixSumsSaid : Prop := mixSumsRow.holds Try.pinned (OpenSpec.ofChange mixSumsSpec)

/-- ITS FALSE NEIGHBOUR: 'it returns false'. Refute it at one input. -/
def mixSumsWrong : ChangeSpec := { name := "mixSums", fn := fun _ => fun
  | [d1, d2, d3] => { results := [.lit (.bool false)], args := [d1, d2, d3] }
  | _ => none }
def MixSumsWrongFalsely : Prop := mixSumsRow.holds Try.pinned (OpenSpec.ofChange mixSumsWrong)

/-- 'gannetlaw16.MixChannels': WHATEVER THE INPUT: true; the input reads as it did. -/
def mixChannelsSpec : ChangeSpec := { name := "mixChannels", fn := fun _ => fun
  | [d] => { results := [.lit (.bool true)], args := [d] }
  | _ => none }
def mixChannelsRow : OpenClaim := { program := "ytgkbpdcedighcac", sum := "fac9bc4d1eeb466ee9427a9ed6dbb3e34c3ef23bccf58958d688274edaabe663", func := "gannet/gannetlaw16.MixChannels", spec := "mixChannels", apart := false }
def MixChannelsSaid : Prop := mixChannelsRow.holds Try.pinned (OpenSpec.ofChange mixChannelsSpec)

/-- ITS FALSE NEIGHBOUR: 'it returns false'. Refute it at one input. -/
def mixChannelsWrong : ChangeSpec := { name := "mixChannels", fn := fun _ => fun
  | [d] => { results := [.lit (.bool false)], args := [d] }
  | _ => none }
def MixChannelsWrongFalsely : Prop := mixChannelsRow.holds Try.pinned (OpenSpec.ofChange mixChannelsWrong)

/-- 'gannetlaw16.MixMiddle': WHATEVER THE INPUT: true; the input reads as it did. -/
def mixMiddleSpec : ChangeSpec := { name := "mixMiddle", fn := fun _ => fun
  | [d1, d2] => { results := [.lit (.bool true)], args := [d1, d2] }
  | _ => none }
def mixMiddleRow : OpenClaim := { program := "ytgkbpdcedighcac", sum := "fac9bc4d1eeb466ee9427a9ed6dbb3e34c3ef23bccf58958d688274edaabe663", func := "gannet/gannetlaw16.MixMiddle", spec := "mixMiddle", apart := false }
def MixMiddleSaid : Prop := mixMiddleRow.holds Try.pinned (OpenSpec.ofChange mixMiddleSpec)

/-- ITS FALSE NEIGHBOUR: 'it returns false'. Refute it at one input. -/
def mixMiddleWrong : ChangeSpec := { name := "mixMiddle", fn := fun _ => fun
  | [d1, d2] => { results := [.lit (.bool false)], args := [d1, d2] }
  | _ => none }
def MixMiddleWrongFalsely : Prop := mixMiddleRow.holds Try.pinned (OpenSpec.ofChange mixMiddleWrong)

/-- 'gannetlaw16.MixTurns': WHATEVER THE INPUT: true; the input reads as it did. -/
def mixTurnsSpec : ChangeSpec := { name := "mixTurns", fn := fun _ => fun
  | [d1, d2, d3] => { results := [.lit (.bool true)], args := [d1, d2, d3] }
  | _ => none }
def mixTurnsRow : OpenClaim := { program := "ytgkbpdcedighcac", sum := "fac9bc4d1eeb466ee9427a9ed6dbb3e34c3ef23bccf58958d688274edaabe663", func := "gannet/gannetlaw16.MixTurns", spec := "mixTurns", apart := false }
def MixTurnsSaid : Prop := mixTurnsRow.holds Try.pinned (OpenSpec.ofChange mixTurnsSpec)

/-- ITS FALSE NEIGHBOUR: 'it returns false'. Refute it at one input. -/
def mixTurnsWrong : ChangeSpec := { name := "mixTurns", fn := fun _ => fun
  | [d1, d2, d3] => { results := [.lit (.bool false)], args := [d1, d2, d3] }
  | _ => none }
def MixTurnsWrongFalsely : Prop := mixTurnsRow.holds Try.pinned (OpenSpec.ofChange mixTurnsWrong)

/-- 'gannetlaw14.WavePlays': WHATEVER THE INPUT: true; the input reads as it did. -/
def wavePlaysSpec : ChangeSpec := { name := "wavePlays", fn := fun _ => fun
  | [d1, d2] => { results := [.lit (.bool true)], args := [d1, d2] }
  | _ => none }
def wavePlaysRow : OpenClaim := { program := "ytgkbpdcedighcac", sum := "fac9bc4d1eeb466ee9427a9ed6dbb3e34c3ef23bccf58958d688274edaabe663", func := "gannet/gannetlaw14.WavePlays", spec := "wavePlays", unfollowed := true, recurses := true, apart := false }
def WavePlaysSaid : Prop := wavePlaysRow.holds Try.pinned (OpenSpec.ofChange wavePlaysSpec)

/-- ITS FALSE NEIGHBOUR: 'it returns false'. Refute it at one input. -/
def wavePlaysWrong : ChangeSpec := { name := "wavePlays", fn := fun _ => fun
  | [d1, d2] => { results := [.lit (.bool false)], args := [d1, d2] }
  | _ => none }
def WavePlaysWrongFalsely : Prop := wavePlaysRow.holds Try.pinned (OpenSpec.ofChange wavePlaysWrong)

/-- 'gannetlaw14.WaveParts': WHATEVER THE INPUT: true; the input reads as it did. -/
def wavePartsSpec : ChangeSpec := { name := "waveParts", fn := fun _ => fun
  | [d1, d2, d3] => { results := [.lit (.bool true)], args := [d1, d2, d3] }
  | _ => none }
def wavePartsRow : OpenClaim := { program := "ytgkbpdcedighcac", sum := "fac9bc4d1eeb466ee9427a9ed6dbb3e34c3ef23bccf58958d688274edaabe663", func := "gannet/gannetlaw14.WaveParts", spec := "waveParts", unfollowed := true, recurses := true, apart := false }
def WavePartsSaid : Prop := wavePartsRow.holds Try.pinned (OpenSpec.ofChange wavePartsSpec)

/-- ITS FALSE NEIGHBOUR: 'it returns false'. Refute it at one input. -/
def wavePartsWrong : ChangeSpec := { name := "waveParts", fn := fun _ => fun
  | [d1, d2, d3] => { results := [.lit (.bool false)], args := [d1, d2, d3] }
  | _ => none }
def WavePartsWrongFalsely : Prop := wavePartsRow.holds Try.pinned (OpenSpec.ofChange wavePartsWrong)

/-- 'gannetlaw14.WaveRound': WHATEVER THE INPUT: true; the input reads as it did. -/
def waveRoundSpec : ChangeSpec := { name := "waveRound", fn := fun _ => fun
  | [d1, d2] => { results := [.lit (.bool true)], args := [d1, d2] }
  | _ => none }
def waveRoundRow : OpenClaim := { program := "ytgkbpdcedighcac", sum := "fac9bc4d1eeb466ee9427a9ed6dbb3e34c3ef23bccf58958d688274edaabe663", func := "gannet/gannetlaw14.WaveRound", spec := "waveRound", unfollowed := true, recurses := true, apart := false }
def WaveRoundSaid : Prop := waveRoundRow.holds Try.pinned (OpenSpec.ofChange waveRoundSpec)

/-- ITS FALSE NEIGHBOUR: 'it returns false'. Refute it at one input. -/
def waveRoundWrong : ChangeSpec := { name := "waveRound", fn := fun _ => fun
  | [d1, d2] => { results := [.lit (.bool false)], args := [d1, d2] }
  | _ => none }
def WaveRoundWrongFalsely : Prop := waveRoundRow.holds Try.pinned (OpenSpec.ofChange waveRoundWrong)

/-- 'gannetlaw37.SoundPlays': WHATEVER THE INPUT: true; the input reads as it did. -/
def soundPlaysSpec : ChangeSpec := { name := "soundPlays", fn := fun _ => fun
  | [d] => { results := [.lit (.bool true)], args := [d] }
  | _ => none }
def soundPlaysRow : OpenClaim := { program := "ytgkbpdcedighcac", sum := "fac9bc4d1eeb466ee9427a9ed6dbb3e34c3ef23bccf58958d688274edaabe663", func := "gannet/gannetlaw37.SoundPlays", spec := "soundPlays", unfollowed := true, recurses := true, apart := false }
def SoundPlaysSaid : Prop := soundPlaysRow.holds Try.pinned (OpenSpec.ofChange soundPlaysSpec)

/-- ITS FALSE NEIGHBOUR: 'it returns false'. Refute it at one input. -/
def soundPlaysWrong : ChangeSpec := { name := "soundPlays", fn := fun _ => fun
  | [d] => { results := [.lit (.bool false)], args := [d] }
  | _ => none }
def SoundPlaysWrongFalsely : Prop := soundPlaysRow.holds Try.pinned (OpenSpec.ofChange soundPlaysWrong)

/-- 'gannetlaw37.SoundLater': WHATEVER THE INPUT: true; the input reads as it did. -/
def soundLaterSpec : ChangeSpec := { name := "soundLater", fn := fun _ => fun
  | [d1, d2, d3, d4] => { results := [.lit (.bool true)], args := [d1, d2, d3, d4] }
  | _ => none }
def soundLaterRow : OpenClaim := { program := "ytgkbpdcedighcac", sum := "fac9bc4d1eeb466ee9427a9ed6dbb3e34c3ef23bccf58958d688274edaabe663", func := "gannet/gannetlaw37.SoundLater", spec := "soundLater", unfollowed := true, recurses := true, apart := false }
def SoundLaterSaid : Prop := soundLaterRow.holds Try.pinned (OpenSpec.ofChange soundLaterSpec)

/-- ITS FALSE NEIGHBOUR: 'it returns false'. Refute it at one input. -/
def soundLaterWrong : ChangeSpec := { name := "soundLater", fn := fun _ => fun
  | [d1, d2, d3, d4] => { results := [.lit (.bool false)], args := [d1, d2, d3, d4] }
  | _ => none }
def SoundLaterWrongFalsely : Prop := soundLaterRow.holds Try.pinned (OpenSpec.ofChange soundLaterWrong)

/-- 'gannetlaw37.SoundTones': WHATEVER THE INPUT: true; the input reads as it did. -/
def soundTonesSpec : ChangeSpec := { name := "soundTones", fn := fun _ => fun
  | [d] => { results := [.lit (.bool true)], args := [d] }
  | _ => none }
def soundTonesRow : OpenClaim := { program := "ytgkbpdcedighcac", sum := "fac9bc4d1eeb466ee9427a9ed6dbb3e34c3ef23bccf58958d688274edaabe663", func := "gannet/gannetlaw37.SoundTones", spec := "soundTones", unfollowed := true, recurses := true, apart := false }
def SoundTonesSaid : Prop := soundTonesRow.holds Try.pinned (OpenSpec.ofChange soundTonesSpec)

/-- ITS FALSE NEIGHBOUR: 'it returns false'. Refute it at one input. -/
def soundTonesWrong : ChangeSpec := { name := "soundTones", fn := fun _ => fun
  | [d] => { results := [.lit (.bool false)], args := [d] }
  | _ => none }
def SoundTonesWrongFalsely : Prop := soundTonesRow.holds Try.pinned (OpenSpec.ofChange soundTonesWrong)

/-- 'gannettop.TopMoved': WHATEVER THE INPUT: true; the input reads as it did. -/
def topMovedSpec : ChangeSpec := { name := "topMoved", fn := fun _ => fun
  | [d1, d2, d3, d4, d5] => { results := [.lit (.bool true)], args := [d1, d2, d3, d4, d5] }
  | _ => none }
def topMovedRow : OpenClaim := { program := "ytgkbpdcedighcac", sum := "fac9bc4d1eeb466ee9427a9ed6dbb3e34c3ef23bccf58958d688274edaabe663", func := "gannet/gannettop.TopMoved", spec := "topMoved", unfollowed := true, recurses := true, apart := false }
def TopMovedSaid : Prop := topMovedRow.holds Try.pinned (OpenSpec.ofChange topMovedSpec)

/-- ITS FALSE NEIGHBOUR: 'it returns false'. Refute it at one input. -/
def topMovedWrong : ChangeSpec := { name := "topMoved", fn := fun _ => fun
  | [d1, d2, d3, d4, d5] => { results := [.lit (.bool false)], args := [d1, d2, d3, d4, d5] }
  | _ => none }
def TopMovedWrongFalsely : Prop := topMovedRow.holds Try.pinned (OpenSpec.ofChange topMovedWrong)

/- THE SECOND FORM. 'bulk': how many values and letters a reading holds, each counted each time it is reached (what is shared counts as often as it is met; a slice's spare places count too). A statement '..UptoSaid' is the law's where the arguments, and the package variables that the reading takes, are together of bulk at most 1048576: NARROWER than '..Said'. Prove '..Said' where nothing that the law and all that it calls make is longer than what came in: it says more and counts as full. Else prove '..UptoSaid'. A law counts once. -/
mutual
def uptoBulk {H : Type} : DataW H → Nat
  | .lit (.string bytes) => bytes.length + 1
  | .lit _ => 1
  | .nil => 1
  | .ptr d => uptoBulk d + 1
  | .slice elems spare => uptoBulkAll elems + uptoBulkAll spare + 1
  | .agg parts => uptoBulkAll parts + 1
  | .iface _ d => uptoBulk d + 1
  | .map entries => uptoBulkEntries entries + 1
  | .held _ => 1
def uptoBulkAll {H : Type} : List (DataW H) → Nat
  | [] => 0
  | d :: r => uptoBulk d + uptoBulkAll r
def uptoBulkEntries {H : Type} : List (Lit × DataW H) → Nat
  | [] => 0
  | x :: r => uptoBulkEntry x + uptoBulkEntries r
def uptoBulkEntry {H : Type} : Lit × DataW H → Nat
  | (.string bytes, d) => bytes.length + uptoBulk d + 1
  | (_, d) => uptoBulk d + 1
 end
def uptoSmall : (H : Type) → List (DataW H) → Bool := fun _ ds => decide (uptoBulkAll ds ≤ 1048576)
def OpenSpec.upto (s : _root_.Go.ChangeSpec) : _root_.Go.OpenSpec := { _root_.Go.OpenSpec.ofChange s with cond := some uptoSmall }

/-- 'gannetlaw16.MixPowers', WHERE WHAT IT READS IS OF BULK AT MOST 1048576: true; the input reads as it did. -/
def mixPowersUptoRow : OpenClaim := { program := "ytgkbpdcedighcac", sum := "fac9bc4d1eeb466ee9427a9ed6dbb3e34c3ef23bccf58958d688274edaabe663", func := "gannet/gannetlaw16.MixPowers", spec := "mixPowers", apart := false, narrowed := true }
def MixPowersUptoSaid : Prop := mixPowersUptoRow.holds Try.pinned (OpenSpec.upto mixPowersSpec)

/-- 'gannetlaw16.MixSums', WHERE WHAT IT READS IS OF BULK AT MOST 1048576: true; the input reads as it did. -/
def mixSumsUptoRow : OpenClaim := { program := "ytgkbpdcedighcac", sum := "fac9bc4d1eeb466ee9427a9ed6dbb3e34c3ef23bccf58958d688274edaabe663", func := "gannet/gannetlaw16.MixSums", spec := "mixSums", apart := false, narrowed := true }
def MixSumsUptoSaid : Prop := mixSumsUptoRow.holds Try.pinned (OpenSpec.upto mixSumsSpec)

/-- 'gannetlaw16.MixChannels', WHERE WHAT IT READS IS OF BULK AT MOST 1048576: true; the input reads as it did. -/
def mixChannelsUptoRow : OpenClaim := { program := "ytgkbpdcedighcac", sum := "fac9bc4d1eeb466ee9427a9ed6dbb3e34c3ef23bccf58958d688274edaabe663", func := "gannet/gannetlaw16.MixChannels", spec := "mixChannels", apart := false, narrowed := true }
def MixChannelsUptoSaid : Prop := mixChannelsUptoRow.holds Try.pinned (OpenSpec.upto mixChannelsSpec)

/-- 'gannetlaw16.MixMiddle', WHERE WHAT IT READS IS OF BULK AT MOST 1048576: true; the input reads as it did. -/
def mixMiddleUptoRow : OpenClaim := { program := "ytgkbpdcedighcac", sum := "fac9bc4d1eeb466ee9427a9ed6dbb3e34c3ef23bccf58958d688274edaabe663", func := "gannet/gannetlaw16.MixMiddle", spec := "mixMiddle", apart := false, narrowed := true }
def MixMiddleUptoSaid : Prop := mixMiddleUptoRow.holds Try.pinned (OpenSpec.upto mixMiddleSpec)

/-- 'gannetlaw16.MixTurns', WHERE WHAT IT READS IS OF BULK AT MOST 1048576: true; the input reads as it did. -/
def mixTurnsUptoRow : OpenClaim := { program := "ytgkbpdcedighcac", sum := "fac9bc4d1eeb466ee9427a9ed6dbb3e34c3ef23bccf58958d688274edaabe663", func := "gannet/gannetlaw16.MixTurns", spec := "mixTurns", apart := false, narrowed := true }
def MixTurnsUptoSaid : Prop := mixTurnsUptoRow.holds Try.pinned (OpenSpec.upto mixTurnsSpec)

/-- 'gannetlaw14.WavePlays', WHERE WHAT IT READS IS OF BULK AT MOST 1048576: true; the input reads as it did. -/
def wavePlaysUptoRow : OpenClaim := { program := "ytgkbpdcedighcac", sum := "fac9bc4d1eeb466ee9427a9ed6dbb3e34c3ef23bccf58958d688274edaabe663", func := "gannet/gannetlaw14.WavePlays", spec := "wavePlays", unfollowed := true, recurses := true, apart := false, narrowed := true }
def WavePlaysUptoSaid : Prop := wavePlaysUptoRow.holds Try.pinned (OpenSpec.upto wavePlaysSpec)

/-- 'gannetlaw14.WaveParts', WHERE WHAT IT READS IS OF BULK AT MOST 1048576: true; the input reads as it did. -/
def wavePartsUptoRow : OpenClaim := { program := "ytgkbpdcedighcac", sum := "fac9bc4d1eeb466ee9427a9ed6dbb3e34c3ef23bccf58958d688274edaabe663", func := "gannet/gannetlaw14.WaveParts", spec := "waveParts", unfollowed := true, recurses := true, apart := false, narrowed := true }
def WavePartsUptoSaid : Prop := wavePartsUptoRow.holds Try.pinned (OpenSpec.upto wavePartsSpec)

/-- 'gannetlaw14.WaveRound', WHERE WHAT IT READS IS OF BULK AT MOST 1048576: true; the input reads as it did. -/
def waveRoundUptoRow : OpenClaim := { program := "ytgkbpdcedighcac", sum := "fac9bc4d1eeb466ee9427a9ed6dbb3e34c3ef23bccf58958d688274edaabe663", func := "gannet/gannetlaw14.WaveRound", spec := "waveRound", unfollowed := true, recurses := true, apart := false, narrowed := true }
def WaveRoundUptoSaid : Prop := waveRoundUptoRow.holds Try.pinned (OpenSpec.upto waveRoundSpec)

/-- 'gannetlaw37.SoundPlays', WHERE WHAT IT READS IS OF BULK AT MOST 1048576: true; the input reads as it did. -/
def soundPlaysUptoRow : OpenClaim := { program := "ytgkbpdcedighcac", sum := "fac9bc4d1eeb466ee9427a9ed6dbb3e34c3ef23bccf58958d688274edaabe663", func := "gannet/gannetlaw37.SoundPlays", spec := "soundPlays", unfollowed := true, recurses := true, apart := false, narrowed := true }
def SoundPlaysUptoSaid : Prop := soundPlaysUptoRow.holds Try.pinned (OpenSpec.upto soundPlaysSpec)

/-- 'gannetlaw37.SoundLater', WHERE WHAT IT READS IS OF BULK AT MOST 1048576: true; the input reads as it did. -/
def soundLaterUptoRow : OpenClaim := { program := "ytgkbpdcedighcac", sum := "fac9bc4d1eeb466ee9427a9ed6dbb3e34c3ef23bccf58958d688274edaabe663", func := "gannet/gannetlaw37.SoundLater", spec := "soundLater", unfollowed := true, recurses := true, apart := false, narrowed := true }
def SoundLaterUptoSaid : Prop := soundLaterUptoRow.holds Try.pinned (OpenSpec.upto soundLaterSpec)

/-- 'gannetlaw37.SoundTones', WHERE WHAT IT READS IS OF BULK AT MOST 1048576: true; the input reads as it did. -/
def soundTonesUptoRow : OpenClaim := { program := "ytgkbpdcedighcac", sum := "fac9bc4d1eeb466ee9427a9ed6dbb3e34c3ef23bccf58958d688274edaabe663", func := "gannet/gannetlaw37.SoundTones", spec := "soundTones", unfollowed := true, recurses := true, apart := false, narrowed := true }
def SoundTonesUptoSaid : Prop := soundTonesUptoRow.holds Try.pinned (OpenSpec.upto soundTonesSpec)

/-- 'gannettop.TopMoved', WHERE WHAT IT READS IS OF BULK AT MOST 1048576: true; the input reads as it did. -/
def topMovedUptoRow : OpenClaim := { program := "ytgkbpdcedighcac", sum := "fac9bc4d1eeb466ee9427a9ed6dbb3e34c3ef23bccf58958d688274edaabe663", func := "gannet/gannettop.TopMoved", spec := "topMoved", unfollowed := true, recurses := true, apart := false, narrowed := true }
def TopMovedUptoSaid : Prop := topMovedUptoRow.holds Try.pinned (OpenSpec.upto topMovedSpec)

end Rows
end Go.Proofs.Ytgkbpdcedighcac
