/-
  No cell of these rows narrows 'for every input' (looked for: loops, veiled, ifaces, maps, wideKeys, modest, calm, conditions, laid).
  DERIVED. THE GIVEN ROWS OF THIS SEAT. 4 by the template 'for every input the law returns true; each argument reads behind the call as it read before'; 0 by the template 'total and deterministic' (their statements: YtgkbpdcedighcadTotals.lean).
  GIVEN WITH THE SEED: the statements are not yours to turn. If you find one false, say at which input.
  Laid BY PROGRAM, IN A SANDBOX (cutbox-rows.mjs): the forced cells as the released guide's own fill.sh prints them over the translation 5a0991c6c400ebb3… (all of the seat's roots in one cut). By AI agents, Wed Nov 11 2026. No macro, syntax, notation, axiom, sorry.
-/
import Derived.Test.YtgkbpdcedighcadChecked
import GoSem.Claim
import GoSem.ClaimJoined
import GoSem.ClaimMapViews
import Derived.JoinedTies
import Derived.KernelRfl
namespace Go.Proofs.Ytgkbpdcedighcad
/- THE CELL 'sum', in the pinned program and in every row, IS THE sha256 OF THE DUMP (.gsa) THAT YtgkbpdcedighcadProg.lean LOADS. Nothing in Lean hashes anything: it is a label: what it is worth is what the hold of that sum in a sandbox is worth. -/
noncomputable def Try.pinned : Pinned := { name := "ytgkbpdcedighcad", sum := "5a0991c6c400ebb3f0ddde3f4f5d05174541c8574c56f94aa3749a4e6a483540", checked := Try.checked }
namespace Rows
def none {H : Type} : Left H := { results := [], args := [] }

/-- 'gannettop.TopBuffered': WHATEVER THE INPUT: true; the input reads as it did. -/
def topBufferedSpec : ChangeSpec := { name := "topBuffered", fn := fun _ => fun
  | [d1, d2, d3] => { results := [.lit (.bool true)], args := [d1, d2, d3] }
  | _ => none }
def topBufferedRow : OpenClaim := { program := "ytgkbpdcedighcad", sum := "5a0991c6c400ebb3f0ddde3f4f5d05174541c8574c56f94aa3749a4e6a483540", func := "gannet/gannettop.TopBuffered", spec := "topBuffered", apart := false }
def TopBufferedSaid : Prop := topBufferedRow.holds Try.pinned (OpenSpec.ofChange topBufferedSpec)

/-- ITS FALSE NEIGHBOUR: 'it returns false'. Refute it at one input. -/
def topBufferedWrong : ChangeSpec := { name := "topBuffered", fn := fun _ => fun
  | [d1, d2, d3] => { results := [.lit (.bool false)], args := [d1, d2, d3] }
  | _ => none }
def TopBufferedWrongFalsely : Prop := topBufferedRow.holds Try.pinned (OpenSpec.ofChange topBufferedWrong)

/-- 'gannettop.TopSides': WHATEVER THE INPUT: true; the input reads as it did. -/
def topSidesSpec : ChangeSpec := { name := "topSides", fn := fun _ => fun
  | [d1, d2, d3, d4, d5, d6] => { results := [.lit (.bool true)], args := [d1, d2, d3, d4, d5, d6] }
  | _ => none }
def topSidesRow : OpenClaim := { program := "ytgkbpdcedighcad", sum := "5a0991c6c400ebb3f0ddde3f4f5d05174541c8574c56f94aa3749a4e6a483540", func := "gannet/gannettop.TopSides", spec := "topSides", apart := false }
def TopSidesSaid : Prop := topSidesRow.holds Try.pinned (OpenSpec.ofChange topSidesSpec)

/-- ITS FALSE NEIGHBOUR: 'it returns false'. Refute it at one input. -/
def topSidesWrong : ChangeSpec := { name := "topSides", fn := fun _ => fun
  | [d1, d2, d3, d4, d5, d6] => { results := [.lit (.bool false)], args := [d1, d2, d3, d4, d5, d6] }
  | _ => none }
def TopSidesWrongFalsely : Prop := topSidesRow.holds Try.pinned (OpenSpec.ofChange topSidesWrong)

/-- 'gannettop.TopNoisy': WHATEVER THE INPUT: true; the input reads as it did. -/
def topNoisySpec : ChangeSpec := { name := "topNoisy", fn := fun _ => fun
  | [d1, d2, d3] => { results := [.lit (.bool true)], args := [d1, d2, d3] }
  | _ => none }
def topNoisyRow : OpenClaim := { program := "ytgkbpdcedighcad", sum := "5a0991c6c400ebb3f0ddde3f4f5d05174541c8574c56f94aa3749a4e6a483540", func := "gannet/gannettop.TopNoisy", spec := "topNoisy", unfollowed := true, recurses := true, apart := false }
def TopNoisySaid : Prop := topNoisyRow.holds Try.pinned (OpenSpec.ofChange topNoisySpec)

/-- ITS FALSE NEIGHBOUR: 'it returns false'. Refute it at one input. -/
def topNoisyWrong : ChangeSpec := { name := "topNoisy", fn := fun _ => fun
  | [d1, d2, d3] => { results := [.lit (.bool false)], args := [d1, d2, d3] }
  | _ => none }
def TopNoisyWrongFalsely : Prop := topNoisyRow.holds Try.pinned (OpenSpec.ofChange topNoisyWrong)

/-- 'gannettop.TopRound': WHATEVER THE INPUT: true; the input reads as it did. -/
def topRoundSpec : ChangeSpec := { name := "topRound", fn := fun _ => fun
  | [d1, d2] => { results := [.lit (.bool true)], args := [d1, d2] }
  | _ => none }
def topRoundRow : OpenClaim := { program := "ytgkbpdcedighcad", sum := "5a0991c6c400ebb3f0ddde3f4f5d05174541c8574c56f94aa3749a4e6a483540", func := "gannet/gannettop.TopRound", spec := "topRound", unfollowed := true, recurses := true, apart := false }
def TopRoundSaid : Prop := topRoundRow.holds Try.pinned (OpenSpec.ofChange topRoundSpec)

/-- ITS FALSE NEIGHBOUR: 'it returns false'. Refute it at one input. -/
def topRoundWrong : ChangeSpec := { name := "topRound", fn := fun _ => fun
  | [d1, d2] => { results := [.lit (.bool false)], args := [d1, d2] }
  | _ => none }
def TopRoundWrongFalsely : Prop := topRoundRow.holds Try.pinned (OpenSpec.ofChange topRoundWrong)

/- THE SECOND FORM. 'bulk': how many values and letters a reading holds, each counted each time it is reached (what is shared counts as often as it is met; a slice's spare places count too). A statement '..UptoSaid' is the law's where the arguments, and the package variables that the reading takes, are together of bulk at most 1048576: NARROWER than '..Said'. Prove '..Said' where nothing that the law and all that it calls make is longer than what came in: it says more and counts as full. Else prove '..UptoSaid'. A law counts once. -/
mutual
def uptoBulk {H : Type} : DataW H → Nat
  | .lit (.string bytes) => bytes.length + 1
  | .lit _ => 1
  | .nil => 1
  | .ptr d => uptoBulk d + 1
  | .slice elems spare => uptoBulkAll elems + uptoBulkAll spare + 1
  | .agg parts => uptoBulkAll parts + 1
  | .iface _ d => uptoBulk d + 1
  | .map entries => uptoBulkEntries entries + 1
  | .held _ => 1
def uptoBulkAll {H : Type} : List (DataW H) → Nat
  | [] => 0
  | d :: r => uptoBulk d + uptoBulkAll r
def uptoBulkEntries {H : Type} : List (Lit × DataW H) → Nat
  | [] => 0
  | x :: r => uptoBulkEntry x + uptoBulkEntries r
def uptoBulkEntry {H : Type} : Lit × DataW H → Nat
  | (.string bytes, d) => bytes.length + uptoBulk d + 1
  | (_, d) => uptoBulk d + 1
 end
def uptoSmall : (H : Type) → List (DataW H) → Bool := fun _ ds => decide (uptoBulkAll ds ≤ 1048576)
def OpenSpec.upto (s : _root_.Go.ChangeSpec) : _root_.Go.OpenSpec := { _root_.Go.OpenSpec.ofChange s with cond := some uptoSmall }

/-- 'gannettop.TopBuffered', WHERE WHAT IT READS IS OF BULK AT MOST 1048576: true; the input reads as it did. -/
def topBufferedUptoRow : OpenClaim := { program := "ytgkbpdcedighcad", sum := "5a0991c6c400ebb3f0ddde3f4f5d05174541c8574c56f94aa3749a4e6a483540", func := "gannet/gannettop.TopBuffered", spec := "topBuffered", apart := false, narrowed := true }
def TopBufferedUptoSaid : Prop := topBufferedUptoRow.holds Try.pinned (OpenSpec.upto topBufferedSpec)

/-- 'gannettop.TopSides', WHERE WHAT IT READS IS OF BULK AT MOST 1048576: true; the input reads as it did. -/
def topSidesUptoRow : OpenClaim := { program := "ytgkbpdcedighcad", sum := "5a0991c6c400ebb3f0ddde3f4f5d05174541c8574c56f94aa3749a4e6a483540", func := "gannet/gannettop.TopSides", spec := "topSides", apart := false, narrowed := true }
def TopSidesUptoSaid : Prop := topSidesUptoRow.holds Try.pinned (OpenSpec.upto topSidesSpec)

/-- 'gannettop.TopNoisy', WHERE WHAT IT READS IS OF BULK AT MOST 1048576: true; the input reads as it did. -/
def topNoisyUptoRow : OpenClaim := { program := "ytgkbpdcedighcad", sum := "5a0991c6c400ebb3f0ddde3f4f5d05174541c8574c56f94aa3749a4e6a483540", func := "gannet/gannettop.TopNoisy", spec := "topNoisy", unfollowed := true, recurses := true, apart := false, narrowed := true }
def TopNoisyUptoSaid : Prop := topNoisyUptoRow.holds Try.pinned (OpenSpec.upto topNoisySpec)

/-- 'gannettop.TopRound', WHERE WHAT IT READS IS OF BULK AT MOST 1048576: true; the input reads as it did. -/
def topRoundUptoRow : OpenClaim := { program := "ytgkbpdcedighcad", sum := "5a0991c6c400ebb3f0ddde3f4f5d05174541c8574c56f94aa3749a4e6a483540", func := "gannet/gannettop.TopRound", spec := "topRound", unfollowed := true, recurses := true, apart := false, narrowed := true }
def TopRoundUptoSaid : Prop := topRoundUptoRow.holds Try.pinned (OpenSpec.upto topRoundSpec)

end Rows
end Go.Proofs.Ytgkbpdcedighcad
