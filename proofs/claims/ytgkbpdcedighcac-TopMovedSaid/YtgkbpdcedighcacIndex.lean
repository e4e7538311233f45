/-
  An element of an array by value.
-/
import Derived.WalkKit
import Derived.Laws.Cover1
namespace Go.Proofs.Ytgkbpdcedighcac
open Go

section
variable {P : Program}
theorem index_one (t e : TypeId) (n : Nat) (cs : Array Value) (k : IntKind) (i : Int) (d : TypeDesc) (z : Nat) (c : Value) (h : P.underlying t = some (.array n e)) (hd : P.underlying e = some d) (ha : (match d with | .struct _ | .array _ _ => true | _ => false) = false)
    (hz : (P.info? e).map (·.size) = some z) (hz1 : z = 1) (hi : 0 ≤ i ∧ i < n) (hc : cs[i.toNat]? = some c) (w : World) : (Instr.index t (.agg cs) (.int k i)).run P w = .ok c w := by
  subst hz1
  cases hq : P.info? e with
  | none => simp [hq] at hz
  | some inf =>
    have hs : inf.size = 1 := by simpa [hq] using hz
    have hg : (isAgg e).run P w = .ok false w := by
      simp only [isAgg, run_underlying hd, Sem.run_bind, Result.andThen_ok]
      cases d <;> first | rfl | (cases ha)
    simp [Instr.index, run_underlying h, asIntOf, hi.1, hi.2, part, hg, hc, sizeOf, typeInfo, hq, hs]

theorem index_agg (t e : TypeId) (n : Nat) (cs : Array Value) (k : IntKind) (i : Int) (d : TypeDesc) (z : Nat) (h : P.underlying t = some (.array n e)) (hd : P.underlying e = some d) (ha : (match d with | .struct _ | .array _ _ => true | _ => false) = true)
    (hz : (P.info? e).map (·.size) = some z) (hi : 0 ≤ i ∧ i < n) (w : World) : (Instr.index t (.agg cs) (.int k i)).run P w = .ok (.agg (cs.extract (i.toNat * z) (i.toNat * z + z))) w := by
  cases hq : P.info? e with
  | none => simp [hq] at hz
  | some inf =>
    have hs : inf.size = z := by simpa [hq] using hz
    have hg : (isAgg e).run P w = .ok true w := by
      simp only [isAgg, run_underlying hd, Sem.run_bind, Result.andThen_ok]
      cases d <;> first | rfl | (cases ha)
    simp [Instr.index, run_underlying h, asIntOf, hi.1, hi.2, part, hg, sizeOf, typeInfo, hq, hs]
end
end Go.Proofs.Ytgkbpdcedighcac
