/-
  '==' on waves.
-/
import Derived.Test.YtgkbpdcedighcacWaveV
import Derived.Test.YtgkbpdcedighcacEql
namespace Go.Proofs.Ytgkbpdcedighcac
open Go.RowKit Go.Sort

/-- A callee that only draws, or nothing, met in a world of the class. -/
theorem Calls.regrown_drew {f : FuncId} {args : Array Value} {w : World} {d : Nat} {os : Array Obj} {v : Value}
    (h : Calls Try.prog f args (grow (redrawn w d) os) fun e w' => e = .returned v ∧ ∃ n, w' = (grow (redrawn w d) os).drewN n) : Calls Try.prog f args (grow (redrawn w d) os) fun e w'' => e = .returned v ∧ ∃ p : Regrown, w'' = grow (redrawn w p.d) p.os :=
  Calls.regrown_of (h.mono fun _ _ ⟨he, n, hw⟩ => ⟨he, by rw [hw]; exact ⟨rfl, rfl, rfl, Nat.le_refl _, fun _ _ => rfl⟩⟩)
theorem Calls.regrown_same {f : FuncId} {args : Array Value} {w : World} {d : Nat} {os : Array Obj} {v : Value}
    (h : Calls Try.prog f args (grow (redrawn w d) os) fun e w' => e = .returned v ∧ grow (redrawn w d) os = w') : Calls Try.prog f args (grow (redrawn w d) os) fun e w'' => e = .returned v ∧ ∃ p : Regrown, w'' = grow (redrawn w p.d) p.os :=
  Calls.regrown_of (h.mono fun _ _ ⟨he, hw⟩ => ⟨he, by rw [← hw]; exact Below.refl _ _⟩)

theorem infoU8 : (Try.prog.info? 5).isSome = true := by kernel_rfl
theorem wrow_cell {f : Nat → Nat} {i : Nat} (h : i < 32) : (wrow f).toArray[i]? = some (.int .u8 (f i : Int)) := by
  rw [List.getElem?_toArray]; exact rowF_get (f := fun i => Value.int .u8 (f i : Int)) h

set_option maxRecDepth 100000 in
theorem eql32 (f g : Nat → Nat) : (∀ w, (binOp .eql 66 (.agg (wrow f).toArray) (.agg (wrow g).toArray)).run Try.prog w = .ok (.bool ((List.range 32).all fun i => (f i : Int) == (g i : Int))) w)
    ∧ (∀ w, (binOp .neq 66 (.agg (wrow f).toArray) (.agg (wrow g).toArray)).run Try.prog w = .ok (.bool (!((List.range 32).all fun i => (f i : Int) == (g i : Int)))) w) := by
  obtain ⟨inf, hi⟩ := Option.isSome_iff_exists.1 infoU8
  refine eql_of_equal fun w => ?_
  exact equal_ints w 9998 66 5 32 .u8 inf _ _ (fun i => (f i : Int)) (fun i => (g i : Int)) Try.underlying66 Try.underlying5 hi (by kernel_rfl) (fun i h => wrow_cell h) (fun i h => wrow_cell h)
theorem eql32_same (f : Nat → Nat) (w : World) : (binOp .eql 66 (.agg (wrow f).toArray) (.agg (wrow f).toArray)).run Try.prog w = .ok (.bool true) w := by
  rw [(eql32 f f).1 w]
  simp
end Go.Proofs.Ytgkbpdcedighcac
