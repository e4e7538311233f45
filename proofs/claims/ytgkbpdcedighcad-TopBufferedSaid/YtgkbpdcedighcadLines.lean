/-
  The walks of lines: wrong, Check, At.
-/
import Derived.Test.YtgkbpdcedighcadRows
import Derived.Test.YtgkbpdcedighcadOpenS
import Derived.Test.YtgkbpdcedighcadRowL
import Derived.WalkKit
import Derived.WalkSpells
import Derived.WalkLawsBesides
import Derived.Outline
namespace Go.Proofs.Ytgkbpdcedighcad
open Go.RowKit Go.Sort

/-- An edge. -/
structure Ed where
  st : Int
  ln : Nat
  up : Bool
def Ed.cs (e : Ed) : List Value := [.int .i64 e.st, .int .u8 (e.ln : Int), .bool e.up]
def Ed.Ok (e : Ed) : Prop := e.ln < 256 ∧ -9223372036854775808 ≤ e.st ∧ e.st ≤ 9223372036854775807
def IsEd (cs : List Value) : Prop := ∃ e : Ed, cs = e.cs ∧ e.Ok

set_option maxRecDepth 100000 in
theorem IsEd_of {H : Type} {enc : TypeId × Value → H} {w : World} {base : Nat} {spare : Nat → Bool} {held : Bool} {m : Nat} {cs : List Value} {x : DataW H × List MemPlace}
    (h : DataW.trod enc Try.prog w base spare held m 73 cs = some x) : IsEd cs := by
  obtain ⟨hl, hf⟩ := struct_cells Try.underlying73 (by kernel_rfl) (by kernel_rfl) h
  obtain ⟨a, ha, wa⟩ := field_int Try.underlying2 (hf 0 _ rfl)
  obtain ⟨b, hb, wb⟩ := field_int Try.underlying5 (hf 1 _ rfl)
  obtain ⟨c, hc⟩ := field_bool Try.underlying4 (hf 2 _ rfl)
  have h2 := wf_bounds_u8 wb
  have h1 := wf_bounds_i64 wa
  refine ⟨⟨a, b.toNat, c⟩, ?_, by show b.toNat < 256; omega, h1⟩
  show cs = [.int .i64 a, .int .u8 ((b.toNat : Nat) : Int), .bool c]
  rw [Int.toNat_of_nonneg h2.1]
  apply List.ext_getElem?
  intro i
  match i with
  | 0 => exact ha
  | 1 => exact hb
  | 2 => exact hc
  | i + 3 => rw [List.getElem?_eq_none (by rw [hl]; simp), List.getElem?_eq_none (by simp)]

/-- Edges, as they came in. -/
def Eds (w : World) (a : Option Addr) (n : Nat) (E : Nat → Ed) : Prop := RowOf w a n 3 (fun i => (E i).cs) ∧ ∀ i, i < n → (E i).Ok
theorem Eds.below {w w' : World} {a : Option Addr} {n : Nat} {E : Nat → Ed} (h : Eds w a n E) (hb : Below w.heap.size w w') : Eds w' a n E := ⟨h.1.below hb, h.2⟩
theorem eds_of {w : World} {a : Option Addr} {n cap : Nat} {F : Nat → List Value} (h : SlR w a n cap 3 IsEd F) : ∃ E, Eds w a n E := by
  have hex : ∀ i, ∃ v : Ed, i < n → F i = v.cs ∧ v.Ok := fun i => by
    by_cases hi : i < n
    · obtain ⟨v, h1, h2⟩ := (h.elem i hi).1
      exact ⟨v, fun _ => ⟨h1, h2⟩⟩
    · exact ⟨⟨0, 0, false⟩, fun h => absurd h hi⟩
  obtain ⟨V, hV⟩ := Classical.skolem.1 hex
  refine ⟨V, fun i hi => ?_, fun i hi => (hV i hi).2⟩
  obtain ⟨_, hl, b, off, h1, h2, h3⟩ := h.elem i hi
  refine ⟨b, off, h1, h2, fun j v hv => ?_⟩
  have hj : j < 3 := by
    rcases Nat.lt_or_ge j 3 with h | h
    · exact h
    · rw [List.getElem?_eq_none (by show 3 ≤ j; omega)] at hv; cases hv
  rw [Nat.add_assoc, h3 j hj, (hV i hi).1]
  exact hv

/-- What is wrong with an edge behind one of that stamp. -/
def wrE (e : Ed) (ahead : Int) : Int := if 4 ≤ e.ln then 8 else if e.st < ahead then 7 else if 26388279066624 < e.st then 7 else 0
theorem wrE_bd (e : Ed) (a : Int) : 0 ≤ wrE e a ∧ wrE e a ≤ 8 := by
  unfold wrE
  split
  · omega
  · split
    · omega
    · split <;> omega

set_option maxRecDepth 100000 in
theorem wrong_any (e : Ed) (ahead : Int) (w : World) (he : e.Ok) : Calls Try.prog 38 #[.agg e.cs.toArray, .int .i64 ahead] w fun r w' => r = .returned (.int .i64 (wrE e ahead)) ∧ Below w.heap.size w w' := by
  obtain ⟨st, ln, up⟩ := e
  obtain ⟨h1, h2, h3⟩ := he
  replace h1 : ln < 256 := h1
  rw [show (Ed.mk st ln up).cs.toArray = #[.int .i64 st, .int .u8 (ln : Int), .bool up] from rfl]
  have HW : Hid (wrE ⟨st, ln, up⟩ ahead = if 4 ≤ ln then 8 else if st < ahead then 7 else if 26388279066624 < st then 7 else 0) := Lib.hid rfl
  by_cases g1 : 4 ≤ ln
  · have d1 : decide (4 ≤ (ln : Int)) = true := by rw [decide_eq_true_eq]; omega
    go_enter Try.func38, Try.ntmps38
    go_wp2
    go_ret
    exact ⟨by rw [HW.out, if_pos g1]; rfl, (Below.refl _ _).alloc (Nat.le_refl _) _⟩
  · have d1 : decide (4 ≤ (ln : Int)) = false := by rw [decide_eq_false_iff_not]; omega
    by_cases g2 : st < ahead
    · have d2 : decide (st < ahead) = true := decide_eq_true g2
      go_enter Try.func38, Try.ntmps38
      go_wp2
      go_ret
      exact ⟨by rw [HW.out, if_neg g1, if_pos g2]; rfl, (Below.refl _ _).alloc (Nat.le_refl _) _⟩
    · have d2 : decide (st < ahead) = false := decide_eq_false g2
      by_cases g3 : 26388279066624 < st
      · have d3 : decide (26388279066624 < st) = true := decide_eq_true g3
        have HW2 : Hid (wrE ⟨st, ln, up⟩ ahead = 7) := Lib.hid (by rw [HW.out, if_neg g1, if_neg g2, if_pos g3])
        go_enter Try.func38, Try.ntmps38
        go_wp2
        go_ret
        exact ⟨by rw [HW2.out]; rfl, (Below.refl _ _).alloc (Nat.le_refl _) _⟩
      · have d3 : decide (26388279066624 < st) = false := decide_eq_false g3
        have HW2 : Hid (wrE ⟨st, ln, up⟩ ahead = 0) := Lib.hid (by rw [HW.out, if_neg g1, if_neg g2, if_neg g3])
        go_enter Try.func38, Try.ntmps38
        go_wp2
        go_ret
        exact ⟨by rw [HW2.out]; rfl, (Below.refl _ _).alloc (Nat.le_refl _) _⟩
end Go.Proofs.Ytgkbpdcedighcad
