/-
  Pieces that came in, opened; two faults alike.
-/
import Derived.Test.YtgkbpdcedighcacPcD
import Derived.Test.YtgkbpdcedighcacOpenS
namespace Go.Proofs.Ytgkbpdcedighcac
open Go.RowKit Go.Sort

/-- A piece's cells. -/
def IsPc (w : World) (cs : List Value) : Prop := ∃ z A l cap F, cs = [.int .i64 z, .slice A l cap] ∧ SlR w A l cap 1 (IsInt .u8) F
set_option maxRecDepth 100000 in
theorem IsPc_of {H : Type} {enc : TypeId × Value → H} {w : World} {base : Nat} {spare : Nat → Bool} {held : Bool} {m : Nat} {cs : List Value} {x : DataW H × List MemPlace}
    (h : DataW.trod enc Try.prog w base spare held m 159 cs = some x) : IsPc w cs := by
  obtain ⟨hl, hf⟩ := struct_cells Try.underlying159 (by kernel_rfl) (by kernel_rfl) h
  obtain ⟨a, ha, _⟩ := field_int Try.underlying3 (hf 0 _ rfl)
  obtain ⟨v, fu, y, hv, ht⟩ := hf 1 _ rfl
  replace ht : DataW.trod enc Try.prog w base spare held fu 107 [v] = some y := ht
  have hsl : ∃ A l cap, v = .slice A l cap := by
    rcases Go.Deep.open_slice Try.underlying107 ht with ⟨hcs, _⟩ | ⟨x, l, c, m, q, D, Pl, hcs, _⟩
    · simp at hcs; exact ⟨_, _, _, hcs⟩
    · simp at hcs; exact ⟨_, _, _, hcs⟩
  obtain ⟨A, l, cap, rfl⟩ := hsl
  obtain ⟨F, hF⟩ := open_slr (k := 1) (R := IsInt .u8) (d := y.1) (p := y.2) Try.underlying107 (by kernel_rfl) (by decide) (fun m cs x h => by obtain ⟨z, rfl, _, hz⟩ := DataW.trod_int Try.underlying5 h; exact ⟨z, rfl, hz⟩) ⟨fu, ht⟩
  refine ⟨a, A, l, cap, F, ?_, hF⟩
  replace hl : cs.length = 2 := hl
  apply List.ext_getElem?
  intro i
  match i with
  | 0 => exact ha
  | 1 => exact hv
  | i + 2 => rw [List.getElem?_eq_none (by rw [hl]; simp), List.getElem?_eq_none (by simp)]

theorem pcr_of {w : World} {A : Option Addr} {n cap : Nat} {F : Nat → List Value} (h : SlR w A n cap 2 (IsPc w) F) : ∃ Z, PcR w A n Z := by
  have hex : ∀ i, ∃ p : Pv, i < n → ∃ A' cap', F i = [.int .i64 p.z, .slice A' p.l cap'] ∧ p.l ≤ maxLen ∧ BRB w A' p.l p.g := fun i => by
    by_cases hi : i < n
    · obtain ⟨z, A', l, cap', G, h1, h2⟩ := (h.elem i hi).1
      obtain ⟨y, hy⟩ := h2.ints
      refine ⟨⟨z, l, fun j => (y j).toNat⟩, fun _ => ⟨A', cap', h1, Nat.le_trans h2.le h2.max, fun j hj => ?_⟩⟩
      obtain ⟨hw, b, off, e1, e2, e3⟩ := hy j hj
      have hb := wf_bounds_u8 hw
      exact ⟨b, off, e1, e2, by rw [e3, show (((y j).toNat : Nat) : Int) = y j by omega]⟩
    · exact ⟨⟨0, 0, fun _ => 0⟩, fun h => absurd h hi⟩
  obtain ⟨Z, hZ⟩ := Classical.skolem.1 hex
  refine ⟨Z, fun i hi => ?_⟩
  obtain ⟨_, hl, b, off, h1, h2, h3⟩ := h.elem i hi
  obtain ⟨A', cap', hF, hm, hb⟩ := hZ i hi
  have c0 := h3 0 (by omega)
  have c1 := h3 1 (by omega)
  rw [hF] at c0 c1
  exact ⟨b, off, A', cap', h1, h2, c0, c1, hm, hb⟩
end Go.Proofs.Ytgkbpdcedighcac
