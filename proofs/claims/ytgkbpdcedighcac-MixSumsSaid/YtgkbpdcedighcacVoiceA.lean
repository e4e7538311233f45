/-
  Voices, as they come in.
-/
import Derived.Test.YtgkbpdcedighcacMixO
import Derived.Test.YtgkbpdcedighcacOpenS
namespace Go.Proofs.Ytgkbpdcedighcac
open Go.RowKit Go.Sort

def IsVoice (cs : List Value) : Prop := ∃ v : Vo, cs = v.cs ∧ v.Ok

set_option maxRecDepth 100000 in
theorem IsVoice_of {H : Type} {enc : TypeId × Value → H} {w : World} {base : Nat} {spare : Nat → Bool} {held : Bool} {m : Nat} {cs : List Value} {x : DataW H × List MemPlace}
    (h : DataW.trod enc Try.prog w base spare held m 32 cs = some x) : IsVoice cs := by
  obtain ⟨hl, hf⟩ := struct_cells Try.underlying32 (by kernel_rfl) (by kernel_rfl) h
  obtain ⟨a, ha, wa⟩ := field_int Try.underlying5 (hf 0 _ rfl)
  obtain ⟨b, hb, wb⟩ := field_int Try.underlying5 (hf 1 _ rfl)
  obtain ⟨c, hc, wc⟩ := field_int Try.underlying5 (hf 2 _ rfl)
  obtain ⟨d, hd, wd⟩ := field_int Try.underlying5 (hf 3 _ rfl)
  have h1 := wf_bounds_u8 wa
  have h2 := wf_bounds_u8 wb
  have h3 := wf_bounds_u8 wc
  have h4 := wf_bounds_u8 wd
  refine ⟨⟨a.toNat, b.toNat, c.toNat, d.toNat⟩, ?_, by show a.toNat < 256; omega, by show b.toNat < 256; omega, by show c.toNat < 256; omega, by show d.toNat < 256; omega⟩
  show cs = [.int .u8 ((a.toNat : Nat) : Int), .int .u8 ((b.toNat : Nat) : Int), .int .u8 ((c.toNat : Nat) : Int), .int .u8 ((d.toNat : Nat) : Int)]
  rw [Int.toNat_of_nonneg h1.1, Int.toNat_of_nonneg h2.1, Int.toNat_of_nonneg h3.1, Int.toNat_of_nonneg h4.1]
  apply List.ext_getElem?
  intro i
  match i with
  | 0 => exact ha
  | 1 => exact hb
  | 2 => exact hc
  | 3 => exact hd
  | i + 4 => rw [List.getElem?_eq_none (by rw [hl]; simp), List.getElem?_eq_none (by simp)]

theorem vos_of {w : World} {a : Option Addr} {n cap : Nat} {F : Nat → List Value} (h : SlR w a n cap 4 IsVoice F) : ∃ V, Vos w a n V := by
  have hex : ∀ i, ∃ v : Vo, i < n → F i = v.cs ∧ v.Ok := fun i => by
    by_cases hi : i < n
    · obtain ⟨v, h1, h2⟩ := (h.elem i hi).1
      exact ⟨v, fun _ => ⟨h1, h2⟩⟩
    · exact ⟨Vo.none, fun h => absurd h hi⟩
  obtain ⟨V, hV⟩ := Classical.skolem.1 hex
  refine ⟨V, fun i hi => ?_, fun i hi => (hV i hi).2⟩
  obtain ⟨_, hl, b, off, h1, h2, h3⟩ := h.elem i hi
  refine ⟨b, off, h1, h2, fun j v hv => ?_⟩
  have hj : j < 4 := by
    rcases Nat.lt_or_ge j 4 with h | h
    · exact h
    · rw [List.getElem?_eq_none (by show 4 ≤ j; omega)] at hv; cases hv
  rw [Nat.add_assoc, h3 j hj, (hV i hi).1]
  exact hv
theorem Vos.lt {w : World} {a : Option Addr} {n : Nat} {V : Nat → Vo} (h : Vos w a n V) (hn : 0 < n) {b off : Nat} (ha : a = some ⟨b, off, none⟩) : b < w.heap.size := h.1.lt hn ha
end Go.Proofs.Ytgkbpdcedighcac
