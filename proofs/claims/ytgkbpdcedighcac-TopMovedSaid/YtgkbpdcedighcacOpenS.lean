/-
  What a struct of one-cell fields holds, field by field.
-/
import Derived.Test.YtgkbpdcedighcacOpen
namespace Go.Proofs.Ytgkbpdcedighcac
open Go.ChangeShapes Go.WideShapes Go.ChangeAt Go.RowKit Go.Deep

section
variable {H : Type} {enc : TypeId × Value → H} {P : Program} {w : World} {base : Nat} {spare : Nat → Bool} {held : Bool}

theorem struct_cells {t : TypeId} {fs : Array Field} {m : Nat} {cs : List Value} {x : DataW H × List MemPlace} (ht : P.underlying t = some (.struct fs)) (hone : oneCellFields P fs = true) (hk : P.cellsOf t = fs.size)
    (h : DataW.trod enc P w base spare held m t cs = some x) :
    cs.length = fs.size ∧ ∀ (i : Nat) (f : Field), fs[i]? = some f → ∃ v n y, cs[i]? = some v ∧ DataW.trod enc P w base spare held n f.type [v] = some y := by
  obtain ⟨xs, n, _, _, hlen, hxl, hg⟩ := DataW.trod_struct ht h
  rw [hk] at hlen
  refine ⟨hlen, fun i f hf => ?_⟩
  have hi : i < fs.size := (Array.getElem?_eq_some_iff.1 hf).1
  obtain ⟨ho, hc⟩ := hone_of hone i f hf
  have h1 := hg i f hf
  rw [ho, hc] at h1
  have e1 : (cs.drop i).take 1 = [cs[i]'(by omega)] := by
    rw [List.drop_eq_getElem_cons (by omega)]; rfl
  rw [e1, List.getElem?_eq_getElem (by omega)] at h1
  exact ⟨_, n, _, List.getElem?_eq_getElem (by omega), h1⟩

theorem field_int {i : Nat} {cs : List Value} {f : Field} {k : IntKind} (hf : P.underlying f.type = some (.int k)) (h : ∃ v n y, cs[i]? = some v ∧ DataW.trod enc P w base spare held n f.type [v] = some y) :
    ∃ z, cs[i]? = some (.int k z) ∧ (Lit.int k z).wf = true := by
  obtain ⟨v, n, y, hv, ht⟩ := h
  obtain ⟨z, he, _, hz⟩ := DataW.trod_int hf ht
  injection he with he
  exact ⟨z, he ▸ hv, hz⟩
theorem field_bool {i : Nat} {cs : List Value} {f : Field} (hf : P.underlying f.type = some .bool) (h : ∃ v n y, cs[i]? = some v ∧ DataW.trod enc P w base spare held n f.type [v] = some y) :
    ∃ z, cs[i]? = some (.bool z) := by
  obtain ⟨v, n, y, hv, ht⟩ := h
  obtain ⟨z, he, _⟩ := DataW.trod_bool hf ht
  injection he with he
  exact ⟨z, he ▸ hv⟩
end
end Go.Proofs.Ytgkbpdcedighcac
