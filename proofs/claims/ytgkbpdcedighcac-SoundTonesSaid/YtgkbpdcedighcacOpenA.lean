/-
  An array of integers by value, opened.
-/
import Derived.Test.YtgkbpdcedighcacOpenS
import Derived.Test.YtgkbpdcedighcacRowF
namespace Go.Proofs.Ytgkbpdcedighcac
open Go.ChangeShapes Go.WideShapes Go.ChangeAt Go.RowKit Go.Deep

section
variable {H : Type} {enc : TypeId × Value → H} {P : Program} {w : World} {base : Nat} {spare : Nat → Bool} {held : Bool}

theorem take_one {α : Type} (l : List α) (i : Nat) (h : i < l.length) : (l.drop i).take 1 = [l[i]] := by
  rw [List.drop_eq_getElem_cons h]; rfl

theorem arr_cells {t e : TypeId} {n m : Nat} {k : IntKind} {cs : List Value} {x : DataW H × List MemPlace} (ht : P.underlying t = some (.array n e)) (he : P.underlying e = some (.int k)) (hc : P.cellsOf e = 1) (hC : P.cellsOf t = n)
    (h : DataW.trod enc P w base spare held m t cs = some x) : ∃ f : Nat → Int, cs = rowF n (fun i => .int k (f i)) ∧ ∀ i, i < n → (Lit.int k (f i)).wf = true := by
  obtain ⟨xs, m', _, _, hlen, hxl, hg⟩ := DataW.trod_array ht h
  rw [hC] at hlen
  rw [hc] at hg
  have hex : ∀ i, ∃ z : Int, i < n → cs[i]? = some (.int k z) ∧ (Lit.int k z).wf = true := by
    intro i
    by_cases hi : i < n
    · have h1 := hg i hi
      rw [Nat.mul_one, take_one cs i (by omega), List.getElem?_eq_getElem (by omega)] at h1
      obtain ⟨z, hz, _, hw⟩ := DataW.trod_int he h1
      injection hz with hz
      exact ⟨z, fun _ => ⟨by rw [List.getElem?_eq_getElem (by omega), hz], hw⟩⟩
    · exact ⟨0, fun h => absurd h hi⟩
  obtain ⟨f, hf⟩ := Classical.skolem.1 hex
  refine ⟨f, ?_, fun i hi => (hf i hi).2⟩
  apply List.ext_getElem?
  intro i
  by_cases hi : i < n
  · rw [(hf i hi).1, rowF_get (f := fun i => Value.int k (f i)) hi]
  · rw [List.getElem?_eq_none (by omega), List.getElem?_eq_none (by simp; omega)]

theorem arr_arg {t e : TypeId} {n : Nat} {k : IntKind} {r : Reach} {b0 : Nat} {v : Value} {d : DataW H} {p : List MemPlace} (ht : P.underlying t = some (.array n e)) (he : P.underlying e = some (.int k)) (hc : P.cellsOf e = 1) (hC : P.cellsOf t = n)
    (hv : Value.okWide P w r b0 t v) (h : DataW.Trod enc P w base spare held t v d p) : ∃ f : Nat → Int, v = .agg (rowF n fun i => .int k (f i)).toArray ∧ ∀ i, i < n → (Lit.int k (f i)).wf = true := by
  simp only [Value.okWide, ht] at hv
  obtain ⟨cs, rfl, _, _⟩ := hv
  obtain ⟨m, hm⟩ := h
  obtain ⟨f, hf, hw⟩ := arr_cells ht he hc hC hm
  refine ⟨f, ?_, hw⟩
  have : cs.toList = rowF n fun i => .int k (f i) := hf
  rw [← this]

theorem arr2_arg {t s e : TypeId} {n m : Nat} {k : IntKind} {r : Reach} {b0 : Nat} {v : Value} {d : DataW H} {p : List MemPlace} (ht : P.underlying t = some (.array n s)) (hs : P.underlying s = some (.array m e)) (he : P.underlying e = some (.int k)) (hc : P.cellsOf e = 1) (hC : P.cellsOf s = m) (hT : P.cellsOf t = n * m) (hm0 : 0 < m)
    (hv : Value.okWide P w r b0 t v) (h : DataW.Trod enc P w base spare held t v d p) : ∃ f : Nat → Int, v = .agg (rowF (n * m) fun i => .int k (f i)).toArray ∧ ∀ i, i < n * m → (Lit.int k (f i)).wf = true := by
  simp only [Value.okWide, ht] at hv
  obtain ⟨cs, rfl, hsz, _⟩ := hv
  obtain ⟨fu, hf⟩ := h
  obtain ⟨xs, m', _, _, hlen, hxl, hg⟩ := DataW.trod_array ht hf
  have hlen' : cs.toList.length = n * m := by rw [← hT]; exact hlen
  rw [hC] at hg
  have hrow : ∀ i, ∃ g : Nat → Int, i < n → ((cs.toList.drop (i * m)).take m = rowF m fun j => .int k (g j)) ∧ ∀ j, j < m → (Lit.int k (g j)).wf = true := by
    intro i
    by_cases hi : i < n
    · have h1 := hg i hi
      rw [List.getElem?_eq_getElem (by omega)] at h1
      obtain ⟨g, hg1, hg2⟩ := arr_cells hs he hc hC h1
      exact ⟨g, fun _ => ⟨hg1, hg2⟩⟩
    · exact ⟨fun _ => 0, fun h => absurd h hi⟩
  obtain ⟨G, hG⟩ := Classical.skolem.1 hrow
  have hdiv : ∀ i, i < n * m → i / m < n := fun i hi => Nat.div_lt_of_lt_mul (by rw [Nat.mul_comm]; exact hi)
  refine ⟨fun i => G (i / m) (i % m), ?_, fun i hi => (hG _ (hdiv i hi)).2 _ (Nat.mod_lt _ hm0)⟩
  have : cs.toList = rowF (n * m) fun i => .int k (G (i / m) (i % m)) := by
    apply List.ext_getElem?
    intro i
    by_cases hi : i < n * m
    · have h1 := (hG _ (hdiv i hi)).1
      have h2 := congrArg (fun l => l[i % m]?) h1
      rw [List.getElem?_take, if_pos (Nat.mod_lt _ hm0), List.getElem?_drop, Nat.div_add_mod', rowF_get (f := fun j => Value.int k (G (i / m) j)) (Nat.mod_lt _ hm0)] at h2
      rw [h2, rowF_get (f := fun i => Value.int k (G (i / m) (i % m))) hi]
    · rw [List.getElem?_eq_none (by omega), List.getElem?_eq_none (by simp; omega)]
  rw [← this]
end
end Go.Proofs.Ytgkbpdcedighcac
