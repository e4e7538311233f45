/-
  append onto a row of the call's own, whatever the source: nil, empty or not; elements of one cell.
-/
import Derived.Test.YtgkbpdcedighcacRegion
import Derived.OwnWalk
import Derived.WalkSpells
namespace Go.Proofs.Ytgkbpdcedighcac
open Go Go.RowKit

/-- The source (A, m) reads as f 0, .., f (m - 1). -/
def Src (w : World) (A : Option Addr) (m : Nat) (f : Nat → Value) : Prop := ∀ i, i < m → ∃ b off, A = some ⟨b, off, none⟩ ∧ w.cell? ⟨b, off + i, none⟩ = some (f i)

theorem addr_add (b off : Nat) (n : Nat) : (⟨b, off, none⟩ : Addr).add n = ⟨b, off + n, none⟩ := by
  unfold Addr.add
  split
  · subst n; rfl
  · rfl

section
variable {P : Program} {w : World}

theorem run_append_src (base : Nat) (t ty e : TypeId) (i : TypeInfo) (z : Value) (bytes : Nat) (ht : P.underlying t = some (.slice e)) (hi : P.info? e = some i) (hz : i.zero = some z)
    (hsize : i.size = 1) (hby : i.bytes = bytes) (hzs : z.cells.size = 1) (v : Value) (n : Nat) (xs : List Value) (hown : w.ownsRow base e 1 v n xs)
    (A : Option Addr) (m c : Nat) (f : Nat → Value) (hs : Src w A m f) (h1 : ∀ i, i < m → (f i).oneCell' = true) (hc : A = none → c = 0)
    (h63 : n + m ≤ maxLen) (hbytes : (n + m) * bytes ≤ 140737488355328) (hbase : base ≤ w.heap.size) :
    ∃ v' w', (Builtin.append_ #[t, t] ty #[v, .slice A m c]).run P w = .ok v' w' ∧ w'.ownsRow base e 1 v' (n + m) (xs ++ (List.range m).map f) ∧ w.grownBy w' v.ownBlock := by
  rcases A with _ | ad
  · have hm : m = 0 := by
      rcases Nat.eq_zero_or_pos m with h0 | h0
      · exact h0
      · obtain ⟨b, off, h, _⟩ := hs 0 h0; cases h
    subst hm
    obtain rfl := hc rfl
    exact ⟨v, w, run_append_owned_none (w := w) base t ty e i 1 ht hi v n xs hown, by simpa using hown, World.grownBy.refl w _⟩
  · have hcells : ∀ j u, ((List.range m).map f)[j]? = some u → w.cell? (ad.add j) = some u := by
      intro j u hu
      rcases Nat.lt_or_ge j m with h0 | h0
      · obtain ⟨b, off, h, hcell⟩ := hs j h0
        injection h with h
        subst h
        simp only [List.getElem?_map, List.getElem?_range h0, Option.map_some] at hu
        rw [addr_add, hcell, hu]
      · simp [h0] at hu
    obtain ⟨v', w', hrun, h2, h3, _⟩ := run_append_own (P := P) (w := w) base t ty e i z 1 bytes ht hi hz hsize hby hzs (by omega) v n xs hown ad m c ((List.range m).map f) (by simp) hcells
      (fun u hu => by obtain ⟨i, hi, rfl⟩ := List.mem_map.1 hu; exact h1 i (List.mem_range.1 hi)) h63 hbytes hbase
    exact ⟨v', w', hrun, h2, h3⟩

theorem wpList_append_src {ops : Array Oper} {rest : List Oper} {o : Oper} {a : Act} {Q : Exit → Act → World → Prop} (hgd : o.guard = none) (s x : Operand) (t : TypeId)
    (ho : o.op = .call { callee := .builtin .append, args := #[s, x], argTypes := #[t, t] })
    (base : Nat) (e : TypeId) (i : TypeInfo) (z : Value) (bytes : Nat) (ht : P.underlying t = some (.slice e)) (hi : P.info? e = some i) (hz : i.zero = some z)
    (hsize : i.size = 1) (hby : i.bytes = bytes) (hzs : z.cells.size = 1) (v : Value) (n : Nat) (xs : List Value) (hv : a.eval s = v) (hown : w.ownsRow base e 1 v n xs)
    (A : Option Addr) (m c : Nat) (f : Nat → Value) (hx : a.eval x = .slice A m c) (hs : Src w A m f) (h1 : ∀ i, i < m → (f i).oneCell' = true) (hc : A = none → c = 0)
    (h63 : n + m ≤ maxLen) (hbytes : (n + m) * bytes ≤ 140737488355328) (hbase : base ≤ w.heap.size)
    (h : ∀ v' w', w'.ownsRow base e 1 v' (n + m) (xs ++ (List.range m).map f) → w.grownBy w' v.ownBlock → wpList P ops Q rest (a.put o.dst v') w') : wpList P ops Q (o :: rest) a w := by
  refine wpList_plain hgd fun K hK => ?_
  obtain ⟨v', w', hr, h2, h3⟩ := run_append_src (P := P) base t o.type e i z bytes ht hi hz hsize hby hzs v n xs hown A m c f hs h1 hc h63 hbytes hbase
  unfold Oper.wp execOp
  simp only [ho, resolve, invoke, builtin, Sem.run_bind, Sem.run_pure, Result.andThen_ok, List.map_toArray, List.map_cons, List.map_nil, hv, hx, hr]
  exact hK _ _ (h v' w' h2 h3)
end

theorem Src.below {w w' : World} {A : Option Addr} {m B : Nat} {f : Nat → Value} (h : Src w A m f) (hb : Below B w w') (hB : ∀ b off, A = some ⟨b, off, none⟩ → b < B) : Src w' A m f := fun i hi => by
  obtain ⟨b, off, h1, h2⟩ := h i hi
  exact ⟨b, off, h1, (hb.cell (p := ⟨b, off + i, none⟩) (hB b off h1)).trans h2⟩
theorem own_map_append {w : World} {base n m : Nat} {e : TypeId} {v : Value} {f g F : Nat → Value} (h : w.ownsRow base e 1 v (n + m) ((List.range n).map f ++ (List.range m).map g))
    (h1 : ∀ i, i < n → F i = f i) (h2 : ∀ i, i < m → F (n + i) = g i) : w.ownsRow base e 1 v (n + m) ((List.range (n + m)).map F) := by
  have : (List.range (n + m)).map F = (List.range n).map f ++ (List.range m).map g := by
    rw [List.range_add, List.map_append, List.map_map]
    congr 1
    · exact List.map_congr_left fun i hi => h1 i (List.mem_range.1 hi)
    · exact List.map_congr_left fun i hi => h2 i (List.mem_range.1 hi)
  rw [this]; exact h
end Go.Proofs.Ytgkbpdcedighcac
