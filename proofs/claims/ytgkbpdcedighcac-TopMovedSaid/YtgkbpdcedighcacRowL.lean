/-
  An element of a row, read whole: of the cells alone.
-/
import Derived.Test.YtgkbpdcedighcacRow
namespace Go.Proofs.Ytgkbpdcedighcac
open Go Go.RowKit

section
variable {P : Program}

/-- The cells from there on are these. -/
def CellsAt (w : World) (g off : Nat) (cs : List Value) : Prop := ∀ j v, cs[j]? = some v → w.cell? ⟨g, off + j, none⟩ = some v

theorem CellsAt.below {w w' : World} {g off B : Nat} {cs : List Value} (h : CellsAt w g off cs) (hb : Below B w w') (hg : g < B) : CellsAt w' g off cs := fun j v hv => (hb.cell (p := ⟨g, off + j, none⟩) hg).trans (h j v hv)
theorem CellsAt.upd {w w' : World} {g off : Nat} {S : Nat → Prop} {cs : List Value} (h : CellsAt w g off cs) (hu : Upd S w w') (hlt : g < w.heap.size) (hg : ¬ S g) : CellsAt w' g off cs := fun j v hv => by
  have := hu.block g hlt hg
  have h1 := h j v hv
  unfold World.cell? at h1 ⊢
  rw [this]
  exact h1

theorem run_loadVar_cells (w : World) (g off : Nat) (ty : TypeId) (cs : List Value) (d : TypeDesc) (hA : CellsAt w g off cs)
    (hu : P.underlying ty = some d) (hd : (match d with | .struct _ | .array _ _ => true | _ => false) = true) (hi : (P.info? ty).map (·.size) = some cs.length) :
    (loadVar ty ⟨g, off, none⟩).run P w = .ok (.agg cs.toArray) w := by
  have hl : (loadCells ⟨g, off, none⟩ cs.length).run P w = .ok cs.toArray w :=
    run_loadCells_list (P := P) w ⟨g, off, none⟩ cs (fun j v hv => by
      rw [part_addr]
      exact hA j v hv)
  cases hq : P.info? ty with
  | none => simp [hq] at hi
  | some i =>
    have hs : i.size = cs.length := by simpa [hq] using hi
    have hagg : (isAgg ty).run P w = .ok true w := by
      simp only [isAgg, run_underlying hu, Sem.run_bind, Result.andThen_ok]
      cases d <;> first | rfl | (cases hd)
    simp [loadVar, Sem.run_bind, hagg, sizeOf, typeInfo, hq, hs, hl]

theorem wpList_load_cells {ops : Array Oper} {rest : List Oper} {o : Oper} {a : Act} {w : World} {Q : Exit → Act → World → Prop} (hw : Region.wanted o (yielded ops a.tmps) = true) (ty : TypeId) (x : Operand) (ho : o.op = .load ty x)
    (g off : Nat) (hx : a.eval x = .pointer (some ⟨g, off, none⟩)) (cs : List Value) (hA : CellsAt w g off cs) (d : TypeDesc)
    (hu : P.underlying ty = some d) (hd : (match d with | .struct _ | .array _ _ => true | _ => false) = true) (hi : (P.info? ty).map (·.size) = some cs.length)
    (h : wpList P ops Q rest (a.put o.dst (.agg cs.toArray)) w) : wpList P ops Q (o :: rest) a w := by
  unfold wpList
  rw [if_pos hw]
  refine .inl ?_
  unfold Oper.wp execOp
  simp only [ho, hx, Instr.loadAt, Instr.sureAddr, Sem.run_bind, Sem.run_pure, Result.andThen_ok, run_loadVar_cells w g off ty cs d hA hu hd hi, Oper.upon]
  exact h

/-- The elements of a row of structs, as they came in. -/
def RowOf (w : World) (a : Option Addr) (n size : Nat) (F : Nat → List Value) : Prop :=
  ∀ i, i < n → ∃ b off, a = some ⟨b, off, none⟩ ∧ b < w.heap.size ∧ CellsAt w b (off + i * size) (F i)
theorem RowOf.below {w w' : World} {a : Option Addr} {n size : Nat} {F : Nat → List Value} (h : RowOf w a n size F) (hb : Below w.heap.size w w') : RowOf w' a n size F := fun i hi => by
  obtain ⟨b, off, h1, h2, h3⟩ := h i hi
  exact ⟨b, off, h1, Nat.lt_of_lt_of_le h2 hb.size, h3.below hb h2⟩
theorem RowOf.upd {w w' : World} {a : Option Addr} {n size : Nat} {F : Nat → List Value} {S : Nat → Prop} (h : RowOf w a n size F) (hu : Upd S w w') (hS : ∀ b off, a = some ⟨b, off, none⟩ → 0 < n → ¬ S b) : RowOf w' a n size F := fun i hi => by
  obtain ⟨b, off, h1, h2, h3⟩ := h i hi
  exact ⟨b, off, h1, Nat.lt_of_lt_of_le h2 hu.size, h3.upd hu h2 (hS b off h1 (by omega))⟩
theorem RowOf.lt {w : World} {a : Option Addr} {n size : Nat} {F : Nat → List Value} (h : RowOf w a n size F) (hn : 0 < n) {b off : Nat} (ha : a = some ⟨b, off, none⟩) : b < w.heap.size := by
  obtain ⟨b', off', h4, h5, _⟩ := h 0 hn
  rw [h4] at ha
  injection ha with ha
  injection ha with ha
  exact ha ▸ h5
end
end Go.Proofs.Ytgkbpdcedighcac
