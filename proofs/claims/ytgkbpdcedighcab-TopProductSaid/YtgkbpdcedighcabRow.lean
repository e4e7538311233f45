/-
  A whole array read out of a block, laid into a block, handed back.
-/
import Derived.Test.YtgkbpdcedighcabRegion
import Derived.Laws.Rows
import Derived.Laws.ResultCell
import Derived.WalkKit
namespace Go.Proofs.Ytgkbpdcedighcab
open Go Go.RowKit

theorem row_addr (g n : Nat) : (⟨g, 0, none⟩ : Addr).add n = ⟨g, n, none⟩ := by
  unfold Addr.add
  split
  · subst n; rfl
  · simp

section
variable {P : Program}

theorem quiet_load_row {C : World → Prop} {a : Act} {o : Oper} {K : Act → Prop} (ty : TypeId) (x : Operand) (ho : o.op = .load ty x) (g : Nat) (hx : a.eval x = .pointer (some ⟨g, 0, none⟩)) (t : TypeId) (cs : List Value)
    (d : TypeDesc) (hg : ∀ w, C w → At w g t cs) (hu : P.underlying ty = some d) (hd : (match d with | .struct _ | .array _ _ => true | _ => false) = true) (hi : (P.info? ty).map (·.size) = some cs.length)
    (hk : K (a.put o.dst (.agg cs.toArray))) : o.quiet P a C K := by
  refine ⟨.agg cs.toArray, fun w hw => ?_, hk⟩
  unfold Oper.quietAt execOp
  simp only [ho, hx, Instr.loadAt, Instr.sureAddr, Sem.run_bind, Sem.run_pure, Result.andThen_ok, run_loadVar_row w g t ty cs.toArray (0, 0) d (hg w hw) hu hd (by simpa using hi)]
  exact ⟨rfl, rfl⟩

theorem store_from (t : TypeId) (g : Nat) : ∀ (vs : List Value) (i : Nat) (w : World) (old : List Value), At w g t old → i + vs.length ≤ old.length → (∀ v ∈ vs, v.oneCell' = true) →
    ∃ w', (storeCells ⟨g, 0, none⟩ vs i).run P w = .ok () w' ∧ At w' g t (old.take i ++ vs ++ old.drop (i + vs.length)) ∧ Upd (· = g) w w'
  | [], i, w, old, hA, _, _ => ⟨w, by simp [storeCells], by simpa using hA, Upd.refl _ _⟩
  | v :: vs, i, w, old, hA, hl, h1 => by
    simp only [List.length_cons] at hl
    have hc : w.cell? ⟨g, i, none⟩ = some (old[i]'(by omega)) := hA.cell i (List.getElem?_eq_getElem (by omega))
    have hs : (store ⟨g, i, none⟩ v).run P w = .ok () (w.setCell ⟨g, i, none⟩ v) := by
      rw [run_store P w _ v .plain (h1 v (by simp)), hc, hA.frozen i]
      rfl
    obtain ⟨w', hr, hA', hU⟩ := store_from t g vs (i + 1) (w.setCell ⟨g, i, none⟩ v) (old.set i v) (hA.set i v) (by simp; omega) (fun u hu => h1 u (by simp [hu]))
    refine ⟨w', ?_, ?_, ((Upd.refl _ _).here _).trans hU fun _ _ h => h⟩
    · simp only [storeCells, row_addr, Sem.run_bind, hs, Result.andThen_ok]
      exact hr
    · refine hA'.of_eq ?_
      have e1 : (old.set i v).take (i + 1) = old.take i ++ [v] := by
        rw [List.take_succ_eq_append_getElem (by simp; omega)]
        rw [List.take_set, List.set_eq_of_length_le (by rw [List.length_take]; omega)]
        simp
      have e2 : (old.set i v).drop (i + 1 + vs.length) = old.drop (i + (v :: vs).length) := by
        rw [List.drop_set_of_lt (by omega)]
        congr 1
        simp
        omega
      rw [e1, e2]
      simp

theorem run_storeVar_row (w : World) (g : Nat) (t ty : TypeId) (old vs : List Value) (hA : At w g t old) (hl : vs.length = old.length) (hi : (P.info? ty).map (·.size) = some vs.length) (h1 : ∀ v ∈ vs, v.oneCell' = true) :
    ∃ w', (storeVar ty ⟨g, 0, none⟩ (.agg vs.toArray)).run P w = .ok () w' ∧ At w' g t vs ∧ Upd (· = g) w w' := by
  obtain ⟨w', hr, hA', hU⟩ := store_from (P := P) t g vs 0 w old hA (by omega) h1
  refine ⟨w', ?_, hA'.of_eq (by simp [hl]), hU⟩
  cases hq : P.info? ty with
  | none => simp [hq] at hi
  | some i =>
    have hs : i.size = vs.length := by simpa [hq] using hi
    simp [storeVar, Sem.run_bind, sizeOf, typeInfo, hq, hs, Value.cells, hr]

theorem wp_store_row {o : Oper} {a : Act} {w : World} {K : Act → World → Prop} {Q : Exit → Act → World → Prop} (ty : TypeId) (x y : Operand) (ho : o.op = .store ty x y) (hd : o.dst = none)
    (g : Nat) (hx : a.eval x = .pointer (some ⟨g, 0, none⟩)) (vs : List Value) (hy : a.eval y = .agg vs.toArray) (t : TypeId) (old : List Value) (hA : At w g t old) (hl : vs.length = old.length)
    (hi : (P.info? ty).map (·.size) = some vs.length) (h1 : ∀ v ∈ vs, v.oneCell' = true)
    (h : ∀ w', At w' g t vs → Upd (· = g) w w' → K a w') : o.wp P a w K Q := by
  obtain ⟨w', hr, hA', hU⟩ := run_storeVar_row (P := P) w g t ty old vs hA hl hi h1
  unfold Oper.wp execOp
  simp only [ho, hx, hy, Instr.storeAt, Instr.sureAddr, Sem.run_bind, Sem.run_pure, Result.andThen_ok, hr, Oper.upon, hd, Act.put]
  exact h w' hA' hU

theorem wpList_store_row {ops : Array Oper} {rest : List Oper} {o : Oper} {a : Act} {w : World} {Q : Exit → Act → World → Prop} (hgd : o.guard = none) (ty : TypeId) (x y : Operand) (ho : o.op = .store ty x y) (hd : o.dst = none)
    (g : Nat) (hx : a.eval x = .pointer (some ⟨g, 0, none⟩)) (vs : List Value) (hy : a.eval y = .agg vs.toArray) (t : TypeId) (old : List Value) (hA : At w g t old) (hl : vs.length = old.length)
    (hi : (P.info? ty).map (·.size) = some vs.length) (h1 : ∀ v ∈ vs, v.oneCell' = true)
    (h : ∀ w', At w' g t vs → Upd (· = g) w w' → wpList P ops Q rest a w') : wpList P ops Q (o :: rest) a w :=
  wpList_plain hgd fun _ hK => wp_store_row ty x y ho hd g hx vs hy t old hA hl hi h1 fun w' h2 h3 => hK _ _ (h w' h2 h3)

theorem wpList_load_at {ops : Array Oper} {rest : List Oper} {o : Oper} {a : Act} {w : World} {Q : Exit → Act → World → Prop} (hgd : o.guard = none) (ty : TypeId) (x : Operand) (ho : o.op = .load ty x)
    (g : Nat) (hx : a.eval x = .pointer (some ⟨g, 0, none⟩)) (t : TypeId) (cs : List Value) (hA : At w g t cs) (d : TypeDesc)
    (hu : P.underlying ty = some d) (hd : (match d with | .struct _ | .array _ _ => true | _ => false) = true) (hi : (P.info? ty).map (·.size) = some cs.length)
    (h : wpList P ops Q rest (a.put o.dst (.agg cs.toArray)) w) : wpList P ops Q (o :: rest) a w :=
  wpList_load_row hgd ty x ho g hx t cs.toArray (0, 0) d hA hu hd (by simpa using hi) h

theorem results_cell_at {fn : Func} {p : Tmp} {ty : TypeId} (h : fn.results = #[.cell p ty]) (tmps : Array Value) (w : World) (g : Nat) (t : TypeId) (cs : List Value) (hA : At w g t cs) (d : TypeDesc)
    (hp : tmps.getD p undef = .pointer (some ⟨g, 0, none⟩)) (hu : P.underlying ty = some d) (hd : (match d with | .struct _ | .array _ _ => true | _ => false) = true) (hi : (P.info? ty).map (·.size) = some cs.length) :
    (results fn tmps).run P w = .ok (.agg cs.toArray) w :=
  results_cell_row h tmps w g t cs.toArray (0, 0) d hp hA hu hd (by simpa using hi)
end
end Go.Proofs.Ytgkbpdcedighcab
