/-
  A whole array read out of a block, laid into a block, handed back.
-/
import Derived.Test.YtgkbpdcedighcacRegion
import Derived.Laws.Rows
import Derived.Laws.ResultCell
import Derived.WalkKit
namespace Go.Proofs.Ytgkbpdcedighcac
open Go Go.RowKit

theorem alloc_size (w : World) (o : Obj) : (w.alloc o).heap.size = w.heap.size + 1 := by simp
theorem At.fresh (w : World) (cs : Array Value) (t : TypeId) (g : Nat) (hg : w.heap.size = g) : At (w.alloc (.cells cs t)) g t cs.toList := hg ▸ At.new w cs t

/-- New blocks by name. -/
theorem allocs1 {F : World → Prop} {w : World} {c1 : Array Value} {t1 : TypeId} (h : ∀ w', At w' w.heap.size t1 c1.toList → Below w.heap.size w w' → w'.heap.size = w.heap.size + 1 → F w') : F (w.alloc (.cells c1 t1)) :=
  h _ (At.new w c1 t1) ((Below.refl _ w).alloc (Nat.le_refl _) _) (alloc_size _ _)
theorem allocs2 {F : World → Prop} {w : World} {c1 c2 : Array Value} {t1 t2 : TypeId} (h : ∀ w', At w' w.heap.size t1 c1.toList → At w' (w.heap.size + 1) t2 c2.toList → Below w.heap.size w w' → w'.heap.size = w.heap.size + 1 + 1 → F w') :
    F ((w.alloc (.cells c1 t1)).alloc (.cells c2 t2)) :=
  h _ ((At.new w c1 t1).alloc _) (At.fresh _ _ _ _ (by simp)) (((Below.refl _ w).alloc (Nat.le_refl _) _).alloc (by simp) _) (by simp)
theorem allocs3 {F : World → Prop} {w : World} {c1 c2 c3 : Array Value} {t1 t2 t3 : TypeId}
    (h : ∀ w', At w' w.heap.size t1 c1.toList → At w' (w.heap.size + 1) t2 c2.toList → At w' (w.heap.size + 1 + 1) t3 c3.toList → Below w.heap.size w w' → w'.heap.size = w.heap.size + 1 + 1 + 1 → F w') :
    F (((w.alloc (.cells c1 t1)).alloc (.cells c2 t2)).alloc (.cells c3 t3)) :=
  h _ (((At.new w c1 t1).alloc _).alloc _) ((At.fresh _ _ _ _ (by simp)).alloc _) (At.fresh _ _ _ _ (by simp)) ((((Below.refl _ w).alloc (Nat.le_refl _) _).alloc (by simp) _).alloc (by simp; omega) _) (by simp)
theorem allocs4 {F : World → Prop} {w : World} {c1 c2 c3 c4 : Array Value} {t1 t2 t3 t4 : TypeId}
    (h : ∀ w', At w' w.heap.size t1 c1.toList → At w' (w.heap.size + 1) t2 c2.toList → At w' (w.heap.size + 1 + 1) t3 c3.toList → At w' (w.heap.size + 1 + 1 + 1) t4 c4.toList → Below w.heap.size w w' → w'.heap.size = w.heap.size + 1 + 1 + 1 + 1 → F w') :
    F ((((w.alloc (.cells c1 t1)).alloc (.cells c2 t2)).alloc (.cells c3 t3)).alloc (.cells c4 t4)) :=
  h _ ((((At.new w c1 t1).alloc _).alloc _).alloc _) (((At.fresh _ _ _ _ (by simp)).alloc _).alloc _) ((At.fresh _ _ _ _ (by simp)).alloc _) (At.fresh _ _ _ _ (by simp))
    (((((Below.refl _ w).alloc (Nat.le_refl _) _).alloc (by simp) _).alloc (by simp; omega) _).alloc (by simp; omega) _) (by simp)

theorem row_addr (g n : Nat) : (⟨g, 0, none⟩ : Addr).add n = ⟨g, n, none⟩ := by
  unfold Addr.add
  split
  · subst n; rfl
  · simp

section
variable {P : Program}

theorem quiet_load_row {C : World → Prop} {a : Act} {o : Oper} {K : Act → Prop} (ty : TypeId) (x : Operand) (ho : o.op = .load ty x) (g : Nat) (hx : a.eval x = .pointer (some ⟨g, 0, none⟩)) (t : TypeId) (cs : List Value)
    (d : TypeDesc) (hg : ∀ w, C w → At w g t cs) (hu : P.underlying ty = some d) (hd : (match d with | .struct _ | .array _ _ => true | _ => false) = true) (hi : (P.info? ty).map (·.size) = some cs.length)
    (hk : K (a.put o.dst (.agg cs.toArray))) : o.quiet P a C K := by
  refine ⟨.agg cs.toArray, fun w hw => ?_, hk⟩
  unfold Oper.quietAt execOp
  simp only [ho, hx, Instr.loadAt, Instr.sureAddr, Sem.run_bind, Sem.run_pure, Result.andThen_ok, run_loadVar_row w g t ty cs.toArray (0, 0) d (hg w hw) hu hd (by simpa using hi)]
  exact ⟨rfl, rfl⟩

theorem store_fact {w : World} {g : Nat} {t : TypeId} {cs : List Value} (hA : At w g t cs) (i : Nat) (hi : i < cs.length) (v : Value) (h1 : v.oneCell' = true) :
    (store ⟨g, i, none⟩ v).run P w = .ok () (w.setCell ⟨g, i, none⟩ v) := by
  have hc : w.cell? ⟨g, i, none⟩ = some (cs[i]'hi) := hA.cell i (List.getElem?_eq_getElem hi)
  rw [run_store P w _ v .plain h1, hc, hA.frozen i]
  rfl

theorem store_from (t : TypeId) (g : Nat) : ∀ (vs : List Value) (i : Nat) (w : World) (old : List Value), At w g t old → i + vs.length ≤ old.length → (∀ v ∈ vs, v.oneCell' = true) →
    ∃ w', (storeCells ⟨g, 0, none⟩ vs i).run P w = .ok () w' ∧ At w' g t (old.take i ++ vs ++ old.drop (i + vs.length)) ∧ Upd (· = g) w w'
  | [], i, w, old, hA, _, _ => ⟨w, by simp [storeCells], by simpa using hA, Upd.refl _ _⟩
  | v :: vs, i, w, old, hA, hl, h1 => by
    simp only [List.length_cons] at hl
    have hc : w.cell? ⟨g, i, none⟩ = some (old[i]'(by omega)) := hA.cell i (List.getElem?_eq_getElem (by omega))
    have hs : (store ⟨g, i, none⟩ v).run P w = .ok () (w.setCell ⟨g, i, none⟩ v) := by
      rw [run_store P w _ v .plain (h1 v (by simp)), hc, hA.frozen i]
      rfl
    obtain ⟨w', hr, hA', hU⟩ := store_from t g vs (i + 1) (w.setCell ⟨g, i, none⟩ v) (old.set i v) (hA.set i v) (by simp; omega) (fun u hu => h1 u (by simp [hu]))
    refine ⟨w', ?_, ?_, ((Upd.refl _ _).here _).trans hU fun _ _ h => h⟩
    · simp only [storeCells, row_addr, Sem.run_bind, hs, Result.andThen_ok]
      exact hr
    · refine hA'.of_eq ?_
      have e1 : (old.set i v).take (i + 1) = old.take i ++ [v] := by
        rw [List.take_succ_eq_append_getElem (by simp; omega)]
        rw [List.take_set, List.set_eq_of_length_le (by rw [List.length_take]; omega)]
        simp
      have e2 : (old.set i v).drop (i + 1 + vs.length) = old.drop (i + (v :: vs).length) := by
        rw [List.drop_set_of_lt (by omega)]
        congr 1
        simp
        omega
      rw [e1, e2]
      simp

theorem run_storeVar_row (w : World) (g : Nat) (t ty : TypeId) (old vs : List Value) (hA : At w g t old) (hl : vs.length = old.length) (hi : (P.info? ty).map (·.size) = some vs.length) (h1 : ∀ v ∈ vs, v.oneCell' = true) :
    ∃ w', (storeVar ty ⟨g, 0, none⟩ (.agg vs.toArray)).run P w = .ok () w' ∧ At w' g t vs ∧ Upd (· = g) w w' := by
  obtain ⟨w', hr, hA', hU⟩ := store_from (P := P) t g vs 0 w old hA (by omega) h1
  refine ⟨w', ?_, hA'.of_eq (by simp [hl]), hU⟩
  cases hq : P.info? ty with
  | none => simp [hq] at hi
  | some i =>
    have hs : i.size = vs.length := by simpa [hq] using hi
    simp [storeVar, Sem.run_bind, sizeOf, typeInfo, hq, hs, Value.cells, hr]

theorem wp_store_row {o : Oper} {a : Act} {w : World} {K : Act → World → Prop} {Q : Exit → Act → World → Prop} (ty : TypeId) (x y : Operand) (ho : o.op = .store ty x y) (hd : o.dst = none)
    (g : Nat) (hx : a.eval x = .pointer (some ⟨g, 0, none⟩)) (vs : List Value) (hy : a.eval y = .agg vs.toArray) (t : TypeId) (old : List Value) (hA : At w g t old) (hl : vs.length = old.length)
    (hi : (P.info? ty).map (·.size) = some vs.length) (h1 : ∀ v ∈ vs, v.oneCell' = true)
    (h : ∀ w', At w' g t vs → Upd (· = g) w w' → K a w') : o.wp P a w K Q := by
  obtain ⟨w', hr, hA', hU⟩ := run_storeVar_row (P := P) w g t ty old vs hA hl hi h1
  unfold Oper.wp execOp
  simp only [ho, hx, hy, Instr.storeAt, Instr.sureAddr, Sem.run_bind, Sem.run_pure, Result.andThen_ok, hr, Oper.upon, hd, Act.put]
  exact h w' hA' hU

theorem wpList_store_row {ops : Array Oper} {rest : List Oper} {o : Oper} {a : Act} {w : World} {Q : Exit → Act → World → Prop} (hgd : o.guard = none) (ty : TypeId) (x y : Operand) (ho : o.op = .store ty x y) (hd : o.dst = none)
    (g : Nat) (hx : a.eval x = .pointer (some ⟨g, 0, none⟩)) (vs : List Value) (hy : a.eval y = .agg vs.toArray) (t : TypeId) (old : List Value) (hA : At w g t old) (hl : vs.length = old.length)
    (hi : (P.info? ty).map (·.size) = some vs.length) (h1 : ∀ v ∈ vs, v.oneCell' = true)
    (h : ∀ w', At w' g t vs → Upd (· = g) w w' → wpList P ops Q rest a w') : wpList P ops Q (o :: rest) a w :=
  wpList_plain hgd fun _ hK => wp_store_row ty x y ho hd g hx vs hy t old hA hl hi h1 fun w' h2 h3 => hK _ _ (h w' h2 h3)

theorem wpList_load_at {ops : Array Oper} {rest : List Oper} {o : Oper} {a : Act} {w : World} {Q : Exit → Act → World → Prop} (hgd : o.guard = none) (ty : TypeId) (x : Operand) (ho : o.op = .load ty x)
    (g : Nat) (hx : a.eval x = .pointer (some ⟨g, 0, none⟩)) (t : TypeId) (cs : List Value) (hA : At w g t cs) (d : TypeDesc)
    (hu : P.underlying ty = some d) (hd : (match d with | .struct _ | .array _ _ => true | _ => false) = true) (hi : (P.info? ty).map (·.size) = some cs.length)
    (h : wpList P ops Q rest (a.put o.dst (.agg cs.toArray)) w) : wpList P ops Q (o :: rest) a w :=
  wpList_load_row hgd ty x ho g hx t cs.toArray (0, 0) d hA hu hd (by simpa using hi) h

theorem results_cell_at {fn : Func} {p : Tmp} {ty : TypeId} (h : fn.results = #[.cell p ty]) (tmps : Array Value) (w : World) (g : Nat) (t : TypeId) (cs : List Value) (hA : At w g t cs) (d : TypeDesc)
    (hp : tmps.getD p undef = .pointer (some ⟨g, 0, none⟩)) (hu : P.underlying ty = some d) (hd : (match d with | .struct _ | .array _ _ => true | _ => false) = true) (hi : (P.info? ty).map (·.size) = some cs.length) :
    (results fn tmps).run P w = .ok (.agg cs.toArray) w :=
  results_cell_row h tmps w g t cs.toArray (0, 0) d hp hA hu hd (by simpa using hi)

theorem results_cell_at2 {fn : Func} {p u : Tmp} {ty : TypeId} (h : fn.results = #[.cell p ty, .tmp u]) (tmps : Array Value) (w : World) (g : Nat) (t : TypeId) (cs : List Value) (hA : At w g t cs) (d : TypeDesc)
    (hp : tmps.getD p undef = .pointer (some ⟨g, 0, none⟩)) (hu : P.underlying ty = some d) (hd : (match d with | .struct _ | .array _ _ => true | _ => false) = true) (hi : (P.info? ty).map (·.size) = some cs.length) :
    (results fn tmps).run P w = .ok (.tuple #[.agg cs.toArray, tmps.getD u undef]) w := by
  rw [results_cell_tmp h, hp]
  have e : (asAddr (.pointer (some ⟨g, 0, none⟩))).run P w = .ok ⟨g, 0, none⟩ w := rfl
  simp only [e, Result.andThen_ok, run_loadVar_row w g t ty cs.toArray (0, 0) d hA hu hd (by simpa using hi)]

theorem part_addr (g off n : Nat) : (⟨g, off, none⟩ : Addr).add n = ⟨g, off + n, none⟩ := by
  unfold Addr.add
  split
  · subst n; rfl
  · rfl

theorem store_from_at (t : TypeId) (g off : Nat) : ∀ (vs : List Value) (i : Nat) (w : World) (old : List Value), At w g t old → off + i + vs.length ≤ old.length → (∀ v ∈ vs, v.oneCell' = true) →
    ∃ w', (storeCells ⟨g, off, none⟩ vs i).run P w = .ok () w' ∧ At w' g t (old.take (off + i) ++ vs ++ old.drop (off + i + vs.length)) ∧ Upd (· = g) w w'
  | [], i, w, old, hA, _, _ => ⟨w, by simp [storeCells], by simpa using hA, Upd.refl _ _⟩
  | v :: vs, i, w, old, hA, hl, h1 => by
    simp only [List.length_cons] at hl
    have hs := store_fact (P := P) hA (off + i) (by omega) v (h1 v (by simp))
    obtain ⟨w', hr, hA', hU⟩ := store_from_at t g off vs (i + 1) (w.setCell ⟨g, off + i, none⟩ v) (old.set (off + i) v) (hA.set (off + i) v) (by simp; omega) (fun u hu => h1 u (by simp [hu]))
    refine ⟨w', ?_, ?_, ((Upd.refl _ _).here _).trans hU fun _ _ h => h⟩
    · simp only [storeCells, part_addr, Sem.run_bind, hs, Result.andThen_ok]
      exact hr
    · refine hA'.of_eq ?_
      rw [← Nat.add_assoc]
      have e1 : (old.set (off + i) v).take (off + i + 1) = old.take (off + i) ++ [v] := by
        rw [List.take_succ_eq_append_getElem (by simp; omega)]
        rw [List.take_set, List.set_eq_of_length_le (by rw [List.length_take]; omega)]
        simp
      have e2 : (old.set (off + i) v).drop (off + i + 1 + vs.length) = old.drop (off + i + (v :: vs).length) := by
        rw [List.drop_set_of_lt (by omega)]
        congr 1
        simp
        omega
      rw [e1, e2]
      simp

theorem run_storeVar_part (w : World) (g off : Nat) (t ty : TypeId) (old vs : List Value) (hA : At w g t old) (hl : off + vs.length ≤ old.length) (hi : (P.info? ty).map (·.size) = some vs.length) (h1 : ∀ v ∈ vs, v.oneCell' = true) :
    ∃ w', (storeVar ty ⟨g, off, none⟩ (.agg vs.toArray)).run P w = .ok () w' ∧ At w' g t (old.take off ++ vs ++ old.drop (off + vs.length)) ∧ Upd (· = g) w w' := by
  obtain ⟨w', hr, hA', hU⟩ := store_from_at (P := P) t g off vs 0 w old hA (by omega) h1
  refine ⟨w', ?_, hA', hU⟩
  cases hq : P.info? ty with
  | none => simp [hq] at hi
  | some i =>
    have hs : i.size = vs.length := by simpa [hq] using hi
    simp [storeVar, Sem.run_bind, sizeOf, typeInfo, hq, hs, Value.cells, hr]

theorem wpList_store_part {ops : Array Oper} {rest : List Oper} {o : Oper} {a : Act} {w : World} {Q : Exit → Act → World → Prop} (hgd : o.guard = none) (ty : TypeId) (x y : Operand) (ho : o.op = .store ty x y) (hd : o.dst = none)
    (g off : Nat) (hx : a.eval x = .pointer (some ⟨g, off, none⟩)) (vs : List Value) (hy : a.eval y = .agg vs.toArray) (t : TypeId) (old : List Value) (hA : At w g t old) (hl : off + vs.length ≤ old.length)
    (hi : (P.info? ty).map (·.size) = some vs.length) (h1 : ∀ v ∈ vs, v.oneCell' = true)
    (h : ∀ w', At w' g t (old.take off ++ vs ++ old.drop (off + vs.length)) → Upd (· = g) w w' → wpList P ops Q rest a w') : wpList P ops Q (o :: rest) a w :=
  wpList_plain hgd fun _ hK => by
    obtain ⟨w', hr, hA', hU⟩ := run_storeVar_part (P := P) w g off t ty old vs hA hl hi h1
    unfold Oper.wp execOp
    simp only [ho, hx, hy, Instr.storeAt, Instr.sureAddr, Sem.run_bind, Sem.run_pure, Result.andThen_ok, hr, Oper.upon, hd, Act.put]
    exact hK _ _ (h w' hA' hU)

theorem wpList_store_cell {ops : Array Oper} {rest : List Oper} {o : Oper} {a : Act} {w : World} {Q : Exit → Act → World → Prop} (hgd : o.guard = none) (ty : TypeId) (x y : Operand) (ho : o.op = .store ty x y) (hd : o.dst = none)
    (g i : Nat) (hx : a.eval x = .pointer (some ⟨g, i, none⟩)) (v : Value) (hy : a.eval y = v) (t : TypeId) (old : List Value) (hA : At w g t old) (hi : i < old.length)
    (hs : (P.info? ty).map (·.size) = some 1) (h1 : v.oneCell' = true) (hc : v.cells = #[v])
    (h : ∀ w', At w' g t (old.set i v) → Upd (· = g) w w' → wpList P ops Q rest a w') : wpList P ops Q (o :: rest) a w :=
  wpList_plain hgd fun _ hK => by
    have hr := store_fact (P := P) hA i hi v h1
    have hv : (storeVar ty ⟨g, i, none⟩ v).run P w = .ok () (w.setCell ⟨g, i, none⟩ v) := by
      cases hq : P.info? ty with
      | none => simp [hq] at hs
      | some inf =>
        have hs' : inf.size = 1 := by simpa [hq] using hs
        simp [storeVar, Sem.run_bind, sizeOf, typeInfo, hq, hs', hc, storeCells, part_addr, hr]
    unfold Oper.wp execOp
    simp only [ho, hx, hy, Instr.storeAt, Instr.sureAddr, Sem.run_bind, Sem.run_pure, Result.andThen_ok, hv, Oper.upon, hd, Act.put]
    exact hK _ _ (h _ (hA.set i v) ((Upd.refl _ _).here _))

/-- .. of an operation that is wanted (its guard holds). -/
theorem wpList_load_at_w {ops : Array Oper} {rest : List Oper} {o : Oper} {a : Act} {w : World} {Q : Exit → Act → World → Prop} (hw : Region.wanted o (yielded ops a.tmps) = true) (ty : TypeId) (x : Operand) (ho : o.op = .load ty x)
    (g : Nat) (hx : a.eval x = .pointer (some ⟨g, 0, none⟩)) (t : TypeId) (cs : List Value) (hA : At w g t cs) (d : TypeDesc)
    (hu : P.underlying ty = some d) (hd : (match d with | .struct _ | .array _ _ => true | _ => false) = true) (hi : (P.info? ty).map (·.size) = some cs.length)
    (h : wpList P ops Q rest (a.put o.dst (.agg cs.toArray)) w) : wpList P ops Q (o :: rest) a w := by
  unfold wpList
  rw [if_pos hw]
  refine .inl ?_
  unfold Oper.wp execOp
  simp only [ho, hx, Instr.loadAt, Instr.sureAddr, Sem.run_bind, Sem.run_pure, Result.andThen_ok, run_loadVar_row w g t ty cs.toArray (0, 0) d hA hu hd (by simpa using hi), Oper.upon]
  exact h

/-- A part of a block, read as an aggregate. -/
theorem run_loadVar_part (w : World) (g off n : Nat) (t ty : TypeId) (cs : List Value) (d : TypeDesc) (hA : At w g t cs) (hl : off + n ≤ cs.length)
    (hu : P.underlying ty = some d) (hd : (match d with | .struct _ | .array _ _ => true | _ => false) = true) (hi : (P.info? ty).map (·.size) = some n) :
    (loadVar ty ⟨g, off, none⟩).run P w = .ok (.agg ((cs.drop off).take n).toArray) w := by
  have hlen : ((cs.drop off).take n).length = n := by simp; omega
  have hl : (loadCells ⟨g, off, none⟩ n).run P w = .ok ((cs.drop off).take n).toArray w := by
    have := run_loadCells_list (P := P) w ⟨g, off, none⟩ ((cs.drop off).take n) (fun j v hv => by
      rw [part_addr]
      have hj : j < n := by
        rcases Nat.lt_or_ge j n with h | h
        · exact h
        · rw [List.getElem?_eq_none (by omega)] at hv; cases hv
      rw [List.getElem?_take, if_pos hj, List.getElem?_drop] at hv
      exact hA.cell _ hv)
    rwa [hlen] at this
  cases hq : P.info? ty with
  | none => simp [hq] at hi
  | some i =>
    have hs : i.size = n := by simpa [hq] using hi
    have hagg : (isAgg ty).run P w = .ok true w := by
      simp only [isAgg, run_underlying hu, Sem.run_bind, Result.andThen_ok]
      cases d <;> first | rfl | (cases hd)
    simp [loadVar, Sem.run_bind, hagg, sizeOf, typeInfo, hq, hs, hl]

theorem quiet_load_part {C : World → Prop} {a : Act} {o : Oper} {K : Act → Prop} (ty : TypeId) (x : Operand) (ho : o.op = .load ty x) (g off n : Nat) (hx : a.eval x = .pointer (some ⟨g, off, none⟩)) (t : TypeId) (cs : List Value)
    (d : TypeDesc) (hg : ∀ w, C w → At w g t cs) (hl : off + n ≤ cs.length) (hu : P.underlying ty = some d) (hd : (match d with | .struct _ | .array _ _ => true | _ => false) = true) (hi : (P.info? ty).map (·.size) = some n)
    (vs : List Value) (hv : (cs.drop off).take n = vs) (hk : K (a.put o.dst (.agg vs.toArray))) : o.quiet P a C K := by
  subst hv
  refine ⟨.agg ((cs.drop off).take n).toArray, fun w hw => ?_, hk⟩
  unfold Oper.quietAt execOp
  simp only [ho, hx, Instr.loadAt, Instr.sureAddr, Sem.run_bind, Sem.run_pure, Result.andThen_ok, run_loadVar_part w g off n t ty cs d (hg w hw) hl hu hd hi]
  exact ⟨rfl, rfl⟩

theorem wpList_load_part {ops : Array Oper} {rest : List Oper} {o : Oper} {a : Act} {w : World} {Q : Exit → Act → World → Prop} (hw : Region.wanted o (yielded ops a.tmps) = true) (ty : TypeId) (x : Operand) (ho : o.op = .load ty x)
    (g off n : Nat) (hx : a.eval x = .pointer (some ⟨g, off, none⟩)) (t : TypeId) (cs : List Value) (hA : At w g t cs) (hl : off + n ≤ cs.length) (d : TypeDesc)
    (hu : P.underlying ty = some d) (hd : (match d with | .struct _ | .array _ _ => true | _ => false) = true) (hi : (P.info? ty).map (·.size) = some n)
    (vs : List Value) (hv : (cs.drop off).take n = vs) (h : wpList P ops Q rest (a.put o.dst (.agg vs.toArray)) w) : wpList P ops Q (o :: rest) a w := by
  subst hv
  unfold wpList
  rw [if_pos hw]
  refine .inl ?_
  unfold Oper.wp execOp
  simp only [ho, hx, Instr.loadAt, Instr.sureAddr, Sem.run_bind, Sem.run_pure, Result.andThen_ok, run_loadVar_part w g off n t ty cs d hA hl hu hd hi, Oper.upon]
  exact h
end
end Go.Proofs.Ytgkbpdcedighcac
