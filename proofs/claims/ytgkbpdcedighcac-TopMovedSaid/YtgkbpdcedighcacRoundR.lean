/-
  Regions in a round of a range over a function: where none of their operations calls or defers, a plain walk serves.
-/
import Derived.RangeFuncNested
import Derived.RangeFuncLeaves
import Derived.OwnWalkIn
import Derived.TacticsInMore
import Derived.LoopNIn
import Derived.LoopIn
import Derived.OrdersIn
import Derived.Test.YtgkbpdcedighcacRegion
namespace Go.Proofs.Ytgkbpdcedighcac
open Go Go.Sort Go.RowKit

/-- The operation calls nothing, whatever it is handed: it yields a value or halts. -/
structure Quite (P : Program) (o : Oper) : Prop where
  run : ∀ ρ w, match (execOp ρ o).run P w with
    | .ok (.value _) _ | .ok .skip _ | .halt _ _ => True
    | _ => False
  nodefer : ∀ c, o.op ≠ .defer c

theorem quite_v (P : Program) (s : Sem Value) (w : World) : match Sem.run P (do pure (Next.value (← s))) w with
    | .ok (.value _) _ | .ok .skip _ | .halt _ _ => True
    | _ => False := by
  simp only [Sem.run_bind, Result.andThen, Sem.run_pure]
  cases s.run P w <;> trivial
theorem quite_u (P : Program) (s : Sem Unit) (w : World) : match Sem.run P (do s; pure Next.skip) w with
    | .ok (.value _) _ | .ok .skip _ | .halt _ _ => True
    | _ => False := by
  simp only [Sem.run_bind, Result.andThen, Sem.run_pure]
  cases s.run P w <;> trivial

/-- Which operations are so. -/
def quiteB (o : Oper) : Bool := match o.op with
  | .move _ | .assign _ | .alloc _ | .load .. | .store .. | .fieldAddr .. | .convert .. | .binOp .. | .indexAddr .. | .build .. | .buildSlice .. => true
  | .call c => match c.callee with
    | .builtin b => match b with
      | .len => true
      | .append => true
      | _ => false
    | _ => false
  | _ => false

theorem quite_of {P : Program} {o : Oper} (h : quiteB o = true) : Quite P o := by
  unfold quiteB at h
  refine ⟨fun ρ w => ?_, fun c hc => by rw [hc] at h; cases h⟩
  unfold execOp
  split at h
  all_goals (first | (cases h; done) | skip)
  all_goals (rename_i ho; simp only [ho])
  · simp
  · simp
  · exact quite_v _ _ _
  · exact quite_v _ _ _
  · exact quite_u _ _ _
  · exact quite_v _ _ _
  · exact quite_v _ _ _
  · exact quite_v _ _ _
  · exact quite_v _ _ _
  · exact quite_v _ _ _
  · exact quite_v _ _ _
  · split at h
    · rename_i hb
      split at h
      · rw [Sem.run_bind]
        simp only [resolve, hb, Sem.run_pure]
        exact quite_v P _ w
      · rw [Sem.run_bind]
        simp only [resolve, hb, Sem.run_pure]
        exact quite_v P _ w
      · cases h
    · cases h

section
variable {F : Fence} {n : Nat} {P : Program} {ops : Array Oper} {Q : Exit → Act → World → Prop}

theorem wpIn_of_plain {o : Oper} {a : Act} {w : World} {K K' : Act → World → Prop} (hF : ∀ f, F.fn f) (ho : Quite P o) (hk : ∀ a w, K a w → K' a w) (h : o.wp P a w K Q) : o.wpIn F n P a w K' Q := by
  refine ⟨fun f _ => hF f, ?_⟩
  rw [Oper.semAt_plain F _ _ ho.nodefer]
  have hr := ho.run a.eval w
  unfold Oper.wp at h
  generalize (execOp a.eval o).run P w = r at *
  cases r with
  | ok x w' =>
    cases x <;> simp only [Oper.upon, Oper.uponIn] at h hr ⊢ <;> first | exact hk _ _ h | exact hr.elim
  | halt x w' => cases x <;> simp only [Oper.upon, Oper.uponIn] at h ⊢ <;> exact h

theorem wpOpIn_of_plain {i : Nat} {a : Act} {w : World} {K K' : Act → World → Prop} (hF : ∀ f, F.fn f) (hQ : ¬ LetsOut Q) (ho : ∀ o, ops[i]? = some o → Quite P o) (hk : ∀ a w, K a w → K' a w)
    (h : wpOp P ops Q i K a w) : wpOpIn F n P ops Q i K' a w := by
  unfold wpOp at h
  unfold wpOpIn
  cases hi : ops[i]? with
  | none => simp only [hi] at h; exact hk _ _ h
  | some o =>
    simp only [hi] at h ⊢
    by_cases hw : Region.wanted o (yielded ops a.tmps) = true
    · rw [if_pos hw] at h ⊢
      rcases h with h | h
      · exact wpIn_of_plain hF (ho o hi) hk h
      · exact absurd h.2 hQ
    · rw [if_neg hw] at h ⊢
      exact ⟨fun f _ => hF f, hk _ _ h⟩

theorem wpAnyIn_of_plain {md : Region.Mode} (hF : ∀ f, F.fn f) (hQ : ¬ LetsOut Q) (ho : ∀ (i : Nat) (o : Oper), ops[i]? = some o → Quite P o) : ∀ (fuel : Nat) (listed : Array Bool) (a : Act) (w : World),
    wpAny P md ops Q fuel listed a w → wpAnyIn F n P md ops Q fuel listed a w
  | 0, _, _, _, h => h
  | fuel + 1, _, _, _, h => ⟨h.1, fun i hi => wpOpIn_of_plain hF hQ (ho i) (fun a' w' h' => wpAnyIn_of_plain hF hQ ho fuel _ a' w' h') (h.2 i hi)⟩

theorem wpOpsIn_of_plain (hF : ∀ f, F.fn f) (hQ : ¬ LetsOut Q) (ho : ∀ (i : Nat) (o : Oper), ops[i]? = some o → Quite P o) : ∀ (l : List Nat) (a : Act) (w : World), wpOps P ops Q l a w → wpOpsIn F n P ops Q l a w
  | [], _, _, h => h
  | i :: l, a, w, h => by
    rw [wpOps_cons] at h
    rw [wpOpsIn_cons]
    exact wpOpIn_of_plain hF hQ (ho i) (fun a' w' h' => wpOpsIn_of_plain hF hQ ho l a' w' h') h

theorem quite_all {l : List Oper} (h : l.all quiteB = true) (i : Nat) (o : Oper) (hi : l.toArray[i]? = some o) : Quite P o :=
  quite_of (List.all_eq_true.1 h o (by rw [List.getElem?_toArray] at hi; exact List.mem_of_getElem? hi))

/-- A region in the order of its text. -/
theorem regionIn_lit {id : Nat} {a : Act} {w : World} {l : List Oper} (hF : ∀ f, F.fn f) (hQ : ¬ LetsOut Q) (ho : l.all quiteB = true) (h : wpList P l.toArray Q l a w) : (Code.region id l.toArray false).wpIn F n P Q a w := by
  refine wpIn_region (wpOpsIn_of_plain hF hQ (quite_all ho) _ _ _ ?_)
  rw [List.range_eq_range', List.size_toArray, wpOps_eq_wpList l 0 (by simp)]
  exact h

/-- A region that draws its order, after some draws; its tail in its own order. -/
theorem regionIn_drew_tail {id : Nat} {a : Act} {w : World} {l : List Oper} (k : Nat) (hF : ∀ f, F.fn f) (hQ : ¬ LetsOut Q) (ho : l.all quiteB = true) (hm : P.follows .mixedOrders = true) (hB : Region.lexTailB .any l.toArray k = true)
    (h : wpQuiet P l.toArray (fun w' => ∃ n, w' = w.drewN n) (fun a' => ∀ w', (∃ n, w' = w.drewN n) → wpList P l.toArray Q (l.drop k) a' w') (l.take k) a) : (Code.region id l.toArray true).wpIn F n P Q a w := by
  simp only [Region.lexTailB, Bool.and_eq_true, decide_eq_true_eq] at hB
  obtain ⟨⟨⟨⟨hsel, hn⟩, hs⟩, hc⟩, hlex⟩ := hB
  have hn' : k < l.length := by simpa using hn
  have htl : (l.take k).length = k := by simp; omega
  have hdl : (l.drop k).length = l.toArray.size - k := by simp
  have inv0 : HeadInv .any l.toArray k (Array.replicate l.toArray.size false) :=
    ⟨by simp, fun j oj _ hl => (by rw [getD_replicate_false] at hl; cases hl), fun t _ ht => getD_in (by simpa using ht) (getD_replicate_false _ _)⟩
  have H := headAny_lex (C := fun w' => ∃ n, w' = w.drewN n) (md := .any) (g := l.toArray.size - k) hsel hs hc hn (l.take k) 0 _ a (fun j hj => by
    have hj' : j < k := by rw [htl] at hj; exact hj
    simp [hj']) (by simpa using htl) inv0 (by rw [htl]; exact hlex) h
  refine wpIn_region_any hm (wpAnyIn_of_plain hF hQ (quite_all ho) _ _ _ _ ?_)
  have := headAny_wp (Q' := Q) (g := l.toArray.size - k) (fun listed a' w' hw' hL => by
    have := wpAny_of_seq (md := .any) (Q' := Q) (l.drop k) k listed a' w' (fun j => by simp [List.getElem?_drop]) (by rw [hdl]; exact hL.1) (hL.2 w' hw')
    rwa [hdl] at this) _ _ _ _ (⟨1, rfl⟩ : ∃ n, { w with drawn := w.drawn + 1 } = w.drewN n) H
  rw [htl, show k + (l.toArray.size - k) = l.toArray.size by omega] at this
  exact this
end
end Go.Proofs.Ytgkbpdcedighcac
