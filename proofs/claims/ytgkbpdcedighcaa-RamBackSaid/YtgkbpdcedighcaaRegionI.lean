/-
  A region that draws its order, by an invariant: one goal for each operation, whatever the orders.
-/
import Derived.Test.YtgkbpdcedighcaaRegion
import Derived.Test.YtgkbpdcedighcaaRow
namespace Go.Proofs.Ytgkbpdcedighcaa
open Go

section
variable {P : Program}

def Deps (L : Nat → Bool) : List Nat → Prop
  | [] => True
  | e :: es => L e = true ∧ Deps L es
def depsOf (o : Oper) : List Nat := (o.after.toList.filter (Region.binds .any)).map (·.on)
/-- L, with i listed. -/
def mark (L : Nat → Bool) (i : Nat) (j : Nat) : Bool := if j = i then true else L j

theorem deps_all {L : Nat → Bool} : ∀ {l : List Nat}, (∀ e ∈ l, L e = true) → Deps L l
  | [], _ => trivial
  | e :: es, h => ⟨h e (by simp), deps_all fun x hx => h x (by simp [hx])⟩

/-- Each operation keeps the invariant. -/
def InvSteps (P : Program) (ops : Array Oper) (Q : Exit → Act → World → Prop) (I : (Nat → Bool) → Act → World → Prop) : Nat → List Oper → Prop
  | _, [] => True
  | k, o :: l => (∀ L a w, L k = false → Deps L (depsOf o) → I L a w → wpList P ops (Exit.then (I (mark L k)) Q) [o] a w) ∧ InvSteps P ops Q I (k + 1) l

theorem invSteps_get {ops : Array Oper} {Q : Exit → Act → World → Prop} {I : (Nat → Bool) → Act → World → Prop} : ∀ {l : List Oper} {k : Nat}, InvSteps P ops Q I k l → ∀ {i : Nat} {o : Oper}, l[i]? = some o →
    ∀ L a w, L (k + i) = false → Deps L (depsOf o) → I L a w → wpList P ops (Exit.then (I (mark L (k + i))) Q) [o] a w
  | [], _, _, i, o, hi => by cases hi
  | o :: l, k, h, 0, o', hi => by
    injection hi with hi; subst hi; exact h.1
  | o :: l, k, h, i + 1, o', hi => by
    have := invSteps_get h.2 (i := i) (o := o') hi
    rw [show k + 1 + i = k + (i + 1) by omega] at this
    exact this

/-- Each operation waits only for operations ahead of it in the text. -/
def aheadB (ops : List Oper) : Bool := (List.range ops.length).all fun i => match ops[i]? with | some o => (depsOf o).all fun e => decide (e < i) | none => true

theorem letsOut_then {K : Act → World → Prop} {Q : Exit → Act → World → Prop} (h : LetsOut (Exit.then K Q)) : LetsOut Q := h

theorem wp_unthen {o : Oper} {Q : Exit → Act → World → Prop} {K : Act → World → Prop} {a : Act} {w : World} (hh : o.wp P a w K (Exit.then K Q)) : o.wp P a w K Q := by
  unfold Oper.wp at *
  generalize (execOp a.eval o).run P w = r at *
  cases r with
  | ok n w' =>
    cases n <;> simp only [Oper.upon] at hh ⊢ <;>
      first
        | exact hh
        | exact Calls.mono hh (fun e w'' he => by cases e <;> exact he)
  | halt x w' =>
    cases x <;> simp only [Oper.upon] at hh ⊢ <;> exact hh

theorem wpOp_of_list {ops : Array Oper} {Q : Exit → Act → World → Prop} {i : Nat} {o : Oper} {K : Act → World → Prop} {a : Act} {w : World} (ho : ops[i]? = some o) (h : wpList P ops (Exit.then K Q) [o] a w) : wpOp P ops Q i K a w := by
  unfold wpOp
  simp only [ho]
  simp only [wpList] at h
  split at h
  · rename_i hw
    rw [if_pos hw]
    rcases h with h | ⟨h1, h2⟩
    · exact .inl (wp_unthen h)
    · exact .inr ⟨h1, letsOut_then h2⟩
  · rename_i hw
    rw [if_neg hw]
    exact h

def unlisted (n : Nat) (L : Nat → Bool) : List Nat := (List.range n).filter fun i => !L i
theorem unlisted_mark {n : Nat} {L : Nat → Bool} {i : Nat} (hi : i < n) (h : L i = false) : (unlisted n (mark L i)).length < (unlisted n L).length := by
  have e : unlisted n (mark L i) = (unlisted n L).filter fun j => decide (j ≠ i) := by
    unfold unlisted
    rw [List.filter_filter]
    congr 1
    funext j
    unfold mark
    by_cases hj : j = i
    · subst hj; simp
    · simp [hj]
  rw [e, List.length_filter_lt_length_iff_exists]
  exact ⟨i, by simp [unlisted, hi, h], by simp⟩

theorem wpAny_inv {l : List Oper} {Q : Exit → Act → World → Prop} (I : (Nat → Bool) → Act → World → Prop) (hord : aheadB l = true)
    (hs : InvSteps P l.toArray Q I 0 l) (hend : ∀ a w, I (fun _ => true) a w → Q .normal a w) :
    ∀ (f : Nat) (listed : Array Bool) (a : Act) (w : World), listed.size = l.length → (unlisted l.length fun j => listed.getD j true).length ≤ f → I (fun j => listed.getD j true) a w → wpAny P .any l.toArray Q f listed a w := by
  have hdone : ∀ (listed : Array Bool) (a : Act) (w : World), listed.size = l.length → Region.ready .any l.toArray listed = [] → I (fun j => listed.getD j true) a w → Q .normal a w := by
    intro listed a w hsz hr hI
    have hall : ∀ n j, j < n → listed.getD j true = true := by
      intro n
      induction n with
      | zero => intro j hj; omega
      | succ n ih =>
        intro j hj
        by_cases hjn : j = n
        · subst hjn
          by_cases hjl : j < l.length
          · cases hb : listed.getD j true with
            | true => rfl
            | false =>
              exfalso
              have hm : j ∈ Region.ready .any l.toArray listed := by
                rw [mem_ready]
                refine ⟨hb, l[j], by simp [hjl], fun e he hbd => ?_⟩
                have h1 := List.all_eq_true.1 hord j (List.mem_range.2 hjl)
                simp only [List.getElem?_eq_getElem hjl] at h1
                have h2 := List.all_eq_true.1 h1 e.on (by simp only [depsOf, List.mem_map, List.mem_filter]; exact ⟨e, ⟨by simpa using he, hbd⟩, rfl⟩)
                have h3 : e.on < j := of_decide_eq_true h2
                have h4 := ih e.on h3
                cases h5 : listed.getD e.on false with
                | true => rfl
                | false => rw [getD_in (by omega) h5] at h4; cases h4
              rw [hr] at hm
              cases hm
          · rw [Array.getD_eq_getD_getElem?, Array.getElem?_eq_none (by omega)]; rfl
        · exact ih j (by omega)
    have e : (fun j => listed.getD j true) = fun _ => true := funext fun j => hall (j + 1) j (by omega)
    rw [e] at hI
    exact hend a w hI
  intro f
  induction f with
  | zero =>
    intro listed a w hsz hf hI
    have hr : Region.ready .any l.toArray listed = [] := by
      rw [List.eq_nil_iff_forall_not_mem]
      intro j hj
      obtain ⟨h1, o, ho, _⟩ := mem_ready.1 hj
      have hj' : j < l.length := by simpa using (Array.getElem?_eq_some_iff.1 ho).1
      have : j ∈ (unlisted l.length fun j => listed.getD j true) := List.mem_filter.2 ⟨List.mem_range.2 hj', by show (!listed.getD j true) = true; rw [h1]; rfl⟩
      rw [List.eq_nil_of_length_eq_zero (Nat.le_zero.1 hf)] at this
      cases this
    exact ⟨hr, hdone listed a w hsz hr hI⟩
  | succ f ih =>
    intro listed a w hsz hf hI
    refine ⟨fun hr => hdone listed a w hsz hr hI, fun i hi => ?_⟩
    obtain ⟨h1, o, ho, hdep⟩ := mem_ready.1 hi
    have hi' : i < l.length := by simpa using (Array.getElem?_eq_some_iff.1 ho).1
    have hl : l[i]? = some o := by simpa using ho
    have hst := invSteps_get hs hl (fun j => listed.getD j true) a w (by rw [Nat.zero_add]; exact h1) (deps_all fun e he => by
      simp only [depsOf, List.mem_map, List.mem_filter] at he
      obtain ⟨x, ⟨hx, hb⟩, rfl⟩ := he
      have h2 := hdep x (by simpa using hx) hb
      cases h3 : listed.getD x.on true with
      | true => rfl
      | false => rw [getD_both h3] at h2; cases h2) hI
    rw [Nat.zero_add] at hst
    have em : mark (fun j => listed.getD j true) i = fun j => (listed.setIfInBounds i true).getD j true := by
      funext j
      unfold mark
      by_cases hj : j = i
      · subst hj
        rw [if_pos rfl, Array.getD_eq_getD_getElem?, Array.getElem?_setIfInBounds_self]
        split <;> rfl
      · rw [if_neg hj, getD_set_ne true (fun h => hj h.symm)]
    refine wpOp_mono (fun a' w' h' => ih _ a' w' (by simpa using hsz) ?_ ?_) (wpOp_of_list ho hst)
    · rw [← em]
      have := unlisted_mark (L := fun j => listed.getD j true) hi' h1
      omega
    · rw [← em]; exact h'

theorem region_inv {id : Nat} {l : List Oper} {Q : Exit → Act → World → Prop} {a : Act} {w : World} (I : (Nat → Bool) → Act → World → Prop) (hm : P.follows .mixedOrders = true) (hord : aheadB l = true)
    (h0 : ∀ L : Nat → Bool, (∀ i, i < l.length → L i = false) → I L a w.drew)
    (hs : InvSteps P l.toArray Q I 0 l) (hend : ∀ a w, I (fun _ => true) a w → Q .normal a w) : (Code.region id l.toArray true).wp P Q a w := by
  refine wp_region_any hm ?_
  refine wpAny_inv I hord hs hend _ _ a _ (by simp) ?_ (h0 _ fun i hi => ?_)
  · unfold unlisted
    exact Nat.le_trans (List.length_filter_le _ _) (by simp)
  · simp [Array.getD, hi]

/-- A cell's address, its block and what lies there: a block made and a row stored into it. -/
structure Laid (la ls : Bool) (lo : Nat) (x : Value) (b : Nat) (t : TypeId) (z v : List Value) (w : World) : Prop where
  dep : ls = true → la = true
  at_ : la = true → x = .pointer (some ⟨b, 0, none⟩) ∧ lo ≤ b ∧ At w b t (if ls then v else z)

theorem Laid.zero {lo : Nat} {x : Value} {b : Nat} {t : TypeId} {z v : List Value} {w : World} {la ls : Bool} (ha : la = false) (hs : ls = false) : Laid la ls lo x b t z v w := ⟨fun h => (by rw [hs] at h; cases h), fun h => (by rw [ha] at h; cases h)⟩
theorem Laid.below {lo : Nat} {x : Value} {b : Nat} {t : TypeId} {z v : List Value} {w w' : World} {la ls : Bool} (h : Laid la ls lo x b t z v w) (hb : RowKit.Below w.heap.size w w') : Laid la ls lo x b t z v w' :=
  ⟨h.dep, fun ha => ⟨(h.at_ ha).1, (h.at_ ha).2.1, (h.at_ ha).2.2.below hb (h.at_ ha).2.2.lt⟩⟩
theorem Laid.upd {lo : Nat} {x : Value} {b g : Nat} {t : TypeId} {z v : List Value} {w w' : World} {la ls : Bool} (h : Laid la ls lo x b t z v w) (hu : Upd (· = g) w w') (hne : la = true → b ≠ g) : Laid la ls lo x b t z v w' :=
  ⟨h.dep, fun ha => ⟨(h.at_ ha).1, (h.at_ ha).2.1, (h.at_ ha).2.2.upd hu (hne ha)⟩⟩
theorem Laid.made {lo : Nat} {x : Value} {b : Nat} {t : TypeId} {z v : List Value} {w : World} {la ls : Bool} (h : Laid la ls lo x b t z v w) (ha : la = false) (hlo : lo ≤ w.heap.size) : Laid true ls lo (.pointer (some ⟨w.heap.size, 0, none⟩)) w.heap.size t z v (w.alloc (.cells z.toArray t)) := by
  have hs : ls = false := by
    cases hls : ls with
    | false => rfl
    | true => rw [h.dep hls] at ha; cases ha
  subst hs
  exact ⟨fun h => (by cases h), fun _ => ⟨rfl, hlo, At.new w _ _⟩⟩
theorem Laid.lt {lo : Nat} {x : Value} {b : Nat} {t : TypeId} {z v : List Value} {w : World} {la ls : Bool} (h : Laid la ls lo x b t z v w) (ha : la = true) : b < w.heap.size := (h.at_ ha).2.2.lt

end
end Go.Proofs.Ytgkbpdcedighcaa
