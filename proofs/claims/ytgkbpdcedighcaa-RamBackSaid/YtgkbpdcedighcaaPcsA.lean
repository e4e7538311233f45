/-
  A row of pieces that the call owns: how it grows by a piece, and its last piece by a byte; how such a row reads.
-/
import Derived.Test.YtgkbpdcedighcaaPcsP
import Derived.Test.YtgkbpdcedighcaaRegion
import Derived.Test.YtgkbpdcedighcaaAppend
import Derived.Maps.AppendAt
import Derived.Laws.OwnMore
namespace Go.Proofs.Ytgkbpdcedighcaa
open Go Go.RowKit Go.Sort

/-- The cells of the pieces. -/
def pcsRow (st : Nat → Nat) (sl : Nat → Value) : Nat → List Value
  | 0 => []
  | c + 1 => pcsRow st sl c ++ [.int .i64 (st c : Int), sl c]
theorem pcsRow_length (st : Nat → Nat) (sl : Nat → Value) : ∀ c, (pcsRow st sl c).length = c * 2
  | 0 => rfl
  | c + 1 => by rw [pcsRow, List.length_append, pcsRow_length st sl c]; simp; omega
theorem pcsRow_ext {st st' : Nat → Nat} {sl sl' : Nat → Value} : ∀ {c : Nat}, (∀ i, i < c → st i = st' i ∧ sl i = sl' i) → pcsRow st sl c = pcsRow st' sl' c
  | 0, _ => rfl
  | c + 1, h => by
    rw [pcsRow, pcsRow, pcsRow_ext (c := c) fun i hi => h i (by omega), (h c (by omega)).1, (h c (by omega)).2]
theorem pcsRow_get {st : Nat → Nat} {sl : Nat → Value} : ∀ {c i : Nat}, i < c → (pcsRow st sl c)[i * 2]? = some (.int .i64 (st i : Int)) ∧ (pcsRow st sl c)[i * 2 + 1]? = some (sl i)
  | c + 1, i, h => by
    rw [pcsRow]
    by_cases hi : i < c
    · obtain ⟨a, b⟩ := pcsRow_get (st := st) (sl := sl) hi
      rw [List.getElem?_append_left (by rw [pcsRow_length]; omega), List.getElem?_append_left (by rw [pcsRow_length]; omega)]
      exact ⟨a, b⟩
    · obtain rfl : i = c := by omega
      rw [List.getElem?_append_right (by rw [pcsRow_length]; omega), List.getElem?_append_right (by rw [pcsRow_length]; omega), pcsRow_length]
      rw [show i * 2 - i * 2 = 0 by omega, show i * 2 + 1 - i * 2 = 1 by omega]
      exact ⟨rfl, rfl⟩
theorem pcsRow_set {st : Nat → Nat} {sl : Nat → Value} {c : Nat} (u : Value) : (pcsRow st sl (c + 1)).set (c * 2 + 1) u = pcsRow st (fun i => if i = c then u else sl i) (c + 1) := by
  rw [pcsRow, pcsRow, List.set_append, if_neg (by rw [pcsRow_length]; omega), pcsRow_length, show c * 2 + 1 - c * 2 = 1 by omega, if_pos rfl]
  congr 1
  exact pcsRow_ext fun i hi => ⟨rfl, (if_neg (by omega)).symm⟩

/-- The bytes of one piece. -/
def byRow (f : Nat → Nat) (s l : Nat) : List Value := (List.range l).map fun j => .int .u8 (f (s + j) : Int)
theorem byRow_succ (f : Nat → Nat) (s l : Nat) : byRow f s (l + 1) = byRow f s l ++ [.int .u8 (f (s + l) : Int)] := by
  unfold byRow; rw [List.range_succ, List.map_append]; rfl

/-- The slice v, the call's own, holds the pieces p of f. -/
structure PcsAt (PT U8 : TypeId) (w : World) (base : Nat) (v : Value) (p : PL) (sl : Nat → Value) (f : Nat → Nat) : Prop where
  row : w.ownsRow base PT 2 v p.c (pcsRow p.st sl p.c)
  each : ∀ i, i < p.c → w.ownsRow base U8 1 (sl i) (p.ln i) (byRow f (p.st i) (p.ln i))
  apart : ∀ i j b, i < p.c → j < p.c → i ≠ j → (sl i).ownBlock = some b → (sl j).ownBlock ≠ some b

theorem own_ne2 {w : World} {base base' s s' n n' : Nat} {e e' : TypeId} {v v' : Value} {xs xs' : List Value} (h : w.ownsRow base e s v n xs) (h' : w.ownsRow base' e' s' v' n' xs') (hne : e ≠ e') {b : Nat} (hb : v.ownBlock = some b) : v'.ownBlock ≠ some b := by
  rcases h.2 with ⟨rfl, _⟩ | ⟨g, cap, cur, rfl, _, hh, _⟩
  · simp [Value.ownBlock] at hb
  · have hg : g = b := by simpa [Value.ownBlock] using hb
    subst hg
    exact own_ne h' (At.of_eq (t := e) (cs := cur.toList) (by unfold At; exact hh) rfl) (Ne.symm hne)

theorem own_lt {w : World} {base s n : Nat} {e : TypeId} {v : Value} {xs : List Value} (h : w.ownsRow base e s v n xs) {b : Nat} (hb : v.ownBlock = some b) : b < w.heap.size ∧ base ≤ b := by
  rcases h.2 with ⟨rfl, _⟩ | ⟨g, cap, cur, rfl, hbg, hh, _⟩
  · simp [Value.ownBlock] at hb
  · have hg : g = b := by simpa [Value.ownBlock] using hb
    subst hg
    exact ⟨(Array.getElem?_eq_some_iff.1 hh).1, hbg⟩

section
variable {PT U8 : TypeId} {w w' : World} {base : Nat} {v : Value} {p : PL} {sl : Nat → Value} {f : Nat → Nat}

theorem PcsAt.nil (PT U8 : TypeId) (w : World) (base : Nat) (st ln : Nat → Nat) (sl : Nat → Value) (f : Nat → Nat) : PcsAt PT U8 w base (.slice none 0 0) ⟨0, st, ln⟩ sl f :=
  ⟨⟨rfl, .inl ⟨rfl, rfl⟩⟩, fun i hi => absurd hi (by simp), fun i j b hi => absurd hi (by simp)⟩
theorem kept_none {e : TypeId} {s n : Nat} {v : Value} {xs : List Value} (h : w.ownsRow base e s v n xs) (hw : w.grownBy w' none) : w'.ownsRow base e s v n xs := h.kept hw (by
  cases hv : v.ownBlock with
  | none => exact .inl rfl
  | some b => exact .inr (by simp))
theorem PcsAt.grown (h : PcsAt PT U8 w base v p sl f) (hw : w.grownBy w' none) : PcsAt PT U8 w' base v p sl f :=
  ⟨kept_none h.row hw, fun i hi => kept_none (h.each i hi) hw, h.apart⟩
theorem grown_below (h : Below w.heap.size w w') : w.grownBy w' none := ⟨h.os, h.tape, h.output, h.size, fun k hk _ => h.block k hk⟩
theorem PcsAt.below (h : PcsAt PT U8 w base v p sl f) (hw : Below w.heap.size w w') : PcsAt PT U8 w' base v p sl f := h.grown (grown_below hw)
theorem PcsAt.ext {p' : PL} {sl' : Nat → Value} (h : PcsAt PT U8 w base v p sl f) (hc : p'.c = p.c) (he : ∀ i, i < p.c → p'.st i = p.st i ∧ p'.ln i = p.ln i ∧ sl' i = sl i) : PcsAt PT U8 w base v p' sl' f := by
  refine ⟨?_, fun i hi => ?_, fun i j b hi hj hne hb => ?_⟩
  · rw [hc, pcsRow_ext (st' := p.st) (sl' := sl) fun i hi => ⟨(he i hi).1, (he i hi).2.2⟩]; exact h.row
  · rw [hc] at hi
    rw [(he i hi).1, (he i hi).2.1, (he i hi).2.2]; exact h.each i hi
  · rw [hc] at hi hj
    rw [(he i hi).2.2] at hb
    rw [(he j hj).2.2]
    exact h.apart i j b hi hj hne hb

/-- One piece more, no bytes yet. -/
theorem PcsAt.snoc (h : PcsAt PT U8 w base v p sl f) (hne : PT ≠ U8) {v' : Value} {n : Nat} (hrow : w'.ownsRow base PT 2 v' (p.c + 1) (pcsRow p.st sl p.c ++ [.int .i64 (n : Int), .slice none 0 0])) (hg : w.grownBy w' v.ownBlock) :
    PcsAt PT U8 w' base v' ⟨p.c + 1, fun i => if i = p.c then n else p.st i, fun i => if i = p.c then 0 else p.ln i⟩ (fun i => if i = p.c then .slice none 0 0 else sl i) f := by
  refine ⟨?_, fun i hi => ?_, fun i j b hi hj hij hb => ?_⟩
  · show w'.ownsRow base PT 2 v' (p.c + 1) (pcsRow (fun i => if i = p.c then n else p.st i) (fun i => if i = p.c then .slice none 0 0 else sl i) p.c ++ [.int .i64 ((if p.c = p.c then n else p.st p.c : Nat) : Int), if p.c = p.c then .slice none 0 0 else sl p.c])
    rw [if_pos rfl, if_pos rfl, pcsRow_ext (st' := p.st) (sl' := sl) fun i hi => ⟨if_neg (by omega), if_neg (by omega)⟩]
    exact hrow
  · replace hi : i < p.c + 1 := hi
    show w'.ownsRow base U8 1 (if i = p.c then _ else sl i) (if i = p.c then 0 else p.ln i) (byRow f (if i = p.c then n else p.st i) (if i = p.c then 0 else p.ln i))
    by_cases he : i = p.c
    · rw [if_pos he, if_pos he, if_pos he]
      exact ⟨rfl, .inl ⟨rfl, rfl⟩⟩
    · rw [if_neg he, if_neg he, if_neg he]
      refine (h.each i (by omega)).kept hg ?_
      cases hs : (sl i).ownBlock with
      | none => exact .inl rfl
      | some b =>
        refine .inr fun hv => ?_
        exact own_ne2 h.row (h.each i (by omega)) hne hv.symm hs
  · replace hi : i < p.c + 1 := hi
    replace hj : j < p.c + 1 := hj
    replace hb : (if i = p.c then Value.slice none 0 0 else sl i).ownBlock = some b := hb
    show (if j = p.c then Value.slice none 0 0 else sl j).ownBlock ≠ some b
    by_cases h1 : j = p.c
    · rw [if_pos h1]; simp [Value.ownBlock]
    · rw [if_neg h1]
      by_cases h2 : i = p.c
      · rw [if_pos h2] at hb; simp [Value.ownBlock] at hb
      · rw [if_neg h2] at hb
        exact h.apart i j b (by omega) (by omega) hij hb

/-- The last piece, one byte more. -/
theorem PcsAt.more {c g cap : Nat} {st ln : Nat → Nat} {w1 : World} (h : PcsAt PT U8 w base (.slice (some ⟨g, 0, none⟩) (c + 1) cap) ⟨c + 1, st, ln⟩ sl f) (hne : PT ≠ U8) {v1 : Value}
    (hown : w1.ownsRow base U8 1 v1 (ln c + 1) (byRow f (st c) (ln c) ++ [.int .u8 (f (st c + ln c) : Int)])) (hg : w.grownBy w1 (sl c).ownBlock) (hat : v1.ownBlock = (sl c).ownBlock ∨ v1.ownBlock = some w.heap.size) :
    PcsAt PT U8 (w1.setCell ⟨g, c * 2 + 1, none⟩ v1) base (.slice (some ⟨g, 0, none⟩) (c + 1) cap) ⟨c + 1, st, fun i => if i = c then ln i + 1 else ln i⟩ (fun i => if i = c then v1 else sl i) f := by
  have hrow1 := h.row.kept hg (by
    right
    intro he
    exact own_ne2 h.row (h.each c (by show c < c + 1; omega)) hne rfl he.symm)
  obtain ⟨hst, hgs⟩ := hrow1.stored (c * 2 + 1) v1
  have keep : ∀ i, i < c + 1 → i ≠ c → w1.ownsRow base U8 1 (sl i) (ln i) (byRow f (st i) (ln i)) := fun i hi hic => (h.each i hi).kept hg (by
    cases hs : (sl i).ownBlock with
    | none => exact .inl rfl
    | some b => exact .inr fun hv => h.apart i c b hi (by show c < c + 1; omega) hic hs hv.symm)
  have keep2 : ∀ {s n : Nat} {x : Value} {xs : List Value}, w1.ownsRow base U8 s x n xs → (w1.setCell ⟨g, c * 2 + 1, none⟩ v1).ownsRow base U8 s x n xs := fun hx => hx.kept hgs (by
    right
    intro he
    exact own_ne2 hrow1 hx hne rfl he)
  refine ⟨?_, fun i hi => ?_, fun i j b hi hj hij hb => ?_⟩
  · show (w1.setCell ⟨g, c * 2 + 1, none⟩ v1).ownsRow base PT 2 _ (c + 1) (pcsRow st _ (c + 1))
    rw [← pcsRow_set]; exact hst
  · replace hi : i < c + 1 := hi
    show (w1.setCell ⟨g, c * 2 + 1, none⟩ v1).ownsRow base U8 1 (if i = c then v1 else sl i) (if i = c then ln i + 1 else ln i) (byRow f (st i) (if i = c then ln i + 1 else ln i))
    by_cases he : i = c
    · rw [if_pos he, if_pos he, he, byRow_succ]
      exact keep2 hown
    · rw [if_neg he, if_neg he]
      exact keep2 (keep i hi he)
  · replace hi : i < c + 1 := hi
    replace hj : j < c + 1 := hj
    replace hb : (if i = c then v1 else sl i).ownBlock = some b := hb
    show (if j = c then v1 else sl j).ownBlock ≠ some b
    by_cases h2 : i = c
    · rw [if_pos h2] at hb
      rw [if_neg (by omega)]
      rcases hat with h3 | h3
      · rw [h3] at hb
        exact h.apart i j b hi hj hij (by rw [h2]; exact hb)
      · rw [h3] at hb
        obtain rfl : w.heap.size = b := by simpa using hb
        intro hx
        have := (own_lt (h.each j hj) hx).1
        omega
    · rw [if_neg h2] at hb
      by_cases h1 : j = c
      · rw [if_pos h1]
        rcases hat with h3 | h3
        · rw [h3]
          exact h.apart i c b hi (by show c < c + 1; omega) h2 hb
        · rw [h3]
          intro hx
          obtain rfl : w.heap.size = b := by simpa using hx
          have := (own_lt (h.each i hi) hb).1
          omega
      · rw [if_neg h1]
        exact h.apart i j b hi hj hij hb
end
end Go.Proofs.Ytgkbpdcedighcaa
