/-
  Plain: a row of bytes that a call owns (the plain part of RamW).
-/
import Derived.Test.YtgkbpdcedighcacRam
import Derived.Test.YtgkbpdcedighcacAppend
namespace Go.Proofs.Ytgkbpdcedighcac
open Go.RowKit Go.Sort

theorem own_lt {w : World} {base s n : Nat} {e : TypeId} {v : Value} {xs : List Value} (h : w.ownsRow base e s v n xs) {b : Nat} (hb : v.ownBlock = some b) : b < w.heap.size ∧ base ≤ b := by
  rcases h.2 with ⟨rfl, _⟩ | ⟨g, cap, cur, rfl, hbg, hh, _⟩
  · simp [Value.ownBlock] at hb
  · have hg : g = b := by simpa [Value.ownBlock] using hb
    subst hg
    exact ⟨(Array.getElem?_eq_some_iff.1 hh).1, hbg⟩

theorem kept_none {w w' : World} {base : Nat} {e : TypeId} {s n : Nat} {v : Value} {xs : List Value} (h : w.ownsRow base e s v n xs) (hw : w.grownBy w' none) : w'.ownsRow base e s v n xs := h.kept hw (by
  cases hv : v.ownBlock with
  | none => exact .inl rfl
  | some b => exact .inr (by simp))
theorem grown_below {w w' : World} (h : Below w.heap.size w w') : w.grownBy w' none := ⟨h.os, h.tape, h.output, h.size, fun k hk _ => h.block k hk⟩
/-- A row of bytes. -/
def bys (f : Nat → Nat) (n : Nat) : List Value := (List.range n).map fun j => .int .u8 (f j : Int)
theorem bys_set {f : Nat → Nat} {n : Nat} (a b : Nat) (ha : a < n) : (bys f n).set a (.int .u8 (b : Int)) = bys (fun j => if j = a then b else f j) n := by
  apply List.ext_getElem?
  intro i
  unfold bys
  rw [List.getElem?_set]
  by_cases hi : i < n
  · by_cases he : a = i
    · subst he
      rw [if_pos rfl, if_pos (by simpa using hi)]
      simp [hi]
    · rw [if_neg he]
      have : ¬ i = a := fun h => he h.symm
      simp [hi, this]
  · have h1 : ¬ a = i := by omega
    rw [if_neg h1, List.getElem?_eq_none (by simp; omega), List.getElem?_eq_none (by simp; omega)]

theorem bys_at {w : World} {base n : Nat} {e : TypeId} {v : Value} {f : Nat → Nat} (h : w.ownsRow base e 1 v n (bys f n)) {j : Nat} (hj : j < n) :
    ∃ g cap, v = .slice (some ⟨g, 0, none⟩) n cap ∧ base ≤ g ∧ w.cell? ⟨g, j, none⟩ = some (.int .u8 (f j : Int)) ∧ w.frozen? ⟨g, j, none⟩ = false := by
  obtain ⟨b, cap, rfl, _, hb, _, hc⟩ := own_cell h hj
  exact ⟨b, cap, rfl, hb, hc, h.frozenAt j⟩
theorem own_ne_map {w : World} {base s n B : Nat} {e : TypeId} {v : Value} {xs : List Value} {f : Nat → Nat} (h : w.ownsRow base e s v n xs) (hM : MapAt w B f) : v.ownBlock ≠ some B := by
  obtain ⟨D, ⟨es, clock, hb, _⟩, _⟩ := hM
  rcases h.2 with ⟨rfl, _⟩ | ⟨g', cap, cur, rfl, _, hh, _⟩
  · simp [Value.ownBlock]
  · intro he
    have he' : g' = B := by simpa [Value.ownBlock] using he
    subst he'
    rw [hb] at hh
    cases hh

theorem bys_zero (n : Nat) : (madeCells #[Value.int .u8 0] n).toList = bys (fun _ => 0) n := by
  rw [toList_madeCells_one]
  unfold bys
  apply List.ext_getElem?
  intro i
  by_cases hi : i < n
  · simp [hi]
  · rw [List.getElem?_eq_none (by simp; omega), List.getElem?_eq_none (by simp; omega)]

theorem bys_one (f : Nat → Nat) (n : Nat) : ∀ u ∈ bys f n, u.oneCell' = true := by
  intro u hu
  obtain ⟨i, _, rfl⟩ := List.mem_map.1 hu
  rfl
theorem bys_len (f : Nat → Nat) (n : Nat) : (bys f n).length = n * 1 := by simp [bys]
theorem infoBy : (Try.prog.info? 5).map (fun i => (i.zero, i.size, i.bytes)) = some (some (.int .u8 0), 1, 1) := by kernel_rfl
end Go.Proofs.Ytgkbpdcedighcac
