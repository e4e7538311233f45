/-
  Plain: bytes moved, one behind the other.
-/
import Derived.Test.YtgkbpdcedighcacRam
namespace Go.Proofs.Ytgkbpdcedighcac

/-- Where the n-th byte comes from. -/
@[irreducible] def wyF (k a n : Nat) : Nat := if k = 1 then (a + 65536 - n % 65536) % 65536 else if k = 4 then (a + n % 2) % 65536 else (a + n) % 65536
/-- Where it goes to. -/
@[irreducible] def wyT (k b n : Nat) : Nat := if k = 1 then (b + 65536 - n % 65536) % 65536 else if k = 2 then b % 65536 else if k = 3 then (b + n % 2) % 65536 else (b + n) % 65536
theorem wyF_lt (k a n : Nat) : wyF k a n < 65536 := by unfold wyF; split <;> (try split) <;> omega
theorem wyT_lt (k b n : Nat) : wyT k b n < 65536 := by unfold wyT; split <;> (try split) <;> (try split) <;> omega

/-- A byte moved. -/
def mv1 (F T : Nat → Nat) (f : Nat → Nat) (n : Nat) : Nat → Nat := putB f (T n) (f (F n % 8192))
/-- Bytes moved. -/
def mvl (F T : Nat → Nat) (f : Nat → Nat) (l : List Nat) : Nat → Nat := l.foldl (mv1 F T) f
theorem mvl_snoc (F T : Nat → Nat) (f : Nat → Nat) (l : List Nat) (n : Nat) : mvl F T f (l ++ [n]) = mv1 F T (mvl F T f l) n := by simp [mvl]
theorem mvl_range (F T : Nat → Nat) (f : Nat → Nat) (n : Nat) : mvl F T f (List.range (n + 1)) = mv1 F T (mvl F T f (List.range n)) n := by rw [List.range_succ, mvl_snoc]

/-- The moves' cells. -/
def mcs (F T : Nat → Nat) (n : Nat) : List Value := [.int .u16 (F n : Int), .int .u16 (T n : Int)]
def mrow (F T : Nat → Nat) (l : List Nat) : List Value := l.flatMap (mcs F T)
theorem mrow_snoc (F T : Nat → Nat) (l : List Nat) (n : Nat) : mrow F T (l ++ [n]) = mrow F T l ++ mcs F T n := by simp [mrow]
theorem mrow_len (F T : Nat → Nat) (l : List Nat) : (mrow F T l).length = l.length * 2 := by
  unfold mrow
  induction l with
  | nil => rfl
  | cons x l ih => simp only [List.flatMap_cons, List.length_append, ih, List.length_cons]; show 2 + _ = _; omega
theorem mrow_get (F T : Nat → Nat) : ∀ n i, i < n → (mrow F T (List.range n))[i * 2]? = some (.int .u16 (F i : Int)) ∧ (mrow F T (List.range n))[i * 2 + 1]? = some (.int .u16 (T i : Int))
  | 0, i, h => by omega
  | n + 1, i, h => by
    rw [List.range_succ, mrow_snoc]
    have hl : (mrow F T (List.range n)).length = n * 2 := by rw [mrow_len, List.length_range]
    by_cases he : i = n
    · subst he
      rw [List.getElem?_append_right (by omega), List.getElem?_append_right (by omega), hl]
      rw [show i * 2 - i * 2 = 0 by omega, show i * 2 + 1 - i * 2 = 1 by omega]
      exact ⟨rfl, rfl⟩
    · obtain ⟨h1, h2⟩ := mrow_get F T n i (by omega)
      rw [List.getElem?_append_left (by omega), List.getElem?_append_left (by omega)]
      exact ⟨h1, h2⟩
end Go.Proofs.Ytgkbpdcedighcac
