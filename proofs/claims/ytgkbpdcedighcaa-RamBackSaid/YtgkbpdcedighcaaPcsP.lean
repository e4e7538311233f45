/-
  Plain: the pieces of a memory that aren't 0.
-/
namespace Go.Proofs.Ytgkbpdcedighcaa

structure PL where
  c : Nat
  st : Nat → Nat
  ln : Nat → Nat
def opn (f : Nat → Nat) (n : Nat) : Bool := match n with | 0 => false | n + 1 => decide (f n ≠ 0)
def pcs (f : Nat → Nat) : Nat → PL
  | 0 => ⟨0, fun _ => 0, fun _ => 0⟩
  | n + 1 => if f n = 0 then pcs f n else
    if opn f n then ⟨(pcs f n).c, (pcs f n).st, fun i => if i + 1 = (pcs f n).c then (pcs f n).ln i + 1 else (pcs f n).ln i⟩
    else ⟨(pcs f n).c + 1, fun i => if i = (pcs f n).c then n else (pcs f n).st i, fun i => if i = (pcs f n).c then 1 else (pcs f n).ln i⟩
theorem pcs_zero {f : Nat → Nat} {n : Nat} (h : f n = 0) : pcs f (n + 1) = pcs f n := by rw [pcs, if_pos h]
theorem pcs_more {f : Nat → Nat} {n : Nat} (h : f n ≠ 0) (ho : opn f n = true) : pcs f (n + 1) = ⟨(pcs f n).c, (pcs f n).st, fun i => if i + 1 = (pcs f n).c then (pcs f n).ln i + 1 else (pcs f n).ln i⟩ := by rw [pcs, if_neg h, if_pos ho]
theorem pcs_next {f : Nat → Nat} {n : Nat} (h : f n ≠ 0) (ho : opn f n = false) : pcs f (n + 1) = ⟨(pcs f n).c + 1, fun i => if i = (pcs f n).c then n else (pcs f n).st i, fun i => if i = (pcs f n).c then 1 else (pcs f n).ln i⟩ := by
  rw [pcs, if_neg h, if_neg (by rw [ho]; decide)]
theorem opn_succ (f : Nat → Nat) (n : Nat) : opn f (n + 1) = decide (f n ≠ 0) := rfl

structure PcsOk (f : Nat → Nat) (n : Nat) (p : PL) : Prop where
  some_ : opn f n = true → 0 < p.c ∧ p.st (p.c - 1) + p.ln (p.c - 1) = n
  pos : ∀ i, i < p.c → 0 < p.ln i ∧ p.st i + p.ln i ≤ n
  all : ∀ i j, i < p.c → j < p.ln i → f (p.st i + j) ≠ 0
  cov : ∀ q, q < n → f q ≠ 0 → ∃ i, i < p.c ∧ p.st i ≤ q ∧ q < p.st i + p.ln i
  few : p.c ≤ n

theorem pcs_ok (f : Nat → Nat) : ∀ n, PcsOk f n (pcs f n)
  | 0 => ⟨fun h => (by cases h), fun i hi => (by simp [pcs] at hi), fun i j hi => (by simp [pcs] at hi), fun q hq => (by omega), Nat.le_refl _⟩
  | n + 1 => by
    obtain ⟨h1, h2, h3, h4, h5⟩ := pcs_ok f n
    by_cases hz : f n = 0
    · rw [pcs_zero hz]
      refine ⟨fun h => ?_, fun i hi => ?_, h3, fun q hq hn => ?_, by omega⟩
      · rw [opn_succ, hz] at h; simp at h
      · have := h2 i hi; omega
      · by_cases hqn : q = n
        · subst hqn; exact absurd hz hn
        · exact h4 q (by omega) hn
    · cases ho : opn f n with
      | true =>
        rw [pcs_more hz ho]
        obtain ⟨hc, hs⟩ := h1 ho
        refine ⟨fun _ => ⟨hc, ?_⟩, fun i hi => ?_, fun i j hi hj => ?_, fun q hq hn => ?_, by show (pcs f n).c ≤ n + 1; omega⟩
        · show (pcs f n).st ((pcs f n).c - 1) + (if (pcs f n).c - 1 + 1 = (pcs f n).c then (pcs f n).ln ((pcs f n).c - 1) + 1 else _) = n + 1
          rw [if_pos (by omega)]; omega
        · replace hi : i < (pcs f n).c := hi
          have := h2 i hi
          show 0 < (if i + 1 = (pcs f n).c then (pcs f n).ln i + 1 else (pcs f n).ln i) ∧ (pcs f n).st i + (if i + 1 = (pcs f n).c then (pcs f n).ln i + 1 else (pcs f n).ln i) ≤ n + 1
          split <;> omega
        · replace hi : i < (pcs f n).c := hi
          replace hj : j < (if i + 1 = (pcs f n).c then (pcs f n).ln i + 1 else (pcs f n).ln i) := hj
          by_cases hj' : j < (pcs f n).ln i
          · exact h3 i j hi hj'
          · split at hj
            · rename_i he
              have : (pcs f n).st i + j = n := by rw [show i = (pcs f n).c - 1 by omega] at hj hj' ⊢; omega
              show f ((pcs f n).st i + j) ≠ 0
              rw [this]; exact hz
            · omega
        · by_cases hqn : q = n
          · refine ⟨(pcs f n).c - 1, by show (pcs f n).c - 1 < (pcs f n).c; omega, by show (pcs f n).st ((pcs f n).c - 1) ≤ q; omega, ?_⟩
            show q < (pcs f n).st ((pcs f n).c - 1) + (if (pcs f n).c - 1 + 1 = (pcs f n).c then (pcs f n).ln ((pcs f n).c - 1) + 1 else _)
            rw [if_pos (by omega)]; omega
          · obtain ⟨i, hi, a, b⟩ := h4 q (by omega) hn
            refine ⟨i, hi, a, ?_⟩
            show q < (pcs f n).st i + (if i + 1 = (pcs f n).c then (pcs f n).ln i + 1 else (pcs f n).ln i)
            split <;> omega
      | false =>
        rw [pcs_next hz ho]
        refine ⟨fun _ => ⟨by show 0 < (pcs f n).c + 1; omega, ?_⟩, fun i hi => ?_, fun i j hi hj => ?_, fun q hq hn => ?_, by show (pcs f n).c + 1 ≤ n + 1; omega⟩
        · show (if (pcs f n).c + 1 - 1 = (pcs f n).c then n else _) + (if (pcs f n).c + 1 - 1 = (pcs f n).c then 1 else _) = n + 1
          rw [if_pos (by omega), if_pos (by omega)]
        · replace hi : i < (pcs f n).c + 1 := hi
          show 0 < (if i = (pcs f n).c then 1 else (pcs f n).ln i) ∧ (if i = (pcs f n).c then n else (pcs f n).st i) + (if i = (pcs f n).c then 1 else (pcs f n).ln i) ≤ n + 1
          by_cases he : i = (pcs f n).c
          · rw [if_pos he, if_pos he]; omega
          · rw [if_neg he, if_neg he]; have := h2 i (by omega); omega
        · replace hi : i < (pcs f n).c + 1 := hi
          replace hj : j < (if i = (pcs f n).c then 1 else (pcs f n).ln i) := hj
          show f ((if i = (pcs f n).c then n else (pcs f n).st i) + j) ≠ 0
          by_cases he : i = (pcs f n).c
          · rw [if_pos he] at hj ⊢
            rw [show n + j = n by omega]; exact hz
          · rw [if_neg he] at hj ⊢
            exact h3 i j (by omega) hj
        · by_cases hqn : q = n
          · refine ⟨(pcs f n).c, by show (pcs f n).c < (pcs f n).c + 1; omega, ?_, ?_⟩
            · show (if (pcs f n).c = (pcs f n).c then n else _) ≤ q
              rw [if_pos rfl]; omega
            · show q < (if (pcs f n).c = (pcs f n).c then n else _) + (if (pcs f n).c = (pcs f n).c then 1 else _)
              rw [if_pos rfl, if_pos rfl]; omega
          · obtain ⟨i, hi, a, b⟩ := h4 q (by omega) hn
            refine ⟨i, by show i < (pcs f n).c + 1; omega, ?_, ?_⟩
            · show (if i = (pcs f n).c then n else (pcs f n).st i) ≤ q
              rw [if_neg (by omega)]; exact a
            · show q < (if i = (pcs f n).c then n else (pcs f n).st i) + (if i = (pcs f n).c then 1 else (pcs f n).ln i)
              rw [if_neg (by omega), if_neg (by omega)]; exact b
end Go.Proofs.Ytgkbpdcedighcaa
