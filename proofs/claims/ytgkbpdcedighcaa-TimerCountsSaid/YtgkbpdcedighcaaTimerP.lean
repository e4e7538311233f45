/-
  The plain law of the timer: going on in parts, tick by tick, round by round.
-/
import Derived.Test.YtgkbpdcedighcaaTimerG
namespace Go.Proofs.Ytgkbpdcedighcaa

/-- All that is left: master clocks till it is over. -/
def eC (r c l n : Int) : Int := if n ≤ 0 then c else gC r c l n
def eL (l n : Int) : Int := if n ≤ 0 then l else gL l n
def eO (r c l n : Int) : Int := if n ≤ 0 then 0 else gO r c l n

theorem tC_bd (r c k : Int) (hr : 0 ≤ r) (hk : 1 ≤ k) : 0 ≤ tC r c k ∧ (tC r c k ≤ c ∨ tC r c k ≤ r) := by
  unfold tC
  have m0 : 0 ≤ (k - (c + 1)) % (r + 1) := Int.emod_nonneg _ (by omega)
  have m1 : (k - (c + 1)) % (r + 1) < r + 1 := Int.emod_lt_of_pos _ (by omega)
  split <;> omega

theorem g_bd (r c l n : Int) (hr : 0 ≤ r) (hr' : r ≤ 127) (hc : 0 ≤ c) (hc' : c ≤ 127) (hl : 1 ≤ l) (hl' : l ≤ 3072) (hn : 1 ≤ n) :
    0 ≤ gC r c l n ∧ gC r c l n ≤ 127 ∧ 1 ≤ gL l n ∧ gL l n ≤ 3072 := by
  unfold gC gL
  by_cases h : n < l
  · rw [if_pos h, if_pos h]; omega
  · rw [if_neg h, if_neg h]
    have := tC_bd r c ((n - l) / 3072 + 1) hr (by omega)
    omega
theorem e_bd (r c l n : Int) (hr : 0 ≤ r) (hr' : r ≤ 127) (hc : 0 ≤ c) (hc' : c ≤ 127) (hl : 1 ≤ l) (hl' : l ≤ 3072) :
    0 ≤ eC r c l n ∧ eC r c l n ≤ 127 ∧ 1 ≤ eL l n ∧ eL l n ≤ 3072 := by
  unfold eC eL
  by_cases h : n ≤ 0
  · rw [if_pos h, if_pos h]; omega
  · rw [if_neg h, if_neg h]; exact g_bd r c l n hr hr' hc hc' hl hl' (by omega)

theorem mul_facts (r k : Int) (hr : 0 ≤ r) : ∃ q m, k / (r + 1) = q ∧ k % (r + 1) = m ∧ k = (r + 1) * q + m ∧ 0 ≤ m ∧ m < r + 1 :=
  ⟨_, _, rfl, rfl, (Int.mul_ediv_add_emod k (r + 1)).symm, Int.emod_nonneg _ (by omega), Int.emod_lt_of_pos _ (by omega)⟩

theorem ediv_emod_of (p n q m : Int) (hp : 0 < p) (h : n = p * q + m) (h0 : 0 ≤ m) (h1 : m < p) : n / p = q ∧ n % p = m :=
  (Int.ediv_emod_unique hp).2 ⟨by rw [h]; omega, h0, h1⟩

/-- A timer by its one number, T: when n master clocks go by. -/
theorem total (r c l n : Int) (hr : 0 ≤ r) (hc : 0 ≤ c) (hl : 1 ≤ l) (hl' : l ≤ 3072) (hn : 0 ≤ n) :
    (n < l + 3072 * c → eO r c l n = 0 ∧ eL l n + 3072 * eC r c l n = l + 3072 * c - n) ∧
    (l + 3072 * c ≤ n → eO r c l n = (n - (l + 3072 * c)) / (3072 * (r + 1)) + 1 ∧ eL l n + 3072 * eC r c l n = 3072 * (r + 1) - (n - (l + 3072 * c)) % (3072 * (r + 1))) := by
  unfold eO eL eC
  by_cases h0 : n ≤ 0
  · rw [if_pos h0, if_pos h0, if_pos h0]; constructor <;> intro h <;> omega
  · rw [if_neg h0, if_neg h0, if_neg h0]
    unfold gO gL gC
    by_cases h1 : n < l
    · rw [if_pos h1, if_pos h1, if_pos h1]; constructor <;> intro h <;> omega
    · rw [if_neg h1, if_neg h1, if_neg h1]
      have hk : ∃ k m, (n - l) / 3072 = k ∧ (n - l) % 3072 = m ∧ n - l = 3072 * k + m ∧ 0 ≤ m ∧ m < 3072 ∧ 0 ≤ k := ⟨_, _, rfl, rfl, by omega, by omega, by omega, by omega⟩
      obtain ⟨k, m, e1, e2, e3, m0, m1, k0⟩ := hk
      rw [e1, e2]
      unfold tO tC
      by_cases h2 : k + 1 ≤ c
      · rw [if_pos h2, if_pos h2]; constructor <;> intro h <;> omega
      · rw [if_neg h2, if_neg h2]
        refine ⟨fun h => by omega, fun _ => ?_⟩
        obtain ⟨q, s, f1, f2, f3, s0, s1⟩ := mul_facts r (k + 1 - (c + 1)) hr
        rw [f1, f2]
        have hp : (0 : Int) < 3072 * (r + 1) := by omega
        have hh : n - (l + 3072 * c) = 3072 * (r + 1) * q + (3072 * s + m) := by
          have : n - (l + 3072 * c) = 3072 * (k + 1 - (c + 1)) + m := by omega
          rw [this, f3, Int.mul_add, Int.mul_assoc]
          omega
        obtain ⟨g1, g2⟩ := ediv_emod_of _ _ _ _ hp hh (by omega) (by omega)
        rw [g1, g2]
        constructor <;> omega

theorem pair_of_sum (l c l' c' : Int) (h : l + 3072 * c = l' + 3072 * c') (h1 : 1 ≤ l) (h2 : l ≤ 3072) (h3 : 1 ≤ l') (h4 : l' ≤ 3072) : l = l' ∧ c = c' := by omega

/-- Gone on in two parts. -/
theorem parts (r c l a b : Int) (hr : 0 ≤ r) (hr' : r ≤ 127) (hc : 0 ≤ c) (hc' : c ≤ 127) (hl : 1 ≤ l) (hl' : l ≤ 3072) (ha : 0 ≤ a) (hb : 0 ≤ b) :
    eO r c l (a + b) = eO r c l a + eO r (eC r c l a) (eL l a) b ∧ eC r c l (a + b) = eC r (eC r c l a) (eL l a) b ∧ eL l (a + b) = eL (eL l a) b := by
  have t1 := total r c l a hr hc hl hl' ha
  have t2 := total r c l (a + b) hr hc hl hl' (by omega)
  obtain ⟨b0, b1, b2, b3⟩ := e_bd r c l a hr hr' hc hc' hl hl'
  obtain ⟨d0, d1, d2, d3⟩ := e_bd r c l (a + b) hr hr' hc hc' hl hl'
  have t3 := total r (eC r c l a) (eL l a) b hr b0 b2 b3 hb
  obtain ⟨f0, f1, f2, f3⟩ := e_bd r (eC r c l a) (eL l a) b hr hr' b0 b1 b2 b3
  have hp : (0 : Int) < 3072 * (r + 1) := by omega
  have key : eO r c l (a + b) = eO r c l a + eO r (eC r c l a) (eL l a) b ∧ eL l (a + b) + 3072 * eC r c l (a + b) = eL (eL l a) b + 3072 * eC r (eC r c l a) (eL l a) b := by
    generalize eC r (eC r c l a) (eL l a) b = c3 at *
    generalize eL (eL l a) b = l3 at *
    generalize eO r (eC r c l a) (eL l a) b = o3 at *
    generalize eC r c l (a + b) = c2 at *
    generalize eL l (a + b) = l2 at *
    generalize eO r c l (a + b) = o2 at *
    generalize eC r c l a = c1 at *
    generalize eL l a = l1 at *
    generalize eO r c l a = o1 at *
    generalize hP : 3072 * (r + 1) = P at *
    generalize l + 3072 * c = T at *
    by_cases h1 : a < T
    · obtain ⟨u1, u2⟩ := t1.1 h1
      rw [u2] at t3
      by_cases h2 : a + b < T
      · obtain ⟨v1, v2⟩ := t2.1 h2
        obtain ⟨w1, w2⟩ := t3.1 (by omega)
        omega
      · obtain ⟨v1, v2⟩ := t2.2 (by omega)
        obtain ⟨w1, w2⟩ := t3.2 (by omega)
        rw [show b - (T - a) = a + b - T by omega] at w1 w2
        omega
    · obtain ⟨u1, u2⟩ := t1.2 (by omega)
      obtain ⟨v1, v2⟩ := t2.2 (by omega)
      rw [u2] at t3
      obtain ⟨q, s, e1, e2, e3, s0, s1⟩ : ∃ q s, (a - T) / P = q ∧ (a - T) % P = s ∧ a - T = P * q + s ∧ 0 ≤ s ∧ s < P :=
        ⟨_, _, rfl, rfl, (Int.mul_ediv_add_emod _ _).symm, Int.emod_nonneg _ (by omega), Int.emod_lt_of_pos _ hp⟩
      rw [e1] at u1
      rw [e2] at t3
      by_cases h2 : b < P - s
      · obtain ⟨w1, w2⟩ := t3.1 h2
        obtain ⟨x1, x2⟩ := ediv_emod_of P (a + b - T) q (s + b) hp (by omega) (by omega) (by omega)
        rw [x1] at v1
        rw [x2] at v2
        omega
      · obtain ⟨w1, w2⟩ := t3.2 (by omega)
        obtain ⟨q2, s2, y1, y2, y3, z0, z1⟩ : ∃ q s', (b - (P - s)) / P = q ∧ (b - (P - s)) % P = s' ∧ b - (P - s) = P * q + s' ∧ 0 ≤ s' ∧ s' < P :=
          ⟨_, _, rfl, rfl, (Int.mul_ediv_add_emod _ _).symm, Int.emod_nonneg _ (by omega), Int.emod_lt_of_pos _ hp⟩
        rw [y1] at w1
        rw [y2] at w2
        obtain ⟨x1, x2⟩ := ediv_emod_of P (a + b - T) (q + 1 + q2) s2 hp (by rw [Int.mul_add, Int.mul_add]; omega) z0 z1
        rw [x1] at v1
        rw [x2] at v2
        omega
  exact ⟨key.1, (pair_of_sum _ _ _ _ key.2 d2 d3 f2 f3).2, (pair_of_sum _ _ _ _ key.2 d2 d3 f2 f3).1⟩

/-- One tick, when l master clocks are left. -/
theorem one_tick (r c l : Int) (hc : 0 ≤ c) (hl : 1 ≤ l) : eL l l = 3072 ∧ eC r c l l = (if c = 0 then r else c - 1) ∧ eO r c l l = (if c = 0 then 1 else 0) := by
  have e : (l - l) / 3072 = 0 := by rw [Int.sub_self]; rfl
  have e' : (l - l) % 3072 = 0 := by rw [Int.sub_self]; rfl
  unfold eL eC eO gL gC gO tC tO
  have h1 : ¬ l ≤ 0 := by omega
  have h2 : ¬ l < l := by omega
  simp only [if_neg h1, if_neg h2, e, e']
  refine ⟨rfl, ?_, ?_⟩
  · by_cases h : c = 0
    · subst h; rw [if_neg (by omega), if_pos rfl]; simp
    · rw [if_pos (by omega), if_neg h]; omega
  · by_cases h : c = 0
    · subst h; rw [if_neg (by omega), if_pos rfl]; simp
    · rw [if_pos (by omega), if_neg h]
theorem step_tick (r c l n : Int) (hr : 0 ≤ r) (hr' : r ≤ 127) (hc : 0 ≤ c) (hc' : c ≤ 127) (hl : 1 ≤ l) (hl' : l ≤ 3072) (hn : l ≤ n) :
    eO r c l n = (if c = 0 then 1 else 0) + eO r (if c = 0 then r else c - 1) 3072 (n - l) ∧ eC r c l n = eC r (if c = 0 then r else c - 1) 3072 (n - l) ∧ eL l n = eL 3072 (n - l) := by
  have h := parts r c l l (n - l) hr hr' hc hc' hl hl' (by omega) (by omega)
  obtain ⟨h1, h2, h3⟩ := one_tick r c l hc hl
  rw [h1, h2, h3, show l + (n - l) = n by omega] at h
  exact h

theorem eO_bd (r c l n : Int) (hr : 0 ≤ r) (hc : 0 ≤ c) (hl : 1 ≤ l) : 0 ≤ eO r c l n ∧ (eO r c l n ≤ n ∨ eO r c l n = 0) := by
  unfold eO
  by_cases h : n ≤ 0
  · rw [if_pos h]; omega
  · rw [if_neg h]
    unfold gO
    by_cases h1 : n < l
    · rw [if_pos h1]; omega
    · rw [if_neg h1]
      unfold tO
      by_cases h2 : (n - l) / 3072 + 1 ≤ c
      · rw [if_pos h2]; omega
      · rw [if_neg h2]
        have q0 : 0 ≤ ((n - l) / 3072 + 1 - (c + 1)) / (r + 1) := Int.ediv_nonneg (by omega) (by omega)
        have q1 : ((n - l) / 3072 + 1 - (c + 1)) / (r + 1) ≤ n - 1 := Int.le_trans (Int.ediv_le_self _ (by omega)) (by omega)
        omega

open Go.RowKit in
theorem Go_e (b : Nat) (r c left n : Int) (w : World) (hA : At w b 115 (tk r c true left)) (r0 : 0 ≤ r) (r1 : r ≤ 127) (c0 : 0 ≤ c) (c1 : c ≤ 127) (l0 : 1 ≤ left) (l1 : left ≤ 3072) (n1 : n ≤ 1152921504606846976) :
    Calls Try.prog 44 #[.pointer (some ⟨b, 0, none⟩), .int .i64 n] w fun e w' => e = .returned (.int .i64 (eO r c left n)) ∧ At w' b 115 (tk r (eC r c left n) true (eL left n)) ∧ Upd (· = b) w w' := by
  unfold eO eC eL
  by_cases h : n ≤ 0
  · rw [if_pos h, if_pos h, if_pos h]
    exact (Go_off b r c true left n w hA (by omega) (.inr h)).mono fun e w' ⟨h1, h2⟩ => ⟨h1, h2 ▸ hA, h2 ▸ Upd.refl _ _⟩
  · rw [if_neg h, if_neg h, if_neg h]
    exact Go_any b r c left n w hA r0 r1 c0 c1 l0 l1 (by omega) n1
end Go.Proofs.Ytgkbpdcedighcaa
