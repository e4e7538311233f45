/-
  Plain law of the noise: linear maps on 18 bits.
-/
import GoSem.Core.Lib
namespace NoiseP

/-- exclusive or commutes with it, on numbers of 18 bits -/
structure Lin (f : Nat → Nat) : Prop where
  add : ∀ a b, a < 262144 → b < 262144 → f (a ^^^ b) = f a ^^^ f b
  zero : f 0 = 0
  lt : ∀ a, a < 262144 → f a < 262144

theorem xlc (a b c : Nat) : a ^^^ (b ^^^ c) = b ^^^ (a ^^^ c) := by rw [← Nat.xor_assoc, Nat.xor_comm a b, Nat.xor_assoc]

def ofK (m : Nat → Nat) (s : Nat) : Nat → Nat
  | 0 => 0
  | k + 1 => if s.testBit k then ofK m s k ^^^ m k else ofK m s k

theorem xor_lt18 {a b : Nat} (ha : a < 262144) (hb : b < 262144) : a ^^^ b < 262144 := Nat.xor_lt_two_pow (n := 18) ha hb

theorem mod_step (s k : Nat) : s % 2 ^ (k + 1) = if s.testBit k then s % 2 ^ k ^^^ 2 ^ k else s % 2 ^ k := by
  apply Nat.eq_of_testBit_eq
  intro i
  split
  · rename_i h
    rw [Nat.testBit_xor, Nat.testBit_mod_two_pow, Nat.testBit_mod_two_pow, Nat.testBit_two_pow]
    by_cases h1 : i = k
    · subst h1; simp [h]
    · by_cases h2 : i < k
      · simp [h2, show i < k + 1 by omega, show k ≠ i by omega]
      · simp [h2, show ¬ i < k + 1 by omega, show k ≠ i by omega]
  · rename_i h
    rw [Nat.testBit_mod_two_pow, Nat.testBit_mod_two_pow]
    by_cases h1 : i = k
    · subst h1; simp [h]
    · by_cases h2 : i < k
      · simp [h2, show i < k + 1 by omega]
      · simp [h2, show ¬ i < k + 1 by omega]

theorem two_pow_lt (k : Nat) (h : k < 18) : 2 ^ k < 262144 := Nat.pow_lt_pow_right (by omega) h

theorem ofK_eq {f : Nat → Nat} (hf : Lin f) (s : Nat) (hs : s < 262144) : ∀ k, k ≤ 18 → ofK (fun i => f (2 ^ i)) s k = f (s % 2 ^ k)
  | 0, _ => by simp [ofK, Nat.mod_one, hf.zero]
  | k + 1, hk => by
    have ih := ofK_eq hf s hs k (by omega)
    have h1 : s % 2 ^ k < 262144 := Nat.lt_of_le_of_lt (Nat.mod_le _ _) hs
    simp only [ofK]
    rw [mod_step, ih]
    split
    · rw [hf.add _ _ h1 (two_pow_lt k (by omega))]
    · rfl

theorem of_one {f : Nat → Nat} (hf : Lin f) (s : Nat) (hs : s < 262144) : ofK (fun i => f (2 ^ i)) s 18 = f s := by
  rw [ofK_eq hf s hs 18 (Nat.le_refl _), Nat.mod_eq_of_lt hs]

/-- Two linear maps that agree on the bits agree. -/
theorem Lin.ext {f g : Nat → Nat} (hf : Lin f) (hg : Lin g) (h : ∀ i : Fin 18, f (2 ^ i.val) = g (2 ^ i.val)) (s : Nat) (hs : s < 262144) : f s = g s := by
  rw [← of_one hf s hs, ← of_one hg s hs]
  have : ∀ k, k ≤ 18 → ofK (fun i => f (2 ^ i)) s k = ofK (fun i => g (2 ^ i)) s k := by
    intro k
    induction k with
    | zero => intro _; rfl
    | succ k ih =>
      intro hk
      simp only [ofK]
      rw [ih (by omega), h ⟨k, by omega⟩]
  exact this 18 (Nat.le_refl _)

theorem Lin.comp {f g : Nat → Nat} (hf : Lin f) (hg : Lin g) : Lin (fun s => f (g s)) :=
  ⟨fun a b ha hb => by show f (g (a ^^^ b)) = _; rw [hg.add a b ha hb, hf.add _ _ (hg.lt a ha) (hg.lt b hb)], by show f (g 0) = 0; rw [hg.zero, hf.zero], fun a ha => hf.lt _ (hg.lt a ha)⟩
theorem Lin.id : Lin (fun s => s) := ⟨fun _ _ _ _ => rfl, rfl, fun _ h => h⟩

/-- f, n times. -/
def iter (f : Nat → Nat) : Nat → Nat → Nat
  | 0, s => s
  | n + 1, s => iter f n (f s)
theorem iter_add (f : Nat → Nat) (m n s : Nat) : iter f (m + n) s = iter f n (iter f m s) := by
  induction m generalizing s with
  | zero => rw [Nat.zero_add]; rfl
  | succ m ih => rw [Nat.succ_add]; simp only [iter]; exact ih (f s)
theorem iter_mul (f : Nat → Nat) (m n s : Nat) : iter (fun x => iter f m x) n s = iter f (m * n) s := by
  induction n generalizing s with
  | zero => rfl
  | succ n ih => simp only [iter]; rw [ih, ← iter_add]; congr 1; rw [Nat.mul_succ, Nat.add_comm]
theorem Lin.iter {f : Nat → Nat} (hf : Lin f) : ∀ n, Lin (NoiseP.iter f n)
  | 0 => Lin.id
  | n + 1 => (Lin.iter hf n).comp hf

/-! ### the generator -/
def oddN (n : Nat) : Nat :=
  let a := n ^^^ n / 65536
  let b := a ^^^ a / 256
  let c := b ^^^ b / 16
  let d := c ^^^ c / 4
  let e := d ^^^ d / 2
  e &&& 1
theorem oddN_lt (n : Nat) : oddN n < 2 := by unfold oddN; exact Nat.lt_of_le_of_lt Nat.and_le_right (by omega)
theorem div_xor (a b k : Nat) : (a ^^^ b) / 2 ^ k = a / 2 ^ k ^^^ b / 2 ^ k := Nat.xor_div_two_pow
theorem half_xor (k : Nat) (a b : Nat) : (a ^^^ b) ^^^ (a ^^^ b) / 2 ^ k = (a ^^^ a / 2 ^ k) ^^^ (b ^^^ b / 2 ^ k) := by
  rw [div_xor]
  simp only [Nat.xor_assoc, xlc, Nat.xor_comm]
theorem oddN_xor (a b : Nat) : oddN (a ^^^ b) = oddN a ^^^ oddN b := by
  unfold oddN
  have h16 := half_xor 16
  have h8 := half_xor 8
  have h4 := half_xor 4
  have h2 := half_xor 2
  have h1 := half_xor 1
  simp only [Nat.reducePow] at h16 h8 h4 h2 h1
  simp only [h16, h8, h4, h2, h1]
  rw [Nat.and_xor_distrib_right]

def nextN (s : Nat) : Nat := (s % 262144) / 2 ||| oddN (s % 262144 &&& 137219) * 131072
def backN (s : Nat) : Nat := ((s % 262144 * 2 % 262144) ||| oddN (s % 262144 * 2 % 262144 &&& 137219)) ^^^ (s % 262144) / 131072

theorem or_high (x y : Nat) (hx : x < 131072) : x ||| y * 131072 = x ^^^ y * 131072 := by
  apply Nat.eq_of_testBit_eq
  intro i
  rw [Nat.testBit_or, Nat.testBit_xor, show y * 131072 = y * 2 ^ 17 from rfl, Nat.testBit_mul_two_pow]
  by_cases h : i < 17
  · simp [show ¬ 17 ≤ i by omega]
  · have : x.testBit i = false := Nat.testBit_lt_two_pow (Nat.lt_of_lt_of_le hx (Nat.pow_le_pow_right (n := 2) (by omega) (by omega : 17 ≤ i)))
    simp [this]
theorem or_low (x y : Nat) (hy : y < 2) : x * 2 ||| y = x * 2 ^^^ y := by
  apply Nat.eq_of_testBit_eq
  intro i
  rw [Nat.testBit_or, Nat.testBit_xor, show x * 2 = x * 2 ^ 1 from rfl, Nat.testBit_mul_two_pow]
  by_cases h : i < 1
  · simp [show ¬ 1 ≤ i by omega]
  · have : y.testBit i = false := Nat.testBit_lt_two_pow (Nat.lt_of_lt_of_le hy (Nat.pow_le_pow_right (n := 2) (by omega) (by omega : 1 ≤ i)))
    simp [this]

theorem nextN_eq (s : Nat) (hs : s < 262144) : nextN s = s / 2 ^^^ oddN (s &&& 137219) * 131072 := by
  unfold nextN; rw [Nat.mod_eq_of_lt hs]; exact or_high _ _ (by omega)
theorem mul_xor (a b k : Nat) : (a ^^^ b) * 2 ^ k = a * 2 ^ k ^^^ b * 2 ^ k := by
  apply Nat.eq_of_testBit_eq
  intro i
  rw [Nat.testBit_mul_two_pow, Nat.testBit_xor, Nat.testBit_xor, Nat.testBit_mul_two_pow, Nat.testBit_mul_two_pow]
  by_cases h : k ≤ i <;> simp [h]
theorem lin_next : Lin nextN where
  add a b ha hb := by
    rw [nextN_eq _ (xor_lt18 ha hb), nextN_eq a ha, nextN_eq b hb, Nat.and_xor_distrib_right, oddN_xor]
    have h1 := div_xor a b 1
    have h2 := mul_xor (oddN (a &&& 137219)) (oddN (b &&& 137219)) 17
    simp only [Nat.reducePow] at h1 h2
    rw [h1, h2]
    simp only [Nat.xor_assoc, xlc]
  zero := by decide
  lt a ha := by
    rw [nextN_eq a ha]
    have := oddN_lt (a &&& 137219)
    exact xor_lt18 (by omega) (by omega)
theorem backN_eq (s : Nat) (hs : s < 262144) : backN s = (s * 2 % 262144 ^^^ oddN (s * 2 % 262144 &&& 137219)) ^^^ s / 131072 := by
  unfold backN
  rw [Nat.mod_eq_of_lt hs]
  have h := or_low (s % 131072) (oddN (s * 2 % 262144 &&& 137219)) (oddN_lt _)
  rw [show s % 131072 * 2 = s * 2 % 262144 by omega] at h
  rw [h]
theorem lin_back : Lin backN where
  add a b ha hb := by
    rw [backN_eq _ (xor_lt18 ha hb), backN_eq a ha, backN_eq b hb]
    have h1 := div_xor a b 17
    have h2 := mul_xor a b 1
    have h3 : (a * 2 ^^^ b * 2) % 262144 = a * 2 % 262144 ^^^ b * 2 % 262144 := Nat.xor_mod_two_pow (n := 18)
    simp only [Nat.reducePow] at h1 h2
    rw [h1, h2, h3, Nat.and_xor_distrib_right, oddN_xor]
    simp only [Nat.xor_assoc, xlc, Nat.xor_comm]
  zero := by decide
  lt a ha := by
    rw [backN_eq a ha]
    have := oddN_lt (a * 2 % 262144 &&& 137219)
    exact xor_lt18 (xor_lt18 (by omega) (by omega)) (by omega)

theorem back_next (s : Nat) (hs : s < 262144) : backN (nextN s) = s :=
  (lin_back.comp lin_next).ext Lin.id (by decide +kernel) s hs
theorem next_back (s : Nat) (hs : s < 262144) : nextN (backN s) = s :=
  (lin_next.comp lin_back).ext Lin.id (by decide +kernel) s hs
theorem nextN_mod (s : Nat) : nextN (s % 262144) = nextN s := by unfold nextN; rw [Nat.mod_mod]
theorem backN_mod (s : Nat) : backN (s % 262144) = backN s := by unfold backN; rw [Nat.mod_mod]

/-- How many clocks a jump is, and where it leads. -/
def jumpN (s : Nat) (n : Int) : Nat := if 0 ≤ n then iter nextN n.toNat (s % 262144) else iter backN (-n).toNat (s % 262144)

theorem iter_lt {f : Nat → Nat} (hf : Lin f) (n s : Nat) (hs : s < 262144) : iter f n s < 262144 := (Lin.iter hf n).lt s hs
theorem jumpN_lt (s : Nat) (n : Int) : jumpN s n < 262144 := by
  unfold jumpN
  have : s % 262144 < 262144 := Nat.mod_lt _ (by omega)
  split
  · exact iter_lt lin_next _ _ this
  · exact iter_lt lin_back _ _ this
theorem iter_back_next (n s : Nat) (hs : s < 262144) : iter backN n (iter nextN n s) = s := by
  induction n generalizing s with
  | zero => rfl
  | succ n ih =>
    have h1 : iter nextN (n + 1) s = nextN (iter nextN n s) := by rw [iter_add]; rfl
    rw [h1]
    simp only [iter]
    rw [back_next _ (iter_lt lin_next n s hs)]
    exact ih s hs
theorem iter_next_back (n s : Nat) (hs : s < 262144) : iter nextN n (iter backN n s) = s := by
  induction n generalizing s with
  | zero => rfl
  | succ n ih =>
    have h1 : iter backN (n + 1) s = backN (iter backN n s) := by rw [iter_add]; rfl
    rw [h1]
    simp only [iter]
    rw [next_back _ (iter_lt lin_back n s hs)]
    exact ih s hs

theorem jumpN_add (s : Nat) (a b : Int) : jumpN (jumpN s a) b = jumpN s (a + b) := by
  have hs : s % 262144 < 262144 := Nat.mod_lt _ (by omega)
  have hm : jumpN s a % 262144 = jumpN s a := Nat.mod_eq_of_lt (jumpN_lt s a)
  rw [show jumpN (jumpN s a) b = if 0 ≤ b then iter nextN b.toNat (jumpN s a) else iter backN (-b).toNat (jumpN s a) by rw [jumpN, hm]]
  by_cases ha : 0 ≤ a
  · rw [show jumpN s a = iter nextN a.toNat (s % 262144) by unfold jumpN; rw [if_pos ha]]
    by_cases hb : 0 ≤ b
    · rw [if_pos hb, ← iter_add, jumpN, if_pos (by omega)]
      congr 1; omega
    · rw [if_neg hb]
      by_cases hc : 0 ≤ a + b
      · rw [jumpN, if_pos hc, show a.toNat = (a + b).toNat + (-b).toNat by omega, iter_add, iter_back_next _ _ (iter_lt lin_next _ _ hs)]
      · rw [jumpN, if_neg hc, show (-b).toNat = a.toNat + (-(a + b)).toNat by omega, iter_add, iter_back_next _ _ hs]
  · rw [show jumpN s a = iter backN (-a).toNat (s % 262144) by unfold jumpN; rw [if_neg ha]]
    by_cases hb : 0 ≤ b
    · rw [if_pos hb]
      by_cases hc : 0 ≤ a + b
      · rw [jumpN, if_pos hc, show b.toNat = (-a).toNat + (a + b).toNat by omega, iter_add, iter_next_back _ _ hs]
      · rw [jumpN, if_neg hc, show (-a).toNat = (-(a + b)).toNat + b.toNat by omega, iter_add, iter_next_back _ _ (iter_lt lin_back _ _ hs)]
    · rw [if_neg hb, ← iter_add, jumpN, if_neg (by omega)]
      congr 1; omega

theorem jumpN_xor (s t : Nat) (n : Int) : jumpN (s ^^^ t) n = jumpN s n ^^^ jumpN t n := by
  have h : (s ^^^ t) % 262144 = s % 262144 ^^^ t % 262144 := Nat.xor_mod_two_pow (n := 18)
  have hs : s % 262144 < 262144 := Nat.mod_lt _ (by omega)
  have ht : t % 262144 < 262144 := Nat.mod_lt _ (by omega)
  unfold jumpN
  rw [h]
  split
  · exact (Lin.iter lin_next _).add _ _ hs ht
  · exact (Lin.iter lin_back _).add _ _ hs ht
theorem jumpN_zero (n : Int) : jumpN 0 n = 0 := by
  unfold jumpN
  split
  · exact (Lin.iter lin_next _).zero
  · exact (Lin.iter lin_back _).zero
end NoiseP
