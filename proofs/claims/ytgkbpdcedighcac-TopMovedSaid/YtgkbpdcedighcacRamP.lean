/-
  Plain: what a memory of blocks holds.
-/
import Derived.Test.YtgkbpdcedighcacRowF
import Derived.Maps.OwnSet
import Derived.Maps.OwnOps
namespace Go.Proofs.Ytgkbpdcedighcac
open Go Go.Maps

/-- A block's cells. -/
def brow (f : Nat → Nat) (k : Nat) : List Value := rowF 64 fun i => .int .u8 (f (64 * k + i) : Int)
def bv (f : Nat → Nat) (k : Nat) : Value := .agg (brow f k).toArray
def bz : Value := bv (fun _ => 0) 0
def kl (k : Nat) : Lit := .int .u16 (k : Int)
def nzb (f : Nat → Nat) (k : Nat) : Bool := (List.range 64).any fun i => decide (f (64 * k + i) ≠ 0)
def cntb (f : Nat → Nat) : Nat → Nat
  | 0 => 0
  | k + 1 => cntb f k + if nzb f k then 1 else 0
/-- How a block reads: as itself. -/
def Rv (v : Value) : Option (DataW Value × List MemPlace) := some (.held v, [])

structure RamD (D : DataW Value) (f : Nat → Nat) : Prop where
  at_ : ∀ k, k < 128 → D.atKey (kl k) (.held bz) = .held (bv f k)
  has_ : ∀ k, k < 128 → Maps.has D (kl k) = nzb f k
  size : Maps.size D = cntb f 128

theorem kl_inj {a b : Nat} (h : kl a = kl b) : a = b := by
  unfold kl at h
  injection h with _ h
  exact Int.ofNat.inj h
theorem kl_key (k : Nat) : WideAt.IsKeyLit (kl k) := trivial

theorem nzb_zero (k : Nat) : nzb (fun _ => 0) k = false := by simp [nzb]
theorem cntb_zero : ∀ n, cntb (fun _ => 0) n = 0
  | 0 => rfl
  | n + 1 => by rw [cntb, cntb_zero n, nzb_zero]; rfl
theorem nzb_false {f : Nat → Nat} {k : Nat} (h : nzb f k = false) : ∀ i, i < 64 → f (64 * k + i) = 0 := fun i hi => by
  simp only [nzb, List.any_eq_false, List.mem_range, decide_eq_true_eq] at h
  exact Classical.not_not.1 (h i hi)
theorem bv_zero {f : Nat → Nat} {k : Nat} (h : nzb f k = false) : bv f k = bz := by
  unfold bz bv brow
  rw [rowF_ext fun i hi => by rw [nzb_false h i hi]]
theorem bv_ext {f g : Nat → Nat} {k : Nat} (h : ∀ i, i < 64 → f (64 * k + i) = g (64 * k + i)) : bv f k = bv g k := by
  unfold bv brow
  rw [rowF_ext fun i hi => by rw [h i hi]]
theorem nzb_ext {f g : Nat → Nat} {k : Nat} (h : ∀ i, i < 64 → f (64 * k + i) = g (64 * k + i)) : nzb f k = nzb g k := by
  unfold nzb
  rw [Bool.eq_iff_iff]
  simp only [List.any_eq_true, List.mem_range, decide_eq_true_eq]
  constructor
  · rintro ⟨i, hi, hn⟩; exact ⟨i, hi, by rw [← h i hi]; exact hn⟩
  · rintro ⟨i, hi, hn⟩; exact ⟨i, hi, by rw [h i hi]; exact hn⟩

theorem RamD.new : RamD (.map []) fun _ => 0 := ⟨fun k _ => by
  show DataW.held bz = .held (bv (fun _ => 0) k)
  rfl, fun k _ => (nzb_zero k).symm, (cntb_zero 128).symm⟩

theorem cntb_other {f g : Nat → Nat} {k : Nat} (h : ∀ k', k' ≠ k → nzb g k' = nzb f k') : ∀ n, n ≤ k → cntb g n = cntb f n
  | 0, _ => rfl
  | n + 1, hn => by rw [cntb, cntb, cntb_other h n (by omega), h n (by omega)]
theorem cntb_upd {f g : Nat → Nat} {k : Nat} (h : ∀ k', k' ≠ k → nzb g k' = nzb f k') : ∀ n, k < n → cntb g n + (if nzb f k then 1 else 0) = cntb f n + (if nzb g k then 1 else 0)
  | 0, hn => by omega
  | n + 1, hn => by
    by_cases hk : k = n
    · subst hk
      rw [cntb, cntb, cntb_other h k (Nat.le_refl _)]
      omega
    · have := cntb_upd h n (by omega)
      rw [cntb, cntb, h n (fun e => hk e.symm)]
      omega
theorem cntb_le (f : Nat → Nat) : ∀ n, cntb f n ≤ n
  | 0 => Nat.le_refl _
  | n + 1 => by
    have := cntb_le f n
    rw [cntb]
    split <;> omega

section
variable {D : DataW Value} {f g : Nat → Nat} {k : Nat}
theorem other_blocks (h : ∀ j, j / 64 ≠ k → g j = f j) : ∀ k', k' ≠ k → bv g k' = bv f k' ∧ nzb g k' = nzb f k' := fun k' hk' => by
  have e : ∀ i, i < 64 → g (64 * k' + i) = f (64 * k' + i) := fun i hi => h _ (by omega)
  exact ⟨bv_ext e, nzb_ext e⟩

theorem RamD.put (hD : RamD D f) (ht : Tidy D) (hk : k < 128) (h : ∀ j, j / 64 ≠ k → g j = f j) (hn : nzb g k = true) : RamD (D.put (kl k) (.held (bv g k))) g := by
  have ho := other_blocks h
  refine ⟨fun k' hk' => ?_, fun k' hk' => ?_, ?_⟩
  · by_cases e : k' = k
    · subst e; exact atKey_put_same ht.isMap (kl_key _) _ _
    · rw [atKey_put_other (fun h => e (kl_inj h)), hD.at_ k' hk', (ho k' e).1]
  · by_cases e : k' = k
    · subst e; rw [has_put_same ht.isMap (kl_key _), hn]
    · rw [has_put_other (fun h => e (kl_inj h)), hD.has_ k' hk', (ho k' e).2]
  · rw [size_put ht, hD.has_ k hk, hD.size]
    have := cntb_upd (fun k' hk' => (ho k' hk').2) 128 hk
    rw [hn] at this
    cases hf : nzb f k <;> rw [hf] at this <;> simp at this ⊢ <;> omega

theorem RamD.del (hD : RamD D f) (ht : Tidy D) (hk : k < 128) (h : ∀ j, j / 64 ≠ k → g j = f j) (hn : nzb g k = false) : RamD (D.del (kl k)) g := by
  have ho := other_blocks h
  refine ⟨fun k' hk' => ?_, fun k' hk' => ?_, ?_⟩
  · by_cases e : k' = k
    · subst e; rw [atKey_del_same, bv_zero hn]
    · rw [atKey_del_other (fun h => e (kl_inj h)), hD.at_ k' hk', (ho k' e).1]
  · by_cases e : k' = k
    · subst e; rw [has_del_same, hn]
    · rw [has_del_other (fun h => e (kl_inj h)), hD.has_ k' hk', (ho k' e).2]
  · have h1 := size_del ht (k := kl k)
    rw [hD.has_ k hk, hD.size] at h1
    have := cntb_upd (fun k' hk' => (ho k' hk').2) 128 hk
    rw [hn] at this
    cases hf : nzb f k <;> rw [hf] at this h1 <;> simp at this h1 ⊢ <;> omega
end
end Go.Proofs.Ytgkbpdcedighcac
