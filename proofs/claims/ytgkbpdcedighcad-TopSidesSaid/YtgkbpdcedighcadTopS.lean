/-
  Plain: one channel that tells its level.
-/
import Derived.Test.YtgkbpdcedighcadMixO
namespace Go.Proofs.Ytgkbpdcedighcad
open Go NoiseP

/-- The one that tells. -/
def tellC (co ba to : Nat) : CS := ⟨0, 0, co, ba, to, false, fun _ => 0, 0, 4096, 1, perI 0, 0⟩
def tellP (n mn co ba to : Nat) : PS := ⟨fun j => if j = n then tellC co ba to else CS.new, n, mn, 0⟩

theorem ps_ext {y z : PS} (h1 : ∀ j, y.x j = z.x j) (h2 : y.ch = z.ch) (h3 : y.mn = z.mn) (h4 : y.bd = z.bd) : y = z := by
  cases y; cases z
  simp only [PS.mk.injEq]
  exact ⟨funext h1, h2, h3, h4⟩

theorem top_state (n mn co ba lev : Nat) (hn : n < 6) (hc : co / 64 = 3) : ((((PS.new.wr 0 n).wr 1 mn).wr 4 co).wr 5 ba).wr 6 lev = tellP n mn co ba (lev % 32) := by
  have e1 : PS.new.wr 0 n = ⟨fun _ => CS.new, n, 0, 0⟩ := by
    rw [PS.wr, if_pos (by omega)]
    refine ps_ext (fun _ => rfl) ?_ rfl rfl
    show n % 8 = n
    omega
  have e2 : (PS.new.wr 0 n).wr 1 mn = ⟨fun _ => CS.new, n, mn, 0⟩ := by
    rw [e1, PS.wr, if_neg (by omega), if_pos (by omega)]
  have own : ∀ (y : PS) (r v : Nat), y.ch = n → 2 ≤ r → r ≤ 6 → y.wr r v = { y with x := fun j => if j = n then (y.x n).wr (r : Int) v else y.x j } := fun y r v h1 h2 h3 => by
    rw [PS.wr, if_neg (by omega), if_neg (by omega), if_neg (by omega), if_pos ⟨by omega, by omega, by omega⟩, h1, show r % 16 = r by omega]
  have e3 : ((PS.new.wr 0 n).wr 1 mn).wr 4 co = tellP n mn co 0 0 := by
    rw [e2, own _ 4 co rfl (by omega) (by omega)]
    refine ps_ext (fun j => ?_) rfl rfl rfl
    show (if j = n then CS.new.wr (4 : Nat) co else CS.new) = if j = n then tellC co 0 0 else CS.new
    congr 1
    show CS.new.wr 4 co = _
    simp [CS.wr, CS.new, tellC]
  have e4 : (((PS.new.wr 0 n).wr 1 mn).wr 4 co).wr 5 ba = tellP n mn co ba 0 := by
    rw [e3, own _ 5 ba rfl (by omega) (by omega)]
    refine ps_ext (fun j => ?_) rfl rfl rfl
    show (if j = n then ((if n = n then tellC co 0 0 else CS.new)).wr (5 : Nat) ba else if j = n then tellC co 0 0 else CS.new) = if j = n then tellC co ba 0 else CS.new
    by_cases hj : j = n
    · rw [if_pos hj, if_pos hj, if_pos rfl]
      show (tellC co 0 0).wr 5 ba = _
      simp [CS.wr, tellC]
    · rw [if_neg hj, if_neg hj]
      exact (if_neg hj).symm ▸ rfl
  rw [e4, own _ 6 lev rfl (by omega) (by omega)]
  refine ps_ext (fun j => ?_) rfl rfl rfl
  show (if j = n then ((if n = n then tellC co ba 0 else CS.new)).wr (6 : Nat) lev else if j = n then tellC co ba 0 else CS.new) = if j = n then tellC co ba (lev % 32) else CS.new
  by_cases hj : j = n
  · rw [if_pos hj, if_pos hj, if_pos rfl]
    show (tellC co ba 0).wr 6 lev = _
    simp [CS.wr, tellC, hc]
  · rw [if_neg hj, if_neg hj]
    exact (if_neg hj).symm ▸ rfl

/-- What one side makes of it. -/
def tellS (lev vo l r m x : Nat) : Int := if vo = 0 ∧ l = 0 ∧ r = 0 then 0 else sideZ lev vo x m
theorem tellS_comm (lev vo l r m x : Nat) : tellS lev vo l r m x = tellS lev vo r l m x := by
  unfold tellS
  congr 1
  exact propext ⟨fun h => ⟨h.1, h.2.2, h.2.1⟩, fun h => ⟨h.1, h.2.2, h.2.1⟩⟩

theorem sumZ_single (f : Nat → Int) (n : Nat) (hn : n < 6) (h : ∀ i, i < 6 → i ≠ n → f i = 0) : sumZ f 6 = f n := by
  have : n = 0 ∨ n = 1 ∨ n = 2 ∨ n = 3 ∨ n = 4 ∨ n = 5 := by omega
  simp only [sumZ]
  rcases this with rfl | rfl | rfl | rfl | rfl | rfl
  · rw [h 1 (by omega) (by omega), h 2 (by omega) (by omega), h 3 (by omega) (by omega), h 4 (by omega) (by omega), h 5 (by omega) (by omega)]; omega
  · rw [h 0 (by omega) (by omega), h 2 (by omega) (by omega), h 3 (by omega) (by omega), h 4 (by omega) (by omega), h 5 (by omega) (by omega)]; omega
  · rw [h 0 (by omega) (by omega), h 1 (by omega) (by omega), h 3 (by omega) (by omega), h 4 (by omega) (by omega), h 5 (by omega) (by omega)]; omega
  · rw [h 0 (by omega) (by omega), h 1 (by omega) (by omega), h 2 (by omega) (by omega), h 4 (by omega) (by omega), h 5 (by omega) (by omega)]; omega
  · rw [h 0 (by omega) (by omega), h 1 (by omega) (by omega), h 2 (by omega) (by omega), h 3 (by omega) (by omega), h 5 (by omega) (by omega)]; omega
  · rw [h 0 (by omega) (by omega), h 1 (by omega) (by omega), h 2 (by omega) (by omega), h 3 (by omega) (by omega), h 4 (by omega) (by omega)]; omega

theorem tell_vo (n mn co ba to : Nat) (hc : co / 64 = 3) : (tellP n mn co ba to).vo n = ⟨to, co % 32, ba / 16, ba % 16⟩ := by
  have e : (tellP n mn co ba to).x n = tellC co ba to := if_pos rfl
  unfold PS.vo
  rw [e, if_pos ⟨by show 128 ≤ co; omega, fun h => h.2 rfl⟩]
  unfold CS.vo
  have hl : lvW co to false (fun _ => 0) 0 1 = (to : Int) := by rw [lvW, if_neg (by omega), if_pos hc]
  show Vo.mk (lvW co to false (fun _ => 0) 0 1).toNat (co % 32) (ba / 16) (ba % 16) = _
  rw [hl, Int.toNat_natCast]
theorem tell_none (n mn co ba to i : Nat) (h : i ≠ n) : (tellP n mn co ba to).vo i = Vo.none := by
  have e : (tellP n mn co ba to).x i = CS.new := if_neg h
  unfold PS.vo
  rw [e, if_neg (fun h => by have := h.1; simp [CS.new] at this)]

theorem tell_left (n mn co ba to : Nat) (hn : n < 6) (hc : co / 64 = 3) : (tellP n mn co ba to).left = tellS to (co % 32) (ba / 16) (ba % 16) (mn / 16) (ba / 16) ∧ (tellP n mn co ba to).right = tellS to (co % 32) (ba / 16) (ba % 16) (mn % 16) (ba % 16) := by
  have hz : ∀ f : Vo → Int, ∀ i, i < 6 → i ≠ n → heard (tellP n mn co ba to).vo f i = 0 := fun f i _ h => by
    rw [heard, tell_none n mn co ba to i h, if_neg (by decide)]
  have hk : ∀ f : Vo → Int, heard (tellP n mn co ba to).vo f n = if co % 32 = 0 ∧ ba / 16 = 0 ∧ ba % 16 = 0 then 0 else f ⟨to, co % 32, ba / 16, ba % 16⟩ := fun f => by
    rw [heard, tell_vo n mn co ba to hc]
    by_cases h : co % 32 = 0 ∧ ba / 16 = 0 ∧ ba % 16 = 0
    · rw [if_pos h, if_neg]
      unfold kept
      simp [h.1, h.2.1, h.2.2]
    · rw [if_neg h, if_pos]
      unfold kept
      simp only [Bool.or_eq_true, decide_eq_true_eq]
      omega
  exact ⟨by rw [PS.left, sumZ_single _ n hn (hz _), hk]; rfl, by rw [PS.right, sumZ_single _ n hn (hz _), hk]; rfl⟩
end Go.Proofs.Ytgkbpdcedighcad
