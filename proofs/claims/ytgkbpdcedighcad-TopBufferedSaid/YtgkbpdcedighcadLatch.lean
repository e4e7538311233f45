/-
  The walks of latch: New, Value, Write, Read; octet's With.
-/
import Derived.Test.YtgkbpdcedighcadOctet
import Derived.Test.YtgkbpdcedighcadRowL
namespace Go.Proofs.Ytgkbpdcedighcad
open Go.RowKit Go.Sort

def withZ (b n : Int) (up : Bool) : Int := if up then bits .or .u8 b (maskI n) else bits .andNot .u8 b (maskI n)
theorem With_any (b n : Int) (up : Bool) (w : World) : Calls Try.prog 13 #[.int .u8 b, .int .i64 n, .bool up] w fun e w' => e = .returned (.int .u8 (withZ b n up)) ∧ w = w' := by
  cases up
  all_goals
    go_enter Try.func13, Try.ntmps13
    go_wp2_with fail
    refine (mask_any _ _).mono ?_
    rintro e w' ⟨rfl, rfl⟩
    go_wp2
    go_ret
    exact ⟨rfl, rfl⟩

theorem LNew_any (b : Int) (w : World) : Calls Try.prog 8 #[.int .u8 b] w fun e w' => e = .returned (.pointer (some ⟨w.heap.size, 0, none⟩)) ∧ w' = w.alloc (.cells #[.int .u8 b] 70) := by
  go_enter Try.func8, Try.ntmps8
  go_wp2
  go_ret
  exact ⟨rfl, rfl⟩

theorem LValue_any (g : Nat) (b : Int) (w : World) (hA : At w g 70 [.int .u8 b]) : Calls Try.prog 9 #[.pointer (some ⟨g, 0, none⟩)] w fun e w' => e = .returned (.int .u8 b) ∧ w = w' := by
  have c0 := hA.cell 0 rfl
  clear hA
  go_enter Try.func9, Try.ntmps9
  go_wp2
  go_ret
  exact ⟨rfl, rfl⟩

theorem LWrite_any (g : Nat) (b c : Int) (w : World) (hA : At w g 70 [.int .u8 b]) : Calls Try.prog 41 #[.pointer (some ⟨g, 0, none⟩), .int .u8 c] w fun e w' => e = .returned (.tuple #[]) ∧ At w' g 70 [.int .u8 c] ∧ Upd (· = g) w w' := by
  have HA := Lib.hid hA
  have c0 := hA.cell 0 rfl
  have f0 := hA.frozen 0
  clear hA
  go_enter Try.func41, Try.ntmps41
  go_wp2
  go_end0
  refine ⟨rfl, ?hA, ?hU⟩
  case hA => (apply At.of_eq; (repeat (first | (with_reducible apply At.set) | (with_reducible apply At.drew) | (with_reducible apply At.drewN) | exact HA.out)); rfl)
  case hU => (repeat (first | (with_reducible apply Upd.here) | (with_reducible apply Upd.drew) | (with_reducible apply Upd.drewN) | exact (Upd.refl _ _)))

def readZ (b m d : Int) : Int := bits .or .u8 (bits .andNot .u8 b m) (bits .and .u8 d m)
theorem LRead_any (g : Nat) (b m d : Int) (w : World) (hA : At w g 70 [.int .u8 b]) : Calls Try.prog 15 #[.pointer (some ⟨g, 0, none⟩), .int .u8 m, .int .u8 d] w fun e w' => e = .returned (.int .u8 (readZ b m d)) ∧ At w' g 70 [.int .u8 (readZ b m d)] ∧ Upd (· = g) w w' := by
  have HA := Lib.hid hA
  clear hA
  go_enter Try.func15, Try.ntmps15
  go_wp2_with fail
  refine (LValue_any g b _ HA.out).mono ?_
  rintro e w' ⟨rfl, rfl⟩
  go_wp2_with fail
  refine (LWrite_any g b (readZ b m d) _ HA.out).mono ?_
  rintro e w' ⟨rfl, hA', hU'⟩
  go_wp2
  go_ret
  exact ⟨rfl, hA', hU'⟩

/-- The bits of k lines. -/
def upZ (u : Nat → Bool) : Nat → Int
  | 0 => 0
  | k + 1 => upZ u k + if u k then 2 ^ k else 0
theorem upZ_with (u : Nat → Bool) {k : Nat} (h : k < 4) : withZ (upZ u k) k (u k) = upZ u (k + 1) := by
  have : k = 0 ∨ k = 1 ∨ k = 2 ∨ k = 3 := by omega
  rcases this with rfl | rfl | rfl | rfl
  · simp only [upZ]; cases u 0 <;> decide
  · simp only [upZ]; cases u 0 <;> cases u 1 <;> decide
  · simp only [upZ]; cases u 0 <;> cases u 1 <;> cases u 2 <;> decide
  · simp only [upZ]; cases u 0 <;> cases u 1 <;> cases u 2 <;> cases u 3 <;> decide
theorem upZ_fin (u : Nat → Bool) : ∃ c : Fin 16, upZ u 4 = (c.val : Int) ∧ ∀ i : Fin 4, decide ((c.val : Int) / 2 ^ i.val % 2 = 1) = u i.val := by
  have hall : ∀ a b c d : Bool, ∃ x : Fin 16, (((0 + if a then 1 else 0) + if b then 2 else 0) + if c then 4 else 0) + (if d then 8 else 0) = (x.val : Int) ∧ decide ((x.val : Int) / 1 % 2 = 1) = a ∧ decide ((x.val : Int) / 2 % 2 = 1) = b ∧ decide ((x.val : Int) / 4 % 2 = 1) = c ∧ decide ((x.val : Int) / 8 % 2 = 1) = d := by decide
  obtain ⟨x, h, h0, h1, h2, h3⟩ := hall (u 0) (u 1) (u 2) (u 3)
  refine ⟨x, h, fun i => ?_⟩
  match i with
  | 0 => exact h0
  | 1 => exact h1
  | 2 => exact h2
  | 3 => exact h3
theorem read_fin : ∀ (b : Fin 256) (u : Fin 16) (i : Fin 8), bitB (readZ (b.val : Int) 15 (u.val : Int)) (i.val : Int) = if i.val < 4 then decide ((u.val : Int) / 2 ^ i.val % 2 = 1) else bitB (b.val : Int) (i.val : Int) := by decide +kernel
theorem readZ_bd : ∀ (b : Fin 256) (u : Fin 16), 0 ≤ readZ (b.val : Int) 15 (u.val : Int) ∧ readZ (b.val : Int) 15 (u.val : Int) ≤ 255 := by decide +kernel
theorem read_bit (b : Nat) (hb : b < 256) (u : Nat → Bool) (i : Nat) (hi : i < 8) : bitB (readZ (b : Int) 15 (upZ u 4)) (i : Int) = if i < 4 then u i else bitB (b : Int) (i : Int) := by
  obtain ⟨c, h, hc⟩ := upZ_fin u
  rw [h]
  have := read_fin ⟨b, hb⟩ c ⟨i, hi⟩
  simp only at this
  rw [this]
  by_cases h4 : i < 4
  · rw [if_pos h4, if_pos h4]; exact hc ⟨i, h4⟩
  · rw [if_neg h4, if_neg h4]
theorem read_bd (b : Nat) (hb : b < 256) (u : Nat → Bool) : 0 ≤ readZ (b : Int) 15 (upZ u 4) ∧ readZ (b : Int) 15 (upZ u 4) ≤ 255 := by
  obtain ⟨c, h, hc⟩ := upZ_fin u
  rw [h]
  exact readZ_bd ⟨b, hb⟩ c
end Go.Proofs.Ytgkbpdcedighcad
