/-
  The walks of the package noise: of, twice, one, Jump.
-/
import Derived.Test.YtgkbpdcedighcacNoise
namespace Go.Proofs.Ytgkbpdcedighcac
open Go.RowKit Go.Sort NoiseP

/-- The cells of a linear map. -/
def mL (m : Nat → Nat) : List Value := (List.range 18).map fun i => .int .u32 (m i : Nat)
def mA (m : Nat → Nat) : Array Value := (mL m).toArray
theorem mL_get (m : Nat → Nat) (i : Nat) (h : i < 18) : (mL m)[i]? = some (.int .u32 (m i : Nat)) := by
  simp [mL, h]

theorem At.newA (w : World) (m : Nat → Nat) (t : TypeId) : At (w.alloc (.cells (mA m) t)) w.heap.size t (mL m) := by
  have := At.new w (mA m) t
  simpa [mA] using this

theorem bit_test (s k : Nat) (hs : s < 4294967296) : (bits .and .u32 ((s : Int) / 2 ^ k) 1 != 0) = s.testBit k := by
  have e : (s : Int) / 2 ^ k = ((s / 2 ^ k : Nat) : Int) := by simp
  have h : bits .and .u32 ((s / 2 ^ k : Nat) : Int) 1 = ((s / 2 ^ k &&& 1 : Nat) : Int) := u32_and _ 1 (Nat.lt_of_le_of_lt (Nat.div_le_self _ _) hs) (by omega)
  rw [e, h, Nat.and_one_is_mod, Nat.testBit_eq_decide_div_mod_eq]
  rcases Nat.mod_two_eq_zero_or_one (s / 2 ^ k) with h | h <;> rw [h] <;> rfl

theorem ofK_lt (m : Nat → Nat) (s : Nat) (hm : ∀ i, i < 18 → m i < 262144) : ∀ k, k ≤ 18 → ofK m s k < 262144
  | 0, _ => by simp [ofK]
  | k + 1, hk => by
    have := ofK_lt m s hm k (by omega)
    simp only [ofK]
    split
    · exact xor_lt18 this (hm k (by omega))
    · exact this

set_option maxHeartbeats 400000 in
theorem of_any (m : Nat → Nat) (s : Nat) (w : World) (hs : s < 262144) (hm : ∀ i, i < 18 → m i < 262144) :
    Calls Try.prog 133 #[.agg (mA m), .int .u32 (s : Int)] w fun e w' => e = .returned (.int .u32 (ofK m s 18 : Nat)) ∧ Below w.heap.size w w' := by
  have HM := Lib.hid hm
  clear hm
  go_enter Try.func133, Try.ntmps133
  go_wp2_with fail
  go_loop [5, 7] (fun o i => ∃ k : Nat, k ≤ 18 ∧ i = .int .i64 k ∧ o = .int .u32 (ofK m s k : Nat)) (fun _ i => 18 - (intOf i).toNat)
  case atStart => exact ⟨0, by omega, rfl, rfl⟩
  case round =>
    obtain ⟨k, hk, rfl, rfl⟩ := hrel
    by_cases hlt : k < 18
    · have hg : (mA m)[k]? = some (.int .u32 (m k : Nat)) := by
        have := mL_get m k hlt
        simpa [mA] using this
      have hb := bit_test s k (by omega)
      have h1 := ofK_lt m s HM.out k hk
      have h2 := HM.out k hlt
      cases ht : s.testBit k
      · rw [ht] at hb
        have he : ofK m s (k + 1) = ofK m s k := by simp only [ofK]; rw [if_neg (by simp [ht])]
        have HE := Lib.hid he
        clear he ht
        go_wp2
        go_round
        case rel => exact ⟨k + 1, by omega, by go_num, by rw [HE.out]⟩
        case measure => simp [intOf]; omega
      · rw [ht] at hb
        have he : bits .xor .u32 (ofK m s k : Nat) (m k : Nat) = (ofK m s (k + 1) : Nat) := by
          rw [u32_xor _ _ (by omega) (by omega)]
          simp only [ofK]; rw [if_pos (by simp [ht])]
        clear ht
        go_wp2
        go_round
        case rel => exact ⟨k + 1, by omega, by go_num, rfl⟩
        case measure => simp [intOf]; omega
    · obtain rfl : k = 18 := by omega
      go_wp2
      go_ret
      exact ⟨rfl, (Below.refl _ w).alloc (Nat.le_refl _) _⟩
end Go.Proofs.Ytgkbpdcedighcac
