/-
  The walks of the package timer.
-/
import Derived.Test.YtgkbpdcedighcaaRows
import Derived.Test.YtgkbpdcedighcaaRegion
import Derived.WalkKit
import Derived.WalkSpells
import Derived.WalkLawsBesides
import Derived.Deep.RegionWith
import Derived.Outline
namespace Go.Proofs.Ytgkbpdcedighcaa
open Go.RowKit Go.Sort

/-- The cells of a timer. -/
def tk (r c : Int) (on : Bool) (left : Int) : List Value := [.int .u8 r, .int .u8 c, .bool on, .int .i64 left]

theorem and127 (b : Int) (h0 : 0 ≤ b) (h1 : b ≤ 255) : bits .and .u8 b 127 = b % 128 := by
  obtain ⟨n, rfl⟩ := Int.eq_ofNat_of_zero_le h0
  have : ∀ c : Fin 256, bits .and .u8 (c.val : Int) 127 = (c.val : Int) % 128 := by decide +kernel
  exact this ⟨n, by omega⟩
theorem and1 (b : Int) (h0 : 0 ≤ b) (h1 : b ≤ 255) : bits .and .u8 b 1 = b % 2 := by
  obtain ⟨n, rfl⟩ := Int.eq_ofNat_of_zero_le h0
  have : ∀ c : Fin 256, bits .and .u8 (c.val : Int) 1 = (c.val : Int) % 2 := by decide +kernel
  exact this ⟨n, by omega⟩

theorem is_any (b : Nat) (r c : Int) (on : Bool) (left : Int) (w : World) (hA : At w b 115 (tk r c on left)) (hl : 0 < left) :
    Calls Try.prog 70 #[.pointer (some ⟨b, 0, none⟩)] w fun e w' => e = .returned (.bool true) ∧ w = w' := by
  have c0 := hA.cell 0 rfl
  have c1 := hA.cell 1 rfl
  have c2 := hA.cell 2 rfl
  have c3 := hA.cell 3 rfl
  have hne : (left == 0) = false := by simp; omega
  go_enter Try.func70, Try.ntmps70
  go_wp2
  go_ret
  exact ⟨rfl, rfl⟩
theorem is_nil (w : World) : Calls Try.prog 70 #[.pointer none] w fun e w' => e = .returned (.bool false) ∧ w = w' := by
  go_enter Try.func70, Try.ntmps70
  go_wp2
  go_ret
  exact ⟨rfl, rfl⟩

theorem New_any (w : World) : Calls Try.prog 36 #[] w fun e w' => Made w w' 115 (tk 0 0 false 3072) e := by
  go_enter Try.func36, Try.ntmps36
  go_wp2
  go_ret
  exact made_new _ _ _ rfl

theorem Cnt_any (b : Nat) (r c : Int) (on : Bool) (left : Int) (w : World) (hA : At w b 115 (tk r c on left)) :
    Calls Try.prog 41 #[.pointer (some ⟨b, 0, none⟩)] w fun e w' => e = .returned (.int .u8 c) ∧ w = w' := by
  have c0 := hA.cell 1 rfl
  go_enter Try.func41, Try.ntmps41
  go_wp2
  go_ret
  exact ⟨rfl, rfl⟩
theorem Rel_any (b : Nat) (r c : Int) (on : Bool) (left : Int) (w : World) (hA : At w b 115 (tk r c on left)) :
    Calls Try.prog 67 #[.pointer (some ⟨b, 0, none⟩)] w fun e w' => e = .returned (.int .u8 r) ∧ w = w' := by
  have c0 := hA.cell 0 rfl
  go_enter Try.func67, Try.ntmps67
  go_wp2
  go_ret
  exact ⟨rfl, rfl⟩
theorem On_any (b : Nat) (r c : Int) (on : Bool) (left : Int) (w : World) (hA : At w b 115 (tk r c on left)) :
    Calls Try.prog 46 #[.pointer (some ⟨b, 0, none⟩)] w fun e w' => e = .returned (.bool on) ∧ w = w' := by
  have c0 := hA.cell 2 rfl
  go_enter Try.func46, Try.ntmps46
  go_wp2
  go_ret
  exact ⟨rfl, rfl⟩
theorem Left_any (b : Nat) (r c : Int) (on : Bool) (left : Int) (w : World) (hA : At w b 115 (tk r c on left)) :
    Calls Try.prog 42 #[.pointer (some ⟨b, 0, none⟩)] w fun e w' => e = .returned (.int .i64 left) ∧ w = w' := by
  have c0 := hA.cell 3 rfl
  go_enter Try.func42, Try.ntmps42
  go_wp2
  go_ret
  exact ⟨rfl, rfl⟩
theorem Clone_any (b : Nat) (r c : Int) (on : Bool) (left : Int) (w : World) (hA : At w b 115 (tk r c on left)) :
    Calls Try.prog 39 #[.pointer (some ⟨b, 0, none⟩)] w fun e w' => Made w w' 115 (tk r c on left) e := by
  have c0 := hA.cell 0 rfl
  have c1 := hA.cell 1 rfl
  have c2 := hA.cell 2 rfl
  have c3 := hA.cell 3 rfl
  go_enter Try.func39, Try.ntmps39
  go_wp2
  go_ret
  exact made_new _ _ _ rfl
theorem Until_any (b : Nat) (r c : Int) (left : Int) (w : World) (hA : At w b 115 (tk r c true left)) (h0 : 0 ≤ c) (h1 : c ≤ 255) (h2 : 0 ≤ left) (h3 : left ≤ 3072) :
    Calls Try.prog 45 #[.pointer (some ⟨b, 0, none⟩)] w fun e w' => e = .returned (.tuple #[.int .i64 (left + c * 3072), .bool true]) ∧ ∃ q, w' = w.drewN q := by
  have c1 := hA.cell 1 rfl
  have c3 := hA.cell 3 rfl
  go_enter Try.func45, Try.ntmps45
  go_wp2_with fail
  refine (On_any b _ _ _ _ _ hA).mono ?_
  rintro e w' ⟨rfl, rfl⟩
  go_wp2_with fail
  refine wp_region_quiet_lit (by kernel_rfl) (by kernel_rfl) ?_
  repeat (go_big_quiet_step ((fail)))
  refine wpQuiet_nil ?_
  intro _ hw'
  obtain ⟨nq, rfl⟩ := hw'
  go_wp2
  go_ret2
  exact ⟨rfl, _, rfl⟩
theorem Until_off (b : Nat) (r c : Int) (left : Int) (w : World) (hA : At w b 115 (tk r c false left)) :
    Calls Try.prog 45 #[.pointer (some ⟨b, 0, none⟩)] w fun e w' => e = .returned (.tuple #[.int .i64 0, .bool false]) ∧ w = w' := by
  go_enter Try.func45, Try.ntmps45
  go_wp2_with fail
  refine (On_any b _ _ _ _ _ hA).mono ?_
  rintro e w' ⟨rfl, rfl⟩
  go_wp2
  go_ret2
  exact ⟨rfl, rfl⟩
end Go.Proofs.Ytgkbpdcedighcaa
