/-
  Of that package: the rest.
-/
import Derived.Test.YtgkbpdcedighcacNoiseM2
namespace Go.Proofs.Ytgkbpdcedighcac
open Go.RowKit Go.Sort NoiseP

theorem Clone_nil (w : World) : Calls Try.prog 86 #[.pointer none] w fun e w' => e = .returned (.pointer none) ∧ w = w' := by
  go_enter Try.func86, Try.ntmps86
  go_wp2
  go_ret
  exact ⟨rfl, rfl⟩
set_option maxHeartbeats 400000 in
theorem Clone_any (b : Nat) (s : Nat) (l p : Int) (w : World) (hA : At w b 175 (nz s l p)) :
    Calls Try.prog 86 #[.pointer (some ⟨b, 0, none⟩)] w fun e w' => Made w w' 175 (nz s l p) e := by
  have c0 := hA.cell 0 rfl
  have c1 := hA.cell 1 rfl
  have c2 := hA.cell 2 rfl
  go_enter Try.func86, Try.ntmps86
  go_wp2
  go_ret
  exact made_new w _ _ rfl
end Go.Proofs.Ytgkbpdcedighcac
