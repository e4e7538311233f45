/-
  The walk of wave.Channel's Bend.
-/
import Derived.Test.YtgkbpdcedighcacWaveG
namespace Go.Proofs.Ytgkbpdcedighcac
open Go.RowKit Go.Sort NoiseP

section
variable (c b fr : Nat) (be : Int) (co ba to : Nat) (ny : Bool) (wv : Nat → Nat) (pl : Nat) (lf : Int) (w : World)

set_option maxRecDepth 100000 in
set_option maxHeartbeats 2000000 in
theorem Bend_any (d : Int) (hA : At w c 138 (wz b fr be co ba to ny wv pl lf)) :
    Calls Try.prog 77 #[.pointer (some ⟨c, 0, none⟩), .int .i64 d] w fun e w' => e = .returned (.tuple #[]) ∧ At w' c 138 (wz b fr (holdW d) co ba to ny wv pl lf) ∧ Upd (· = c) w w' := by
  have c2 := hA.cell 2 rfl
  have f2 := hA.frozen 2
  have HA := Lib.hid hA
  have HH : Hid (holdW d = min (max d (-4096)) 4096) := Lib.hid (by unfold holdW; omega)
  clear hA
  go_enter Try.func77, Try.ntmps77
  go_wp2_with fail
  refine (is_any c b fr be co ba to ny wv pl lf w HA.out).mono ?_
  rintro e _ ⟨rfl, rfl⟩
  go_wp2
  all_goals (
    go_end0
    refine ⟨rfl, ?_, (Upd.refl _ _).here _⟩
    rw [HH.out]
    exact (HA.out.set 2 _).of_eq (congrArg (fun x => wz b fr x co ba to ny wv pl lf) (by omega)))
end
end Go.Proofs.Ytgkbpdcedighcac
