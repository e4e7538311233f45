/-
  The walk of ram: Clone.
-/
import Derived.Test.YtgkbpdcedighcaaRamQ
import Derived.Shelf.SlMaps.Clone
namespace Go.Proofs
open Go.Shelf
def Try.ramCloneM_ren : Go.Shelf.Ren := ⟨fun | 5 => 73 | 7 => 80 | n => n, fun | 23 => 103 | 25 => 46 | 3 => 109 | 4 => 4 | 20 => 20 | n => n, fun | n => n⟩
theorem Try.ramCloneM : Go.Proofs.SlLaysW.n5 Try.prog Try.ramCloneM_ren := {
  mixed := by kernel_rfl
  f5 := ⟨Try.f73.name, by decide, Try.func73.trans (congrArg some (by kernel_rfl))⟩
  f7 := Try.func80.trans (congrArg some (by kernel_rfl))
  t4 := Try.underlying4
  a4 := Try.isAgg4
  z4 := Try.sizeOf4
  v4 := Try.zeroValue4
  t20 := Try.underlying20
  a20 := Try.isAgg20
  z20 := Try.sizeOf20
  v20 := Try.zeroValue20
  t23 := Try.underlying103
  a23 := Try.isAgg103
  z23 := Try.sizeOf103
  v23 := Try.zeroValue103 }
end Go.Proofs

namespace Go.Proofs.Ytgkbpdcedighcaa
open Go.RowKit Go.Sort Go.Maps Go.Shelf

theorem Clone_nil (w : World) : Calls Try.prog 50 #[.pointer none] w fun e w' => e = .returned (.pointer none) ∧ w' = w := by
  go_enter Try.func50, Try.ntmps50
  go_wp2
  (try simp only [Exit.inBlock, Exit.then])
  go_ret
  exact ⟨rfl, rfl⟩

theorem Clone_any (m B : Nat) (f : Nat → Nat) (w : World) (h : RamAt w m B f) : Calls Try.prog 50 #[.pointer (some ⟨m, 0, none⟩)] w fun e w' =>
    ∃ m' B', e = .returned (.pointer (some ⟨m', 0, none⟩)) ∧ RamAt w' m' B' f ∧ w.heap.size ≤ m' ∧ w.heap.size ≤ B' ∧ Below w.heap.size w w' := by
  have c0 := h.c.cell 0 rfl
  obtain ⟨D, h1, h2⟩ := h.d
  have hcon := AnyW.maps_Clone_owns Try.ramCloneM 46 Rv B 128 D w h1
  change Calls Try.prog 73 _ _ _ at hcon
  have HD := Lib.hid h2
  clear h h1 h2
  go_enter Try.func50, Try.ntmps50
  go_wp2_with fail
  refine hcon.mono ?_
  rintro e w1 ⟨rfl, hD1, _, hB1⟩
  have hM : MapAt w1 w.heap.size f := MapAt.of hD1 HD.out
  have hlt := hM.lt
  go_wp2
  go_ret
  have hA : At (w1.alloc (.cells #[.map (some w.heap.size)] 105)) w1.heap.size 105 [.map (some w.heap.size)] := At.new w1 _ _
  exact ⟨_, _, rfl, ⟨hA, hM.below ((Below.refl _ _).alloc (Nat.le_refl _) _)⟩, by omega, Nat.le_refl _, hB1.alloc hB1.size _⟩
end Go.Proofs.Ytgkbpdcedighcaa
