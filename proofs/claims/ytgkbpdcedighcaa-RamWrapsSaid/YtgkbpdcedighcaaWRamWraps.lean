/-
  The walk of the law RamWraps.
-/
import Derived.Test.YtgkbpdcedighcaaRamL
import Derived.Test.YtgkbpdcedighcaaOpen
import Derived.Test.YtgkbpdcedighcaaOpenS
import Derived.Test.YtgkbpdcedighcaaOpenA
namespace Go.Proofs.Ytgkbpdcedighcaa
open Go.RowKit Go.Sort

set_option maxRecDepth 100000 in
set_option maxHeartbeats 4000000 in
theorem RamWraps_walk (w : World) (a0 : Int) (ha0 : (Lit.int .u16 a0).wf = true) (b0 : Int) (hb0 : (Lit.int .u8 b0).wf = true) (c0 : Int) (hc0 : (Lit.int .u8 c0).wf = true) :
    Calls Try.prog 7 #[.int .u16 a0, .int .u8 b0, .int .u8 c0] w fun e w' => e = .returned (.bool true) ∧ Below w.heap.size w w' := by
  obtain ⟨at_, rfl⟩ : ∃ v : Nat, a0 = v := ⟨a0.toNat, by have := wf_bounds_u16 ha0; omega⟩
  obtain ⟨b, rfl⟩ : ∃ v : Nat, b0 = v := ⟨b0.toNat, by have := wf_bounds_u8 hb0; omega⟩
  obtain ⟨c, rfl⟩ : ∃ v : Nat, c0 = v := ⟨c0.toNat, by have := wf_bounds_u8 hc0; omega⟩
  have hat : at_ < 65536 := by have := wf_bounds_u16 ha0; omega
  clear ha0 hb0 hc0
  obtain ⟨x1, hx1⟩ : ∃ x, x = (at_ + 1) % 65536 := ⟨_, rfl⟩
  obtain ⟨x2, hx2⟩ : ∃ x, x = (at_ + 8192) % 65536 := ⟨_, rfl⟩
  obtain ⟨x3, hx3⟩ : ∃ x, x = (at_ + 16384) % 65536 := ⟨_, rfl⟩
  obtain ⟨x4, hx4⟩ : ∃ x, x = (x3 + 1) % 65536 := ⟨_, rfl⟩
  have w1 : IntKind.u16.wrap ((at_ : Int) + 1) = (x1 : Int) := by rw [IntKind.wrap_u16]; omega
  have w2 : IntKind.u16.wrap ((at_ : Int) + 8192) = (x2 : Int) := by rw [IntKind.wrap_u16]; omega
  have w3 : IntKind.u16.wrap ((at_ : Int) + 16384) = (x3 : Int) := by rw [IntKind.wrap_u16]; omega
  have w4 : IntKind.u16.wrap ((x3 : Int) + 1) = (x4 : Int) := by rw [IntKind.wrap_u16]; omega
  have hbb : ((b : Int) == (b : Int)) = true := by simp
  have hcc : ((c : Int) == (c : Int)) = true := by simp
  have F1 : Hid (putB (putB (fun _ => 0) at_ b) x1 c (at_ % 8192) = b) := Lib.hid (by
    unfold putB
    rw [if_neg (by omega), if_pos rfl])
  have F2 : Hid (putB (putB (fun _ => 0) at_ b) x1 c (x2 % 8192) = b) := Lib.hid (by
    rw [show x2 % 8192 = at_ % 8192 by omega]; exact F1.out)
  have F3 : Hid (putB (putB (fun _ => 0) at_ b) x1 c (x4 % 8192) = c) := Lib.hid (by
    unfold putB
    rw [if_pos (by omega)])
  clear hx1 hx2 hx3 hx4
  go_enter Try.func7, Try.ntmps7
  go_wp2_with fail
  refine (live05_any w).mono ?_
  rintro e wa ⟨rfl, hBa⟩
  go_wp2_with fail
  refine (New_ram wa).mono ?_
  rintro e wb ⟨m, B, rfl, hRb, hmb, hBb, hBB⟩
  have HBb := Lib.hid (step_below hBa hBB)
  have hsz := hBa.size
  clear hBB
  go_wp2_with fail
  refine (Write_any m B _ at_ b wb hRb).mono ?_
  rintro e wc ⟨rfl, hRc, hUc⟩
  have HBc := Lib.hid (hUc.to HBb.out HBb.out.size (fun k hk => hk ▸ Nat.le_trans hsz hBb))
  clear hRb hUc
  go_wp2_with fail
  refine (Write_any m B _ x1 c wc hRc).mono ?_
  rintro e wd ⟨rfl, hRd, hUd⟩
  have HBd := Lib.hid (hUd.to HBc.out HBc.out.size (fun k hk => hk ▸ Nat.le_trans hsz hBb))
  clear hRc hUd
  go_wp2_with fail
  refine (Read_any m B _ at_ wd hRd).mono ?_
  rintro e _ ⟨he, rfl⟩
  rw [F1.out] at he
  subst he
  go_wp2_with fail
  refine (Read_any m B _ x2 wd hRd).mono ?_
  rintro e _ ⟨he, rfl⟩
  rw [F2.out] at he
  subst he
  go_wp2_with fail
  refine (Read_any m B _ x4 wd hRd).mono ?_
  rintro e _ ⟨he, rfl⟩
  rw [F3.out] at he
  subst he
  go_wp2
  go_ret
  exact ⟨rfl, HBd.out⟩
end Go.Proofs.Ytgkbpdcedighcaa
