/-
  The law's alike.
-/
import Derived.Test.YtgkbpdcedighcaaPcR
import Derived.Test.YtgkbpdcedighcaaRamF
namespace Go.Proofs.Ytgkbpdcedighcaa
open Go.RowKit Go.Sort

set_option maxRecDepth 100000 in
set_option maxHeartbeats 4000000 in
theorem alike_any (m B : Nat) (f : Nat → Nat) (A : Option Addr) (N cap : Nat) (w : World) (hN : Hid (N = 8192)) (hR : RamAt w m B f) (hA : BRB w A N f) :
    Calls Try.prog 51 #[.pointer (some ⟨m, 0, none⟩), .slice A N cap] w fun e w' => e = .returned (.bool true) ∧ Below w.heap.size w w' := by
  have HR := Lib.hid hR
  have HA := Lib.hid hA
  clear hR hA
  go_enter Try.func51, Try.ntmps51
  go_wp2_with fail
  go_loopw [5] (fun i wr => ∃ k : Nat, k ≤ N ∧ i = .int .i64 k ∧ Hid (∃ q, wr = w.drewN q)) (fun i _ => N - (intOf i).toNat)
  case atStart => exact ⟨0, Nat.zero_le _, rfl, Lib.hid ⟨0, rfl⟩⟩
  case round =>
    obtain ⟨k, hk, rfl, HQ⟩ := hrel
    obtain ⟨q, hq⟩ := HQ.out
    have HW := Lib.hid hq
    have hbq := below_drewQ ⟨q, hq⟩
    have HR' := Lib.hid (HR.out.below hbq)
    have HA' := Lib.hid (HA.out.below hbq)
    have HB' := Lib.hid hbq
    clear hq HQ HR HA hbq
    by_cases hlt : k < N
    · have hk8 : (k : Int) < 8192 := by have := hN.out; omega
      have hw : IntKind.u16.wrap (k : Int) = (k : Int) := by rw [IntKind.wrap_u16]; omega
      obtain ⟨b1, o1, rfl, -, c1⟩ := HA'.out k hlt
      have hk0 : (0 : Int) ≤ (k : Int) := by omega
      have hkn : (k : Int) < (N : Int) := by omega
      have hd : ((f k : Int) != (f k : Int)) = false := by simp
      have KS : ∀ q', Calls Try.prog 33 #[.pointer (some ⟨m, 0, none⟩), .int .u16 (k : Int)] (wr.drewN q') fun e w'' => e = .returned (.int .u8 (f k : Int)) ∧ ∃ m, w'' = wr.drewN m := fun q' =>
        Calls.quiet_of_same (Calls.mono (Read_any m B f k (wr.drewN q') ⟨HR'.out.c.drewN q', HR'.out.d⟩) (fun e w' h => ⟨by rw [h.1, Nat.mod_eq_of_lt (by omega)], h.2.symm⟩))
      generalize f k = y at *
      go_wp2_with fail
      refine wp_region_quiet_lit (by kernel_rfl) (by kernel_rfl) ?_
      repeat (go_big_quiet_step (((go_at_call 33; exact KS _))))
      refine wpQuiet_nil ?_
      intro _ hw'
      obtain ⟨nq, rfl⟩ := hw'
      go_wp2
      go_roundw
      case rel => exact ⟨k + 1, by omega, by go_num, Lib.hid ⟨q + nq, by rw [HW.out, World.drewN_drewN]⟩⟩
      case measure => simp [intOf]; omega
    · have hk8 : k = 8192 := by have := hN.out; omega
      have hd8 : ¬ (k : Int) < 8192 := by omega
      clear hk8
      have hA0 := HA'.out
      have hN0 : 0 < N := by have := hN.out; omega
      have hlt1 : ∀ b off, A = some ⟨b, off, none⟩ → b < wr.heap.size := fun b off h => by
        obtain ⟨b', o', h1, h2, _⟩ := hA0 0 hN0
        rw [h1] at h
        simp only [Option.some.injEq, Addr.mk.injEq, and_true] at h
        omega
      have HL := Lib.hid hlt1
      have HN8 : Hid (N ≤ 8192) := Lib.hid (Nat.le_of_eq hN.out)
      obtain ⟨M, hM⟩ : ∃ n : Nat, n = 128 := ⟨_, rfl⟩
      have HM := Lib.hid hM
      clear hA0 hlt1 hN0 hM
      go_wp2_with fail
      refine (Pieces_z _ f N hN wr HR'.out.rm).mono ?_
      rintro e w1 ⟨v1, sl1, rfl, hP1, hB1⟩
      have HP1 := Lib.hid hP1
      have HB1 := Lib.hid hB1
      clear hP1 hB1
      go_wp2_with fail
      refine (RPieces_any A N cap f w1 HN8.out (HA'.out.below HB1.out).br (fun b off h => Nat.lt_of_lt_of_le (HL.out b off h) HB1.out.size)).mono ?_
      rintro e w2 ⟨v2, sl2, rfl, hP2, hB2⟩
      obtain ⟨A1, cap1, he1, _⟩ := own_form HP1.out.row
      obtain ⟨A2, cap2, he2, _⟩ := own_form hP2.row
      have hP1' := HP1.out.below hB2
      rw [he1] at hP1'
      rw [he2] at hP2
      subst he1 he2
      have HR1 := Lib.hid hP1'.read.2
      have HR2 := Lib.hid hP2.read.2
      have hfew := (pcs_ok f N).few
      have HFW : Hid ((pcs f N).c ≤ maxLen) := Lib.hid (Nat.le_trans hfew (by have := HN8.out; unfold maxLen; omega))
      have HB2 := Lib.hid (step_below HB1.out hB2)
      have HR2' := Lib.hid (HR'.out.below HB2.out)
      have HA2' := Lib.hid (HA'.out.below HB2.out)
      clear hP1' hP2 hB2 hfew HP1 HB1
      generalize (pcs f N).c = pc at *
      go_wp2_with fail
      refine (RSame_any A1 A2 pc cap1 cap2 _ w2 HFW.out HR1.out HR2.out).mono ?_
      rintro e w3 ⟨rfl, hq3⟩
      have hb3 := below_drewQ hq3
      have HB3 := Lib.hid (step_below HB2.out hb3)
      have HR3 := Lib.hid (HR2'.out.below hb3)
      have HA3 := Lib.hid (HA2'.out.below hb3)
      clear hq3 hb3 HR2' HA2' HB2
      go_wp2_with fail
      refine (Blocks_any m B f w3 HR3.out).mono ?_
      rintro e _ ⟨he, rfl⟩
      obtain rfl : e = .returned (.int .i64 (cntb f M : Int)) := by rw [he, HM.out]
      clear he
      go_wp2_with fail
      refine (RBlocks_any A N cap f w3 hN HA3.out.br M HM).mono ?_
      rintro e w4 ⟨rfl, hq4⟩
      have HB4 := Lib.hid (step_below HB3.out (below_drewQ hq4))
      clear hq4 HB3
      have hcc : ((cntb f M : Int) == (cntb f M : Int)) = true := by simp
      go_wp2
      go_ret
      exact ⟨rfl, step_below HB'.out HB4.out⟩
end Go.Proofs.Ytgkbpdcedighcaa
