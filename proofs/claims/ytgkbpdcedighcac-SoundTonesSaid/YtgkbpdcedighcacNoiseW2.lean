/-
  The walks of the reference 13: the Noise.
-/
import Derived.Test.YtgkbpdcedighcacNoiseN2
namespace Go.Proofs.Ytgkbpdcedighcac
open Go.RowKit Go.Sort NoiseP

/-- The cells of the reference's Noise. -/
def rz (s : Nat) (l f : Int) : List Value := [.int .u32 (s : Int), .int .i64 l, .int .u8 f]

theorem RNew_any (f : Int) (w : World) (h0 : 0 ≤ f) (h1 : f ≤ 255) :
    Calls Try.prog 82 #[.int .u8 f] w fun e w' => Made w w' 172 (rz 1 (perI f) f) e := by
  go_enter Try.func82, Try.ntmps82
  go_wp2_with fail
  refine (RPeriod_any f w h0 h1).mono ?_
  rintro e w' ⟨rfl, rfl⟩
  go_wp2
  go_ret
  exact made_new w _ _ rfl

theorem RCopy_any (b : Nat) (s : Nat) (l f : Int) (w : World) (hA : At w b 172 (rz s l f)) :
    Calls Try.prog 87 #[.pointer (some ⟨b, 0, none⟩)] w fun e w' => Made w w' 172 (rz s l f) e := by
  have c0 := hA.cell 0 rfl
  have c1 := hA.cell 1 rfl
  have c2 := hA.cell 2 rfl
  go_enter Try.func87, Try.ntmps87
  go_wp2_with fail
  refine region_drew_tail 13 (by kernel_rfl) (by kernel_rfl) ?_
  simp only [List.take_succ_cons, List.take_zero, List.drop_succ_cons, List.drop_zero]
  repeat (go_big_quiet_step ((fail)))
  refine wpQuiet_nil ?_
  intro _ hw'
  obtain ⟨nq, rfl⟩ := hw'
  go_wp2
  go_ret
  refine ⟨w.heap.size, rfl, Nat.le_refl _, ?_, ?_⟩
  · exact At.new (w.drewN nq) _ _
  · exact (Upd.drewN (Upd.refl (fun _ => False) w) nq).to_below (fun b hb => ⟨hb, id⟩) |>.alloc (by simp) _

theorem RLevel_any (b : Nat) (s : Nat) (l f : Int) (w : World) (hA : At w b 172 (rz s l f)) (hs : s < 4294967296) :
    Calls Try.prog 110 #[.pointer (some ⟨b, 0, none⟩)] w fun e w' => e = .returned (.int .u8 (levN s)) ∧ w = w' := by
  have c0 := hA.cell 0 rfl
  have hm : (s : Int) % 2 = 0 ∨ (s : Int) % 2 = 1 := by omega
  have hl : levN s = (s : Int) % 2 * 31 := by unfold levN; omega
  rw [hl]
  clear hl
  rcases hm with hm | hm
  all_goals
    rw [hm]
    go_enter Try.func110, Try.ntmps110
    go_wp2
    go_ret
    exact ⟨rfl, rfl⟩

set_option maxHeartbeats 2000000 in
theorem RGo_any (b : Nat) (s : Nat) (l f n : Int) (w : World) (hA : At w b 172 (rz s l f)) (hs : s < 262144) (hl : 1 ≤ l ∧ l ≤ 1984) (hf : 0 ≤ f ∧ f ≤ 255) (hn : 0 ≤ n ∧ n ≤ 1099511627776) :
    Calls Try.prog 113 #[.pointer (some ⟨b, 0, none⟩), .int .i64 n] w fun e w' => e = .returned (.tuple #[]) ∧ At w' b 172 (rz (goS s l (perI f) n) (goL l (perI f) n) f) ∧ Upd (· = b) w w' := by
  obtain ⟨p, hp⟩ : ∃ p, p = perI f := ⟨_, rfl⟩
  obtain ⟨S, hS⟩ : ∃ S, S = goS s l p n := ⟨_, rfl⟩
  obtain ⟨L, hL⟩ : ∃ L, L = goL l p n := ⟨_, rfl⟩
  have hp1 : 1 ≤ p ∧ p ≤ 1984 := hp ▸ perI_pos f
  rw [← hp, ← hS, ← hL]
  have HP := Lib.hid hp
  have HA := Lib.hid hA
  have HS := Lib.hid hS
  have HL := Lib.hid hL
  clear hp hS hL hA
  go_enter Try.func113, Try.ntmps113
  go_wp2_with fail
  go_loopw [1] (fun i wr => ∃ (s' : Nat) (l' n' : Int), i = .int .i64 n' ∧ (0 ≤ n' ∧ n' ≤ 1099511627776) ∧ s' < 262144 ∧ (1 ≤ l' ∧ l' ≤ 1984) ∧ Hid (S = goS s' l' p n') ∧ Hid (L = goL l' p n') ∧ Hid (At wr b 172 (rz s' l' f)) ∧ Hid (Upd (· = b) w wr)) (fun i _ => (intOf i).toNat)
  case atStart => exact ⟨s, l, n, rfl, hn, hs, hl, HS, HL, HA, Lib.hid (Upd.refl _ _)⟩
  case round =>
    clear hn hs hl HS HL HA
    obtain ⟨s, l, n, rfl, hn, hs, hl, HS, HL, HA, HU⟩ := hrel
    have c0 := HA.out.cell 0 rfl
    have c1 := HA.out.cell 1 rfl
    have c2 := HA.out.cell 2 rfl
    have f0 := HA.out.frozen 0
    have f1 := HA.out.frozen 1
    by_cases hlt : l ≤ n
    · go_wp2_with fail
      refine (RNext_any s _ (by omega)).mono ?_
      rintro e w2 ⟨rfl, hb⟩
      have hA2 := HA.out.below hb HA.out.lt
      have hU2 : Upd (· = b) w w2 := HU.out.trans (Upd.of_below hb) (fun _ _ h => h)
      clear c0 c1 c2 f0 f1 HA HU hb
      have c0 := hA2.cell 0 rfl
      have c1 := hA2.cell 1 rfl
      have c2 := hA2.cell 2 rfl
      have f0 := hA2.frozen 0
      have f1 := hA2.frozen 1
      have HA2 := Lib.hid hA2
      have HU2 := Lib.hid hU2
      clear hA2 hU2
      go_wp2_with fail
      refine (RPeriod_any f _ hf.1 hf.2).mono ?_
      rintro e _ ⟨rfl, rfl⟩
      rw [← HP.out]
      go_wp2
      go_round
      case rel =>
        have hst := go_step s l p n hp1.1 hlt
        refine ⟨nextN s, p, n - l, by go_num, by omega, lin_next.lt s hs, hp1, Lib.hid (HS.out.trans hst.1.symm), Lib.hid (HL.out.trans hst.2.symm), ?hA, ?hU⟩
        case hA =>
          apply Lib.hid
          (apply At.of_eq; (repeat (first | (with_reducible apply At.set) | (with_reducible apply At.drew) | (with_reducible apply At.drewN) | exact HA2.out)); rfl)
        case hU =>
          apply Lib.hid
          (repeat (first | (with_reducible apply Upd.here) | (with_reducible apply Upd.drew) | (with_reducible apply Upd.drewN) | exact HU2.out))
      case measure => simp [intOf]; omega
    · have hS : S = s := HS.out.trans (if_pos (by omega))
      have hL : L = l - n := HL.out.trans (if_pos (by omega))
      subst hS hL
      by_cases hz : n = 0
      · subst hz
        go_wp2
        first | go_end0 | refine bodyPost_ret (results_none rfl _ _ _) rfl ?_
        exact ⟨rfl, HA.out, HU.out⟩
      · have hpos : 0 < n := by omega
        go_wp2
        first | go_end0 | refine bodyPost_ret (results_none rfl _ _ _) rfl ?_
        refine ⟨rfl, ?hA, ?hU⟩
        case hA =>
          (apply At.of_eq; (repeat (first | (with_reducible apply At.set) | (with_reducible apply At.drew) | (with_reducible apply At.drewN) | exact HA.out)); rfl)
        case hU =>
          (repeat (first | (with_reducible apply Upd.here) | (with_reducible apply Upd.drew) | (with_reducible apply Upd.drewN) | exact HU.out))
end Go.Proofs.Ytgkbpdcedighcac
