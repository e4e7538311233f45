/-
  How pieces read, as they came in or as a call has laid them; the reference's Same.
-/
import Derived.Test.YtgkbpdcedighcaaRefP
import Derived.Test.YtgkbpdcedighcaaOpenS
namespace Go.Proofs.Ytgkbpdcedighcaa
open Go.RowKit Go.Sort

/-- The slice's bytes, in blocks that are there. -/
def BRB (w : World) (A : Option Addr) (n : Nat) (f : Nat → Nat) : Prop := ∀ i, i < n → ∃ b off, A = some ⟨b, off, none⟩ ∧ b < w.heap.size ∧ w.cell? ⟨b, off + i, none⟩ = some (.int .u8 (f i : Int))
theorem BRB.br {w : World} {A : Option Addr} {n : Nat} {f : Nat → Nat} (h : BRB w A n f) : BR w A n f := fun i hi => by
  obtain ⟨b, off, h1, _, h3⟩ := h i hi
  exact ⟨b, off, h1, h3⟩
theorem BRB.below {w w' : World} {A : Option Addr} {n : Nat} {f : Nat → Nat} (h : BRB w A n f) (hb : Below w.heap.size w w') : BRB w' A n f := fun i hi => by
  obtain ⟨b, off, h1, h2, h3⟩ := h i hi
  exact ⟨b, off, h1, Nat.lt_of_lt_of_le h2 hb.size, (hb.cell (p := ⟨b, off + i, none⟩) h2).trans h3⟩

/-- A piece. -/
structure Pv where
  z : Int
  l : Nat
  g : Nat → Nat
/-- The pieces' reading. -/
def PcR (w : World) (A : Option Addr) (n : Nat) (Z : Nat → Pv) : Prop :=
  ∀ i, i < n → ∃ b off A' cap', A = some ⟨b, off, none⟩ ∧ b < w.heap.size ∧ w.cell? ⟨b, off + i * 2, none⟩ = some (.int .i64 (Z i).z) ∧ w.cell? ⟨b, off + i * 2 + 1, none⟩ = some (.slice A' (Z i).l cap') ∧ (Z i).l ≤ maxLen ∧ BRB w A' (Z i).l (Z i).g
theorem PcR.below {w w' : World} {A : Option Addr} {n : Nat} {Z : Nat → Pv} (h : PcR w A n Z) (hb : Below w.heap.size w w') : PcR w' A n Z := fun i hi => by
  obtain ⟨b, off, A', cap', h1, h2, h3, h4, h5, h6⟩ := h i hi
  exact ⟨b, off, A', cap', h1, Nat.lt_of_lt_of_le h2 hb.size, (hb.cell (p := ⟨b, off + i * 2, none⟩) h2).trans h3, (hb.cell (p := ⟨b, off + i * 2 + 1, none⟩) h2).trans h4, h5, h6.below hb⟩

theorem PcsAt.read {PT U8 : TypeId} {w : World} {base : Nat} {A : Option Addr} {n cap : Nat} {p : PL} {sl : Nat → Value} {f : Nat → Nat} (h : PcsAt PT U8 w base (.slice A n cap) p sl f) : n = p.c ∧ PcR w A n fun i => ⟨(p.st i : Int), p.ln i, fun j => f (p.st i + j)⟩ := by
  have hr := h.row
  have hn : n = p.c := by
    obtain ⟨_, _, he, _⟩ := own_form hr
    simp only [Value.slice.injEq] at he
    exact he.2.1
  refine ⟨hn, fun i hi => ?_⟩
  rcases hr.2 with ⟨he, h0⟩ | ⟨g, cp, cur, he, hb, hh, hnc, _, hsz, htake⟩
  · omega
  · simp only [Value.slice.injEq] at he
    obtain ⟨rfl, -, rfl⟩ := he
    obtain ⟨e1, e2⟩ := pcsRow_get (st := p.st) (sl := sl) (show i < p.c by omega)
    rw [hn] at hr
    have hE := h.each i (by omega)
    obtain ⟨A', cap', hs, _, hm⟩ := own_form hE
    have hle : p.ln i ≤ maxLen := by
      rcases hE.2 with ⟨_, h0⟩ | ⟨_, cp', _, _, _, _, hnc', hmc', _⟩
      · rw [h0]; exact Nat.zero_le _
      · exact Nat.le_trans hnc' hmc'
    refine ⟨g, 0, A', cap', rfl, (Array.getElem?_eq_some_iff.1 hh).1, ?_, ?_, hle, fun j hj => ?_⟩
    · rw [Nat.zero_add]; exact (hr.cellAt _ (by omega)).trans e1
    · rw [Nat.zero_add, ← hs]; exact (hr.cellAt _ (by omega)).trans e2
    · rw [hs] at hE
      obtain ⟨b2, c2, he2, _, _, hlt2, hc2⟩ := own_cell hE hj
      simp only [Value.slice.injEq] at he2
      obtain ⟨rfl, -, rfl⟩ := he2
      exact ⟨b2, 0, rfl, hlt2, by rw [Nat.zero_add]; exact hc2⟩

set_option maxRecDepth 100000 in
set_option maxHeartbeats 4000000 in
theorem RSame_any (A B : Option Addr) (n c c' : Nat) (Z : Nat → Pv) (w : World) (hnm : n ≤ maxLen) (hA : PcR w A n Z) (hB : PcR w B n Z) : Calls Try.prog 74 #[.slice A n c, .slice B n c'] w fun e w' => e = .returned (.bool true) ∧ ∃ q, w' = w.drewN q := by
  unfold maxLen at hnm
  have HA := Lib.hid hA
  have HB := Lib.hid hB
  have hnn : ((n : Int) != (n : Int)) = false := by simp
  clear hA hB
  go_enter Try.func74, Try.ntmps74
  go_wp2_with fail
  go_loopw [5] (fun i wr => ∃ k : Nat, k ≤ n ∧ i = .int .i64 k ∧ Hid (∃ q, wr = w.drewN q)) (fun i _ => n - (intOf i).toNat)
  case atStart => exact ⟨0, Nat.zero_le _, rfl, Lib.hid ⟨0, rfl⟩⟩
  case round =>
    obtain ⟨k, hk, rfl, HQ⟩ := hrel
    obtain ⟨q, hq⟩ := HQ.out
    have HW := Lib.hid hq
    have HA' : Hid (PcR wr A n Z) := Lib.hid (HA.out.below (below_drewQ ⟨q, hq⟩))
    have HB' : Hid (PcR wr B n Z) := Lib.hid (HB.out.below (below_drewQ ⟨q, hq⟩))
    clear hq HQ HA HB
    by_cases hlt : k < n
    · obtain ⟨b1, o1, A1, cap1, rfl, -, c1, d1, m1, r1⟩ := HA'.out k hlt
      obtain ⟨b2, o2, A2, cap2, rfl, -, c2, d2, -, r2⟩ := HB'.out k hlt
      have hk0 : (0 : Int) ≤ (k : Int) := by omega
      have hkn : (k : Int) < (n : Int) := by omega
      have hz : ((Z k).z != (Z k).z) = false := by simp
      have R1 := Lib.hid r1.br
      have R2 := Lib.hid r2.br
      have M1 := Lib.hid m1
      clear r1 r2 m1
      generalize (Z k).z = zz at *
      generalize (Z k).l = ll at *
      generalize (Z k).g = gg at *
      have KS : ∀ q', Calls Try.prog 55 #[.slice A1 ll cap1, .slice A2 ll cap2] (wr.drewN q') fun e w'' => e = .returned (.bool true) ∧ ∃ m, w'' = wr.drewN m := fun q' => Calls.quiet_of (Calls.mono (Same_by A1 A2 ll cap1 cap2 gg gg (wr.drewN q') M1.out R1.out R2.out) (fun e w' h => ⟨by rw [h.1, eqN_self], h.2⟩))
      go_wp2_with fail
      refine wp_region_quiet_lit (by kernel_rfl) (by kernel_rfl) ?_
      repeat (go_big_quiet_step (((go_at_call 55; exact KS _))))
      refine wpQuiet_nil ?_
      intro _ hw'
      obtain ⟨nq, rfl⟩ := hw'
      go_wp2
      go_roundw
      case rel => exact ⟨k + 1, by omega, by go_num, Lib.hid ⟨q + nq, by rw [HW.out, World.drewN_drewN]⟩⟩
      case measure => simp [intOf]; omega
    · go_wp2
      go_ret
      exact ⟨rfl, _, HW.out⟩
end Go.Proofs.Ytgkbpdcedighcaa
