/-
  The walk of Stamps: the stamps of a row of accesses.
-/
import Derived.Test.YtgkbpdcedighcaaClockL
import Derived.Test.YtgkbpdcedighcaaOpen
namespace Go.Proofs.Ytgkbpdcedighcaa
open Go.RowKit Go.Sort

/-- The time behind k accesses. -/
def tm (now : Int) (fast : Bool) (z : Nat → Bool) : Nat → Int
  | 0 => now
  | k + 1 => tm now fast z k + len fast (z k)

theorem len_bd (fast x : Bool) : 3 ≤ len fast x ∧ len fast x ≤ 24 := by cases fast <;> cases x <;> decide
theorem idx_bd (x : Bool) : 0 ≤ idx x ∧ idx x ≤ 1 := by cases x <;> decide
theorem tm_bd (now : Int) (fast : Bool) (z : Nat → Bool) (k : Nat) : now + 3 * k ≤ tm now fast z k ∧ tm now fast z k ≤ now + 24 * k := by
  induction k with
  | zero => simp [tm]
  | succ k ih => have := len_bd fast (z k); simp only [tm]; omega

theorem clamp_bounds (n : Int) : 0 ≤ clampI n ∧ clampI n ≤ 1125899906842624 := by
  unfold clampI; split
  · omega
  · split <;> omega

theorem infoI64 : (Try.prog.info? 2).map (fun i => (i.zero, i.size, i.bytes)) = some (some (.int .i64 0), 1, 8) := by kernel_rfl

/-- What Stamps gives. -/
def StampsPost (w w' : World) (now : Int) (fast : Bool) (z : Nat → Bool) (n : Nat) (e : Ending) : Prop :=
  ∃ v, e = .returned (.tuple #[v, .int .i64 (tm (clampI now) fast z n)]) ∧ w'.ownsRow w.heap.size 2 1 v n ((List.range n).map fun i => .int .i64 (tm (clampI now) fast z i)) ∧ Below w.heap.size w w'

set_option maxHeartbeats 1000000 in
theorem Stamps_any (now : Int) (fast : Bool) (a : Option Addr) (n cap : Nat) (z : Nat → Bool) (w : World) (hn : n ≤ 100000)
    (hz : ∀ i, i < n → ∃ b off, a = some ⟨b, off, none⟩ ∧ b < w.heap.size ∧ w.cell? ⟨b, off + i, none⟩ = some (.bool (z i))) :
    Calls Try.prog 28 #[.int .i64 now, .bool fast, .slice a n cap] w fun e w' => StampsPost w w' now fast z n e := by
  obtain ⟨i0, hi, hz0, hz1, hz2⟩ := info_parts infoI64
  have HI := Lib.hid (And.intro hi (And.intro hz0 (And.intro hz1 hz2)))
  have HZ := Lib.hid hz
  clear hz hi hz0 hz1 hz2
  go_enter Try.func28, Try.ntmps28
  go_wp2_with fail
  refine (At_any _ _ _).mono ?_
  rintro e w2 ⟨c, rfl, hc, hA2, hB2⟩
  have hcl := clamp_bounds now
  have HB2 := Lib.hid hB2
  have HA2 := Lib.hid hA2
  have hsz := hB2.size
  clear hA2 hB2
  go_wp2_with fail
  go_loopw [9, 17] (fun v i wr => ∃ k : Nat, k ≤ n ∧ i = .int .i64 k ∧ Hid (wr.ownsRow w.heap.size 2 1 v k ((List.range k).map fun i => .int .i64 (tm (clampI now) fast z i))) ∧ Hid (∃ cyc, 0 ≤ cyc ∧ cyc ≤ 2 * (k : Int) ∧ At wr c 98 (ck (tm (clampI now) fast z k) cyc fast false false)) ∧ Hid (Below w.heap.size w wr)) (fun _ i _ => n - (intOf i).toNat)
  case atStart => exact ⟨0, Nat.zero_le _, rfl, Lib.hid (own_nil _ _ _ _), Lib.hid ⟨0, by omega, by omega, HA2.out⟩, HB2⟩
  case round =>
    obtain ⟨k, hk, rfl, HO, HC, HB⟩ := hrel
    obtain ⟨cyc, hc0, hc1, hA⟩ := HC.out
    have hne : u9.ownBlock ≠ some c := own_ne HO.out hA (by decide)
    have htm := tm_bd (clampI now) fast z k
    by_cases hlt : k < n
    · obtain ⟨b2, off2, rfl, hbl, hcl2⟩ := HZ.out k hlt
      have hcell : wr.cell? ⟨b2, off2 + k, none⟩ = some (.bool (z k)) := (HB.out.cell (p := ⟨b2, off2 + k, none⟩) hbl).trans hcl2
      clear hcl2
      go_wp2_with fail
      refine (Cycle_any c _ cyc fast false false (z k) wr hA (by omega) (by omega) hc0 (by omega)).mono ?_
      rintro e w5 ⟨rfl, hA5, hU5⟩
      have hO5 := own_upd HO.out hU5 (fun b hb e => hne (e ▸ hb))
      have HB5 := Lib.hid (step_upd HB.out hU5 hc)
      have HA5 := Lib.hid hA5
      have HN := Lib.hid hne
      have hsz5 := HB5.out.size
      have hcy : 0 ≤ cyc + (1 + idx (z k)) ∧ cyc + (1 + idx (z k)) ≤ 2 * ((k + 1 : Nat) : Int) := by have := idx_bd (z k); omega
      obtain ⟨hi, hz0, hz1, hz2⟩ := HI.out
      clear hA hU5 hcell hne hA5
      go_wp2_with (at_builtin; refine wpList_append_own _ rfl _ _ 40 rfl w.heap.size 2 i0 (.int .i64 0) 1 8 Try.underlying40 hi hz0 hz1 hz2 rfl (by decide) _ _ _ rfl (hO5.alloc _) ⟨w5.heap.size, 0, none⟩ 1 1 [.int .i64 (tm (clampI now) fast z k)] rfl rfl ?c1 ?c2 ?c3 ?c4 ?c5 ?_)
      case c1 => exact cell_one_new _ _ _
      case c2 => intro u hu; simp at hu; subst hu; rfl
      case c3 => unfold maxLen; omega
      case c4 => omega
      case c5 => simp; omega
      intro v' w6 hO6 hg6 _
      have hs := (own_snoc (n := k) (f := fun i => .int .i64 (tm (clampI now) fast z i)) hO6)
      have HO6 := Lib.hid hs
      have hB5a : Below w.heap.size w (w5.alloc (.cells #[.int .i64 (tm (clampI now) fast z k)] 2)) := HB5.out.alloc HB5.out.size _
      have HB6 := Lib.hid (hB5a.grown hg6 (by simp; omega) (fun b hb => (HO.out.lt b hb).1))
      have HA6 := Lib.hid ((HA5.out.alloc _).grown hg6 HN.out)
      clear hs hB5a hO6 hg6 hO5 hi hz0 hz1 hz2
      go_wp2
      go_roundw
      case rel => exact ⟨k + 1, by omega, by go_num, HO6, Lib.hid ⟨_, hcy.1, hcy.2, HA6.out⟩, HB6⟩
      case measure => simp [intOf]; omega
    · obtain rfl : k = n := by omega
      clear hlt
      go_wp2_with fail
      refine (Now_any c _ _ _ _ _ _ hA).mono ?_
      rintro e w' ⟨rfl, rfl⟩
      go_wp2
      go_ret2
      exact ⟨_, rfl, HO.out, HB.out⟩

theorem clamp_id (n : Int) (h0 : 0 ≤ n) (h1 : n ≤ 1125899906842624) : clampI n = n := by unfold clampI; rw [if_neg (by omega), if_neg (by omega)]

/-- .. from a stamp that is none too far. -/
def StampsFrom (w w' : World) (now : Int) (fast : Bool) (z : Nat → Bool) (n : Nat) (stop : Int) (e : Ending) : Prop :=
  ∃ v, e = .returned (.tuple #[v, .int .i64 stop]) ∧ w'.ownsRow w.heap.size 2 1 v n ((List.range n).map fun i => .int .i64 (tm now fast z i)) ∧ Below w.heap.size w w'

theorem Stamps_in (now : Int) (fast : Bool) (a : Option Addr) (n cap : Nat) (z : Nat → Bool) (w : World) (hn : n ≤ 100000) (h0 : 0 ≤ now) (h1 : now ≤ 1125899906842624) (stop : Int) (hs : tm now fast z n = stop)
    (hz : ∀ i, i < n → ∃ b off, a = some ⟨b, off, none⟩ ∧ b < w.heap.size ∧ w.cell? ⟨b, off + i, none⟩ = some (.bool (z i))) :
    Calls Try.prog 28 #[.int .i64 now, .bool fast, .slice a n cap] w fun e w' => StampsFrom w w' now fast z n stop e :=
  (Stamps_any now fast a n cap z w hn hz).mono fun e w' ⟨v, h2, h3, h4⟩ => by
    rw [clamp_id now h0 h1] at h2 h3
    exact ⟨v, hs ▸ h2, h3, h4⟩
end Go.Proofs.Ytgkbpdcedighcaa
