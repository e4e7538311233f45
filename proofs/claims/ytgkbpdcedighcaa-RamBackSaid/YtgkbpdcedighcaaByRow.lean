/-
  The reference on rows of bytes: Other, Same, Blocks.
-/
import Derived.Test.YtgkbpdcedighcaaRamQ
import Derived.Test.YtgkbpdcedighcaaAppend
namespace Go.Proofs.Ytgkbpdcedighcaa
open Go.RowKit Go.Sort

/-- The slice's bytes. -/
def BR (w : World) (A : Option Addr) (n : Nat) (f : Nat → Nat) : Prop := Src w A n fun i => .int .u8 (f i : Int)
theorem BR.at_ {w : World} {A : Option Addr} {n : Nat} {f : Nat → Nat} (h : BR w A n f) {i : Nat} (hi : i < n) : ∃ b off, A = some ⟨b, off, none⟩ ∧ w.cell? ⟨b, off + i, none⟩ = some (.int .u8 (f i : Int)) := h i hi
theorem BR.drewN {w : World} {A : Option Addr} {n : Nat} {f : Nat → Nat} (h : BR w A n f) (q : Nat) : BR (w.drewN q) A n f := h

theorem below_drewQ {w w' : World} (h : ∃ q, w' = w.drewN q) : Below w.heap.size w w' := by
  obtain ⟨q, rfl⟩ := h
  exact ⟨rfl, rfl, rfl, Nat.le_refl _, fun _ _ => rfl⟩

set_option maxRecDepth 100000 in
set_option maxHeartbeats 2000000 in
theorem ROther_z (A B : Option Addr) (n c c' : Nat) (f g : Nat → Nat) (w : World) (hnm : n ≤ maxLen) (hA : BR w A n f) (hB : BR w B n g) : Calls Try.prog 53 #[.slice A n c, .slice B n c'] w fun e w' => e = .returned (.int .i64 (othZ f g n)) ∧ ∃ q, w' = w.drewN q := by
  unfold maxLen at hnm
  have HA := Lib.hid hA
  have HB := Lib.hid hB
  clear hA hB
  go_enter Try.func53, Try.ntmps53
  go_wp2_with fail
  go_loopw [5] (fun i wr => ∃ k : Nat, k ≤ n ∧ i = .int .i64 k ∧ Hid (othZ f g k = -1) ∧ Hid (∃ q, wr = w.drewN q)) (fun i _ => n - (intOf i).toNat)
  case atStart => exact ⟨0, Nat.zero_le _, rfl, Lib.hid rfl, Lib.hid ⟨0, rfl⟩⟩
  case round =>
    obtain ⟨k, hk, rfl, HO, HQ⟩ := hrel
    obtain ⟨q, rfl⟩ := HQ.out
    by_cases hlt : k < n
    · obtain ⟨b1, o1, rfl, c1⟩ := HA.out.at_ hlt
      obtain ⟨b2, o2, rfl, c2⟩ := HB.out.at_ hlt
      have HS : Hid (othZ f g (k + 1) = if f k = g k then -1 else (k : Int)) := Lib.hid (by rw [othZ, if_pos HO.out])
      have hk0 : (0 : Int) ≤ (k : Int) := by omega
      have hkn : (k : Int) < (n : Int) := by omega
      by_cases he : f k = g k
      · have HS1 : Hid (othZ f g (k + 1) = -1) := Lib.hid (by rw [HS.out, if_pos he])
        have hd : ((g k : Int) != (g k : Int)) = false := by simp
        rw [he] at c1
        clear HS he
        generalize g k = y at *
        go_wp2_with fail
        refine wp_region_quiet_lit (by kernel_rfl) (by kernel_rfl) ?_
        repeat (go_big_quiet_step ((fail)))
        refine wpQuiet_nil ?_
        intro _ hw'
        obtain ⟨nq, rfl⟩ := hw'
        go_wp2
        go_roundw
        case rel => exact ⟨k + 1, by omega, by go_num, HS1, Lib.hid ⟨q + nq, by first | rfl | rw [World.drewN_drewN]⟩⟩
        case measure => simp [intOf]; omega
      · have HS1 : Hid (othZ f g n = (k : Int)) := Lib.hid (by
          have := othZ_mono (HS.out.trans (if_neg he)) (by omega) (n - (k + 1))
          rwa [show k + 1 + (n - (k + 1)) = n by omega] at this)
        have hd : ((f k : Int) != (g k : Int)) = true := by rw [bne_iff_ne]; omega
        clear HS he
        generalize f k = x at *
        generalize g k = y at *
        go_wp2_with fail
        refine wp_region_quiet_lit (by kernel_rfl) (by kernel_rfl) ?_
        repeat (go_big_quiet_step ((fail)))
        refine wpQuiet_nil ?_
        intro _ hw'
        obtain ⟨nq, rfl⟩ := hw'
        go_wp2
        go_ret
        exact ⟨by rw [HS1.out]; rfl, q + nq, by rw [World.drewN_drewN]⟩
    · obtain rfl : k = n := by omega
      go_wp2
      go_ret
      exact ⟨by rw [HO.out]; rfl, _, rfl⟩

/-- Are two rows alike? -/
def eqN (f g : Nat → Nat) : Nat → Bool
  | 0 => true
  | n + 1 => eqN f g n && decide (f n = g n)
theorem eqN_false {f g : Nat → Nat} {k : Nat} (h : eqN f g k = false) : ∀ d, eqN f g (k + d) = false
  | 0 => h
  | d + 1 => by rw [show k + (d + 1) = (k + d) + 1 by omega, eqN, eqN_false h d]; rfl
theorem eqN_self (f : Nat → Nat) : ∀ n, eqN f f n = true
  | 0 => rfl
  | n + 1 => by rw [eqN, eqN_self f n]; simp
theorem eqN_othZ (f g : Nat → Nat) : ∀ n, eqN f g n = decide (othZ f g n < 0)
  | 0 => rfl
  | n + 1 => by
    have h1 : othZ f g n = -1 ∨ 0 ≤ othZ f g n := by
      induction n with
      | zero => exact .inl rfl
      | succ n ih =>
        rcases ih with h | h
        · rw [othZ, if_pos h]; split
          · exact .inl rfl
          · exact .inr (by omega)
        · rw [othZ, if_neg (by omega)]; exact .inr h
    rw [eqN, eqN_othZ f g n, othZ]
    rcases h1 with h | h
    · rw [h, if_pos rfl]
      by_cases he : f n = g n
      · simp [he]
      · rw [if_neg he, decide_eq_false he, Bool.and_false]
        symm; rw [decide_eq_false_iff_not]; omega
    · rw [if_neg (by omega), decide_eq_false (show ¬ othZ f g n < 0 by omega)]
      rfl

set_option maxRecDepth 100000 in
set_option maxHeartbeats 2000000 in
theorem Same_by (A B : Option Addr) (n c c' : Nat) (f g : Nat → Nat) (w : World) (hnm : n ≤ maxLen) (hA : BR w A n f) (hB : BR w B n g) : Calls Try.prog 55 #[.slice A n c, .slice B n c'] w fun e w' => e = .returned (.bool (eqN f g n)) ∧ ∃ q, w' = w.drewN q := by
  unfold maxLen at hnm
  have HA := Lib.hid hA
  have HB := Lib.hid hB
  have hnn : ((n : Int) != (n : Int)) = false := by simp
  clear hA hB
  go_enter Try.func55, Try.ntmps55
  go_wp2_with fail
  go_loopw [5] (fun i wr => ∃ k : Nat, k ≤ n ∧ i = .int .i64 k ∧ Hid (eqN f g k = true) ∧ Hid (∃ q, wr = w.drewN q)) (fun i _ => n - (intOf i).toNat)
  case atStart => exact ⟨0, Nat.zero_le _, rfl, Lib.hid rfl, Lib.hid ⟨0, rfl⟩⟩
  case round =>
    obtain ⟨k, hk, rfl, HO, HQ⟩ := hrel
    obtain ⟨q, rfl⟩ := HQ.out
    by_cases hlt : k < n
    · obtain ⟨b1, o1, rfl, c1⟩ := HA.out.at_ hlt
      obtain ⟨b2, o2, rfl, c2⟩ := HB.out.at_ hlt
      have HS : Hid (eqN f g (k + 1) = decide (f k = g k)) := Lib.hid (by rw [eqN, HO.out]; rfl)
      have hk0 : (0 : Int) ≤ (k : Int) := by omega
      have hkn : (k : Int) < (n : Int) := by omega
      by_cases he : f k = g k
      · have HS1 : Hid (eqN f g (k + 1) = true) := Lib.hid (by rw [HS.out, decide_eq_true he])
        have hd : ((g k : Int) != (g k : Int)) = false := by simp
        rw [he] at c1
        clear HS he
        generalize g k = y at *
        go_wp2_with fail
        refine wp_region_quiet_lit (by kernel_rfl) (by kernel_rfl) ?_
        repeat (go_big_quiet_step ((fail)))
        refine wpQuiet_nil ?_
        intro _ hw'
        obtain ⟨nq, rfl⟩ := hw'
        go_wp2
        go_roundw
        case rel => exact ⟨k + 1, by omega, by go_num, HS1, Lib.hid ⟨q + nq, by first | rfl | rw [World.drewN_drewN]⟩⟩
        case measure => simp [intOf]; omega
      · have HS1 : Hid (eqN f g n = false) := Lib.hid (by
          have := eqN_false (HS.out.trans (decide_eq_false he)) (n - (k + 1))
          rwa [show k + 1 + (n - (k + 1)) = n by omega] at this)
        have hd : ((f k : Int) != (g k : Int)) = true := by rw [bne_iff_ne]; omega
        clear HS he
        generalize f k = x at *
        generalize g k = y at *
        go_wp2_with fail
        refine wp_region_quiet_lit (by kernel_rfl) (by kernel_rfl) ?_
        repeat (go_big_quiet_step ((fail)))
        refine wpQuiet_nil ?_
        intro _ hw'
        obtain ⟨nq, rfl⟩ := hw'
        go_wp2
        go_ret
        exact ⟨by rw [HS1.out]; rfl, q + nq, by rw [World.drewN_drewN]⟩
    · obtain rfl : k = n := by omega
      go_wp2
      go_ret
      exact ⟨by rw [HO.out]; rfl, _, rfl⟩

theorem nzb_part (f : Nat → Nat) (k : Nat) : nzb f k = (List.range 64).any fun i => decide (f (64 * k + i) ≠ 0) := rfl
def nzp (f : Nat → Nat) (k n : Nat) : Bool := (List.range n).any fun i => decide (f (64 * k + i) ≠ 0)
theorem nzp_succ (f : Nat → Nat) (k n : Nat) : nzp f k (n + 1) = (nzp f k n || decide (f (64 * k + n) ≠ 0)) := by
  unfold nzp; rw [List.range_succ, List.any_append]; simp
theorem nzp_full {f : Nat → Nat} {k n : Nat} (h : n = 64) : nzp f k n = nzb f k := by subst h; rfl

set_option maxRecDepth 100000 in
set_option maxHeartbeats 4000000 in
theorem RBlocks_any (A : Option Addr) (n c : Nat) (f : Nat → Nat) (w : World) (hn : Hid (n = 8192)) (hA : BR w A n f) (M : Nat) (hM : Hid (M = 128)) : Calls Try.prog 76 #[.slice A n c] w fun e w' => e = .returned (.int .i64 (cntb f M : Int)) ∧ ∃ q, w' = w.drewN q := by
  have HA := Lib.hid hA
  clear hA
  go_enter Try.func76, Try.ntmps76
  go_wp2_with fail
  go_loopw [3, 4] (fun s i wr => ∃ k : Nat, k ≤ 128 ∧ i = .int .i64 k ∧ s = .int .i64 (cntb f k : Int) ∧ Hid (∃ q, wr = w.drewN q)) (fun _ i _ => 128 - (intOf i).toNat)
  case atStart => exact ⟨0, Nat.zero_le _, rfl, rfl, Lib.hid ⟨0, rfl⟩⟩
  case round =>
    obtain ⟨k, hk, rfl, rfl, HQ⟩ := hrel
    obtain ⟨q, rfl⟩ := HQ.out
    by_cases hlt : k < 128
    · go_wp2_with fail
      go_loopw [5, 6] (fun s i wr => ∃ j : Nat, j ≤ 64 ∧ i = .int .i64 j ∧ s = .bool (nzp f k j) ∧ Hid (∃ q, wr = w.drewN q)) (fun _ i _ => 64 - (intOf i).toNat)
      case atStart => exact ⟨0, Nat.zero_le _, rfl, rfl, Lib.hid ⟨_, rfl⟩⟩
      case round =>
        obtain ⟨j, hj, rfl, rfl, HQ⟩ := hrel
        obtain ⟨q, rfl⟩ := HQ.out
        by_cases hjt : j < 64
        · have hln := hn.out
          obtain ⟨b1, o1, rfl, c1⟩ := HA.out.at_ (i := 64 * k + j) (by omega)
          obtain ⟨x, hx⟩ : ∃ x, x = 64 * k := ⟨_, rfl⟩
          obtain ⟨y, hy⟩ : ∃ y, y = 64 * k + j := ⟨_, rfl⟩
          rw [← hy] at c1
          have hm : IntKind.i64.wrap (64 * (k : Int)) = (x : Int) := by rw [IntKind.wrap_i64]; omega
          have hs : IntKind.i64.wrap ((x : Int) + (j : Int)) = (y : Int) := by rw [IntKind.wrap_i64]; omega
          have hk0 : (0 : Int) ≤ (y : Int) := by omega
          have hkn : (y : Int) < (n : Int) := by omega
          have HP := Lib.hid (nzp_succ f k j)
          rw [← hy] at HP
          cases hz : nzp f k j with
          | true =>
            rw [hz] at HP
            clear hx hy
            go_wp2
            go_roundw
            case rel => exact ⟨j + 1, by omega, by go_num, by rw [HP.out]; rfl, Lib.hid ⟨_, rfl⟩⟩
            case measure => simp [intOf]; omega
          | false =>
            rw [hz] at HP
            clear hx hy
            go_wp2
            go_roundw
            case rel => exact ⟨j + 1, by omega, by go_num, by rw [HP.out]; congr 1; rw [Bool.eq_iff_iff]; simp, Lib.hid ⟨_, rfl⟩⟩
            case measure => simp [intOf]; omega
        · have HF := Lib.hid (nzp_full (f := f) (k := k) (show j = 64 by omega))
          have HC : Hid (cntb f (k + 1) = cntb f k + if nzb f k then 1 else 0) := Lib.hid rfl
          have hcl := cntb_le f k
          cases hz : nzp f k j with
          | true =>
            have hz2 : nzb f k = true := by rw [← HF.out, hz]
            rw [hz2, if_pos rfl] at HC
            generalize cntb f k = cc at *
            clear HF hz hz2
            go_wp2
            go_roundw
            case rel => exact ⟨k + 1, by omega, by go_num, by rw [HC.out]; go_num, Lib.hid ⟨_, rfl⟩⟩
            case measure => simp [intOf]; omega
          | false =>
            have hz2 : nzb f k = false := by rw [← HF.out, hz]
            rw [hz2, if_neg (by decide), Nat.add_zero] at HC
            generalize cntb f k = cc at *
            clear HF hz hz2
            go_wp2
            go_roundw
            case rel => exact ⟨k + 1, by omega, by go_num, by rw [HC.out]; rfl, Lib.hid ⟨_, rfl⟩⟩
            case measure => simp [intOf]; omega
    · obtain rfl : k = M := by have := hM.out; omega
      go_wp2
      go_ret
      exact ⟨rfl, _, rfl⟩
end Go.Proofs.Ytgkbpdcedighcaa
