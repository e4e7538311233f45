/-
  The walk of turns.of.
-/
import Derived.Test.YtgkbpdcedighcacTurn
import Derived.Test.YtgkbpdcedighcacBinP
import Derived.Test.YtgkbpdcedighcacRowF
namespace Go.Proofs.Ytgkbpdcedighcac
open Go.RowKit Go.Sort

/-- The slice (a, n) reads as the integers z. -/
def IntsAt (w : World) (a : Option Addr) (n : Nat) (z : Nat → Int) : Prop :=
  ∀ i, i < n → ∃ b off, a = some ⟨b, off, none⟩ ∧ b < w.heap.size ∧ w.cell? ⟨b, off + i, none⟩ = some (.int .i64 (z i))

theorem IntsAt.below {w w' : World} {a : Option Addr} {n : Nat} {z : Nat → Int} {B : Nat} (h : IntsAt w a n z) (hb : Below B w w') (hB : ∀ b off, a = some ⟨b, off, none⟩ → 0 < n → b < B) : IntsAt w' a n z := by
  intro i hi
  obtain ⟨b, off, rfl, h1, h2⟩ := h i hi
  have hlt := hB b off rfl (by omega)
  exact ⟨b, off, rfl, Nat.lt_of_lt_of_le h1 hb.size, (hb.cell (p := ⟨b, off + i, none⟩) hlt).trans h2⟩
theorem IntsAt.step {w w' : World} {a : Option Addr} {n : Nat} {z : Nat → Int} (h : IntsAt w a n z) (hb : Below w.heap.size w w') : IntsAt w' a n z :=
  h.below hb fun b off ha h0 => by
    obtain ⟨b', off', h1, h2, _⟩ := h 0 h0
    rw [ha] at h1
    injection h1 with h1
    injection h1 with h1
    exact h1 ▸ h2

/-- Block b holds four complex numbers. -/
def BinAt (w : World) (b : Nat) (X : Nat → Int × Int) : Prop := ∃ vs : Nat → Value, At w b 185 (rowF 4 vs) ∧ ∀ j, j < 4 → CZ (vs j) (X j).1 (X j).2

theorem BinAt.set {w : World} {b : Nat} {X : Nat → Int × Int} (h : BinAt w b X) {k : Nat} (hk : k < 4) {v : Value} {x : Int × Int} (hv : CZ v x.1 x.2) : BinAt (w.setCell ⟨b, k, none⟩ v) b (fun j => if j = k then x else X j) := by
  obtain ⟨vs, hA, hC⟩ := h
  refine ⟨fun i => if i = k then v else vs i, (hA.set k v).of_eq (rowF_set v hk), fun j hj => ?_⟩
  by_cases hjk : j = k
  · simpa [hjk] using hv
  · simpa [hjk] using hC j hj
theorem BinAt.ext {w : World} {b : Nat} {X Y : Nat → Int × Int} (h : BinAt w b X) (he : ∀ j, j < 4 → X j = Y j) : BinAt w b Y := by
  obtain ⟨vs, hA, hC⟩ := h
  exact ⟨vs, hA, fun j hj => he j hj ▸ hC j hj⟩
theorem CZ.cell {v : Value} {m n : Int} (h : CZ v m n) : v.oneCell' = true := by obtain ⟨a, b, rfl, _⟩ := h; rfl

set_option maxRecDepth 100000 in
set_option maxHeartbeats 4000000 in
theorem tof_any (a : Option Addr) (n cap : Nat) (z : Nat → Int) (w : World) (hz : IntsAt w a n z) (hn : n ≤ 4096) (hb : ∀ i, i < n → -262144 ≤ z i ∧ z i ≤ 262144) :
    Calls Try.prog 123 #[.slice a n cap] w fun e w' => (∃ vs : Nat → Value, e = .returned (.agg (rowF 4 vs).toArray) ∧ ∀ k, k < 4 → CZ (vs k) (binZ z k n).1 (binZ z k n).2) ∧ Below w.heap.size w w' := by
  have HZ := Lib.hid hz
  have HB := Lib.hid hb
  clear hz hb
  go_enter Try.func123, Try.ntmps123
  go_wp2_with fail
  have hA0 : At ((w.alloc (.cells #[.complex .f64 0 0, .complex .f64 0 0, .complex .f64 0 0, .complex .f64 0 0] 185)).alloc (.cells #[.complex .f64 0 0, .complex .f64 0 0, .complex .f64 0 0, .complex .f64 0 0] 185)) w.heap.size 185 (rowF 4 fun _ => .complex .f64 0 0) := (At.new w _ _).alloc _
  have hA1 : At ((w.alloc (.cells #[.complex .f64 0 0, .complex .f64 0 0, .complex .f64 0 0, .complex .f64 0 0] 185)).alloc (.cells #[.complex .f64 0 0, .complex .f64 0 0, .complex .f64 0 0, .complex .f64 0 0] 185)) (w.heap.size + 1) 185 (rowF 4 fun _ => .complex .f64 0 0) := by
    have := At.new (w.alloc (.cells #[.complex .f64 0 0, .complex .f64 0 0, .complex .f64 0 0, .complex .f64 0 0] 185)) #[.complex .f64 0 0, .complex .f64 0 0, .complex .f64 0 0, .complex .f64 0 0] 185
    rw [show (w.alloc (.cells #[.complex .f64 0 0, .complex .f64 0 0, .complex .f64 0 0, .complex .f64 0 0] 185)).heap.size = w.heap.size + 1 by simp] at this
    exact this
  have hB1 : Below w.heap.size w ((w.alloc (.cells #[.complex .f64 0 0, .complex .f64 0 0, .complex .f64 0 0, .complex .f64 0 0] 185)).alloc (.cells #[.complex .f64 0 0, .complex .f64 0 0, .complex .f64 0 0, .complex .f64 0 0] 185)) := ((Below.refl _ w).alloc (Nat.le_refl _) _).alloc (by simp) _
  have HA0 := Lib.hid hA0
  have HX : Hid (BinAt _ (w.heap.size + 1) fun _ => (0, 0)) := Lib.hid ⟨_, hA1, fun j _ => ⟨_, _, rfl, is_zero, is_zero⟩⟩
  have HW := Lib.hid hB1
  clear hA0 hA1 hB1
  generalize ((w.alloc (.cells #[.complex .f64 0 0, .complex .f64 0 0, .complex .f64 0 0, .complex .f64 0 0] 185)).alloc (.cells #[.complex .f64 0 0, .complex .f64 0 0, .complex .f64 0 0, .complex .f64 0 0] 185)) = w1 at *
  go_loopw [9] (fun i wr => ∃ k : Nat, k ≤ 4 ∧ i = .int .i64 k ∧ Hid (BinAt wr (w.heap.size + 1) (partF (fun k => binZ z k n) (fun _ => (0, 0)) k)) ∧ Hid (At wr w.heap.size 185 (rowF 4 fun _ => .complex .f64 0 0)) ∧ Hid (Below w.heap.size w wr)) (fun i _ => 4 - (intOf i).toNat)
  case atStart => exact ⟨0, by omega, rfl, HX, HA0, HW⟩
  case round =>
    obtain ⟨k, hk, rfl, HX, HA0, HW⟩ := hrel
    by_cases hlt : k < 4
    · go_wp2_with fail
      refine (turn_any k wr (by omega)).mono ?_
      rintro e _ ⟨⟨v, rfl, hv⟩, rfl⟩
      obtain ⟨sa, sb, rfl, hsa, hsb⟩ := hv
      go_wp2_with fail
      have HX0 : Hid (BinAt wr (w.heap.size + 1) (fun j => if j = k then binZ z k 0 else partF (fun k => binZ z k n) (fun _ => (0, 0)) k j)) := Lib.hid (HX.out.ext fun j _ => by
        by_cases hjk : j = k
        · subst hjk; simp [partF, binZ]
        · simp [hjk])
      clear HX
      go_loopw [6, 16] (fun v i wr => ∃ j : Nat, j ≤ n ∧ i = .int .i64 j ∧ Hid (CZ v (tI (k * j)).1 (tI (k * j)).2) ∧ Hid (BinAt wr (w.heap.size + 1) (fun j' => if j' = k then binZ z k j else partF (fun k => binZ z k n) (fun _ => (0, 0)) k j')) ∧ Hid (At wr w.heap.size 185 (rowF 4 fun _ => .complex .f64 0 0)) ∧ Hid (Below w.heap.size w wr)) (fun _ i _ => n - (intOf i).toNat)
      case atStart => exact ⟨0, by omega, rfl, Lib.hid ⟨_, _, rfl, is_one, is_zero⟩, HX0, HA0, HW⟩
      case round =>
        obtain ⟨j, hj, rfl, HV, HX, HA0, HW⟩ := hrel
        obtain ⟨va, vb, rfl, hva, hvb⟩ := HV.out
        by_cases hlt2 : j < n
        · obtain ⟨b, off, rfl, hbw, hc⟩ := HZ.out j hlt2
          replace hc := (HW.out.cell (p := ⟨b, off + j, none⟩) hbw).trans hc
          have hzb := HB.out j hlt2
          obtain ⟨vs, hA, hCZ⟩ := HX.out
          have hck := hA.cell k (rowF_get hlt)
          have hfk := hA.frozen k
          obtain ⟨xa, xb, hxe, hxa, hxb⟩ := hCZ k hlt
          rw [hxe] at hck
          simp only [if_pos] at hxa hxb
          have htb := tI_lt (k * j)
          have hbz := binZ_le z k 262144 j fun i hi => HB.out i (by omega)
          have hta := tI_abs (k * j) (z j) 262144 hzb
          obtain ⟨pa, pb, hpa, hpb, hmul⟩ := cmul_fact (P := Try.prog) (intf_is (z j) (by omega)) is_zero hva hvb (by omega) (by simp) (by omega) (by simp)
          have hpa' : F64.Is pa (z j * (tI (k * j)).1) := by simpa using hpa
          have hpb' : F64.Is pb (z j * (tI (k * j)).2) := by simpa using hpb
          obtain ⟨ra, rb, hra, hrb, hadd⟩ := cadd_fact (P := Try.prog) hxa hxb hpa' hpb' (by omega) (by omega)
          have hts := tI_lt k
          obtain ⟨ta, tb, hta1, htb1, hmul2⟩ := cmul_fact (P := Try.prog) hva hvb hsa hsb (by rw [Int.natAbs_mul]; exact Nat.lt_of_le_of_lt (Nat.mul_le_mul htb.1 hts.1) (by omega)) (by rw [Int.natAbs_mul]; exact Nat.lt_of_le_of_lt (Nat.mul_le_mul htb.2 hts.2) (by omega)) (by rw [Int.natAbs_mul]; exact Nat.lt_of_le_of_lt (Nat.mul_le_mul htb.1 hts.2) (by omega)) (by rw [Int.natAbs_mul]; exact Nat.lt_of_le_of_lt (Nat.mul_le_mul htb.2 hts.1) (by omega))
          have HV2 : Hid (CZ (.complex .f64 ta tb) (tI (k * (j + 1))).1 (tI (k * (j + 1))).2) := Lib.hid ⟨_, _, rfl, by rw [Nat.mul_add, Nat.mul_one, ← mulZ_tI]; exact hta1, by rw [Nat.mul_add, Nat.mul_one, ← mulZ_tI]; exact htb1⟩
          have HR : Hid (CZ (.complex .f64 ra rb) (binZ z k (j + 1)).1 (binZ z k (j + 1)).2) := Lib.hid ⟨_, _, rfl, by simp only [binZ, mulZ_re]; exact hra, by simp only [binZ, mulZ_re]; exact hrb⟩
          have hst := store_fact (P := Try.prog) hA k (by simp [hlt]) (.complex .f64 ra rb) rfl
          clear hA hCZ hxe hxa hxb htb hbz hta hpa hpb hpa' hpb' hra hrb hts hta1 htb1 hva hvb HV
          go_wp2
          go_round
          case rel =>
            refine ⟨j + 1, by omega, by go_num, HV2, Lib.hid ?_, Lib.hid (HA0.out.far (by simp) _), Lib.hid (step_upd HW.out ((Upd.refl _ _).here _) (by omega))⟩
            refine (HX.out.set hlt HR.out).ext fun j' _ => ?_
            by_cases hjk : j' = k
            · simp [hjk]
            · simp [hjk]
          case measure => simp [intOf]; omega
        · obtain rfl : j = n := by omega
          go_wp2
          go_round
          case rel =>
            refine ⟨k + 1, by omega, by go_num, Lib.hid (HX.out.ext fun j' _ => ?_), HA0, HW⟩
            by_cases hjk : j' = k
            · subst hjk; simp [partF]
            · unfold partF
              by_cases h1 : j' < k
              · simp [hjk, h1, Nat.lt_succ_of_lt h1]
              · simp [hjk, h1, show ¬ j' < k + 1 by omega]
          case measure => simp [intOf]; omega
    · obtain rfl : k = 4 := by omega
      obtain ⟨vs, hA, hC⟩ := HX.out
      go_wp2_with (first
        | (with_reducible refine wpList_load_at rfl 185 (.tmp 3) rfl (w.heap.size + 1) (by kernel_rfl) 185 (rowF 4 vs) hA _ Try.underlying185 rfl (by kernel_rfl) ?_)
        | (with_reducible refine wpList_store_row rfl 185 (.tmp 2) (.tmp 35) rfl rfl w.heap.size (by kernel_rfl) (rowF 4 vs) (by kernel_rfl) 185 (rowF 4 fun _ => .complex .f64 0 0) HA0.out (by kernel_rfl) (by kernel_rfl) (rowF_all fun i hi => (hC i hi).cell) ?_))
      intro w5 hA5 hU5
      have h5 : Below w.heap.size w w5 := step_upd HW.out hU5 (by omega)
      clear hU5
      go_wp2
      (try simp only [Exit.inBlock, Exit.then])
      refine bodyPost_ret (results_cell_at rfl _ _ w.heap.size 185 _ hA5 _ (by kernel_rfl) Try.underlying185 rfl (by kernel_rfl)) rfl ?_
      refine ⟨⟨vs, rfl, fun k hk => ?_⟩, h5⟩
      have := hC k hk
      simpa [partF, hk] using this
end Go.Proofs.Ytgkbpdcedighcac
