/-
  The walks of octet.Right, logic's turns, the adder.
-/
import Derived.Test.YtgkbpdcedighcabFlags
import Derived.Test.YtgkbpdcedighcabOctet
namespace Go.Proofs.Ytgkbpdcedighcab
open Go.RowKit Go.Sort

def rightN (v : Nat) (on : Bool) : Nat := v / 2 + if on then 128 else 0
theorem rightN_lt (v : Nat) (on : Bool) (hv : v < 256) : rightN v on < 256 := by unfold rightN; cases on <;> simp <;> omega
theorem or128 (v : Nat) (hv : v < 256) : v / 2 ||| 128 = v / 2 + 128 := by
  have : ∀ v : Fin 256, v.val / 2 ||| 128 = v.val / 2 + 128 := by decide +kernel
  exact this ⟨v, hv⟩

theorem bit0 (v : Nat) : bitB (v : Int) 0 = decide (v % 2 = 1) := by
  unfold bitB
  simp
  omega

theorem Right_any (v : Nat) (on : Bool) (w : World) (hv : v < 256) : Calls Try.prog 59 #[.int .u8 (v : Int), .bool on] w fun e w' => e = .returned (.tuple #[.int .u8 (rightN v on : Nat), .bool (decide (v % 2 = 1))]) ∧ w = w' := by
  have h1 := u8_or (v / 2) 128 (by omega) (by omega)
  rw [or128 v hv] at h1
  replace h1 : bits .or .u8 ((v : Int) / 2) 128 = (v : Int) / 2 + 128 := by simpa using h1
  have hm : maskI 7 = 128 := by decide +kernel
  cases on
  · have HR := Lib.hid (show rightN v false = v / 2 from rfl)
    go_enter Try.func59, Try.ntmps59
    go_wp2_with fail
    refine (Bit_any v 0 w (by omega) (by omega)).mono ?_
    rintro e _ ⟨rfl, rfl⟩
    rw [bit0]
    go_wp2
    go_ret2
    exact ⟨by rw [HR.out]; simp, rfl⟩
  · have HR := Lib.hid (show rightN v true = v / 2 + 128 from rfl)
    go_enter Try.func59, Try.ntmps59
    go_wp2_with fail
    refine (mask_any 7 w).mono ?_
    rintro e _ ⟨rfl, rfl⟩
    rw [hm]
    go_wp2_with fail
    refine (Bit_any v 0 w (by omega) (by omega)).mono ?_
    rintro e _ ⟨rfl, rfl⟩
    rw [bit0]
    go_wp2
    go_ret2
    exact ⟨by rw [HR.out]; simp, rfl⟩

theorem lresult_any (v p : Nat) (w : World) (hv : v < 256) (hp : p < 256) : Calls Try.prog 79 #[.int .u8 (v : Int), .int .u8 (p : Int)] w fun e w' => e = .returned (.tuple #[.int .u8 (v : Int), .int .u8 (resN p v : Nat)]) ∧ w = w' := by
  go_enter Try.func79, Try.ntmps79
  go_wp2_with fail
  refine (FRes_any p v w hp hv).mono ?_
  rintro e _ ⟨rfl, rfl⟩
  go_wp2
  go_ret2
  exact ⟨rfl, rfl⟩

theorem turned_any (p r : Nat) (on : Bool) (w : World) (hr : r < 256) (hp : p < 256) : Calls Try.prog 60 #[.int .u8 (p : Int), .int .u8 (r : Int), .bool on] w fun e w' => e = .returned (.tuple #[.int .u8 (r : Int), .int .u8 (resN (setN p 1 on) r : Nat)]) ∧ w = w' := by
  have hs := setN_lt p 1 on hp (by omega)
  go_enter Try.func60, Try.ntmps60
  go_wp2_with fail
  refine (FSet_any p 1 on w hp (by omega)).mono ?_
  rintro e _ ⟨rfl, rfl⟩
  go_wp2_with fail
  refine (lresult_any r _ w hr hs).mono ?_
  rintro e _ ⟨rfl, rfl⟩
  go_wp2
  go_ret2
  exact ⟨rfl, rfl⟩

theorem Lsr_any (v p : Nat) (w : World) (hv : v < 256) (hp : p < 256) :
    Calls Try.prog 25 #[.int .u8 (v : Int), .int .u8 (p : Int)] w fun e w' => e = .returned (.tuple #[.int .u8 (rightN v false : Nat), .int .u8 (resN (setN p 1 (decide (v % 2 = 1))) (rightN v false) : Nat)]) ∧ w = w' := by
  have hr := rightN_lt v false hv
  go_enter Try.func25, Try.ntmps25
  go_wp2_with fail
  refine (Right_any v false w hv).mono ?_
  rintro e _ ⟨rfl, rfl⟩
  go_wp2_with fail
  refine (turned_any p _ _ w hr hp).mono ?_
  rintro e _ ⟨rfl, rfl⟩
  go_wp2
  go_ret2
  exact ⟨rfl, rfl⟩

theorem Ror_any (v p : Nat) (w : World) (hv : v < 256) (hp : p < 256) :
    Calls Try.prog 28 #[.int .u8 (v : Int), .int .u8 (p : Int)] w fun e w' => e = .returned (.tuple #[.int .u8 (rightN v (isN p 1) : Nat), .int .u8 (resN (setN p 1 (decide (v % 2 = 1))) (rightN v (isN p 1)) : Nat)]) ∧ w = w' := by
  have hr := rightN_lt v (isN p 1) hv
  go_enter Try.func28, Try.ntmps28
  go_wp2_with fail
  refine (FIs_any p 1 w hp (by omega)).mono ?_
  rintro e _ ⟨rfl, rfl⟩
  go_wp2_with fail
  refine (Right_any v (isN p 1) w hv).mono ?_
  rintro e _ ⟨rfl, rfl⟩
  go_wp2_with fail
  refine (turned_any p _ _ w hr hp).mono ?_
  rintro e _ ⟨rfl, rfl⟩
  go_wp2
  go_ret2
  exact ⟨rfl, rfl⟩

theorem of_byte (p r : Nat) (on : Bool) (w : World) (hr : r < 256) (hp : p < 256) : Calls Try.prog 65 #[.int .u8 (p : Int), .int .u8 (r : Int), .bool on] w fun e w' => e = .returned (.int .u8 (resN (setN p 1 on) r : Nat)) ∧ w = w' := by
  have hs := setN_lt p 1 on hp (by omega)
  go_enter Try.func65, Try.ntmps65
  go_wp2_with fail
  refine (FSet_any p 1 on w hp (by omega)).mono ?_
  rintro e _ ⟨rfl, rfl⟩
  go_wp2_with fail
  refine (FRes_any _ r w hs hr).mono ?_
  rintro e _ ⟨rfl, rfl⟩
  go_wp2
  go_ret
  exact ⟨rfl, rfl⟩

theorem carry_any (p : Nat) (w : World) (hp : p < 256) : Calls Try.prog 63 #[.int .u8 (p : Int)] w fun e w' => e = .returned (.int .i64 (p % 2 : Nat)) ∧ w = w' := by
  have h1 := u8_and p 1 hp (by omega)
  rw [Nat.and_one_is_mod] at h1
  replace h1 : bits .and .u8 (p : Int) 1 = (p % 2 : Nat) := h1
  obtain ⟨c, hc⟩ : ∃ c, c = p % 2 := ⟨_, rfl⟩
  have hc2 : c < 2 := by omega
  rw [← hc] at h1 ⊢
  clear hc
  go_enter Try.func63, Try.ntmps63
  go_wp2
  go_ret
  exact ⟨rfl, rfl⟩

/-- A byte r, and flags of which the carry is c. -/
def Out (r : Nat) (c : Bool) (e : Ending) (more : List Value) : Prop := ∃ q : Nat, e = .returned (.tuple ((.int .u8 (r : Int) :: .int .u8 (q : Int) :: more).toArray)) ∧ q < 256 ∧ isN q 1 = c

theorem binary_any (a b p : Nat) (w : World) (ha : a < 256) (hb : b < 256) (hp : p < 256) :
    Calls Try.prog 61 #[.int .u8 (a : Int), .int .u8 (b : Int), .int .u8 (p : Int)] w fun e w' => Out ((a + b + p % 2) % 256) (decide (255 < a + b + p % 2)) e [] ∧ w = w' := by
  obtain ⟨n, hn⟩ : ∃ n, n = a + b + p % 2 := ⟨_, rfl⟩
  obtain ⟨c, hc⟩ : ∃ c, c = p % 2 := ⟨_, rfl⟩
  obtain ⟨r, hr⟩ : ∃ r, r = n % 256 := ⟨_, rfl⟩
  have hc2 : c < 2 := by omega
  have hr2 : r < 256 := by omega
  have e1 : (a : Int) + (b : Int) + (c : Int) = (n : Int) := by omega
  have e2 : (n : Int) % 256 = (r : Int) := by omega
  rw [← hn, ← hr]
  have HC := Lib.hid hc
  clear hn hc hr
  go_enter Try.func61, Try.ntmps61
  go_wp2_with fail
  refine (carry_any p w hp).mono ?_
  rintro e _ ⟨rfl, rfl⟩
  rw [← HC.out]
  go_wp2_with fail
  generalize (bits .and .u8 (bits .and .u8 (bits .xor .u8 (a : Int) (r : Int)) (bits .xor .u8 (b : Int) (r : Int))) 128 != 0) = ov
  simp only [e2]
  refine (FSet_any p 64 ov w hp (by omega)).mono ?_
  rintro e _ ⟨rfl, rfl⟩
  have hq := setN_lt p 64 ov hp (by omega)
  go_wp2_with fail
  rw [show decide (255 < (n : Int)) = decide (255 < n) by simp; omega]
  refine (of_byte _ r _ w hr2 hq).mono ?_
  rintro e _ ⟨rfl, rfl⟩
  have hq2 := setN_lt _ 1 (decide (255 < n)) hq (by omega)
  have h1 := resN_lt _ r hq2
  have h2 := (res_par _ r hq2).trans (set1_par _ (decide (255 < n)) hq)
  go_wp2
  go_ret2
  exact ⟨⟨_, rfl, h1, h2⟩, rfl⟩

theorem Add_any (a b p : Nat) (w : World) (ha : a < 256) (hb : b < 256) (hp : p < 256) (hd : isN p 8 = false) :
    Calls Try.prog 27 #[.int .u8 (a : Int), .int .u8 (b : Int), .int .u8 (p : Int)] w fun e w' => Out ((a + b + p % 2) % 256) (decide (255 < a + b + p % 2)) e [.bool false] ∧ w = w' := by
  go_enter Try.func27, Try.ntmps27
  go_wp2_with fail
  refine (FIs_any p 8 w hp (by omega)).mono ?_
  rintro e _ ⟨rfl, rfl⟩
  rw [hd]
  go_wp2_with fail
  refine (binary_any a b p w ha hb hp).mono ?_
  rintro e _ ⟨⟨q, rfl, hq, hc⟩, rfl⟩
  go_wp2
  go_ret3
  exact ⟨⟨q, rfl, hq, hc⟩, rfl⟩

theorem Compare_any (r b p : Nat) (w : World) (hr : r < 256) (hb : b < 256) (hp : p < 256) :
    Calls Try.prog 29 #[.int .u8 (r : Int), .int .u8 (b : Int), .int .u8 (p : Int)] w fun e w' => e = .returned (.int .u8 (resN (setN p 1 (decide (b ≤ r))) ((r + 256 - b) % 256) : Nat)) ∧ w = w' := by
  obtain ⟨d, hd⟩ : ∃ d, d = (r + 256 - b) % 256 := ⟨_, rfl⟩
  have hd2 : d < 256 := by omega
  have e1 : ((r : Int) - (b : Int)) % 256 = (d : Int) := by omega
  rw [← hd]
  clear hd
  go_enter Try.func29, Try.ntmps29
  go_wp2_with fail
  refine (of_byte p d _ w hd2 hp).mono ?_
  rintro e _ ⟨rfl, rfl⟩
  go_wp2
  go_ret
  exact ⟨rfl, rfl⟩
end Go.Proofs.Ytgkbpdcedighcab
