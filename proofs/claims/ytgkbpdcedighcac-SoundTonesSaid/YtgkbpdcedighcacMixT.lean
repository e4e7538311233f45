/-
  The walks of mix: together, All.
-/
import Derived.Test.YtgkbpdcedighcacMix
import Derived.Test.YtgkbpdcedighcacRowL
import Derived.Test.YtgkbpdcedighcacAppend
namespace Go.Proofs.Ytgkbpdcedighcac
open Go.RowKit Go.Sort

/-- Voices: level, volume, left, right. -/
structure Vo where
  lv : Nat
  vo : Nat
  le : Nat
  ri : Nat
structure Vo.Ok (v : Vo) : Prop where
  lv : v.lv < 256
  vo : v.vo < 256
  le : v.le < 256
  ri : v.ri < 256
def Vo.cs (v : Vo) : List Value := vcs v.lv v.vo v.le v.ri
def Vo.l (v : Vo) (m : Nat) : Int := sideZ v.lv v.vo v.le m
def Vo.r (v : Vo) (m : Nat) : Int := sideZ v.lv v.vo v.ri m
/-- What the first n make. -/
def sumZ (f : Nat → Int) : Nat → Int
  | 0 => 0
  | n + 1 => sumZ f n + f n
theorem sumZ_bd (f : Nat → Int) (n : Nat) (h : ∀ i, i < n → -126976 ≤ f i ∧ f i ≤ 126976) : -(126976 * (n : Int)) ≤ sumZ f n ∧ sumZ f n ≤ 126976 * n := by
  induction n with
  | zero => simp [sumZ]
  | succ n ih =>
    have h1 := ih fun i hi => h i (by omega)
    have h2 := h n (by omega)
    simp only [sumZ]
    omega
/-- A row of voices. -/
def Vos (w : World) (a : Option Addr) (n : Nat) (V : Nat → Vo) : Prop := RowOf w a n 4 (fun i => (V i).cs) ∧ ∀ i, i < n → (V i).Ok
theorem Vos.below {w w' : World} {a : Option Addr} {n : Nat} {V : Nat → Vo} (h : Vos w a n V) (hb : Below w.heap.size w w') : Vos w' a n V := ⟨h.1.below hb, h.2⟩

set_option maxRecDepth 100000 in
set_option maxHeartbeats 4000000 in
theorem together_any (l r : Nat) (a : Option Addr) (n cap : Nat) (V : Nat → Vo) (w : World) (hV : Vos w a n V) (hl : l < 256) (hr : r < 256) (hn : n ≤ 1000000) :
    Calls Try.prog 66 #[.int .u8 (l : Int), .int .u8 (r : Int), .slice a n cap] w fun e w' => (∃ v, e = .returned v ∧ CZ v (sumZ (fun i => (V i).l l) n) (sumZ (fun i => (V i).r r) n)) ∧ Below w.heap.size w w' := by
  have HV := Lib.hid hV
  clear hV
  go_enter Try.func66, Try.ntmps66
  go_wp2_with fail
  go_loopw [7, 12] (fun v i wr => ∃ k : Nat, k ≤ n ∧ i = .int .i64 k ∧ Hid (CZ v (sumZ (fun i => (V i).l l) k) (sumZ (fun i => (V i).r r) k)) ∧ Hid (Vos wr a n V) ∧ Hid (Below w.heap.size w wr)) (fun _ i _ => n - (intOf i).toNat)
  case atStart => exact ⟨0, Nat.zero_le _, rfl, Lib.hid ⟨0, 0, rfl, is_zero, is_zero⟩, HV, Lib.hid (Below.refl _ _)⟩
  case round =>
    clear HV
    obtain ⟨k, hk, rfl, HC, HV, HB⟩ := hrel
    by_cases hlt : k < n
    · obtain ⟨b2, off2, rfl, hbl, hcl⟩ := HV.out.1 k hlt
      have hok := HV.out.2 k hlt
      obtain ⟨ra, ia, rfl, hra, hia⟩ := HC.out
      have HSL : Hid (sumZ (fun i => (V i).l l) (k + 1) = sumZ (fun i => (V i).l l) k + (V k).l l) := Lib.hid rfl
      have HSR : Hid (sumZ (fun i => (V i).r r) (k + 1) = sumZ (fun i => (V i).r r) k + (V k).r r) := Lib.hid rfl
      have b1 := sumZ_bd (fun i => (V i).l l) k fun i _ => sideZ_bd _ _ _ _
      have b2' := sumZ_bd (fun i => (V i).r r) k fun i _ => sideZ_bd _ _ _ _
      replace hcl : CellsAt wr b2 (off2 + k * 4) (V k).cs := hcl
      generalize hvk : V k = vk at *
      obtain ⟨lv, vo, le, ri⟩ := vk
      replace hcl : CellsAt wr b2 (off2 + k * 4) [.int .u8 (lv : Int), .int .u8 (vo : Int), .int .u8 (le : Int), .int .u8 (ri : Int)] := hcl
      replace HSL : Hid (sumZ (fun i => (V i).l l) (k + 1) = sumZ (fun i => (V i).l l) k + sideZ lv vo le l) := HSL
      replace HSR : Hid (sumZ (fun i => (V i).r r) (k + 1) = sumZ (fun i => (V i).r r) k + sideZ lv vo ri r) := HSR
      obtain ⟨o1, o2, o3, o4⟩ := hok
      have s1 := sideZ_bd lv vo le l
      have s2 := sideZ_bd lv vo ri r
      generalize sumZ (fun i => (V i).l l) k = m1 at *
      generalize sumZ (fun i => (V i).r r) k = m2 at *
      go_wp2_with (with_reducible refine wpList_load_cells (by kernel_rfl) 32 (.tmp 14) rfl b2 (off2 + k * 4) rfl _ hcl _ Try.underlying32 rfl (by kernel_rfl) ?_)
      refine allocs1 (F := fun w => Calls _ _ _ w _) ?_
      intro w1 hA1 hB1 _
      have HV1 := Lib.hid (HV.out.below hB1)
      have HB1 := Lib.hid (step_below HB.out hB1)
      clear HV HB hA1 hB1 hcl
      refine (voice_any lv vo le ri l r w1 o1 o2 o3 o4 hl hr).mono ?_
      rintro e w2 ⟨rfl, hb2⟩
      have HV2 := Lib.hid (HV1.out.below hb2)
      have HB2 := Lib.hid (step_below HB1.out hb2)
      clear HV1 HB1 hb2
      obtain ⟨re, im, i1, i2, hrun⟩ := cadd_fact (P := Try.prog) hra hia (intf_is (sideZ lv vo le l) (by omega)) (intf_is (sideZ lv vo ri r) (by omega)) (by omega) (by omega)
      generalize floatOfInt .f64 (sideZ lv vo le l) = fl at *
      generalize floatOfInt .f64 (sideZ lv vo ri r) = fr at *
      have HC2 : Hid (CZ (.complex .f64 re im) (sumZ (fun i => (V i).l l) (k + 1)) (sumZ (fun i => (V i).r r) (k + 1))) := Lib.hid ⟨re, im, rfl, by rw [HSL.out]; exact i1, by rw [HSR.out]; exact i2⟩
      clear i1 i2
      go_wp2
      go_roundw
      case rel => exact ⟨k + 1, by omega, by go_num, HC2, HV2, HB2⟩
      case measure => simp [intOf]; omega
    · obtain rfl : k = n := by omega
      go_wp2
      go_ret
      exact ⟨⟨_, rfl, HC.out⟩, HB.out⟩

set_option maxRecDepth 100000 in
theorem All_any (l r : Nat) (a : Option Addr) (n cap : Nat) (V : Nat → Vo) (w : World) (hV : Vos w a n V) (hl : l < 256) (hr : r < 256) (hn : n ≤ 1000000) :
    Calls Try.prog 20 #[.slice a n cap, .int .u8 (l : Int), .int .u8 (r : Int)] w fun e w' => e = .returned (.tuple #[.int .i64 (sumZ (fun i => (V i).l l) n), .int .i64 (sumZ (fun i => (V i).r r) n)]) ∧ Below w.heap.size w w' := by
  have b1 := sumZ_bd (fun i => (V i).l l) n fun i _ => sideZ_bd _ _ _ _
  have b2 := sumZ_bd (fun i => (V i).r r) n fun i _ => sideZ_bd _ _ _ _
  have h := together_any l r a n cap V w hV hl hr hn
  have HV := Lib.hid hV
  clear hV
  generalize sumZ (fun i => (V i).l l) n = m1 at *
  generalize sumZ (fun i => (V i).r r) n = m2 at *
  go_enter Try.func20, Try.ntmps20
  go_wp2_with fail
  refine h.mono ?_
  rintro e w1 ⟨⟨v, rfl, hv⟩, hB1⟩
  go_wp2_with fail
  refine (sides_any v m1 m2 w1 hv (by omega) (by omega)).mono ?_
  rintro e _ ⟨rfl, rfl⟩
  go_wp2
  go_ret2
  exact ⟨rfl, hB1⟩
end Go.Proofs.Ytgkbpdcedighcac
