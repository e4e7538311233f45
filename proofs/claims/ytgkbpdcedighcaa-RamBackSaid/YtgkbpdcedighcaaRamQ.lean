/-
  The walks of ram: Other, Same, Blocks; a memory or nil.
-/
import Derived.Test.YtgkbpdcedighcaaRam
namespace Go.Proofs.Ytgkbpdcedighcaa
open Go.RowKit Go.Sort Go.Maps

/-- A memory, or nil. -/
def RM (w : World) (p : Value) (f : Nat → Nat) : Prop := (p = .pointer none ∧ ∀ j, f j = 0) ∨ ∃ m B, p = .pointer (some ⟨m, 0, none⟩) ∧ RamAt w m B f
theorem RM.below {w w' : World} {p : Value} {f : Nat → Nat} (h : RM w p f) (hb : Below w.heap.size w w') : RM w' p f := by
  rcases h with h | ⟨m, B, h1, h2⟩
  · exact .inl h
  · exact .inr ⟨m, B, h1, h2.below hb⟩
theorem RamAt.rm {w : World} {m B : Nat} {f : Nat → Nat} (h : RamAt w m B f) : RM w (.pointer (some ⟨m, 0, none⟩)) f := .inr ⟨m, B, rfl, h⟩
theorem rm_nil (w : World) : RM w (.pointer none) fun _ => 0 := .inl ⟨rfl, fun _ => rfl⟩

theorem Read_rm (p : Value) (f : Nat → Nat) (at_ : Nat) (w : World) (h : RM w p f) : Calls Try.prog 33 #[p, .int .u16 (at_ : Int)] w fun e w' => e = .returned (.int .u8 (f (at_ % 8192) : Int)) ∧ w = w' := by
  rcases h with ⟨rfl, h⟩ | ⟨m, B, rfl, h⟩
  · rw [h]
    clear h
    go_enter Try.func33, Try.ntmps33
    go_wp2
    (try simp only [Exit.inBlock, Exit.then])
    go_ret
    exact ⟨rfl, rfl⟩
  · exact Read_any m B f at_ w h

theorem Write_nil (a b : Int) (w : World) : Calls Try.prog 32 #[.pointer none, .int .u16 a, .int .u8 b] w fun e w' => e = .returned (.tuple #[]) ∧ w = w' := by
  go_enter Try.func32, Try.ntmps32
  go_wp2
  (try simp only [Exit.inBlock, Exit.then])
  refine bodyPost_ret (results_none rfl _ _ _) rfl ?_
  exact ⟨rfl, rfl⟩

/-- The first of n places at which two aren't alike. -/
def othZ (f g : Nat → Nat) : Nat → Int
  | 0 => -1
  | n + 1 => if othZ f g n = -1 then (if f n = g n then -1 else (n : Int)) else othZ f g n
theorem othZ_mono {f g : Nat → Nat} {k : Nat} {x : Int} (h : othZ f g k = x) (hx : x ≠ -1) : ∀ d, othZ f g (k + d) = x
  | 0 => h
  | d + 1 => by
    have := othZ_mono h hx d
    rw [show k + (d + 1) = (k + d) + 1 by omega, othZ, if_neg (by rw [this]; exact hx), this]

/-- Of all places. -/
@[irreducible] def othA (f g : Nat → Nat) : Int := othZ f g 8192
theorem othA_of {f g : Nat → Nat} {k : Nat} {x : Int} (hk : k ≤ 8192) (h : othZ f g k = x) (hx : x ≠ -1) : othA f g = x := by
  have := othZ_mono h hx (8192 - k)
  rw [Nat.add_sub_cancel' hk] at this
  unfold othA
  exact this
theorem othA_none {f g : Nat → Nat} {k : Nat} (hk : k = 8192) (h : othZ f g k = -1) : othA f g = -1 := by subst hk; unfold othA; exact h

set_option maxRecDepth 100000 in
set_option maxHeartbeats 2000000 in
theorem Other_z (p q : Value) (f g : Nat → Nat) (w : World) (hp : RM w p f) (hq : RM w q g) (z : Int) (hz : Hid (z = othA f g)) : Calls Try.prog 52 #[p, q] w fun e w' => e = .returned (.int .i64 z) ∧ w = w' := by
  have HP := Lib.hid hp
  have HQ := Lib.hid hq
  clear hp hq
  go_enter Try.func52, Try.ntmps52
  go_wp2_with fail
  go_loopw [6] (fun i wr => ∃ k : Nat, k ≤ 8192 ∧ i = .int .i64 k ∧ Hid (othZ f g k = -1) ∧ wr = w) (fun i _ => 8192 - (intOf i).toNat)
  case atStart => exact ⟨0, Nat.zero_le _, rfl, Lib.hid rfl, rfl⟩
  case round =>
    obtain ⟨k, hk, rfl, HO, rfl⟩ := hrel
    by_cases hlt : k < 8192
    · have hw : IntKind.u16.wrap (k : Int) = (k : Int) := by rw [IntKind.wrap_u16]; omega
      have kp := Read_rm p f k wr HP.out
      have kq := Read_rm q g k wr HQ.out
      rw [Nat.mod_eq_of_lt hlt] at kp kq
      have HS : Hid (othZ f g (k + 1) = if f k = g k then -1 else (k : Int)) := Lib.hid (by rw [othZ, if_pos HO.out])
      by_cases he : f k = g k
      · have HS1 : Hid (othZ f g (k + 1) = -1) := Lib.hid (by rw [HS.out, if_pos he])
        have hd : ((g k : Int) != (g k : Int)) = false := by simp
        rw [he] at kp
        clear HS he
        generalize g k = y at *
        go_wp2_with fail
        refine kp.mono ?_
        rintro e _ ⟨rfl, rfl⟩
        go_wp2_with fail
        refine kq.mono ?_
        rintro e _ ⟨rfl, rfl⟩
        go_wp2
        go_roundw
        case rel => exact ⟨k + 1, by omega, by go_num, HS1, by trivial⟩
        case measure => simp [intOf]; omega
      · have HS1 := Lib.hid (othA_of (show k + 1 ≤ 8192 by omega) (HS.out.trans (if_neg he)) (by omega))
        have hd : ((f k : Int) != (g k : Int)) = true := by rw [bne_iff_ne]; omega
        clear HS he
        generalize f k = x at *
        generalize g k = y at *
        go_wp2_with fail
        refine kp.mono ?_
        rintro e _ ⟨rfl, rfl⟩
        go_wp2_with fail
        refine kq.mono ?_
        rintro e _ ⟨rfl, rfl⟩
        go_wp2
        go_ret
        exact ⟨by rw [hz.out, HS1.out]; rfl, rfl⟩
    · have HE := Lib.hid (othA_none (show k = 8192 by omega) HO.out)
      go_wp2
      go_ret
      exact ⟨by rw [hz.out, HE.out]; rfl, rfl⟩

theorem Other_any (p q : Value) (f g : Nat → Nat) (w : World) (hp : RM w p f) (hq : RM w q g) : Calls Try.prog 52 #[p, q] w fun e w' => e = .returned (.int .i64 (othA f g)) ∧ w = w' := Other_z p q f g w hp hq _ (Lib.hid rfl)
def sameZ (f g : Nat → Nat) : Bool := decide (othA f g < 0)
theorem Same_any (p q : Value) (f g : Nat → Nat) (w : World) (hp : RM w p f) (hq : RM w q g) : Calls Try.prog 54 #[p, q] w fun e w' => e = .returned (.bool (sameZ f g)) ∧ w = w' := by
  have k1 := Other_any p q f g w hp hq
  have HS : Hid (sameZ f g = decide (othA f g < 0)) := Lib.hid rfl
  generalize othA f g = z at *
  clear hp hq
  go_enter Try.func54, Try.ntmps54
  go_wp2_with fail
  refine k1.mono ?_
  rintro e _ ⟨rfl, rfl⟩
  go_wp2
  go_ret
  exact ⟨by rw [HS.out]; rfl, rfl⟩

section
variable {ops : Array Oper} {rest : List Oper} {o : Oper} {a : Act} {Q : Exit → Act → World → Prop}
theorem wpList_len_ram (w : World) (hg : o.guard = none) (m : Operand) (hop : o.op = Op.call { callee := Callee.builtin Builtin.len, args := #[m], argTypes := #[103] }) (B : Nat) (f : Nat → Nat)
    (hm : a.eval m = .map (some B)) (h : MapAt w B f) (hK : wpList Try.prog ops Q rest (a.put o.dst (.int .i64 (cntb f 128 : Int))) w) : wpList Try.prog ops Q (o :: rest) a w := by
  obtain ⟨D, h1, h2⟩ := h
  exact wpList_len_own w hg m 103 hop 46 109 Try.underlying103 Rv B 128 D hm h1 (by rw [h2.size]; exact hK)
end

theorem Blocks_any (m B : Nat) (f : Nat → Nat) (w : World) (h : RamAt w m B f) : Calls Try.prog 65 #[.pointer (some ⟨m, 0, none⟩)] w fun e w' => e = .returned (.int .i64 (cntb f 128 : Int)) ∧ w = w' := by
  have c0 := h.c.cell 0 rfl
  have HD := Lib.hid h.d
  clear h
  go_enter Try.func65, Try.ntmps65
  go_wp2_with (at_len; refine wpList_len_ram _ rfl _ rfl B f rfl HD.out ?_)
  go_ret
  exact ⟨rfl, rfl⟩
theorem Blocks_nil (w : World) : Calls Try.prog 65 #[.pointer none] w fun e w' => e = .returned (.int .i64 0) ∧ w = w' := by
  go_enter Try.func65, Try.ntmps65
  go_wp2
  (try simp only [Exit.inBlock, Exit.then])
  go_ret
  exact ⟨rfl, rfl⟩
end Go.Proofs.Ytgkbpdcedighcaa
