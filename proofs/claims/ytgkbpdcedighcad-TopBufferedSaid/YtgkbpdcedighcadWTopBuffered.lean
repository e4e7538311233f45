/-
  The walk of the law TopBuffered.
-/
import Derived.Test.YtgkbpdcedighcadLinesX
import Derived.Test.YtgkbpdcedighcadLatch
import Derived.Test.YtgkbpdcedighcadEql
import Derived.Test.YtgkbpdcedighcadOpenS
namespace Go.Proofs.Ytgkbpdcedighcad
open Go.RowKit Go.Sort

theorem eql_fault (w : World) (p q : Int) : (binOp .eql 30 (.agg #[.int .i64 p, .int .i64 q]) (.agg #[.int .i64 p, .int .i64 q])).run Try.prog w = .ok (.bool true) w := by
  refine (eql_of_equal (b := true) fun w => ?_).1 w
  rw [run_equalIn_struct w 9999 30 _ _ (by kernel_rfl) (by kernel_rfl)]
  simp [go_sem, Program.fieldsOf, Try.underlying30, Op.eqFields]

theorem ck_le {E : Nat → Ed} {n : Nat} (hz : (ckZ E n).1 = 0) : n ≤ 1000 := by
  unfold ckZ at hz
  split at hz
  · cases hz
  · omega
theorem ckR_none {E : Nat → Ed} : ∀ {n : Nat}, ((ckR E n).getD (0, 0)).1 = 0 → ∀ j, j < n → wrE (E j) (ahd E j) = 0
  | 0, _, j, hj => by omega
  | n + 1, h, j, hj => by
    rw [ckR] at h
    cases hc : ckR E n with
    | some x =>
      exfalso
      have hx : ∀ (n : Nat) x, ckR E n = some x → x.1 ≠ 0 := by
        intro n
        induction n with
        | zero => intro x h; cases h
        | succ n ih =>
          intro x h
          rw [ckR] at h
          cases hc : ckR E n with
          | some y => rw [hc] at h; injection h with h; subst h; exact ih y hc
          | none =>
            rw [hc] at h
            dsimp only at h
            split at h
            · cases h
            · injection h with h; subst h; assumption
      rw [hc] at h
      exact hx n x hc h
    | none =>
      rw [hc] at h
      dsimp only at h
      by_cases hw : wrE (E n) (ahd E n) = 0
      · by_cases hjn : j = n
        · subst hjn; exact hw
        · exact ckR_none (n := n) (by rw [hc]; rfl) j (by omega)
      · rw [if_neg hw] at h
        exact absurd h hw
theorem ck_ln {E : Nat → Ed} {n : Nat} (hz : (ckZ E n).1 = 0) : ∀ j, j < n → (E j).ln < 4 := fun j hj => by
  have hn := ck_le hz
  rw [ckZ, if_neg (by omega)] at hz
  have := ckR_none hz j hj
  unfold wrE at this
  by_cases h : 4 ≤ (E j).ln
  · rw [if_pos h] at this; cases this
  · omega

set_option maxRecDepth 100000 in
set_option maxHeartbeats 16000000 in
theorem TopBuffered_walk (w : World) (a : Option Addr) (n cap : Nat) (F : Nat → List Value) (s : SlR w a n cap 3 IsEd F) (s0 : Int) (_hs0 : (Lit.int .i64 s0).wf = true) (h0 : Int) (hh0 : (Lit.int .u8 h0).wf = true) :
    Calls Try.prog 3 #[.slice a n cap, .int .i64 s0, .int .u8 h0] w fun e w' => e = .returned (.bool true) ∧ Below w.heap.size w w' := by
  obtain ⟨hb, rfl⟩ : ∃ v : Nat, h0 = v := ⟨h0.toNat, by have := wf_bounds_u8 hh0; omega⟩
  have bhb : hb < 256 := by have := wf_bounds_u8 hh0; omega
  clear hh0
  have hle := s.le
  have hnil := s.nil
  obtain ⟨E, hE⟩ := eds_of s
  have HE := Lib.hid hE
  clear s hE
  have hb10 : bitB 1 0 = true := by decide
  by_cases hz : (ckZ E n).1 = 0
  · have k1 := fun w0 (h : Below w.heap.size w w0) => New_ok a n cap E w0 (HE.out.below h) hle hnil hz
    have hn1 : n ≤ 1000 := ck_le hz
    have hln : ∀ j, j < n → (E j).ln < 4 := ck_ln hz
    obtain ⟨m, hm⟩ := upto_ex E s0 n
    have HM := Lib.hid hm
    have HLN := Lib.hid hln
    have HU : Hid (∃ u, u = upF E m) := Lib.hid ⟨_, rfl⟩
    clear hz hm hln
    go_enter Try.func3, Try.ntmps3
    go_wp2_with fail
    refine (Bit_any 1 0 _ (by decide) (by decide)).mono ?_
    rintro e _ ⟨rfl, rfl⟩
    rw [hb10]
    go_wp2_with fail
    refine (LNew_any (hb : Int) _).mono ?_
    rintro e _ ⟨rfl, rfl⟩
    go_wp2_with fail
    refine (LValue_any w.heap.size (hb : Int) _ (At.new w _ _)).mono ?_
    rintro e _ ⟨rfl, rfl⟩
    go_wp2_with fail
    have hbl : Below w.heap.size w (w.alloc (.cells #[.int .u8 (hb : Int)] 70)) := (Below.refl _ w).alloc (Nat.le_refl _) _
    refine (k1 _ hbl).mono ?_
    rintro e w1 ⟨L, a', cap', rfl, hb1, hL1, hE1, hab, hgL⟩
    have hB1 := step_below hbl hb1
    have hG1 : At w1 w.heap.size 70 [.int .u8 (hb : Int)] := (At.new w _ _).below hb1 (At.new w _ _).lt
    have hA4 : At (w1.alloc (.cells #[.int .i64 0, .int .i64 0] 30)) w1.heap.size 30 [.int .i64 0, .int .i64 0] := At.new w1 _ _
    have hB2 : Below w.heap.size w (w1.alloc (.cells #[.int .i64 0, .int .i64 0] 30)) := hB1.alloc hB1.size _
    have hs1 := hB1.size
    have hgl : w.heap.size < L := by have := (At.new w #[.int .u8 (hb : Int)] 70).lt; omega
    have hL2 := hL1.alloc (.cells #[.int .i64 0, .int .i64 0] 30)
    have hG2 := hG1.alloc (.cells #[.int .i64 0, .int .i64 0] 30)
    have hE2 := hE1.below ((Below.refl _ w1).alloc (Nat.le_refl _) (.cells #[.int .i64 0, .int .i64 0] 30))
    have l1 := hL1.lt
    have l2 := hG1.lt
    have l3 : ∀ b off, a' = some ⟨b, off, none⟩ → 0 < n → b < w1.heap.size := fun b off h h0 => hE1.1.lt h0 h
    clear k1 hb1 hbl hB1 hL1 hG1 hE1 hgL
    go_wp2_with (with_reducible refine wpList_store_row rfl 30 (.tmp 9) (.tmp 31) rfl rfl w1.heap.size (by kernel_rfl) [.int .i64 0, .int .i64 0] (by kernel_rfl) 30 [.int .i64 0, .int .i64 0] hA4 (by kernel_rfl) (by kernel_rfl) (fone 0 0) ?_)
    intro w2 hA2 hU2
    have HL2 := Lib.hid (hL2.upd hU2 (by omega))
    have HG2 := Lib.hid (hG2.upd hU2 (by omega))
    have HE2 : Hid (Eds w2 a' n E) := Lib.hid ⟨hE2.1.upd hU2 (fun b off h h0 => by have := l3 b off h h0; omega), hE2.2⟩
    have HB2 := Lib.hid (step_upd hB2 hU2 hs1)
    have c0 := hA2.cell 0 rfl
    clear hA2 hU2 hB2 hA4 hL2 hG2 hE2 l3
    go_wp2_with fail
    refine (To_any L a' n cap' false E w2 s0 m HL2.out HE2.out hn1 HM.out HLN.out hab).mono ?_
    rintro e w3 ⟨rfl, ⟨ro, hL3⟩, hU3⟩
    have HL3 := Lib.hid hL3
    have HG3 := Lib.hid (HG2.out.upd hU3 (by omega))
    have HB3 := Lib.hid (step_upd HB2.out hU3 (by omega))
    clear hL3 hU3 HL2 HG2 HE2 HB2 c0 hab
    obtain ⟨u, hu⟩ := HU.out
    rw [← hu] at HL3
    have HUU := Lib.hid hu
    clear HU hu
    go_wp2_with fail
    go_loopw [10, 11] (fun v i wr => ∃ k : Nat, k ≤ 4 ∧ i = .int .i64 k ∧ wr = w3 ∧ ∃ x : Int, v = .int .u8 x ∧ Hid (x = upZ u k)) (fun _ i _ => 4 - (intOf i).toNat)
    case atStart => exact ⟨0, Nat.zero_le _, rfl, rfl, 0, rfl, Lib.hid rfl⟩
    case round =>
      obtain ⟨k, hk, rfl, rfl, x, rfl, HX⟩ := hrel
      by_cases hlt : k < 4
      · have hw : IntKind.u8.wrap (k : Int) = (k : Int) := by rw [IntKind.wrap_u8]; omega
        have HX1 : Hid (withZ x k (u k) = upZ u (k + 1)) := Lib.hid (by rw [HX.out]; exact upZ_with u hlt)
        go_wp2_with fail
        refine (Up_any L a' n cap' m u ro _ k hlt HL3.out).mono ?_
        rintro e _ ⟨rfl, rfl⟩
        go_wp2_with fail
        refine (With_any x (k : Int) (u k) _).mono ?_
        rintro e _ ⟨rfl, rfl⟩
        go_wp2
        go_roundw
        case rel => exact ⟨k + 1, by omega, by go_num, by trivial, _, rfl, HX1⟩
        case measure => simp [intOf]; omega
      · obtain rfl : k = 4 := by omega
        go_wp2_with fail
        refine (LRead_any w.heap.size (hb : Int) 15 x _ HG3.out).mono ?_
        rintro e w4 ⟨rfl, hG4, hU4⟩
        have hV : ∃ v, readZ (hb : Int) 15 x = v ∧ 0 ≤ v ∧ v ≤ 255 ∧ ∀ i, i < 8 → bitB v (i : Nat) = if i < 4 then u i else bitB (hb : Int) (i : Int) := by
          rw [HX.out]
          exact ⟨_, rfl, (read_bd hb bhb u).1, (read_bd hb bhb u).2, fun i hi => read_bit hb bhb u i hi⟩
        obtain ⟨v, hv, hv0, hv1, hvb⟩ := hV
        rw [hv] at hG4 ⊢
        have HV := Lib.hid hvb
        have HG4 := Lib.hid hG4
        have HB4 := Lib.hid (step_upd HB3.out hU4 (Nat.le_refl _))
        clear hv hvb hG4 hU4 HG3 HB3 HL3 HX
        go_wp2_with fail
        go_loopw [13] (fun i wr => ∃ k : Nat, k ≤ 8 ∧ i = .int .i64 k ∧ Hid (At wr w.heap.size 70 [.int .u8 v]) ∧ Hid (Below w.heap.size w wr)) (fun i _ => 8 - (intOf i).toNat)
        case atStart => exact ⟨0, Nat.zero_le _, rfl, HG4, HB4⟩
        case round =>
          clear HG4 HB4
          obtain ⟨k, hk, rfl, HG, HB⟩ := hrel
          by_cases hlt : k < 8
          · have hw : IntKind.u8.wrap (k : Int) = (k : Int) := by rw [IntKind.wrap_u8]; omega
            have hkb := HV.out k hlt
            have t1 := fun wr => Bit_any v (k : Int) wr hv0 hv1
            rw [hkb] at t1
            by_cases h4 : k < 4
            · rw [if_pos h4] at t1
              have t2 := At_any a n cap E k s0 m wr (HE.out.below HB.out) hn1 HM.out
              rw [← HUU.out] at t2
              go_wp2_with fail
              refine (Bit_any (hb : Int) (k : Int) _ (by omega) (by omega)).mono ?_
              rintro e _ ⟨rfl, rfl⟩
              go_wp2_with fail
              refine t2.mono ?_
              rintro e w5 ⟨rfl, hb5⟩
              have HG5 := Lib.hid (HG.out.below hb5 HG.out.lt)
              have HB5 := Lib.hid (step_below HB.out hb5)
              clear HG HB hb5
              go_wp2_with fail
              refine (t1 _).mono ?_
              rintro e _ ⟨rfl, rfl⟩
              go_wp2
              go_roundw
              case rel => exact ⟨k + 1, by omega, by go_num, HG5, HB5⟩
              case measure => simp [intOf]; omega
            · rw [if_neg h4] at t1
              go_wp2_with fail
              refine (Bit_any (hb : Int) (k : Int) _ (by omega) (by omega)).mono ?_
              rintro e _ ⟨rfl, rfl⟩
              go_wp2_with fail
              refine (t1 _).mono ?_
              rintro e _ ⟨rfl, rfl⟩
              go_wp2
              go_roundw
              case rel => exact ⟨k + 1, by omega, by go_num, HG, HB⟩
              case measure => simp [intOf]; omega
          · obtain rfl : k = 8 := by omega
            go_wp2_with fail
            refine (LValue_any w.heap.size v _ HG.out).mono ?_
            rintro e _ ⟨rfl, rfl⟩
            go_wp2
            go_ret
            exact ⟨rfl, HB.out⟩
  · have k1 := fun w0 (h : Below w.heap.size w w0) => New_bad a n cap E w0 (HE.out.below h) hle hz
    have k2 := fun w0 (h : Below w.heap.size w w0) => Check_any a n cap E w0 (HE.out.below h) hle
    clear HE
    obtain ⟨⟨p, q⟩, hpq⟩ : ∃ x, ckZ E n = x := ⟨_, rfl⟩
    rw [hpq] at k1 k2 hz
    replace hz : p ≠ 0 := hz
    clear hpq
    have hd : (p != 0) = true := by rw [bne_iff_ne]; exact hz
    have heq := fun w => eql_fault w p q
    go_enter Try.func3, Try.ntmps3
    go_wp2_with fail
    refine (Bit_any 1 0 _ (by decide) (by decide)).mono ?_
    rintro e _ ⟨rfl, rfl⟩
    rw [hb10]
    go_wp2_with fail
    refine (LNew_any (hb : Int) _).mono ?_
    rintro e _ ⟨rfl, rfl⟩
    go_wp2_with fail
    refine (LValue_any w.heap.size (hb : Int) _ (At.new w _ _)).mono ?_
    rintro e _ ⟨rfl, rfl⟩
    go_wp2_with fail
    have hbl : Below w.heap.size w (w.alloc (.cells #[.int .u8 (hb : Int)] 70)) := (Below.refl _ w).alloc (Nat.le_refl _) _
    refine (k1 _ hbl).mono ?_
    rintro e w1 ⟨rfl, hb1⟩
    have hB1 := step_below hbl hb1
    have hA4 : At (w1.alloc (.cells #[.int .i64 0, .int .i64 0] 30)) w1.heap.size 30 [.int .i64 0, .int .i64 0] := At.new w1 _ _
    have hB2 : Below w.heap.size w (w1.alloc (.cells #[.int .i64 0, .int .i64 0] 30)) := hB1.alloc hB1.size _
    have hs1 := hB1.size
    clear k1 hb1 hbl hB1
    go_wp2_with (with_reducible refine wpList_store_row rfl 30 (.tmp 9) (.tmp 31) rfl rfl w1.heap.size (by kernel_rfl) [.int .i64 p, .int .i64 q] (by kernel_rfl) 30 [.int .i64 0, .int .i64 0] hA4 (by kernel_rfl) (by kernel_rfl) (fone p q) ?_)
    intro w2 hA2 hU2
    have hB3 := step_upd hB2 hU2 hs1
    have c0 := hA2.cell 0 rfl
    have HA2 := Lib.hid hA2
    have HB3 := Lib.hid hB3
    clear hA2 hU2 hB2 hB3 hA4
    go_wp2_with fail
    refine wp_region_quiet_below (by kernel_rfl) (by kernel_rfl) ?_
    go_big_quiet_step (fail)
    go_big_quiet_step (fail)
    go_big_quiet_step (fail)
    go_big_quiet_step (fail)
    go_big_quiet_step ((go_at_call 11; exact Calls.regrown_of (k2 _ (step_below HB3.out (below_regrown _ _ _)))))
    refine BigFrame.wpQuiet_want rfl fun K hK => ?_
    refine quiet_load_row 30 _ rfl w1.heap.size rfl 30 [.int .i64 p, .int .i64 q] _ (fun w' hw' => HA2.out.below (below_of_regrown hw') HA2.out.lt) Try.underlying30 rfl (by kernel_rfl) (hK _ ?_)
    clear hK K
    (conv => arg 6; whnf)
    simp only [List.setIfInBounds_toArray, List.set_cons_succ, List.set_cons_zero]
    repeat (go_big_quiet_step (fail))
    refine wpQuiet_nil ?_
    intro w3 hw'
    have hb3 : Below w2.heap.size w2 w3 := below_of_regrown hw'
    have hB4 := step_below HB3.out hb3
    go_wp2
    go_ret
    exact ⟨rfl, hB4⟩
end Go.Proofs.Ytgkbpdcedighcad
