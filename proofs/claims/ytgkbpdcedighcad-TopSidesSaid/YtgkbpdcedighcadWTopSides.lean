/-
  The walk of the law TopSides. Printed by gen_topsides.py.
-/
import Derived.Test.YtgkbpdcedighcadTopS
import Derived.Test.YtgkbpdcedighcadOctet
import Derived.Test.YtgkbpdcedighcadOpen
namespace Go.Proofs.Ytgkbpdcedighcad
open Go.RowKit Go.Sort NoiseP

attribute [local go_sem ↓] Go.wp_at_zero Go.wp_at_succ

theorem u8_or192 (x : Nat) (h : x < 32) : bits .or .u8 192 (x : Int) = ((192 + x : Nat) : Int) := by
  have : ∀ x : Fin 32, bits .or .u8 192 ((x.val : Nat) : Int) = ((192 + x.val : Nat) : Int) := by decide +kernel
  exact this ⟨x, h⟩

/-- One round: a new object, five writes. -/
def topP (n lev vo le ri mn : Nat) : PS := tellP n (mn * 17) (192 + vo) (le * 16 + ri) (lev % 32)
theorem topP_ok (n lev vo le ri mn : Nat) (h1 : n < 6) (h2 : vo < 32) (h3 : le < 16) (h4 : ri < 16) (h5 : mn < 16) (hl : lev < 256) : (topP n lev vo le ri mn).Ok := by
  have h := top_state n (mn * 17) (192 + vo) (le * 16 + ri) lev h1 (by omega)
  rw [topP, ← h]
  exact PS.wr_ok (PS.wr_ok (PS.wr_ok (PS.wr_ok (PS.wr_ok PS.new_ok _ (by omega)) _ (by omega)) _ (by omega)) _ (by omega)) _ hl
theorem topP_sides (n lev vo le ri mn : Nat) (h1 : n < 6) (h2 : vo < 32) (h4 : ri < 16) (h5 : mn < 16) :
    (topP n lev vo le ri mn).left = tellS (lev % 32) vo le ri mn le ∧ (topP n lev vo le ri mn).right = tellS (lev % 32) vo le ri mn ri := by
  obtain ⟨a, b⟩ := tell_left n (mn * 17) (192 + vo) (le * 16 + ri) (lev % 32) h1 (by omega)
  rw [show (192 + vo) % 32 = vo by omega, show (le * 16 + ri) / 16 = le by omega, show (le * 16 + ri) % 16 = ri by omega] at a b
  rw [show mn * 17 / 16 = mn by omega] at a
  rw [show mn * 17 % 16 = mn by omega] at b
  exact ⟨a, b⟩

def o4 (a b c d : Int) : List Value := [.int .i64 a, .int .i64 b, .int .i64 c, .int .i64 d]

set_option maxRecDepth 100000 in
set_option maxHeartbeats 16000000 in
theorem TopSides_walk (w : World) (n0 : Int) (hn0 : (Lit.int .u8 n0).wf = true) (e0 : Int) (he0 : (Lit.int .u8 e0).wf = true) (v0 : Int) (hv0 : (Lit.int .u8 v0).wf = true) (l0 : Int) (hl0 : (Lit.int .u8 l0).wf = true) (r0 : Int) (hr0 : (Lit.int .u8 r0).wf = true) (m0 : Int) (hm0 : (Lit.int .u8 m0).wf = true) :
    Calls Try.prog 4 #[.int .u8 n0, .int .u8 e0, .int .u8 v0, .int .u8 l0, .int .u8 r0, .int .u8 m0] w fun e w' => e = .returned (.bool true) ∧ Below w.heap.size w w' := by
  obtain ⟨nn, rfl⟩ : ∃ v : Nat, n0 = v := ⟨n0.toNat, by have := wf_bounds_u8 hn0; omega⟩
  obtain ⟨lev, rfl⟩ : ∃ v : Nat, e0 = v := ⟨e0.toNat, by have := wf_bounds_u8 he0; omega⟩
  obtain ⟨vv, rfl⟩ : ∃ v : Nat, v0 = v := ⟨v0.toNat, by have := wf_bounds_u8 hv0; omega⟩
  obtain ⟨ll, rfl⟩ : ∃ v : Nat, l0 = v := ⟨l0.toNat, by have := wf_bounds_u8 hl0; omega⟩
  obtain ⟨rr, rfl⟩ : ∃ v : Nat, r0 = v := ⟨r0.toNat, by have := wf_bounds_u8 hr0; omega⟩
  obtain ⟨mm, rfl⟩ : ∃ v : Nat, m0 = v := ⟨m0.toNat, by have := wf_bounds_u8 hm0; omega⟩
  have bnn : nn < 256 := by have := wf_bounds_u8 hn0; omega
  have blev : lev < 256 := by have := wf_bounds_u8 he0; omega
  have bvv : vv < 256 := by have := wf_bounds_u8 hv0; omega
  have bll : ll < 256 := by have := wf_bounds_u8 hl0; omega
  have brr : rr < 256 := by have := wf_bounds_u8 hr0; omega
  have bmm : mm < 256 := by have := wf_bounds_u8 hm0; omega
  clear hn0 he0 hv0 hl0 hr0 hm0
  have i1 : (nn : Int).tmod 6 = ((nn % 6 : Nat) : Int) := by rw [Int.tmod_eq_emod_of_nonneg (by omega)]; rfl
  have i2 : (mm : Int).tmod 16 = ((mm % 16 : Nat) : Int) := by rw [Int.tmod_eq_emod_of_nonneg (by omega)]; rfl
  have i3 : (vv : Int).tmod 32 = ((vv % 32 : Nat) : Int) := by rw [Int.tmod_eq_emod_of_nonneg (by omega)]; rfl
  have i4 : (ll : Int).tmod 16 = ((ll % 16 : Nat) : Int) := by rw [Int.tmod_eq_emod_of_nonneg (by omega)]; rfl
  have i5 : (rr : Int).tmod 16 = ((rr % 16 : Nat) : Int) := by rw [Int.tmod_eq_emod_of_nonneg (by omega)]; rfl
  have u1 : nn % 6 < 6 := Nat.mod_lt _ (by omega)
  have u2 : mm % 16 < 16 := Nat.mod_lt _ (by omega)
  have u3 : vv % 32 < 32 := Nat.mod_lt _ (by omega)
  have u4 : ll % 16 < 16 := Nat.mod_lt _ (by omega)
  have u5 : rr % 16 < 16 := Nat.mod_lt _ (by omega)
  generalize nn % 6 = n at *
  generalize mm % 16 = m at *
  generalize vv % 32 = v at *
  generalize ll % 16 = l at *
  generalize rr % 16 = r at *
  have i6 := u8_or192 v u3
  have s1 := topP_sides n lev v l r m u1 u3 u5 u2
  have s2 := topP_sides n lev v r l m u1 u3 u4 u2
  rw [tellS_comm _ _ r l, tellS_comm _ _ r l] at s2
  obtain ⟨A, hA⟩ : ∃ A, A = tellS (lev % 32) v l r m l := ⟨_, rfl⟩
  obtain ⟨B, hB⟩ : ∃ B, B = tellS (lev % 32) v l r m r := ⟨_, rfl⟩
  have HEQ : Hid (l = r → A = B) := Lib.hid fun h => by rw [hA, hB, h]
  rw [← hA, ← hB] at s1 s2
  have HS1 := Lib.hid s1
  have HS2 := Lib.hid s2
  obtain ⟨ba1, hba1⟩ : ∃ x, l * 16 + r = x := ⟨_, rfl⟩
  obtain ⟨ba2, hba2⟩ : ∃ x, r * 16 + l = x := ⟨_, rfl⟩
  have j1 : (l : Int) * 16 + (r : Int) = (ba1 : Int) := by omega
  have j2 : (r : Int) * 16 + (l : Int) = (ba2 : Int) := by omega
  have bb1 : ba1 < 256 := by omega
  have bb2 : ba2 < 256 := by omega
  have HBA1 := Lib.hid hba1
  have HBA2 := Lib.hid hba2
  clear hba1 hba2
  have hp0 : powZ 0 = 4096 := by decide +kernel
  clear hA hB s1 s2
  have k0 := fun w => Power_any 0 w
  rw [hp0] at k0
  have HT1 := Lib.hid (top_state n (m * 17) (192 + v) ba1 lev u1 (by omega))
  have HT2 := Lib.hid (top_state n (m * 17) (192 + v) ba2 lev u1 (by omega))
  go_enter Try.func4, Try.ntmps4
  go_wp2_with fail
  refine (Bit_any 1 0 w (by omega) (by omega)).mono ?_
  rintro e _ ⟨rfl, rfl⟩
  rw [show bitB 1 0 = true by decide +kernel]
  go_wp2_with fail
  refine (k0 w).mono ?_
  rintro e w1 ⟨rfl, hB1⟩
  clear k0
  go_wp2_with fail
  refine allocs1 ?_
  intro w2 hA2 hb2 _
  replace hA2 : At w2 w1.heap.size 42 (o4 0 0 0 0) := hA2
  have HA2 := Lib.hid hA2
  have HB2 := Lib.hid (step_below hB1 hb2)
  have HW0 : Hid (w.heap.size ≤ w1.heap.size) := Lib.hid hB1.size
  clear hA2 hB1 hb2
  generalize w1.heap.size = O at *
  go_loopw [3, 4, 14] (fun x y i wr => Hid (Below w.heap.size w wr) ∧ ((x = .int .u8 (ll : Int) ∧ y = .int .u8 (rr : Int) ∧ i = .int .i64 0 ∧ Hid (At wr O 42 (o4 0 0 0 0))) ∨ (x = .int .u8 (rr : Int) ∧ y = .int .u8 (ll : Int) ∧ i = .int .i64 1 ∧ Hid (At wr O 42 (o4 A B 0 0))) ∨ (x = .int .u8 (ll : Int) ∧ y = .int .u8 (rr : Int) ∧ i = .int .i64 2 ∧ Hid (At wr O 42 (o4 A B B A))))) (fun _ _ i _ => 2 - (intOf i).toNat)
  case atStart => exact ⟨HB2, .inl ⟨rfl, rfl, rfl, HA2⟩⟩
  case round =>
    clear HA2 HB2
    obtain ⟨HB, ⟨rfl, rfl, rfl, HA⟩ | ⟨rfl, rfl, rfl, HA⟩ | ⟨rfl, rfl, rfl, HA⟩⟩ := hrel
    · go_wp2_with fail
      refine (PNew_any wr).mono ?_
      rintro e w3 ⟨g, c, b, rfl, hG3, hg3, hb3⟩
      have hB3 := step_below HB.out hb3
      have hO3 := HA.out.below hb3 HA.out.lt
      have hOl := HA.out.lt
      have hge : ∀ k, OwnP g c b k → w.heap.size ≤ k := fun k hk => Nat.le_trans HB.out.size (hg3 k hk)
      have hgo : ∀ k, OwnP g c b k → ¬ k = O := fun k hk => by have := hg3 k hk; omega
      have hgo' : ¬ OwnP g c b O := fun h => hgo O h rfl
      clear hb3 HA HB hg3
      go_wp2_with fail
      refine (Write_P 0 n g c b _ w3 hG3 (PS.new_ok) (by omega) (by omega)).mono ?_
      rintro e w4 ⟨rfl, hG4, hU4⟩
      have hB4 := hU4.to hB3 hB3.size hge
      have hO4 := hO3.upd hU4 hgo'
      clear hG3 hU4 hB3 hO3
      go_wp2_with fail
      refine (Write_P 1 (m * 17) g c b _ w4 hG4 (PS.wr_ok (PS.new_ok) _ (by omega)) (by omega) (by omega)).mono ?_
      rintro e w5 ⟨rfl, hG5, hU5⟩
      have hB5 := hU5.to hB4 hB4.size hge
      have hO5 := hO4.upd hU5 hgo'
      clear hG4 hU5 hB4 hO4
      go_wp2_with fail
      refine (Write_P 4 (192 + v) g c b _ w5 hG5 (PS.wr_ok (PS.wr_ok (PS.new_ok) _ (by omega)) _ (by omega)) (by omega) (by omega)).mono ?_
      rintro e w6 ⟨rfl, hG6, hU6⟩
      have hB6 := hU6.to hB5 hB5.size hge
      have hO6 := hO5.upd hU6 hgo'
      clear hG5 hU6 hB5 hO5
      go_wp2_with fail
      refine (Write_P 5 ba1 g c b _ w6 hG6 (PS.wr_ok (PS.wr_ok (PS.wr_ok (PS.new_ok) _ (by omega)) _ (by omega)) _ (by omega)) (by omega) (by omega)).mono ?_
      rintro e w7 ⟨rfl, hG7, hU7⟩
      have hB7 := hU7.to hB6 hB6.size hge
      have hO7 := hO6.upd hU7 hgo'
      clear hG6 hU7 hB6 hO6
      go_wp2_with fail
      refine (Write_P 6 lev g c b _ w7 hG7 (PS.wr_ok (PS.wr_ok (PS.wr_ok (PS.wr_ok (PS.new_ok) _ (by omega)) _ (by omega)) _ (by omega)) _ (by omega)) blev (by omega)).mono ?_
      rintro e w8 ⟨rfl, hG8, hU8⟩
      have hB8 := hU8.to hB7 hB7.size hge
      have hO8 := hO7.upd hU8 hgo'
      clear hG7 hU8 hB7 hO7
      rw [HT1.out, ← HBA1.out] at hG8
      have HG := Lib.hid hG8
      have HO := Lib.hid hO8
      have HB := Lib.hid hB8
      clear hG8 hO8 hB8
      have HOF : Hid (∀ w0, Below w8.heap.size w8 w0 → Calls Try.prog 20 #[.pointer (some ⟨g, 0, none⟩)] w0 fun e w' => e = .returned (.tuple #[.int .i64 A, .int .i64 B]) ∧ Below w0.heap.size w0 w') := Lib.hid fun w0 hb => by
        have h := Of_P g c b (topP n lev v l r m) w0 (HG.out.below hb) (topP_ok n lev v l r m u1 u3 u4 u5 u2 blev)
        rw [HS1.out.1, HS1.out.2] at h
        exact h
      have hdr : Below w8.heap.size w8 w8.drew := ⟨rfl, rfl, rfl, Nat.le_refl _, fun _ _ => rfl⟩
      have hkf := HOF.out w8.drew hdr
      go_wp2_with fail
      go_region_held3 (fun _ => True) (trivial) (first | (go_at_call 20; refine hkf.mono ?_; rintro e w9 ⟨rfl, hb9⟩; have hA9 := HO.out.below (step_below hdr hb9) HO.out.lt; have q0 := hA9.cell 0 rfl; have q1 := hA9.cell 1 rfl; have f0 := hA9.frozen 0; have f1 := hA9.frozen 1))
      all_goals
        have HB9 := Lib.hid (step_below HB.out (step_below hdr hb9))
        have HA9 := Lib.hid hA9
        clear hA9 hb9 hkf
        have HAn : Hid (At ((w9.setCell ⟨O, 0, none⟩ (.int .i64 A)).setCell ⟨O, 1, none⟩ (.int .i64 B)) O 42 (o4 A B 0 0)) := Lib.hid (((HA9.out.set 0 _).set 1 _).of_eq rfl)
        have HBn : Hid (Below w.heap.size w ((w9.setCell ⟨O, 0, none⟩ (.int .i64 A)).setCell ⟨O, 1, none⟩ (.int .i64 B))) := Lib.hid (step_upd HB9.out (((Upd.refl (· = O) w9).here _).here _) HW0.out)
        clear HA9 HB9 HB HO HG HOF hdr q0 q1 f0 f1
        go_wp2
        go_round
        case rel => exact ⟨HBn, .inr (.inl ⟨by go_num, by go_num, by go_num, HAn⟩)⟩
        case measure => simp [intOf]
    · go_wp2_with fail
      refine (PNew_any wr).mono ?_
      rintro e w3 ⟨g, c, b, rfl, hG3, hg3, hb3⟩
      have hB3 := step_below HB.out hb3
      have hO3 := HA.out.below hb3 HA.out.lt
      have hOl := HA.out.lt
      have hge : ∀ k, OwnP g c b k → w.heap.size ≤ k := fun k hk => Nat.le_trans HB.out.size (hg3 k hk)
      have hgo : ∀ k, OwnP g c b k → ¬ k = O := fun k hk => by have := hg3 k hk; omega
      have hgo' : ¬ OwnP g c b O := fun h => hgo O h rfl
      clear hb3 HA HB hg3
      go_wp2_with fail
      refine (Write_P 0 n g c b _ w3 hG3 (PS.new_ok) (by omega) (by omega)).mono ?_
      rintro e w4 ⟨rfl, hG4, hU4⟩
      have hB4 := hU4.to hB3 hB3.size hge
      have hO4 := hO3.upd hU4 hgo'
      clear hG3 hU4 hB3 hO3
      go_wp2_with fail
      refine (Write_P 1 (m * 17) g c b _ w4 hG4 (PS.wr_ok (PS.new_ok) _ (by omega)) (by omega) (by omega)).mono ?_
      rintro e w5 ⟨rfl, hG5, hU5⟩
      have hB5 := hU5.to hB4 hB4.size hge
      have hO5 := hO4.upd hU5 hgo'
      clear hG4 hU5 hB4 hO4
      go_wp2_with fail
      refine (Write_P 4 (192 + v) g c b _ w5 hG5 (PS.wr_ok (PS.wr_ok (PS.new_ok) _ (by omega)) _ (by omega)) (by omega) (by omega)).mono ?_
      rintro e w6 ⟨rfl, hG6, hU6⟩
      have hB6 := hU6.to hB5 hB5.size hge
      have hO6 := hO5.upd hU6 hgo'
      clear hG5 hU6 hB5 hO5
      go_wp2_with fail
      refine (Write_P 5 ba2 g c b _ w6 hG6 (PS.wr_ok (PS.wr_ok (PS.wr_ok (PS.new_ok) _ (by omega)) _ (by omega)) _ (by omega)) (by omega) (by omega)).mono ?_
      rintro e w7 ⟨rfl, hG7, hU7⟩
      have hB7 := hU7.to hB6 hB6.size hge
      have hO7 := hO6.upd hU7 hgo'
      clear hG6 hU7 hB6 hO6
      go_wp2_with fail
      refine (Write_P 6 lev g c b _ w7 hG7 (PS.wr_ok (PS.wr_ok (PS.wr_ok (PS.wr_ok (PS.new_ok) _ (by omega)) _ (by omega)) _ (by omega)) _ (by omega)) blev (by omega)).mono ?_
      rintro e w8 ⟨rfl, hG8, hU8⟩
      have hB8 := hU8.to hB7 hB7.size hge
      have hO8 := hO7.upd hU8 hgo'
      clear hG7 hU8 hB7 hO7
      rw [HT2.out, ← HBA2.out] at hG8
      have HG := Lib.hid hG8
      have HO := Lib.hid hO8
      have HB := Lib.hid hB8
      clear hG8 hO8 hB8
      have HOF : Hid (∀ w0, Below w8.heap.size w8 w0 → Calls Try.prog 20 #[.pointer (some ⟨g, 0, none⟩)] w0 fun e w' => e = .returned (.tuple #[.int .i64 B, .int .i64 A]) ∧ Below w0.heap.size w0 w') := Lib.hid fun w0 hb => by
        have h := Of_P g c b (topP n lev v r l m) w0 (HG.out.below hb) (topP_ok n lev v r l m u1 u3 u5 u4 u2 blev)
        rw [HS2.out.1, HS2.out.2] at h
        exact h
      have hdr : Below w8.heap.size w8 w8.drew := ⟨rfl, rfl, rfl, Nat.le_refl _, fun _ _ => rfl⟩
      have hkf := HOF.out w8.drew hdr
      go_wp2_with fail
      go_region_held3 (fun _ => True) (trivial) (first | (go_at_call 20; refine hkf.mono ?_; rintro e w9 ⟨rfl, hb9⟩; have hA9 := HO.out.below (step_below hdr hb9) HO.out.lt; have q0 := hA9.cell 2 rfl; have q1 := hA9.cell 3 rfl; have f0 := hA9.frozen 2; have f1 := hA9.frozen 3))
      all_goals
        have HB9 := Lib.hid (step_below HB.out (step_below hdr hb9))
        have HA9 := Lib.hid hA9
        clear hA9 hb9 hkf
        have HAn : Hid (At ((w9.setCell ⟨O, 2, none⟩ (.int .i64 B)).setCell ⟨O, 3, none⟩ (.int .i64 A)) O 42 (o4 A B B A)) := Lib.hid (((HA9.out.set 2 _).set 3 _).of_eq rfl)
        have HBn : Hid (Below w.heap.size w ((w9.setCell ⟨O, 2, none⟩ (.int .i64 B)).setCell ⟨O, 3, none⟩ (.int .i64 A))) := Lib.hid (step_upd HB9.out (((Upd.refl (· = O) w9).here _).here _) HW0.out)
        clear HA9 HB9 HB HO HG HOF hdr q0 q1 f0 f1
        go_wp2
        go_round
        case rel => exact ⟨HBn, .inr (.inr ⟨by go_num, by go_num, by go_num, HAn⟩)⟩
        case measure => simp [intOf]
    · have c0 := HA.out.cell 0 rfl
      have c1 := HA.out.cell 1 rfl
      have c2 := HA.out.cell 2 rfl
      have c3 := HA.out.cell 3 rfl
      by_cases hlr : l = r
      · have hab := HEQ.out hlr
        subst hlr
        subst hab
        clear HS1 HS2 HT1 HT2 HBA1 HBA2 j1 j2
        go_wp2
        go_ret
        exact ⟨rfl, HB.out⟩
      · have d1 : ((l : Int) != (r : Int)) = true := by rw [bne_iff_ne]; omega
        clear HS1 HS2 HT1 HT2 HBA1 HBA2 j1 j2
        go_wp2
        go_ret
        exact ⟨rfl, HB.out⟩
end Go.Proofs.Ytgkbpdcedighcad
