/-
  The walk of ram: Pieces.
-/
import Derived.Test.YtgkbpdcedighcaaRamQ
import Derived.Test.YtgkbpdcedighcaaPcsA
namespace Go.Proofs.Ytgkbpdcedighcaa
open Go.RowKit Go.Sort Go.Maps

theorem infoPc : (Try.prog.info? 101).map (fun i => (i.zero, i.size, i.bytes)) = some (some (.agg #[.int .i64 0, .slice none 0 0]), 2, 32) := by kernel_rfl
theorem infoBy : (Try.prog.info? 5).map (fun i => (i.zero, i.size, i.bytes)) = some (some (.int .u8 0), 1, 1) := by kernel_rfl
theorem pcne : (101 : TypeId) ≠ 5 := by decide

theorem pcs_step {f : Nat → Nat} {k : Nat} (hz : f k ≠ 0) (ho : opn f k = true) : ∃ c st ln, pcs f k = ⟨c + 1, st, ln⟩ ∧ st c + ln c = k ∧ c < k ∧ pcs f (k + 1) = ⟨c + 1, st, fun i => if i + 1 = c + 1 then ln i + 1 else ln i⟩ := by
  obtain ⟨h1, _, _, _, h5⟩ := pcs_ok f k
  obtain ⟨h2, h3⟩ := h1 ho
  have hm := pcs_more hz ho
  generalize pcs f k = p at *
  obtain ⟨c0, st, ln⟩ := p
  match c0, h2, h3, h5, hm with
  | c + 1, _, h3, h5, hm => exact ⟨c, st, ln, rfl, h3, h5, hm⟩

/-- The last piece's cells. -/
theorem PcsAt.last {PT U8 : TypeId} {w : World} {base : Nat} {v : Value} {c : Nat} {st ln : Nat → Nat} {sl : Nat → Value} {f : Nat → Nat} (h : PcsAt PT U8 w base v ⟨c + 1, st, ln⟩ sl f) :
    ∃ g cap, v = .slice (some ⟨g, 0, none⟩) (c + 1) cap ∧ base ≤ g ∧ w.cell? ⟨g, c * 2, none⟩ = some (.int .i64 (st c : Int)) ∧ w.cell? ⟨g, c * 2 + 1, none⟩ = some (sl c) := by
  have hr := h.row
  obtain ⟨A, cap, hv, _⟩ := own_form hr
  replace hr : w.ownsRow base PT 2 v (c + 1) (pcsRow st sl (c + 1)) := hr
  rcases hr.2 with ⟨_, h0⟩ | ⟨g, cap, cur, rfl, hb, hh, hnc, _, hsz, htake⟩
  · simp at h0
  · obtain ⟨e1, e2⟩ := pcsRow_get (st := st) (sl := sl) (show c < c + 1 by omega)
    exact ⟨g, cap, rfl, hb, (hr.cellAt _ (by omega)).trans e1, (hr.cellAt _ (by omega)).trans e2⟩

theorem PcsAt.mid {PT U8 : TypeId} {w w1 : World} {base : Nat} {c g cap : Nat} {st ln : Nat → Nat} {sl : Nat → Value} {f : Nat → Nat} (h : PcsAt PT U8 w base (.slice (some ⟨g, 0, none⟩) (c + 1) cap) ⟨c + 1, st, ln⟩ sl f) (hne : PT ≠ U8)
    (hg : w.grownBy w1 (sl c).ownBlock) : w1.cell? ⟨g, c * 2 + 1, none⟩ = some (sl c) ∧ w1.frozen? ⟨g, c * 2 + 1, none⟩ = false := by
  have hrow1 := h.row.kept hg (by
    right
    intro he
    exact own_ne2 h.row (h.each c (by show c < c + 1; omega)) hne rfl he.symm)
  obtain ⟨_, e2⟩ := pcsRow_get (st := st) (sl := sl) (show c < c + 1 by omega)
  replace hrow1 : w1.ownsRow base PT 2 (.slice (some ⟨g, 0, none⟩) (c + 1) cap) (c + 1) (pcsRow st sl (c + 1)) := hrow1
  exact ⟨(hrow1.cellAt _ (by omega)).trans e2, hrow1.frozenAt _⟩
theorem cell_two_new (w : World) (x y : Value) (t : TypeId) : ∀ j u, [x, y][j]? = some u → (w.alloc (.cells #[x, y] t)).cell? ((⟨w.heap.size, 0, none⟩ : Addr).add j) = some u := by
  intro j u hj
  rw [addr_add, Nat.zero_add]
  exact (At.new w #[x, y] t).cell j hj

set_option maxRecDepth 100000 in
set_option maxHeartbeats 4000000 in
theorem Pieces_z (p : Value) (f : Nat → Nat) (N : Nat) (hN : Hid (N = 8192)) (w : World) (hp : RM w p f) : Calls Try.prog 56 #[p] w fun e w' => ∃ v sl, e = .returned v ∧ PcsAt 101 5 w' w.heap.size v (pcs f N) sl f ∧ Below w.heap.size w w' := by
  have HP := Lib.hid hp
  clear hp
  obtain ⟨i0, hi0⟩ := Option.map_eq_some_iff.1 infoPc
  obtain ⟨hi, hzz⟩ := hi0
  have hz0 : i0.zero = some (.agg #[.int .i64 0, .slice none 0 0]) := congrArg Prod.fst hzz
  have hz1 : i0.size = 2 := congrArg (fun p => p.2.1) hzz
  have hz2 : i0.bytes = 32 := congrArg (fun p => p.2.2) hzz
  clear hzz
  obtain ⟨i1, hi1⟩ := Option.map_eq_some_iff.1 infoBy
  obtain ⟨hj, hyy⟩ := hi1
  have hy0 : i1.zero = some (.int .u8 0) := congrArg Prod.fst hyy
  have hy1 : i1.size = 1 := congrArg (fun p => p.2.1) hyy
  have hy2 : i1.bytes = 1 := congrArg (fun p => p.2.2) hyy
  clear hyy
  go_enter Try.func56, Try.ntmps56
  go_wp2_with fail
  go_loopw [3, 4, 8] (fun v o i wr => ∃ (k : Nat) (sl : Nat → Value), k ≤ 8192 ∧ i = .int .i64 k ∧ o = .bool (opn f k) ∧ Hid (PcsAt 101 5 wr w.heap.size v (pcs f k) sl f) ∧ Hid (Below w.heap.size w wr)) (fun _ _ i _ => 8192 - (intOf i).toNat)
  case atStart => exact ⟨0, fun _ => .slice none 0 0, Nat.zero_le _, rfl, rfl, Lib.hid (PcsAt.nil _ _ _ _ _ _ _ _), Lib.hid (Below.refl _ _)⟩
  case round =>
    obtain ⟨k, sl, hk, rfl, rfl, HPC, HB⟩ := hrel
    by_cases hlt : k < 8192
    · have hw : IntKind.u16.wrap (k : Int) = (k : Int) := by rw [IntKind.wrap_u16]; omega
      have kp := Read_rm p f k wr (HP.out.below HB.out)
      rw [Nat.mod_eq_of_lt hlt] at kp
      by_cases hz : f k = 0
      · have HF : Hid (pcs f (k + 1) = pcs f k) := Lib.hid (pcs_zero hz)
        have HO : Hid (opn f (k + 1) = false) := Lib.hid (by rw [opn_succ]; simp [hz])
        rw [hz] at kp
        clear hz
        go_wp2_with fail
        refine kp.mono ?_
        rintro e _ ⟨rfl, rfl⟩
        go_wp2
        go_roundw
        case rel => exact ⟨k + 1, sl, by omega, by go_num, by rw [HO.out], (by rw [HF.out]; exact HPC), HB⟩
        case measure => simp [intOf]; omega
      · have hd : ((f k : Int) == 0) = false := by rw [beq_eq_false_iff_ne]; omega
        have HO : Hid (opn f (k + 1) = true) := Lib.hid (by rw [opn_succ]; simp [hz])
        cases ho : opn f k with
        | true =>
          obtain ⟨c, st, ln, hp0, hst, hck, hp1⟩ := pcs_step hz ho
          have HX : Hid ((pcs f (k + 1)).c = c + 1 ∧ ∀ i, i < c + 1 → (pcs f (k + 1)).st i = st i ∧ (pcs f (k + 1)).ln i = if i = c then ln i + 1 else ln i) := Lib.hid (by
            rw [hp1]
            refine ⟨rfl, fun i hi => ⟨rfl, ?_⟩⟩
            show (if i + 1 = c + 1 then ln i + 1 else ln i) = _
            by_cases he : i = c
            · rw [if_pos (by omega), if_pos he]
            · rw [if_neg (by omega), if_neg he])
          rw [hp0] at HPC
          clear hp0 hp1 ho
          have HFK : Hid (f k = f (st c + ln c)) := Lib.hid (by rw [hst])
          obtain ⟨g, cap, rfl, hgb, c0, c1⟩ := HPC.out.last
          have hlc : ln c ≤ 8192 := by omega
          have hc8 : c ≤ 8192 := by omega
          have HQ := HPC
          have HB1 := HB
          clear hz hst HPC HB
          have HA := Lib.hid (HQ.out.below ((Below.refl _ wr).alloc (Nat.le_refl _) (.cells #[.int .u8 (f k : Int)] 5)))
          have HE : Hid ((wr.alloc (.cells #[.int .u8 (f k : Int)] 5)).ownsRow w.heap.size 5 1 (sl c) (ln c) (byRow f (st c) (ln c))) := Lib.hid (HA.out.each c (by show c < c + 1; omega))
          have hsz := HB1.out.size
          have hci : (0 : Int) ≤ (c : Int) := by omega
          have hcj : (c : Int) < ((c + 1 : Nat) : Int) := by omega
          have hce : ((c + 1 : Nat) : Int) - 1 = (c : Int) := by omega
          go_wp2_with fail
          refine kp.mono ?_
          rintro e _ ⟨rfl, rfl⟩
          go_wp2_with (at_builtin; go_loud (refine wpList_append_own_at _ rfl _ _ 77 rfl w.heap.size 5 i1 (.int .u8 0) 1 1 Try.underlying77 hj hy0 hy1 hy2 rfl (by decide) _ (ln c) _ rfl HE.out ⟨wr.heap.size, 0, none⟩ 1 1 [.int .u8 (f k : Int)] rfl rfl (cell_one_new _ _ _) (by intro u hu; simp at hu; subst hu; rfl) (by unfold maxLen; omega) (by omega) (by simp; omega) ?_))
          intro v5 w5 hO5 hg5 _ hat5
          obtain ⟨A5, cap5, rfl, _⟩ := own_form hO5
          obtain ⟨m1, m2⟩ := HA.out.mid pcne hg5
          have hO5' := hO5
          rw [HFK.out] at hO5'
          have HM := Lib.hid (HA.out.more pcne hO5' hg5 (by rcases hat5 with h | h; exact .inl h; exact .inr (by rw [h]; simp)))
          have hbs : ∀ b, (sl c).ownBlock = some b → w.heap.size ≤ b := fun b hb => (own_lt (HA.out.each c (by show c < c + 1; omega)) hb).2
          have HB5 := Lib.hid (((HB1.out.alloc HB1.out.size (.cells #[.int .u8 (f k : Int)] 5)).grown hg5 (by have := HB1.out.size; simp; omega) hbs).setCell (p := ⟨g, c * 2 + 1, none⟩) hgb (.slice A5 (ln c + 1) cap5))
          clear hO5 hO5' hg5 hat5 c0 c1 hbs
          go_wp2
          go_roundw
          case rel => exact ⟨k + 1, fun i => if i = c then .slice A5 (ln c + 1) cap5 else sl i, by omega, by go_num, by rw [HO.out], Lib.hid (HM.out.ext HX.out.1 fun i hi => ⟨(HX.out.2 i hi).1, (HX.out.2 i hi).2, rfl⟩), HB5⟩
          case measure => simp [intOf]; omega
        | false =>
          have hp1 := pcs_next hz ho
          obtain ⟨_, _, _, _, h5⟩ := pcs_ok f k
          have hsz0 := HB.out.size
          have HR0 : Hid ((wr.alloc (.cells #[.int .i64 (k : Int), .slice none 0 0] 101)).ownsRow w.heap.size 101 2 u3 (pcs f k).c (pcsRow (pcs f k).st sl (pcs f k).c)) := Lib.hid (HPC.out.below ((Below.refl _ wr).alloc (Nat.le_refl _) _)).row
          have HPA := Lib.hid (HPC.out.below ((Below.refl _ wr).alloc (Nat.le_refl _) (.cells #[.int .i64 (k : Int), .slice none 0 0] 101)))
          have HP1 := Lib.hid hp1
          clear hp1 ho hz
          generalize pcs f k = pk at *
          obtain ⟨c, st0, ln0⟩ := pk
          replace h5 : c ≤ k := h5
          go_wp2_with fail
          refine kp.mono ?_
          rintro e _ ⟨rfl, rfl⟩
          go_wp2_with (at_builtin; go_loud (refine wpList_append_own _ rfl _ _ 70 rfl w.heap.size 101 i0 (.agg #[.int .i64 0, .slice none 0 0]) 2 32 Try.underlying70 hi hz0 hz1 hz2 rfl (by decide) _ c _ rfl HR0.out ⟨wr.heap.size, 0, none⟩ 1 1 [.int .i64 (k : Int), .slice none 0 0] rfl rfl (cell_two_new _ _ _ _) (by intro u hu; simp at hu; rcases hu with rfl | rfl <;> rfl) (by unfold maxLen; omega) (by omega) (by simp; omega) ?_))
          intro v4 w4 hO4 hg4 _
          have hbs4 : ∀ b, u3.ownBlock = some b → w.heap.size ≤ b := fun b hb => (own_lt HR0.out hb).2
          have HB1 := Lib.hid ((HB.out.alloc HB.out.size (.cells #[.int .i64 (k : Int), .slice none 0 0] 101)).grown hg4 (by have := HB.out.size; simp; omega) hbs4)
          have hQ := HPA.out.snoc pcne hO4 hg4
          clear hO4 hg4 hbs4 HR0 HPA HB HPC
          obtain ⟨st, hst⟩ : ∃ s : Nat → Nat, s = fun i => if i = c then k else st0 i := ⟨_, rfl⟩
          obtain ⟨ln, hln⟩ : ∃ s : Nat → Nat, s = fun i => if i = c then 0 else ln0 i := ⟨_, rfl⟩
          replace hQ : PcsAt 101 5 w4 w.heap.size v4 ⟨c + 1, st, ln⟩ (fun i => if i = c then .slice none 0 0 else sl i) f := by rw [hst, hln]; exact hQ
          generalize (fun i => if i = c then Value.slice none 0 0 else sl i) = sl1 at hQ
          have HX : Hid ((pcs f (k + 1)).c = c + 1 ∧ ∀ i, i < c + 1 → (pcs f (k + 1)).st i = st i ∧ (pcs f (k + 1)).ln i = if i = c then ln i + 1 else ln i) := Lib.hid (by
            rw [HP1.out, hst, hln]
            refine ⟨rfl, fun i hi => ⟨rfl, ?_⟩⟩
            show (if i = c then 1 else ln0 i) = if i = c then (if i = c then 0 else ln0 i) + 1 else (if i = c then 0 else ln0 i)
            by_cases he : i = c
            · simp only [if_pos he]
            · simp only [if_neg he])
          have hsc : st c = k := by rw [hst]; exact if_pos rfl
          have hlc0 : ln c = 0 := by rw [hln]; exact if_pos rfl
          have HFK : Hid (f k = f (st c + ln c)) := Lib.hid (by rw [hsc, hlc0]; rfl)
          have HQ := Lib.hid hQ
          clear hQ hst hln HP1 hsc
          obtain ⟨g, cap, rfl, hgb, c0, c1⟩ := HQ.out.last
          have hlc : ln c ≤ 8192 := by omega
          have hc8 : c ≤ 8192 := by omega
          clear hlc0
          have HA := Lib.hid (HQ.out.below ((Below.refl _ w4).alloc (Nat.le_refl _) (.cells #[.int .u8 (f k : Int)] 5)))
          have HE : Hid ((w4.alloc (.cells #[.int .u8 (f k : Int)] 5)).ownsRow w.heap.size 5 1 (sl1 c) (ln c) (byRow f (st c) (ln c))) := Lib.hid (HA.out.each c (by show c < c + 1; omega))
          have hsz := HB1.out.size
          have hci : (0 : Int) ≤ (c : Int) := by omega
          have hcj : (c : Int) < ((c + 1 : Nat) : Int) := by omega
          have hce : ((c + 1 : Nat) : Int) - 1 = (c : Int) := by omega
          go_wp2_with (at_builtin; go_loud (refine wpList_append_own_at _ rfl _ _ 77 rfl w.heap.size 5 i1 (.int .u8 0) 1 1 Try.underlying77 hj hy0 hy1 hy2 rfl (by decide) _ (ln c) _ rfl HE.out ⟨w4.heap.size, 0, none⟩ 1 1 [.int .u8 (f k : Int)] rfl rfl (cell_one_new _ _ _) (by intro u hu; simp at hu; subst hu; rfl) (by unfold maxLen; omega) (by omega) (by simp; omega) ?_))
          intro v5 w5 hO5 hg5 _ hat5
          obtain ⟨A5, cap5, rfl, _⟩ := own_form hO5
          obtain ⟨m1, m2⟩ := HA.out.mid pcne hg5
          have hO5' := hO5
          rw [HFK.out] at hO5'
          have HM := Lib.hid (HA.out.more pcne hO5' hg5 (by rcases hat5 with h | h; exact .inl h; exact .inr (by rw [h]; simp)))
          have hbs : ∀ b, (sl1 c).ownBlock = some b → w.heap.size ≤ b := fun b hb => (own_lt (HA.out.each c (by show c < c + 1; omega)) hb).2
          have HB5 := Lib.hid (((HB1.out.alloc HB1.out.size (.cells #[.int .u8 (f k : Int)] 5)).grown hg5 (by have := HB1.out.size; simp; omega) hbs).setCell (p := ⟨g, c * 2 + 1, none⟩) hgb (.slice A5 (ln c + 1) cap5))
          clear hO5 hO5' hg5 hat5 c0 c1 hbs
          go_wp2
          go_roundw
          case rel => exact ⟨k + 1, fun i => if i = c then .slice A5 (ln c + 1) cap5 else sl1 i, by omega, by go_num, by rw [HO.out], Lib.hid (HM.out.ext HX.out.1 fun i hi => ⟨(HX.out.2 i hi).1, (HX.out.2 i hi).2, rfl⟩), HB5⟩
          case measure => simp [intOf]; omega
    · obtain rfl : k = N := by have := hN.out; omega
      go_wp2
      go_ret
      exact ⟨_, sl, rfl, HPC.out, HB.out⟩
end Go.Proofs.Ytgkbpdcedighcaa
