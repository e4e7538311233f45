import Derived.Test.YtgkbpdcedighcacSndAA
import Derived.Test.YtgkbpdcedighcacRPsg
import Derived.Test.YtgkbpdcedighcacRPsgV
import Derived.Test.YtgkbpdcedighcacRPsgW
import Derived.Test.YtgkbpdcedighcacRMixS
/-
  The walks of the reference 15: Bent, Go.
-/
namespace Go.Proofs.Ytgkbpdcedighcac
open Go.RowKit Go.Sort NoiseP

theorem RP.same6 {w : World} {g : Nat} {c b : Nat → Nat} {y z : PS} (h : RP w g c b y) (hs : PS.same6 y z) : RP w g c b z := by
  obtain ⟨h1, h2, h3⟩ := h
  obtain ⟨a1, a2, a3, a4⟩ := hs
  rw [a2, a3, a4] at h1
  exact ⟨h1, fun i hi => (a1 i hi) ▸ h2 i hi, h3⟩

set_option maxRecDepth 100000 in
set_option maxHeartbeats 2000000 in
theorem RBent_P (g : Nat) (c b : Nat → Nat) (y : PS) (w : World) (h : RP w g c b y) (hy : y.Ok) : Calls Try.prog 117 #[.pointer (some ⟨g, 0, none⟩)] w fun e w' => e = .returned (.int .i64 y.bent) ∧ Below w.heap.size w w' := by
  have HG := Lib.hid h
  have HY := Lib.hid hy
  have h1 := hy.x 1 (by omega)
  have hco := h1.co
  have c1 : w.cell? ⟨g, 1, none⟩ = some (.pointer (some ⟨c 1, 0, none⟩)) := h.g.cell 1 (pz_get (p := fun i => ptr (c i)) (by omega))
  have c3 : w.cell? ⟨c 1, 3, none⟩ = some (.int .u8 ((y.x 1).co : Int)) := (h.x 1 (by omega)).d.cell 3 rfl
  have hlv := lvW_nat (y.x 1).co (y.x 1).to (y.x 1).ny (y.x 1).wv (y.x 1).pl (y.x 1).s h1.to h1.wv
  have hs4 : (y.x 1).s < 4294967296 := by have := h1.s; omega
  have hpl := h1.pl
  have HB : Hid (y.bent = if (y.x 1).co < 128 then 0 else ((y.x 1).lv - 16) * depT (y.bd % 4)) := Lib.hid rfl
  have hdp := depT_or (y.bd % 4)
  have HL : Hid ((y.x 1).lv = lvW (y.x 1).co (y.x 1).to (y.x 1).ny (y.x 1).wv (y.x 1).pl (y.x 1).s) := Lib.hid rfl
  clear h hy h1
  by_cases hon : (y.x 1).co < 128
  · have HB' : Hid (y.bent = 0) := Lib.hid (by rw [HB.out, if_pos hon])
    have hon' : decide ((y.x 1).co < 128) = true := decide_eq_true hon
    clear HB
    go_enter Try.func117, Try.ntmps117
    go_wp2
    (try simp only [Exit.inBlock, Exit.then])
    go_ret
    exact ⟨by rw [HB'.out]; rfl, Below.refl _ _⟩
  · have HB' : Hid (y.bent = ((y.x 1).lv - 16) * depT (y.bd % 4)) := Lib.hid (by rw [HB.out, if_neg hon])
    have hon' : decide ((y.x 1).co < 128) = false := decide_eq_false hon
    clear HB
    go_enter Try.func117, Try.ntmps117
    go_wp2_with fail
    refine (QLevel_any (c 1) (b 1) _ _ _ _ _ _ _ _ _ w _ _ _ (HG.out.x 1 (by omega)).d (HG.out.x 1 (by omega)).g hco hs4 hpl).mono ?_
    rintro e w2 ⟨rfl, hq2⟩
    have hb2 := below_drewK hq2
    have HB2 := Lib.hid hb2
    have HG2 := Lib.hid (HG.out.below hb2)
    clear hb2 hq2 HG c1 c3
    rw [← HL.out] at hlv ⊢
    generalize (y.x 1).lv = lv at *
    obtain ⟨v, rfl⟩ : ∃ v : Nat, lv = v := ⟨lv.toNat, by omega⟩
    have hw1 : IntKind.i64.wrap (v : Int) = (v : Int) := by rw [IntKind.wrap_i64]; omega
    have hw2 : IntKind.i64.wrap ((v : Int) - 16) = (v : Int) - 16 := by rw [IntKind.wrap_i64]; omega
    go_wp2_with fail
    refine (RDepth_any g c b y w2 HG2.out HY.out).mono ?_
    rintro e w3 ⟨rfl, hb3⟩
    have HB3 := Lib.hid (step_below HB2.out hb3)
    have hw3 : IntKind.i64.wrap (((v : Int) - 16) * depT (y.bd % 4)) = ((v : Int) - 16) * depT (y.bd % 4) := by
      rw [IntKind.wrap_i64]
      rcases hdp with e | e | e | e <;> rw [e] <;> omega
    clear hb3 hdp hlv
    generalize depT (y.bd % 4) = dp at *
    go_wp2
    go_ret
    exact ⟨by rw [HB'.out]; rfl, HB3.out⟩

/-- In the midst of a clock: channels below j have gone on. -/
def PS.mid (y : PS) (j : Nat) : PS := { y with x := fun i => if i < j then y.tick.x i else if i = 0 then (y.x 0).bend y.bent else y.x i }
theorem PS.mid_x (y : PS) (j : Nat) : ((y.mid j).x j).go 1 = y.tick.x j := by
  show (if j < j then y.tick.x j else if j = 0 then (y.x 0).bend y.bent else y.x j).go 1 = if j = 0 then ((y.x 0).bend y.bent).go 1 else (y.x j).go 1
  rw [if_neg (by omega)]
  by_cases h : j = 0
  · rw [if_pos h, if_pos h]
  · rw [if_neg h, if_neg h]
theorem PS.mid_step (y : PS) (j : Nat) : { (y.mid j) with x := fun i => if i = j then ((y.mid j).x j).go 1 else (y.mid j).x i } = y.mid (j + 1) := by
  show PS.mk _ _ _ _ = PS.mk _ _ _ _
  congr 1
  funext i
  by_cases hi : i = j
  · subst hi
    rw [if_pos rfl, if_pos (by omega), PS.mid_x]
  · rw [if_neg hi]
    show (if i < j then y.tick.x i else if i = 0 then (y.x 0).bend y.bent else y.x i) = if i < j + 1 then y.tick.x i else if i = 0 then (y.x 0).bend y.bent else y.x i
    by_cases hl : i < j
    · rw [if_pos hl, if_pos (show i < j + 1 by omega)]
    · rw [if_neg hl, if_neg (show ¬ i < j + 1 by omega)]
theorem PS.mid_full (y : PS) : PS.same6 (y.mid 6) y.tick := ⟨fun _ hj => if_pos hj, rfl, rfl, rfl⟩
theorem PS.mid_ok {y : PS} (h : y.Good) (j i : Nat) (hi : i < 6) : ((y.mid j).x i).Ok := by
  show CS.Ok (if i < j then y.tick.x i else if i = 0 then (y.x 0).bend y.bent else y.x i)
  split
  · exact (PS.tick_good h).ok.x i hi
  · split
    · exact CS.bend_ok (h.ok.x 0 (by omega)) _
    · exact h.ok.x i hi

set_option maxRecDepth 100000 in
set_option maxHeartbeats 4000000 in
theorem RGo_P (n : Nat) (g : Nat) (c b : Nat → Nat) (y : PS) (w : World) (h : RP w g c b y) (hy : y.Good) (hn : n ≤ 65536) : Calls Try.prog 96 #[.pointer (some ⟨g, 0, none⟩), .int .i64 (n : Int)] w fun e w' =>
    e = .returned (.tuple #[]) ∧ RP w' g c b (y.adv n) ∧ Upd (OwnP g c b) w w' := by
  have HG := Lib.hid h
  have HY := Lib.hid hy
  clear h hy
  go_enter Try.func96, Try.ntmps96
  go_wp2_with fail
  go_loopw [4] (fun i wr => ∃ k : Nat, k ≤ n ∧ i = .int .i64 (k : Int) ∧ Hid (RP wr g c b (y.adv k)) ∧ Hid (Upd (OwnP g c b) w wr)) (fun i _ => n - (intOf i).toNat)
  case atStart => exact ⟨0, by omega, rfl, HG, Lib.hid (Upd.refl _ _)⟩
  case round =>
    clear HG
    obtain ⟨k, hk, rfl, HG, HU⟩ := hrel
    by_cases hlt : k < n
    · have hk6 : (k : Int) < 65536 := by omega
      have hkn : (k : Int) < (n : Int) := by omega
      have HYK := Lib.hid (PS.adv_good HY.out k)
      have HT : Hid (y.adv (k + 1) = (y.adv k).tick) := Lib.hid rfl
      obtain ⟨yk, hyk⟩ : ∃ z, z = y.adv k := ⟨_, rfl⟩
      have HYE : Hid (yk.tick = y.adv (k + 1)) := Lib.hid (by rw [hyk]; rfl)
      rw [← hyk] at HG HYK
      clear hyk HT
      have r0 : ∀ d os, (grow (redrawn wr d) os).cell? ⟨g, 0, none⟩ = some (.pointer (some ⟨c 0, 0, none⟩)) := HG.out.g.regrown 0 (pz_get (p := fun i => ptr (c i)) (show 0 < 6 by omega))
      go_wp2_with fail
      refine region_below_tail 9 (by kernel_rfl) (by kernel_rfl) ?_
      simp only [List.take_succ_cons, List.take_zero, List.drop_succ_cons, List.drop_zero]
      repeat (go_big_quiet_step (((go_at_call 117; exact Calls.regrown_of (RBent_P g c b yk _ (HG.out.below (below_regrown _ _ _)) HYK.out.ok)))))
      refine wpQuiet_nil ?_
      intro w1 hw'
      have hb : Below wr.heap.size wr w1 := below_of_regrown hw'
      clear hw'
      have HG1 := Lib.hid (HG.out.below hb)
      have HU1 : Hid (Upd (OwnP g c b) w w1) := Lib.hid (HU.out.trans (Upd.of_below (S := OwnP g c b) hb) fun _ _ h => h)
      clear hb r0 HG HU
      have hc0 := HG1.out.x 0 (by omega)
      have c2 : w1.cell? ⟨c 0, 2, none⟩ = some (.int .i64 (yk.x 0).be) := hc0.d.cell 2 rfl
      have f2 := hc0.d.frozen 2
      have hbb := PS.bent_bd HYK.out.ok
      have hu2 : Upd (· = c 0) w1 (w1.setCell ⟨c 0, 2, none⟩ (.int .i64 yk.bent)) := (Upd.refl (· = c 0) w1).here _
      have hne : b 0 ≠ c 0 := hc0.g.ne_ hc0.d (by decide)
      have hR2 : RC (w1.setCell ⟨c 0, 2, none⟩ (.int .i64 yk.bent)) (c 0) (b 0) ((yk.x 0).bend yk.bent) := ⟨(hc0.d.set 2 (.int .i64 yk.bent)).of_eq (by
        show _ = CS.q { (yk.x 0) with be := holdW yk.bent } (b 0)
        rw [holdW_id hbb]
        rfl), hc0.g.upd hu2 hne⟩
      have HG2 : Hid (RP (w1.setCell ⟨c 0, 2, none⟩ (.int .i64 yk.bent)) g c b (yk.mid 0)) := Lib.hid ((HG1.out.one (i := 0) (by omega) (hu2.mono fun _ _ h => .inl h) hR2).same6 ⟨fun j _ => by
        show (if j = 0 then (yk.x 0).bend yk.bent else yk.x j) = if j < 0 then yk.tick.x j else if j = 0 then (yk.x 0).bend yk.bent else yk.x j
        rw [if_neg (show ¬ j < 0 by omega)], rfl, rfl, rfl⟩)
      have HU2 : Hid (Upd (OwnP g c b) w (w1.setCell ⟨c 0, 2, none⟩ (.int .i64 yk.bent))) := Lib.hid (HU1.out.trans hu2 fun x _ h => .inr ⟨0, by omega, .inl h⟩)
      clear hc0 hu2 hne hR2 hbb HG1 HU1
      go_wp2_with fail
      clear c2 f2
      generalize w1.setCell _ _ = w2 at *
      go_loopw [5] (fun i ws => ∃ j : Nat, j ≤ 6 ∧ i = .int .i64 (j : Int) ∧ Hid (RP ws g c b (yk.mid j)) ∧ Hid (Upd (OwnP g c b) w ws)) (fun i _ => 6 - (intOf i).toNat)
      case atStart => exact ⟨0, by omega, rfl, HG2, HU2⟩
      case round =>
        clear HG2 HU2
        obtain ⟨j, hj, rfl, HG, HU⟩ := hrel
        by_cases hjt : j < 6
        · have hj0 : (0 : Int) ≤ (j : Int) := by omega
          have hj6 : (j : Int) < 6 := by omega
          have cj : wr.cell? ⟨g, j, none⟩ = some (.pointer (some ⟨c j, 0, none⟩)) := HG.out.g.cell j (pz_get (p := fun i => ptr (c i)) (by omega))
          have HPJ := Lib.hid (HG.out.x j (by omega))
          have HOK := Lib.hid (PS.mid_ok HYK.out j j (by omega))
          go_wp2_with fail
          refine (QGo_S (c j) (b j) _ 1 wr HPJ.out HOK.out (by omega)).mono ?_
          rintro e w3 ⟨rfl, hP3, hU3⟩
          have hG3 := HG.out.one (i := j) (by omega) hU3 hP3
          rw [PS.mid_step yk j] at hG3
          have HG3 := Lib.hid hG3
          have HU3 : Hid (Upd (OwnP g c b) w w3) := Lib.hid (HU.out.trans hU3 fun x _ h => .inr ⟨j, by omega, h⟩)
          clear hG3 hP3 hU3 HPJ HOK HG HU cj
          go_wp2
          go_roundw
          case rel => exact ⟨j + 1, by omega, by go_num, HG3, HU3⟩
          case measure => simp [intOf]; omega
        · obtain rfl : j = 6 := by omega
          have HF : Hid (RP wr g c b yk.tick) := Lib.hid (HG.out.same6 (PS.mid_full yk))
          go_wp2
          go_roundw
          case rel => exact ⟨k + 1, by omega, by go_num, (by rw [← HYE.out]; exact HF), HU⟩
          case measure => simp [intOf]; omega
    · obtain rfl : k = n := by omega
      have hkk : ¬ (k : Int) < (k : Int) := by omega
      go_wp2
      go_end0
      exact ⟨rfl, HG.out, HU.out⟩
end Go.Proofs.Ytgkbpdcedighcac

/-
  The walks of the reference's player: New, To, Sides. Printed by gen_rplay.py.
-/
namespace Go.Proofs.Ytgkbpdcedighcac
open Go.RowKit Go.Sort NoiseP

structure RSP (w : World) (p g : Nat) (c b : Nat → Nat) (y : PS) (at_ k : Nat) : Prop where
  p : At w p 77 [.pointer (some ⟨g, 0, none⟩), .int .i64 (at_ : Int), .int .i64 (k : Int)]
  g : RP w g c b y
theorem rsp_own {w : World} {p g : Nat} {c b : Nat → Nat} {y : PS} {cs : List Value} (hA : At w p 77 cs) (hG : RP w g c b y) (h : OwnP g c b p) : False := by
  rcases h with h | ⟨i, hi, h | h⟩
  · exact hA.ne_ hG.g (by decide) h
  · exact hA.ne_ (hG.x i hi).d (by decide) h
  · exact hA.ne_ (hG.x i hi).g (by decide) h
theorem RSP.below {w w' : World} {p g : Nat} {c b : Nat → Nat} {y : PS} {at_ k : Nat} (h : RSP w p g c b y at_ k) (hb : Below w.heap.size w w') : RSP w' p g c b y at_ k := ⟨h.p.below hb h.p.lt, h.g.below hb⟩
theorem RSP.own_lt {w : World} {p g : Nat} {c b : Nat → Nat} {y : PS} {at_ k : Nat} (h : RSP w p g c b y at_ k) {x : Nat} (hx : SOwn p g c b x) : x < w.heap.size := by
  rcases hx with rfl | hx
  · exact h.p.lt
  · exact h.g.own_lt hx
theorem RSP.upd {w w' : World} {p g : Nat} {c b : Nat → Nat} {y : PS} {at_ k : Nat} {S : Nat → Prop} (h : RSP w p g c b y at_ k) (hu : Upd S w w') (hS : ∀ x, SOwn p g c b x → ¬ S x) : RSP w' p g c b y at_ k :=
  ⟨h.p.upd hu (hS _ (.inl rfl)), h.g.upd hu fun x hx => hS x (.inr hx)⟩

theorem RSNew_any (w : World) : Calls Try.prog 47 #[] w fun e w' => ∃ p g c b, e = .returned (.pointer (some ⟨p, 0, none⟩)) ∧ RSP w' p g c b PS.new 0 0 ∧ (∀ k, SOwn p g c b k → w.heap.size ≤ k) ∧ Below w.heap.size w w' := by
  go_enter Try.func47, Try.ntmps47
  go_wp2_with fail
  refine (RPNew_any w).mono ?_
  rintro e w1 ⟨g, c, b, rfl, hG, hg, hb⟩
  have HG := Lib.hid hG
  have HE := Lib.hid hg
  have HB := Lib.hid hb
  clear hG hg hb
  go_wp2
  go_ret
  have hA : At (w1.alloc (.cells #[.pointer (some ⟨g, 0, none⟩), .int .i64 0, .int .i64 0] 77)) w1.heap.size 77 [.pointer (some ⟨g, 0, none⟩), .int .i64 0, .int .i64 0] := At.new w1 _ _
  refine ⟨w1.heap.size, g, c, b, rfl, ⟨hA, HG.out.below ((Below.refl _ _).alloc (Nat.le_refl _) _)⟩, ?_, HB.out.alloc HB.out.size _⟩
  rintro k (rfl | h)
  · exact HB.out.size
  · exact HE.out k h

set_option maxRecDepth 100000 in
set_option maxHeartbeats 8000000 in
theorem RSides_P (p h : Nat) (d q : Nat → Nat) (y : PS) (at_ K : Nat) (w : World) (hS : RSP w p h d q y at_ K) (hy : y.Ok) : Calls Try.prog 52 #[.pointer (some ⟨p, 0, none⟩)] w fun e w' => e = .returned (.tuple #[.int .i64 y.left, .int .i64 y.right]) ∧ Below w.heap.size w w' := by
  have HY := Lib.hid hy
  have HR4 := Lib.hid hS
  have HB4 : Hid (Below w.heap.size w w) := Lib.hid (Below.refl _ _)
  clear hS hy
  go_enter Try.func52, Try.ntmps52
  go_wp2_with fail
  go_loopw [4, 5, 6] (fun u v i wr => ∃ k : Nat, k ≤ 6 ∧ i = .int .i64 k ∧ Hid (u = .int .i64 (sumZ (heard y.vo fun v => v.l (y.mn / 16)) k)) ∧ Hid (v = .int .i64 (sumZ (heard y.vo fun v => v.r (y.mn % 16)) k)) ∧ Hid (RSP wr p h d q y at_ K) ∧ Hid (Below w.heap.size w wr)) (fun _ _ i _ => 6 - (intOf i).toNat)
  case atStart => exact ⟨0, by omega, rfl, Lib.hid rfl, Lib.hid rfl, HR4, HB4⟩
  case round =>
    clear HR4 HB4
    obtain ⟨k, hk, rfl, HU, HV, HR, HB⟩ := hrel
    obtain rfl := HU.out
    obtain rfl := HV.out
    clear HU HV
    by_cases hlt : k < 6
    · have hbd1 := sumZ_bd (heard y.vo fun v => v.l (y.mn / 16)) k fun i _ => by
        unfold heard
        split
        · exact sideZ_bd _ _ _ _
        · omega
      have hbd2 := sumZ_bd (heard y.vo fun v => v.r (y.mn % 16)) k fun i _ => by
        unfold heard
        split
        · exact sideZ_bd _ _ _ _
        · omega
      have HS1 : Hid (sumZ (heard y.vo fun v => v.l (y.mn / 16)) (k + 1) = sumZ (heard y.vo fun v => v.l (y.mn / 16)) k + (if kept (y.vo k) then (y.vo k).l (y.mn / 16) else 0)) := Lib.hid rfl
      have HS2 : Hid (sumZ (heard y.vo fun v => v.r (y.mn % 16)) (k + 1) = sumZ (heard y.vo fun v => v.r (y.mn % 16)) k + (if kept (y.vo k) then (y.vo k).r (y.mn % 16) else 0)) := Lib.hid rfl
      generalize hs1 : sumZ (heard y.vo fun v => v.l (y.mn / 16)) k = sm1 at *
      generalize hs2 : sumZ (heard y.vo fun v => v.r (y.mn % 16)) k = sm2 at *
      clear hs1 hs2
      have hvo := RVoice_P k h d q y wr HR.out.g HY.out hlt
      have p0w := HR.out.p.cell 0 rfl
      have hvok := PS.vo_ok HY.out k hlt
      have hmn := HY.out.mn
      generalize hvv : y.vo k = vk at *
      obtain ⟨lv, vo, le, ri⟩ := vk
      obtain ⟨o1, o2, o3, o4⟩ := hvok
      rw [show (Vo.mk lv vo le ri).cs.toArray = #[.int .u8 (lv : Int), .int .u8 (vo : Int), .int .u8 (le : Int), .int .u8 (ri : Int)] from rfl] at hvo
      replace HS1 : Hid (sumZ (heard y.vo fun v => v.l (y.mn / 16)) (k + 1) = sm1 + (if kept ⟨lv, vo, le, ri⟩ then sideZ lv vo le (y.mn / 16) else 0)) := HS1
      replace HS2 : Hid (sumZ (heard y.vo fun v => v.r (y.mn % 16)) (k + 1) = sm2 + (if kept ⟨lv, vo, le, ri⟩ then sideZ lv vo ri (y.mn % 16) else 0)) := HS2
      have HVV := Lib.hid hvv
      clear hvv
      by_cases hkp : kept ⟨lv, vo, le, ri⟩ = true
      · rw [if_pos hkp] at HS1 HS2
        have h3 : (((vo : Int) == 0) = false) ∨ (((vo : Int) == 0) = true ∧ ((le : Int) == 0) = false) ∨ (((vo : Int) == 0) = true ∧ ((le : Int) == 0) = true ∧ ((ri : Int) == 0) = false) := by
          unfold kept at hkp
          simp only [Bool.or_eq_true, decide_eq_true_eq] at hkp
          simp only [beq_iff_eq, beq_eq_false_iff_ne]
          omega
        have HKP := Lib.hid hkp
        clear hkp
        have m1 : (y.mn : Int).tdiv 16 = ((y.mn / 16 : Nat) : Int) := by rw [Int.tdiv_eq_ediv_of_nonneg (by omega)]; rfl
        have m2 : (y.mn : Int).tmod 16 = ((y.mn % 16 : Nat) : Int) := by rw [Int.tmod_eq_emod_of_nonneg (by omega)]; rfl
        have n1 : y.mn / 16 < 256 := by omega
        have n2 : y.mn % 16 < 256 := by omega
        have z1 := sideZ_bd lv vo le (y.mn / 16)
        have z2 := sideZ_bd lv vo ri (y.mn % 16)
        obtain ⟨ml, hml⟩ : ∃ x, x = y.mn / 16 := ⟨_, rfl⟩
        obtain ⟨mr, hmr⟩ : ∃ x, x = y.mn % 16 := ⟨_, rfl⟩
        rw [← hml] at m1 n1 z1 HS1
        rw [← hmr] at m2 n2 z2 HS2
        have HML := Lib.hid hml
        have HMR := Lib.hid hmr
        clear hml hmr
        rcases h3 with q1 | ⟨q1, q2⟩ | ⟨q1, q2, q3⟩
        all_goals
          go_wp2_with fail
          refine hvo.mono ?_
          rintro e w5 ⟨rfl, hb5⟩
          have hR5 := HR.out.below hb5
          have hB5 := step_below HB.out hb5
          go_wp2_with fail
          refine allocs1 ?_
          intro w6 hA6 hb6 _
          have hR6 := hR5.below hb6
          have hB6 := step_below hB5 hb6
          clear hb5 hb6 hvo p0w hR5 hB5 HR HB
          have a0 := hA6.regrown 0 rfl
          have a1 := hA6.regrown 1 rfl
          have a2 := hA6.regrown 2 rfl
          have p0 := hR6.p.regrown 0 rfl
          have a7 := hR6.g.g.regrown 7 (v := .int .u8 (y.mn : Int)) rfl
          have k1 := fun d os => Calls.regrown_of (Side_any lv vo le ml (grow (redrawn w6 d) os) o1 o2 o3 n1)
          generalize sideZ lv vo le ml = sd1 at *
          refine wp_region_quiet_below (by kernel_rfl) (by kernel_rfl) ?_
          repeat (go_big_quiet_step (first | (go_at_call 29; with_reducible exact k1 _ _)))
          refine wpQuiet_nil ?_
          intro w7 hw'
          have hb7 := below_of_regrown hw'
          have hA7 := hA6.below hb7 hA6.lt
          have hR7 := hR6.below hb7
          have hB7 := step_below hB6 hb7
          clear hw' hb7 a0 a1 a2 a7 p0 k1 hA6 hR6 hB6
          have a0 := hA7.regrown 0 rfl
          have a1 := hA7.regrown 1 rfl
          have a3 := hA7.regrown 3 rfl
          have p0 := hR7.p.regrown 0 rfl
          have a7 := hR7.g.g.regrown 7 (v := .int .u8 (y.mn : Int)) rfl
          have k2 := fun d os => Calls.regrown_of (Side_any lv vo ri mr (grow (redrawn w7 d) os) o1 o2 o4 n2)
          generalize sideZ lv vo ri mr = sd2 at *
          go_wp2_with fail
          refine wp_region_quiet_below (by kernel_rfl) (by kernel_rfl) ?_
          repeat (go_big_quiet_step (first | (go_at_call 29; with_reducible exact k2 _ _)))
          refine wpQuiet_nil ?_
          intro w8 hw'
          have hb8 := below_of_regrown hw'
          have HR8 := Lib.hid (hR7.below hb8)
          have HB8 := Lib.hid (step_below hB7 hb8)
          clear hw' hb8 a0 a1 a3 a7 p0 k2 hA7 hR7 hB7
          go_wp2
          go_roundw
          case rel => exact ⟨k + 1, by omega, by go_num, Lib.hid (by rw [← HML.out, HS1.out]), Lib.hid (by rw [← HMR.out, HS2.out]), HR8, HB8⟩
          case measure => simp [intOf]; omega
      · rw [if_neg hkp, Int.add_zero] at HS1 HS2
        have h3 : ((vo : Int) == 0) = true ∧ ((le : Int) == 0) = true ∧ ((ri : Int) == 0) = true := by
          unfold kept at hkp
          simp only [Bool.or_eq_true, decide_eq_true_eq] at hkp
          simp only [beq_iff_eq]
          omega
        obtain ⟨q1, q2, q3⟩ := h3
        clear hkp
        go_wp2_with fail
        refine hvo.mono ?_
        rintro e w5 ⟨rfl, hb5⟩
        have HR5 := Lib.hid (HR.out.below hb5)
        have HB5 := Lib.hid (step_below HB.out hb5)
        clear hb5 hvo p0w HR HB
        have hbn : Below w5.heap.size w5 (w5.alloc (.cells #[.int .u8 (lv : Int), .int .u8 (vo : Int), .int .u8 (le : Int), .int .u8 (ri : Int)] 42)) := (Below.refl _ w5).alloc (Nat.le_refl _) _
        have HR6 := Lib.hid (HR5.out.below hbn)
        have HB6 := Lib.hid (step_below HB5.out hbn)
        clear hbn HR5 HB5
        go_wp2
        go_roundw
        case rel => exact ⟨k + 1, by omega, by go_num, Lib.hid (by rw [HS1.out]), Lib.hid (by rw [HS2.out]), HR6, HB6⟩
        case measure => simp [intOf]; omega
    · obtain rfl : k = 6 := by omega
      have HL : Hid (y.left = sumZ (heard y.vo fun v => v.l (y.mn / 16)) 6) := Lib.hid rfl
      have HRR : Hid (y.right = sumZ (heard y.vo fun v => v.r (y.mn % 16)) 6) := Lib.hid rfl
      generalize hs1 : sumZ (heard y.vo fun v => v.l (y.mn / 16)) 6 = sm1 at *
      generalize hs2 : sumZ (heard y.vo fun v => v.r (y.mn % 16)) 6 = sm2 at *
      clear hs1 hs2
      go_wp2
      go_ret2
      exact ⟨by rw [HL.out, HRR.out]; rfl, HB.out⟩

set_option maxRecDepth 100000 in
set_option maxHeartbeats 8000000 in
theorem RTo_P (st : Int) (p g : Nat) (c b : Nat → Nat) (y : PS) (at_ : Nat) (w : World) (h : RSP w p g c b y at_ (at_ / 6)) (hy : y.Good) (ha : at_ ≤ 60000) (hst : st ≤ 60000) : Calls Try.prog 50 #[.pointer (some ⟨p, 0, none⟩), .int .i64 st] w fun e w' =>
    e = .returned (.tuple #[]) ∧ RSP w' p g c b (y.adv (toA at_ st / 6 - at_ / 6)) (toA at_ st) (toA at_ st / 6) ∧ Upd (SOwn p g c b) w w' := by
  have HA := Lib.hid h.p
  have HG := Lib.hid h.g
  have HY := Lib.hid hy
  have c0 := h.p.cell 0 rfl
  have c1 := h.p.cell 1 rfl
  have c2 := h.p.cell 2 rfl
  have f1 := h.p.frozen 1
  have f2 := h.p.frozen 2
  have HS := Lib.hid h
  have hbig : ¬ (1073741824 : Int) < st := by omega
  clear h hy
  by_cases g1 : st < at_
  · have HT : Hid (toA at_ st = at_) := Lib.hid (if_pos g1)
    rw [HT.out]
    go_enter Try.func50, Try.ntmps50
    go_wp2
    (try simp only [Exit.inBlock, Exit.then])
    refine bodyPost_ret (results_none rfl _ _ _) rfl ?_
    exact ⟨rfl, ⟨HS.out.p, by first | exact HS.out.g | (rw [Nat.sub_self]; exact HS.out.g)⟩, Upd.refl _ _⟩
  · obtain ⟨A, rfl⟩ : ∃ A : Nat, st = A := ⟨st.toNat, by omega⟩
    have HT : Hid (toA at_ (A : Int) = A) := Lib.hid (by unfold toA; rw [if_neg g1, if_neg hbig]; exact Int.toNat_natCast A)
    have hge : ¬ (A : Int) < (at_ : Int) := by omega
    obtain ⟨q, hq⟩ : ∃ q : Nat, q = A / 6 := ⟨_, rfl⟩
    obtain ⟨k0, hk0⟩ : ∃ k : Nat, k = at_ / 6 := ⟨_, rfl⟩
    have hAq : (A : Int) / 6 = (q : Int) := by omega
    have hkq : k0 ≤ q := by omega
    have hq9 : q ≤ 10000 := by omega
    obtain ⟨D, hD⟩ : ∃ D : Nat, D = q - k0 := ⟨_, rfl⟩
    have hDq : (q : Int) - (k0 : Int) = (D : Int) := by omega
    have hD9 : D ≤ 10000 := by omega
    rw [HT.out, ← hq, ← hk0, ← hD]
    rw [← hk0] at c2 HA HS
    clear hD hq hk0 HS g1 hbig
    go_enter Try.func50, Try.ntmps50
    go_wp2_with fail
    have hU1 : Upd (· = p) w ((w.setCell ⟨p, 1, none⟩ (.int .i64 A)).setCell ⟨p, 2, none⟩ (.int .i64 q)) := ((Upd.refl (· = p) w).here _).here _
    have HA1 : Hid (At ((w.setCell ⟨p, 1, none⟩ (.int .i64 A)).setCell ⟨p, 2, none⟩ (.int .i64 q)) p 77 [.pointer (some ⟨g, 0, none⟩), .int .i64 (A : Int), .int .i64 (q : Int)]) := Lib.hid (((HA.out.set 1 (.int .i64 (A : Int))).set 2 (.int .i64 (q : Int))).of_eq rfl)
    have HG1 : Hid (RP ((w.setCell ⟨p, 1, none⟩ (.int .i64 A)).setCell ⟨p, 2, none⟩ (.int .i64 q)) g c b (y.adv (D - D))) := Lib.hid (by rw [Nat.sub_self]; exact HG.out.upd hU1 (fun x hx h => rsp_own HA.out HG.out (h ▸ hx)))
    have HU1 : Hid (Upd (SOwn p g c b) w ((w.setCell ⟨p, 1, none⟩ (.int .i64 A)).setCell ⟨p, 2, none⟩ (.int .i64 q))) := Lib.hid (hU1.mono fun _ _ h => .inl h)
    clear hU1 HA HG c0 c1 c2 f1 f2
    generalize (w.setCell _ _).setCell _ _ = w1 at *
    go_loopw [4] (fun i wr => ∃ r : Nat, r ≤ D ∧ i = .int .i64 (r : Int) ∧ Hid (At wr p 77 [.pointer (some ⟨g, 0, none⟩), .int .i64 (A : Int), .int .i64 (q : Int)]) ∧ Hid (RP wr g c b (y.adv (D - r))) ∧ Hid (Upd (SOwn p g c b) w wr)) (fun i _ => (intOf i).toNat)
    case atStart => exact ⟨D, Nat.le_refl _, rfl, HA1, HG1, HU1⟩
    case round =>
      clear HA1 HG1 HU1
      obtain ⟨r, hr, rfl, HA, HG, HU⟩ := hrel
      have c0 := HA.out.cell 0 rfl
      by_cases hr0 : 0 < r
      · have hr0' : (0 : Int) < (r : Int) := by omega
        have hr6 : (r : Int) ≤ 60000 := by omega
        have hrr : (r : Int) - (r : Int) = 0 := by omega
        go_wp2_with fail
        refine (RGo_P r g c b _ wr HG.out (PS.adv_good HY.out _) (by omega)).mono ?_
        rintro e w2 ⟨rfl, hG2, hU2⟩
        rw [← PS.adv_add, show D - r + r = D - 0 by omega] at hG2
        have HA2 := Lib.hid (HA.out.upd hU2 (fun h => rsp_own HA.out HG.out h))
        have HU2 : Hid (Upd (SOwn p g c b) w w2) := Lib.hid (HU.out.trans hU2 fun _ _ h => .inr h)
        have HG2 := Lib.hid hG2
        clear hG2 hU2 HA HG HU c0
        go_wp2
        go_roundw
        case rel => exact ⟨0, by omega, by go_num, HA2, HG2, HU2⟩
        case measure => simp [intOf]; omega
      · obtain rfl : r = 0 := by omega
        rw [show ((0 : Nat) : Int) = 0 from rfl]
        go_wp2
        go_end0
        exact ⟨rfl, ⟨HA.out, HG.out⟩, HU.out⟩
end Go.Proofs.Ytgkbpdcedighcac

