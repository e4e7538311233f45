import Derived.Test.YtgkbpdcedighcacWaveO
import Derived.Test.YtgkbpdcedighcacWaveS
import Derived.Test.YtgkbpdcedighcacPsg
import Derived.Test.YtgkbpdcedighcacPsgV
import Derived.ScopeJumps
import Derived.Scope
import Derived.Test.YtgkbpdcedighcacMixO
import Derived.Test.YtgkbpdcedighcacRowL
import Derived.WalkMore
/-
  Plain: six channels go on, clock by clock; all the clocks till a step at once.
-/
namespace Go.Proofs.Ytgkbpdcedighcac
open Go.RowKit Go.Sort NoiseP

theorem goW_sum (pl : Nat) (lf p a b : Int) (hp : 1 ≤ p) (hb : 0 ≤ b) :
    goPl (goPl pl lf p a) (goLf lf p a) p b = goPl pl lf p (a + b) ∧ goLf (goLf lf p a) p b = goLf lf p (a + b) := by
  by_cases h1 : a < lf
  · rw [show goPl pl lf p a = pl from if_pos h1, show goLf lf p a = lf - a from if_pos h1]
    unfold goPl goLf
    by_cases h2 : b < lf - a
    · rw [if_pos h2, if_pos h2, if_pos (by omega), if_pos (by omega)]
      exact ⟨rfl, by omega⟩
    · rw [if_neg h2, if_neg h2, if_neg (by omega), if_neg (by omega), show b - (lf - a) = a + b - lf by omega]
      exact ⟨rfl, rfl⟩
  · obtain ⟨m, hm⟩ : ∃ m, m = a - lf := ⟨_, rfl⟩
    have hm0 : 0 ≤ m := by omega
    have e1 : goPl pl lf p a = ((pl : Int) + 1 + m / p).toNat % 32 := by rw [goPl, if_neg h1, hm]
    have e2 : goLf lf p a = p - m % p := by rw [goLf, if_neg h1, hm]
    have e3 : goPl pl lf p (a + b) = ((pl : Int) + 1 + (m + b) / p).toNat % 32 := by rw [goPl, if_neg (by omega), show a + b - lf = m + b by omega]
    have e4 : goLf lf p (a + b) = p - (m + b) % p := by rw [goLf, if_neg (by omega), show a + b - lf = m + b by omega]
    rw [e1, e2, e3, e4]
    obtain ⟨q, hq⟩ : ∃ q, q = m / p := ⟨_, rfl⟩
    obtain ⟨r, hr⟩ : ∃ r, r = m % p := ⟨_, rfl⟩
    have hd := Int.mul_ediv_add_emod m p
    have hr0 := Int.emod_nonneg m (show p ≠ 0 by omega)
    have hr1 := Int.emod_lt_of_pos m (show 0 < p by omega)
    have hq0 : 0 ≤ q := hq ▸ Int.ediv_nonneg hm0 (by omega)
    rw [← hq, ← hr] at hd
    rw [← hr] at hr0 hr1
    rw [← hq, ← hr]
    by_cases h2 : b < p - r
    · have f1 : (m + b) / p = q := by
        rw [show m + b = (r + b) + p * q by omega, Int.add_mul_ediv_left _ _ (by omega), Int.ediv_eq_zero_of_lt (by omega) (by omega)]; omega
      have f2 : (m + b) % p = r + b := by
        rw [show m + b = (r + b) + p * q by omega, Int.add_mul_emod_self_left, Int.emod_eq_of_lt (by omega) (by omega)]
      rw [goPl, if_pos h2, goLf, if_pos h2, f1, f2]
      exact ⟨rfl, by omega⟩
    · obtain ⟨t, ht⟩ : ∃ t, t = b - (p - r) := ⟨_, rfl⟩
      have ht0 : 0 ≤ t := by omega
      have e5 : m + b = t + p * (q + 1) := by rw [Int.mul_add]; omega
      have f1 : (m + b) / p = t / p + (q + 1) := by rw [e5, Int.add_mul_ediv_left _ _ (by omega)]
      have f2 : (m + b) % p = t % p := by rw [e5, Int.add_mul_emod_self_left]
      have hu : 0 ≤ t / p := Int.ediv_nonneg ht0 (by omega)
      rw [goPl, if_neg h2, goLf, if_neg h2, f1, f2, ← ht]
      generalize t / p = u at *
      exact ⟨by omega, rfl⟩

theorem CS.goAdd (x : CS) (a b : Int) (hb : 0 ≤ b) : (x.go a).go b = x.go (a + b) := by
  have hp := perI_pos x.f
  have h1 := goW_sum x.pl x.lf (perW x.fr x.be) a b (perW_pos _ _).1 hb
  have h2 := NoiseP.go_add x.s x.l (perI x.f) a b hp.1 hb
  unfold CS.go
  simp only
  congr 1
  · unfold wgPl wgLf
    split
    · exact h1.1
    · rfl
  · unfold wgLf
    split
    · exact h1.2
    · rfl
  · unfold nsS nsL
    cases x.ny
    · rfl
    · exact h2.1
  · unfold nsL
    cases x.ny
    · rfl
    · exact h2.2

theorem CS.goZero (x : CS) (h : x.Ok) : x.go 0 = x := by
  obtain ⟨fr, be, co, ba, to, ny, wv, pl, lf, s, l, f⟩ := x
  have h1 : 1 ≤ lf := h.lf.1
  have h2 : 1 ≤ l := h.l.1
  unfold CS.go wgPl wgLf nsS nsL goPl goLf goS goL
  simp only [if_pos (show (0 : Int) < lf by omega), if_pos (show (0 : Int) < l by omega), Int.sub_zero]
  simp
theorem CS.go_keeps (x : CS) (n : Int) : (x.go n).fr = x.fr ∧ (x.go n).be = x.be ∧ (x.go n).co = x.co ∧ (x.go n).ba = x.ba ∧ (x.go n).to = x.to ∧ (x.go n).ny = x.ny ∧ (x.go n).wv = x.wv ∧ (x.go n).f = x.f := ⟨rfl, rfl, rfl, rfl, rfl, rfl, rfl, rfl⟩
theorem CS.bend_go (x : CS) (d n : Int) : ((x.bend d).go n).bend d = (x.bend d).go n := by
  obtain ⟨fr, be, co, ba, to, ny, wv, pl, lf, s, l, f⟩ := x
  rfl
def CS.lv (x : CS) : Int := lvW x.co x.to x.ny x.wv x.pl x.s
/-- Ahead of its next step a channel without noise stays as high as it is. -/
theorem CS.lv_go (x : CS) (hn : x.ny = false) (n : Int) (h : n < x.lf) : (x.go n).lv = x.lv := by
  have hp : (x.go n).pl = x.pl := by
    show wgPl x.co x.pl x.lf _ n = x.pl
    unfold wgPl goPl
    by_cases hc : x.co / 64 = 2
    · rw [if_pos hc, if_pos h]
    · rw [if_neg hc]
  unfold CS.lv
  rw [(CS.go_keeps x n).2.2.1, (CS.go_keeps x n).2.2.2.2.1, (CS.go_keeps x n).2.2.2.2.2.1, (CS.go_keeps x n).2.2.2.2.2.2.1, hp, hn]
  rfl
theorem CS.lf_go (x : CS) (n : Int) (h : n < x.lf) : (x.go n).lf = if x.co / 64 = 2 then x.lf - n else x.lf := by
  show wgLf x.co x.lf _ n = _
  unfold wgLf goLf
  by_cases hc : x.co / 64 = 2
  · rw [if_pos hc, if_pos hc, if_pos h]
  · rw [if_neg hc, if_neg hc]

/-- By how much channel 0 is bent. -/
def PS.bent (y : PS) : Int := if (y.x 1).co < 128 then 0 else ((y.x 1).lv - 16) * depT (y.bd % 4)
theorem depT_or (r : Nat) : depT r = 0 ∨ depT r = 1 ∨ depT r = 16 ∨ depT r = 256 := by
  unfold depT
  split
  · exact .inl rfl
  · split
    · exact .inr (.inl rfl)
    · split
      · exact .inr (.inr (.inl rfl))
      · exact .inr (.inr (.inr rfl))
theorem PS.bent_bd {y : PS} (h : y.Ok) : -4096 ≤ y.bent ∧ y.bent ≤ 4096 := by
  have h1 := lvW_nat (y.x 1).co (y.x 1).to (y.x 1).ny (y.x 1).wv (y.x 1).pl (y.x 1).s (h.x 1 (by omega)).to (h.x 1 (by omega)).wv
  unfold PS.bent CS.lv
  split
  · omega
  · rcases depT_or (y.bd % 4) with e | e | e | e <;> rw [e] <;> omega
theorem holdW_id {d : Int} (h : -4096 ≤ d ∧ d ≤ 4096) : holdW d = d := by
  unfold holdW
  rw [if_neg (by omega), if_neg (by omega)]

/-- One clock. -/
def PS.tick (y : PS) : PS := { y with x := fun j => if j = 0 then ((y.x 0).bend y.bent).go 1 else (y.x j).go 1 }
def PS.adv (y : PS) : Nat → PS
  | 0 => y
  | n + 1 => (y.adv n).tick
theorem PS.adv_add (y : PS) (a : Nat) : ∀ b, y.adv (a + b) = (y.adv a).adv b
  | 0 => rfl
  | b + 1 => by show (y.adv (a + b)).tick = ((y.adv a).adv b).tick; rw [PS.adv_add y a b]
/-- What holds of six channels all along: channel 1 has no noise. -/
structure PS.Good (y : PS) : Prop where
  ok : y.Ok
  ny : (y.x 1).ny = false
theorem PS.new_good : PS.new.Good := ⟨PS.new_ok, rfl⟩
theorem PS.tick_good {y : PS} (h : y.Good) : y.tick.Good := by
  refine ⟨⟨fun i hi => ?_, h.ok.ch, h.ok.mn, h.ok.bd⟩, h.ny⟩
  show CS.Ok (if i = 0 then ((y.x 0).bend y.bent).go 1 else (y.x i).go 1)
  split
  · exact CS.go_ok (CS.bend_ok (h.ok.x 0 (by omega)) _) (by omega)
  · exact CS.go_ok (h.ok.x i hi) (by omega)
theorem PS.adv_good {y : PS} (h : y.Good) : ∀ n, (y.adv n).Good
  | 0 => h
  | n + 1 => PS.tick_good (PS.adv_good h n)
theorem PS.wr_good {y : PS} (h : y.Good) (reg : Nat) {v : Nat} (hv : v < 256) : (y.wr reg v).Good := by
  refine ⟨PS.wr_ok h.ok reg hv, ?_⟩
  have hny := h.ny
  unfold PS.wr
  repeat' split
  · exact hny
  · exact hny
  · exact hny
  · next hh =>
    show CS.ny (if 1 = y.ch then _ else y.x 1) = false
    by_cases he : 1 = y.ch
    · rw [if_pos he, ← he]
      unfold CS.wr
      have h7 : ((reg % 16 : Nat) : Int) ≠ 7 := by omega
      repeat' split
      all_goals first | exact hny | omega
    · rw [if_neg he]; exact hny
  · exact hny
theorem PS.adv_one (y : PS) (h : y.Good) (j : Nat) (hj : j ≠ 0) (hj6 : j < 6) : ∀ n : Nat, (y.adv n).x j = (y.x j).go n
  | 0 => (CS.goZero _ (h.ok.x j hj6)).symm
  | n + 1 => by
    show (if j = 0 then _ else ((y.adv n).x j).go 1) = _
    rw [if_neg hj, PS.adv_one y h j hj hj6 n, CS.goAdd _ _ _ (by omega)]
    congr 1
theorem PS.adv_rest (y : PS) : ∀ n, (y.adv n).ch = y.ch ∧ (y.adv n).mn = y.mn ∧ (y.adv n).bd = y.bd
  | 0 => ⟨rfl, rfl, rfl⟩
  | n + 1 => PS.adv_rest y n

/-- Till channel 1 steps the bend is the same. -/
theorem PS.bent_adv (y : PS) (h : y.Good) {n : Nat} (hn : (n : Int) < (y.x 1).lf) : (y.adv n).bent = y.bent := by
  have e := PS.adv_one y h 1 (by omega) (by omega) n
  unfold PS.bent
  rw [e, (PS.adv_rest y n).2.2, CS.lv_go _ h.ny _ hn]
  rfl
/-- All the clocks till then at once. -/
theorem PS.adv_zero (y : PS) (h : y.Good) : ∀ n : Nat, 0 < n → (n : Int) ≤ (y.x 1).lf → (y.adv n).x 0 = ((y.x 0).bend y.bent).go n
  | 1, _, _ => rfl
  | n + 2, _, hl => by
    have ih := PS.adv_zero y h (n + 1) (by omega) (by omega)
    show ((PS.adv y (n + 1)).x 0 |>.bend (PS.adv y (n + 1)).bent).go 1 = _
    rw [PS.bent_adv y h (by omega), ih, CS.bend_go, CS.goAdd _ _ _ (by omega)]
    congr 1

/-- Channels 0 and 1 are k clocks ahead. -/
def PS.two (y : PS) (k : Nat) : PS := { y with x := fun j => if j < 2 then (y.adv k).x j else y.x j }
theorem PS.two_ok {y : PS} (h : y.Good) (k : Nat) : (y.two k).Good := by
  refine ⟨⟨fun i hi => ?_, h.ok.ch, h.ok.mn, h.ok.bd⟩, (PS.adv_good h k).ny⟩
  show CS.Ok (if i < 2 then _ else _)
  split
  · exact (PS.adv_good h k).ok.x i hi
  · exact h.ok.x i hi
theorem PS.two_bent (y : PS) (k : Nat) : (y.two k).bent = (y.adv k).bent := by
  unfold PS.bent
  rw [(PS.adv_rest y k).2.2]
  rfl
/-- A stride. -/
def PS.str (y : PS) (n : Int) : PS := { y with x := fun j => if j = 0 then ((y.x 0).bend y.bent).go n else if j = 1 then (y.x 1).go n else y.x j }
theorem PS.two_str (y : PS) (h : y.Good) (k n : Nat) (hn : 0 < n) (hl : (n : Int) ≤ ((y.two k).x 1).lf) : (y.two k).str n = y.two (k + n) := by
  have e0 := PS.adv_zero (y.adv k) (PS.adv_good h k) n hn hl
  have e1 := PS.adv_one (y.adv k) (PS.adv_good h k) 1 (by omega) (by omega) n
  rw [← PS.adv_add] at e0 e1
  unfold PS.str
  rw [PS.two_bent]
  show PS.mk _ _ _ _ = PS.mk _ _ _ _
  congr 1
  funext j
  by_cases h0 : j = 0
  · subst h0; rw [if_pos rfl, if_pos (by omega)]; exact e0.symm
  · rw [if_neg h0]
    by_cases h1 : j = 1
    · subst h1; rw [if_pos rfl, if_pos (by omega)]; exact e1.symm
    · rw [if_neg h1, if_neg (by omega)]
      show (if j < 2 then _ else y.x j) = _
      rw [if_neg (by omega)]

/-- Six states alike. -/
def PS.same6 (y z : PS) : Prop := (∀ j, j < 6 → y.x j = z.x j) ∧ y.ch = z.ch ∧ y.mn = z.mn ∧ y.bd = z.bd
/-- The others have gone on too: those below m. -/
def PS.upto (y : PS) (a m : Nat) : PS := { y with x := fun j => if j < m then (y.adv a).x j else y.x j }
theorem PS.two_upto (y : PS) (a : Nat) : y.two a = y.upto a 2 := rfl
theorem PS.upto_full (y : PS) (a : Nat) : PS.same6 (y.upto a 6) (y.adv a) :=
  ⟨fun _ hj => if_pos hj, (PS.adv_rest y a).1.symm, (PS.adv_rest y a).2.1.symm, (PS.adv_rest y a).2.2.symm⟩
theorem PS.upto_step (y : PS) (h : y.Good) (a m : Nat) (h2 : 2 ≤ m) (h6 : m < 6) : { (y.upto a m) with x := fun j => if j = m then ((y.upto a m).x m).go a else (y.upto a m).x j } = y.upto a (m + 1) := by
  have e := PS.adv_one y h m (by omega) h6 a
  show PS.mk _ _ _ _ = PS.mk _ _ _ _
  congr 1
  funext j
  by_cases hj : j = m
  · subst hj
    rw [if_pos rfl, if_pos (by omega), e]
    show CS.go (if j < j then _ else y.x j) a = _
    rw [if_neg (by omega)]
  · rw [if_neg hj]
    show (if j < m then _ else y.x j) = if j < m + 1 then _ else y.x j
    by_cases hl : j < m
    · rw [if_pos hl, if_pos (by omega)]
    · rw [if_neg hl, if_neg (by omega)]
theorem PS.upto_good {y : PS} (h : y.Good) (a m : Nat) (h2 : 2 ≤ m) : (y.upto a m).Good := by
  refine ⟨⟨fun i hi => ?_, h.ok.ch, h.ok.mn, h.ok.bd⟩, ?_⟩
  · show CS.Ok (if i < m then _ else _)
    split
    · exact (PS.adv_good h a).ok.x i hi
    · exact h.ok.x i hi
  · show CS.ny (if 1 < m then _ else _) = false
    rw [if_pos (by omega)]; exact (PS.adv_good h a).ny
theorem GP.same6 {w : World} {g : Nat} {c b : Nat → Nat} {y z : PS} (h : GP w g c b y) (hs : PS.same6 y z) : GP w g c b z := by
  obtain ⟨h1, h2, h3⟩ := h
  obtain ⟨a1, a2, a3, a4⟩ := hs
  rw [a2, a3, a4] at h1
  exact ⟨h1, fun i hi => (a1 i hi) ▸ h2 i hi, h3⟩
end Go.Proofs.Ytgkbpdcedighcac

/-
  The walks of psg: Bent, stride, Go.
-/
namespace Go.Proofs.Ytgkbpdcedighcac
open Go.RowKit Go.Sort NoiseP

theorem below_drewK {w w' : World} (h : ∃ n, w' = w.drewN n) : Below w.heap.size w w' := by
  obtain ⟨n, rfl⟩ := h
  exact ⟨rfl, rfl, rfl, Nat.le_refl _, fun _ _ => rfl⟩

set_option maxRecDepth 100000 in
set_option maxHeartbeats 2000000 in
theorem Bent_P (g : Nat) (c b : Nat → Nat) (y : PS) (w : World) (h : GP w g c b y) (hy : y.Ok) : Calls Try.prog 135 #[.pointer (some ⟨g, 0, none⟩)] w fun e w' => e = .returned (.int .i64 y.bent) ∧ Below w.heap.size w w' := by
  have HG := Lib.hid h
  have HY := Lib.hid hy
  have h1 := hy.x 1 (by omega)
  have H1 := Lib.hid h1
  have hco := h1.co
  have c1 : w.cell? ⟨g, 1, none⟩ = some (.pointer (some ⟨c 1, 0, none⟩)) := h.g.cell 1 (pz_get (p := fun i => ptr (c i)) (by omega))
  have hlv := lvW_nat (y.x 1).co (y.x 1).to (y.x 1).ny (y.x 1).wv (y.x 1).pl (y.x 1).s h1.to h1.wv
  have hs4 : (y.x 1).s < 4294967296 := by have := h1.s; omega
  have hpl := h1.pl
  have HB : Hid (y.bent = if (y.x 1).co < 128 then 0 else ((y.x 1).lv - 16) * depT (y.bd % 4)) := Lib.hid rfl
  have hdp := depT_or (y.bd % 4)
  have HL : Hid ((y.x 1).lv = lvW (y.x 1).co (y.x 1).to (y.x 1).ny (y.x 1).wv (y.x 1).pl (y.x 1).s) := Lib.hid rfl
  clear h hy h1
  by_cases hon : (y.x 1).co < 128
  · have dn : decide (128 ≤ (y.x 1).co) = false := decide_eq_false (by omega)
    have HB' : Hid (y.bent = 0) := Lib.hid (by rw [HB.out, if_pos hon])
    clear hon HB
    go_enter Try.func135, Try.ntmps135
    go_wp2_with fail
    refine (is_P g c b y w HG.out).mono ?_
    rintro e _ ⟨rfl, rfl⟩
    go_wp2_with fail
    refine (On_any (c 1) (b 1) _ _ _ _ _ _ _ _ _ w (HG.out.x 1 (by omega)).c hco).mono ?_
    rintro e _ ⟨he, rfl⟩
    rw [dn] at he
    subst he
    go_wp2
    (try simp only [Exit.inBlock, Exit.then])
    go_ret
    exact ⟨by rw [HB'.out]; rfl, Below.refl _ _⟩
  · have dn : decide (128 ≤ (y.x 1).co) = true := decide_eq_true (by omega)
    have HB' : Hid (y.bent = ((y.x 1).lv - 16) * depT (y.bd % 4)) := Lib.hid (by rw [HB.out, if_neg hon])
    clear hon HB
    go_enter Try.func135, Try.ntmps135
    go_wp2_with fail
    refine (is_P g c b y w HG.out).mono ?_
    rintro e _ ⟨rfl, rfl⟩
    go_wp2_with fail
    refine (On_any (c 1) (b 1) _ _ _ _ _ _ _ _ _ w (HG.out.x 1 (by omega)).c hco).mono ?_
    rintro e _ ⟨he, rfl⟩
    rw [dn] at he
    subst he
    go_wp2_with fail
    refine (Level_w (c 1) (b 1) _ _ _ _ _ _ _ _ _ w _ _ _ (HG.out.x 1 (by omega)).c (HG.out.x 1 (by omega)).b hco hs4 hpl).mono ?_
    rintro e w2 ⟨rfl, hq2⟩
    have hb2 := below_drewK hq2
    have HB2 := Lib.hid hb2
    have HG2 := Lib.hid (HG.out.below hb2)
    clear hb2 hq2 HG c1
    rw [← HL.out] at hlv ⊢
    generalize (y.x 1).lv = lv at *
    obtain ⟨v, rfl⟩ : ∃ v : Nat, lv = v := ⟨lv.toNat, by omega⟩
    have hw1 : IntKind.i64.wrap (v : Int) = (v : Int) := by rw [IntKind.wrap_i64]; omega
    have hw2 : IntKind.i64.wrap ((v : Int) - 16) = (v : Int) - 16 := by rw [IntKind.wrap_i64]; omega
    go_wp2_with fail
    refine (depth_P g c b y w2 HG2.out HY.out).mono ?_
    rintro e w3 ⟨rfl, hb3⟩
    have HB3 := Lib.hid (step_below HB2.out hb3)
    have hw3 : IntKind.i64.wrap (((v : Int) - 16) * depT (y.bd % 4)) = ((v : Int) - 16) * depT (y.bd % 4) := by
      rw [IntKind.wrap_i64]
      rcases hdp with e | e | e | e <;> rw [e] <;> omega
    clear hb3 hdp hlv
    generalize depT (y.bd % 4) = dp at *
    go_wp2
    go_ret
    exact ⟨by rw [HB'.out]; rfl, HB3.out⟩

set_option maxRecDepth 100000 in
set_option maxHeartbeats 4000000 in
theorem stride_P (n : Nat) (g : Nat) (c b : Nat → Nat) (y : PS) (w : World) (h : GP w g c b y) (hy : y.Ok) (hn : 0 < n ∧ n ≤ 65536) : Calls Try.prog 116 #[.pointer (some ⟨g, 0, none⟩), .int .i64 (n : Int)] w fun e w' =>
    ∃ m : Nat, e = .returned (.int .i64 (m : Int)) ∧ 0 < m ∧ m ≤ n ∧ (m : Int) ≤ (y.x 1).lf ∧ GP w' g c b (y.str m) ∧ Upd (OwnP g c b) w w' := by
  have HG := Lib.hid h
  have HY := Lib.hid hy
  have hlf := (hy.x 1 (by omega)).lf
  obtain ⟨L, hL⟩ : ∃ L : Nat, (y.x 1).lf = L := ⟨(y.x 1).lf.toNat, by omega⟩
  rcases Nat.lt_or_ge L n with hle | hle
  · have hm0 : 0 < L := by omega
    have hmn : L ≤ n := by omega
    have hmax : max (L : Int) 1 = (L : Int) := by omega
    have hmg : 0 ≤ (L : Int) ∧ (L : Int) ≤ 1099511627776 := by omega
    have HML : Hid ((L : Int) ≤ (y.x 1).lf) := Lib.hid (by omega)
    have HL := Lib.hid hL
    have r0 := h.g.regrown 0 (pz_get (p := fun i => ptr (c i)) (show 0 < 6 by omega))
    clear h hy hlf hL
    go_enter Try.func116, Try.ntmps116
    go_wp2_with fail
    refine region_below_tail 7 (by kernel_rfl) (by kernel_rfl) ?_
    simp only [List.take_succ_cons, List.take_zero, List.drop_succ_cons, List.drop_zero]
    repeat (go_big_quiet_step (((go_at_call 135; exact Calls.regrown_of (Bent_P g c b y _ (HG.out.below (below_regrown _ _ _)) HY.out)))))
    refine wpQuiet_nil ?_
    intro w1 hw'
    have hb : Below w.heap.size w w1 := below_of_regrown hw'
    clear hw'
    have HG1 := Lib.hid (HG.out.below hb)
    have HB1 := Lib.hid hb
    clear hb r0
    go_wp2_with fail
    refine (Bend_S (c 0) (b 0) (y.x 0) y.bent w1 (HG1.out.x 0 (by omega))).mono ?_
    rintro e w2 ⟨rfl, hP2, hU2⟩
    have hy2 : CS.Ok ((y.x 0).bend y.bent) := CS.bend_ok (HY.out.x 0 (by omega)) _
    have HG2 := Lib.hid (HG1.out.one (i := 0) (by omega) hU2 hP2)
    have HU2 : Hid (Upd (OwnP g c b) w w2) := Lib.hid ((Upd.of_below HB1.out).trans hU2 fun k _ h => .inr ⟨0, by omega, h⟩)
    have HY2 := Lib.hid hy2
    clear hP2 hU2 hy2 HG1 HB1
    have c1 : w2.cell? ⟨g, 1, none⟩ = some (.pointer (some ⟨c 1, 0, none⟩)) := HG2.out.g.cell 1 (pz_get (p := fun i => ptr (c i)) (by omega))
    have c0 : w2.cell? ⟨g, 0, none⟩ = some (.pointer (some ⟨c 0, 0, none⟩)) := HG2.out.g.cell 0 (pz_get (p := fun i => ptr (c i)) (by omega))
    go_wp2_with fail
    have p1 : PC w2 (c 1) (b 1) (y.x 1) := HG2.out.x 1 (by omega)
    have p0 : PC w2 (c 0) (b 0) ((y.x 0).bend y.bent) := HG2.out.x 0 (by omega)
    have P0 := Lib.hid p0
    refine (Until_any (c 1) (b 1) (y.x 1).fr (y.x 1).be (y.x 1).co (y.x 1).ba (y.x 1).to (y.x 1).ny (y.x 1).wv (y.x 1).pl (y.x 1).lf w2 p1.c).mono ?_
    rintro e _ ⟨he, rfl⟩
    obtain rfl : e = .returned (.int .i64 (L : Int)) := by rw [he, HL.out]
    clear he p1 p0
    go_wp2_with fail
    refine (Go_S (c 0) (b 0) ((y.x 0).bend y.bent) (L : Int) w2 P0.out HY2.out hmg).mono ?_
    rintro e w3 ⟨rfl, hP3, hU3⟩
    have HG3 := Lib.hid (HG2.out.one (i := 0) (by omega) hU3 hP3)
    have HU3 : Hid (Upd (OwnP g c b) w w3) := Lib.hid (HU2.out.trans hU3 fun k _ h => .inr ⟨0, by omega, h⟩)
    clear hP3 hU3 HG2 HU2 c0 c1
    have c1 : w3.cell? ⟨g, 1, none⟩ = some (.pointer (some ⟨c 1, 0, none⟩)) := HG3.out.g.cell 1 (pz_get (p := fun i => ptr (c i)) (by omega))
    go_wp2_with fail
    have p1 : PC w3 (c 1) (b 1) (y.x 1) := HG3.out.x 1 (by omega)
    refine (Go_S (c 1) (b 1) (y.x 1) (L : Int) w3 p1 (HY.out.x 1 (by omega)) hmg).mono ?_
    clear p1
    rintro e w4 ⟨rfl, hP4, hU4⟩
    have HG4 := Lib.hid (HG3.out.one (i := 1) (by omega) hU4 hP4)
    have HU4 : Hid (Upd (OwnP g c b) w w4) := Lib.hid (HU3.out.trans hU4 fun k _ h => .inr ⟨1, by omega, h⟩)
    clear hP4 hU4 HG3 HU3 c1
    have HF : Hid (GP w4 g c b (y.str L)) := Lib.hid (HG4.out.same6 ⟨fun j _ => by
      show (if j = 1 then (y.x 1).go L else if j = 0 then ((y.x 0).bend y.bent).go L else if j = 0 then (y.x 0).bend y.bent else y.x j) = if j = 0 then ((y.x 0).bend y.bent).go L else if j = 1 then (y.x 1).go L else y.x j
      by_cases h0 : j = 0
      · subst h0; rfl
      · by_cases h1 : j = 1
        · subst h1; rfl
        · simp only [if_neg h0, if_neg h1], rfl, rfl, rfl⟩)
    go_wp2
    go_ret
    exact ⟨L, rfl, hm0, hmn, HML.out, HF.out, HU4.out⟩
  · have hm0 : 0 < n := by omega
    have hmn : n ≤ n := by omega
    have hmax : max (L : Int) 1 = (L : Int) := by omega
    have hmg : 0 ≤ (n : Int) ∧ (n : Int) ≤ 1099511627776 := by omega
    have HML : Hid ((n : Int) ≤ (y.x 1).lf) := Lib.hid (by omega)
    have HL := Lib.hid hL
    have r0 := h.g.regrown 0 (pz_get (p := fun i => ptr (c i)) (show 0 < 6 by omega))
    clear h hy hlf hL
    go_enter Try.func116, Try.ntmps116
    go_wp2_with fail
    refine region_below_tail 7 (by kernel_rfl) (by kernel_rfl) ?_
    simp only [List.take_succ_cons, List.take_zero, List.drop_succ_cons, List.drop_zero]
    repeat (go_big_quiet_step (((go_at_call 135; exact Calls.regrown_of (Bent_P g c b y _ (HG.out.below (below_regrown _ _ _)) HY.out)))))
    refine wpQuiet_nil ?_
    intro w1 hw'
    have hb : Below w.heap.size w w1 := below_of_regrown hw'
    clear hw'
    have HG1 := Lib.hid (HG.out.below hb)
    have HB1 := Lib.hid hb
    clear hb r0
    go_wp2_with fail
    refine (Bend_S (c 0) (b 0) (y.x 0) y.bent w1 (HG1.out.x 0 (by omega))).mono ?_
    rintro e w2 ⟨rfl, hP2, hU2⟩
    have hy2 : CS.Ok ((y.x 0).bend y.bent) := CS.bend_ok (HY.out.x 0 (by omega)) _
    have HG2 := Lib.hid (HG1.out.one (i := 0) (by omega) hU2 hP2)
    have HU2 : Hid (Upd (OwnP g c b) w w2) := Lib.hid ((Upd.of_below HB1.out).trans hU2 fun k _ h => .inr ⟨0, by omega, h⟩)
    have HY2 := Lib.hid hy2
    clear hP2 hU2 hy2 HG1 HB1
    have c1 : w2.cell? ⟨g, 1, none⟩ = some (.pointer (some ⟨c 1, 0, none⟩)) := HG2.out.g.cell 1 (pz_get (p := fun i => ptr (c i)) (by omega))
    have c0 : w2.cell? ⟨g, 0, none⟩ = some (.pointer (some ⟨c 0, 0, none⟩)) := HG2.out.g.cell 0 (pz_get (p := fun i => ptr (c i)) (by omega))
    go_wp2_with fail
    have p1 : PC w2 (c 1) (b 1) (y.x 1) := HG2.out.x 1 (by omega)
    have p0 : PC w2 (c 0) (b 0) ((y.x 0).bend y.bent) := HG2.out.x 0 (by omega)
    have P0 := Lib.hid p0
    refine (Until_any (c 1) (b 1) (y.x 1).fr (y.x 1).be (y.x 1).co (y.x 1).ba (y.x 1).to (y.x 1).ny (y.x 1).wv (y.x 1).pl (y.x 1).lf w2 p1.c).mono ?_
    rintro e _ ⟨he, rfl⟩
    obtain rfl : e = .returned (.int .i64 (L : Int)) := by rw [he, HL.out]
    clear he p1 p0
    go_wp2_with fail
    refine (Go_S (c 0) (b 0) ((y.x 0).bend y.bent) (n : Int) w2 P0.out HY2.out hmg).mono ?_
    rintro e w3 ⟨rfl, hP3, hU3⟩
    have HG3 := Lib.hid (HG2.out.one (i := 0) (by omega) hU3 hP3)
    have HU3 : Hid (Upd (OwnP g c b) w w3) := Lib.hid (HU2.out.trans hU3 fun k _ h => .inr ⟨0, by omega, h⟩)
    clear hP3 hU3 HG2 HU2 c0 c1
    have c1 : w3.cell? ⟨g, 1, none⟩ = some (.pointer (some ⟨c 1, 0, none⟩)) := HG3.out.g.cell 1 (pz_get (p := fun i => ptr (c i)) (by omega))
    go_wp2_with fail
    have p1 : PC w3 (c 1) (b 1) (y.x 1) := HG3.out.x 1 (by omega)
    refine (Go_S (c 1) (b 1) (y.x 1) (n : Int) w3 p1 (HY.out.x 1 (by omega)) hmg).mono ?_
    clear p1
    rintro e w4 ⟨rfl, hP4, hU4⟩
    have HG4 := Lib.hid (HG3.out.one (i := 1) (by omega) hU4 hP4)
    have HU4 : Hid (Upd (OwnP g c b) w w4) := Lib.hid (HU3.out.trans hU4 fun k _ h => .inr ⟨1, by omega, h⟩)
    clear hP4 hU4 HG3 HU3 c1
    have HF : Hid (GP w4 g c b (y.str n)) := Lib.hid (HG4.out.same6 ⟨fun j _ => by
      show (if j = 1 then (y.x 1).go n else if j = 0 then ((y.x 0).bend y.bent).go n else if j = 0 then (y.x 0).bend y.bent else y.x j) = if j = 0 then ((y.x 0).bend y.bent).go n else if j = 1 then (y.x 1).go n else y.x j
      by_cases h0 : j = 0
      · subst h0; rfl
      · by_cases h1 : j = 1
        · subst h1; rfl
        · simp only [if_neg h0, if_neg h1], rfl, rfl, rfl⟩)
    go_wp2
    go_ret
    exact ⟨n, rfl, hm0, hmn, HML.out, HF.out, HU4.out⟩
end Go.Proofs.Ytgkbpdcedighcac

/-
  The walk of psg: Go.
-/
namespace Go.Proofs.Ytgkbpdcedighcac
open Go.RowKit Go.Sort NoiseP

theorem PS.upto_x {y : PS} {a m : Nat} : (y.upto a m).x m = y.x m := by
  show (if m < m then _ else y.x m) = _
  rw [if_neg (by omega)]
theorem PS.two_zero (y : PS) : y.two 0 = y := by
  unfold PS.two
  show PS.mk _ _ _ _ = y
  have : (fun j => if j < 2 then (y.adv 0).x j else y.x j) = y.x := by funext j; split <;> rfl
  rw [this]

set_option maxRecDepth 100000 in
set_option maxHeartbeats 4000000 in
theorem Go_P (n : Nat) (g : Nat) (c b : Nat → Nat) (y : PS) (w : World) (h : GP w g c b y) (hy : y.Good) (hn : n ≤ 65536) : Calls Try.prog 95 #[.pointer (some ⟨g, 0, none⟩), .int .i64 (n : Int)] w fun e w' =>
    e = .returned (.tuple #[]) ∧ GP w' g c b (y.adv n) ∧ Upd (OwnP g c b) w w' := by
  have HG := Lib.hid h
  have HY := Lib.hid hy
  have HG0 : Hid (GP w g c b (y.two 0)) := Lib.hid (by rw [PS.two_zero]; exact h)
  have hmax : max (n : Int) 0 = (n : Int) := by omega
  have hng : 0 ≤ (n : Int) ∧ (n : Int) ≤ 1099511627776 := by omega
  have hn0 : (0 : Int) ≤ (n : Int) := by omega
  have hn1 : (n : Int) ≤ 65536 := by omega
  clear h hy
  go_enter Try.func95, Try.ntmps95
  go_wp2_with fail
  refine wp_scope_straight ?_
  go_wp2_with fail
  refine (is_P g c b y w HG.out).mono ?_
  rintro e _ ⟨rfl, rfl⟩
  go_wp2_with fail
  refine wp_label ?_
  go_wp2_with fail
  go_loopw [5] (fun i wr => ∃ l k : Nat, l + k = n ∧ i = .int .i64 (l : Int) ∧ Hid (GP wr g c b (y.two k)) ∧ Hid (Upd (OwnP g c b) w wr)) (fun i _ => (intOf i).toNat)
  case atStart => exact ⟨n, 0, rfl, rfl, HG0, Lib.hid (Upd.refl _ _)⟩
  case round =>
    clear HG HG0
    obtain ⟨l, k, hlk, rfl, HG, HU⟩ := hrel
    by_cases hl : l = 0
    · subst hl
      rw [show ((0 : Nat) : Int) = 0 from rfl]
      obtain rfl : k = n := by omega
      go_wp2_with fail
      have HG2 : Hid (GP wr g c b (y.upto k (2 + 0))) := Lib.hid HG.out
      have HUU := Lib.hid HU.out
      clear HG HU
      go_loopw [28] (fun i ws => ∃ j : Nat, j ≤ 4 ∧ i = .int .i64 (j : Int) ∧ Hid (GP ws g c b (y.upto k (2 + j))) ∧ Hid (Upd (OwnP g c b) w ws)) (fun i _ => 4 - (intOf i).toNat)
      case atStart => exact ⟨0, by omega, rfl, HG2, HUU⟩
      case round =>
        clear HG2 HUU
        obtain ⟨j, hj, rfl, HG, HU⟩ := hrel
        by_cases hjt : j < 4
        · have hj0 : (0 : Int) ≤ (j : Int) := by omega
          have hj4 : (j : Int) < 4 := by omega
          have cj : wr.cell? ⟨g, 2 + j, none⟩ = some (.pointer (some ⟨c (2 + j), 0, none⟩)) := HG.out.g.cell (2 + j) (pz_get (p := fun i => ptr (c i)) (by omega))
          have HPJ := Lib.hid (HG.out.x (2 + j) (by omega))
          have HOK := Lib.hid ((PS.upto_good HY.out k (2 + j) (by omega)).ok.x (2 + j) (by omega))
          go_wp2_with fail
          refine (Go_S (c (2 + j)) (b (2 + j)) _ (k : Int) wr HPJ.out HOK.out hng).mono ?_
          rintro e w2 ⟨rfl, hP2, hU2⟩
          have hG2 := HG.out.one (i := 2 + j) (by omega) hU2 hP2
          rw [PS.upto_step y HY.out k (2 + j) (by omega) (by omega)] at hG2
          have HG2 : Hid (GP w2 g c b (y.upto k (2 + (j + 1)))) := Lib.hid hG2
          have HU2 : Hid (Upd (OwnP g c b) w w2) := Lib.hid (HU.out.trans hU2 fun x _ h => .inr ⟨2 + j, by omega, h⟩)
          clear hG2 hP2 hU2 HPJ HOK HG HU cj
          go_wp2
          go_roundw
          case rel => exact ⟨j + 1, by omega, by go_num, HG2, HU2⟩
          case measure => simp [intOf]; omega
        · obtain rfl : j = 4 := by omega
          have HF := Lib.hid (HG.out.same6 (PS.upto_full y k))
          go_wp2
          (try simp only [Exit.noGoto])
          go_end0
          exact ⟨rfl, HF.out, HU.out⟩
    · have hq : ((l : Int) == 0) = false := by rw [beq_eq_false_iff_ne]; omega
      go_wp2_with fail
      refine (stride_P l g c b (y.two k) wr HG.out (PS.two_ok HY.out k).ok (by omega)).mono ?_
      rintro e w2 ⟨m, rfl, hm0, hml, hmf, hG2, hU2⟩
      rw [PS.two_str y HY.out k m hm0 hmf] at hG2
      have hsub : (l : Int) - (m : Int) = ((l - m : Nat) : Int) := by omega
      have hw : IntKind.i64.wrap ((l : Int) - (m : Int)) = ((l - m : Nat) : Int) := by rw [IntKind.wrap_i64]; omega
      have HG2 := Lib.hid hG2
      have HU2 := Lib.hid (HU.out.trans hU2 fun _ _ h => h)
      clear hG2 hU2 hmf hsub
      generalize hd : l - m = d at *
      go_wp2
      go_roundw
      case rel => exact ⟨d, k + m, by omega, rfl, HG2, HU2⟩
      case measure => simp [intOf]; omega
end Go.Proofs.Ytgkbpdcedighcac

/-
  The walks of sound's player: New, To, Write, both, Sides, Clocks. Printed by gen_snd.py.
-/
namespace Go.Proofs.Ytgkbpdcedighcac
open Go.RowKit Go.Sort NoiseP

/-- A player lies there. -/
structure SP (w : World) (p g : Nat) (c b : Nat → Nat) (y : PS) (at_ k : Nat) : Prop where
  p : At w p 148 [.pointer (some ⟨g, 0, none⟩), .int .i64 (at_ : Int), .int .i64 (k : Int)]
  g : GP w g c b y
def SOwn (p g : Nat) (c b : Nat → Nat) (k : Nat) : Prop := k = p ∨ OwnP g c b k
theorem sp_own {w : World} {p g : Nat} {c b : Nat → Nat} {y : PS} {cs : List Value} (hA : At w p 148 cs) (hG : GP w g c b y) (h : OwnP g c b p) : False := by
  rcases h with h | ⟨i, hi, h | h⟩
  · exact hA.ne_ hG.g (by decide) h
  · exact hA.ne_ (hG.x i hi).c (by decide) h
  · exact hA.ne_ (hG.x i hi).b (by decide) h
theorem SP.below {w w' : World} {p g : Nat} {c b : Nat → Nat} {y : PS} {at_ k : Nat} (h : SP w p g c b y at_ k) (hb : Below w.heap.size w w') : SP w' p g c b y at_ k := ⟨h.p.below hb h.p.lt, h.g.below hb⟩
theorem SP.own_lt {w : World} {p g : Nat} {c b : Nat → Nat} {y : PS} {at_ k : Nat} (h : SP w p g c b y at_ k) {x : Nat} (hx : SOwn p g c b x) : x < w.heap.size := by
  rcases hx with rfl | hx
  · exact h.p.lt
  · exact h.g.own_lt hx
theorem SP.upd {w w' : World} {p g : Nat} {c b : Nat → Nat} {y : PS} {at_ k : Nat} {S : Nat → Prop} (h : SP w p g c b y at_ k) (hu : Upd S w w') (hS : ∀ x, SOwn p g c b x → ¬ S x) : SP w' p g c b y at_ k :=
  ⟨h.p.upd hu (hS _ (.inl rfl)), h.g.upd hu fun x hx => hS x (.inr hx)⟩
theorem SP.drewN {w : World} {p g : Nat} {c b : Nat → Nat} {y : PS} {at_ k : Nat} (h : SP w p g c b y at_ k) (n : Nat) : SP (w.drewN n) p g c b y at_ k := ⟨h.p.drewN n, h.g.drewN n⟩

theorem SNew_any (w : World) : Calls Try.prog 46 #[] w fun e w' => ∃ p g c b, e = .returned (.pointer (some ⟨p, 0, none⟩)) ∧ SP w' p g c b PS.new 0 0 ∧ (∀ k, SOwn p g c b k → w.heap.size ≤ k) ∧ Below w.heap.size w w' := by
  go_enter Try.func46, Try.ntmps46
  go_wp2_with fail
  refine (PNew_any w).mono ?_
  rintro e w1 ⟨g, c, b, rfl, hG, hg, hb⟩
  have HG := Lib.hid hG
  have HE := Lib.hid hg
  have HB := Lib.hid hb
  clear hG hg hb
  go_wp2
  go_ret
  have hA : At (w1.alloc (.cells #[.pointer (some ⟨g, 0, none⟩), .int .i64 0, .int .i64 0] 148)) w1.heap.size 148 [.pointer (some ⟨g, 0, none⟩), .int .i64 0, .int .i64 0] := At.new w1 _ _
  refine ⟨w1.heap.size, g, c, b, rfl, ⟨hA, HG.out.below ((Below.refl _ _).alloc (Nat.le_refl _) _)⟩, ?_, HB.out.alloc HB.out.size _⟩
  rintro k (rfl | h)
  · exact HB.out.size
  · exact HE.out k h

theorem Go_P' (z : Int) (n : Nat) (hz : z = n) (g : Nat) (c b : Nat → Nat) (y : PS) (w : World) (h : GP w g c b y) (hy : y.Good) (hn : n ≤ 65536) : Calls Try.prog 95 #[.pointer (some ⟨g, 0, none⟩), .int .i64 z] w fun e w' =>
    e = .returned (.tuple #[]) ∧ GP w' g c b (y.adv n) ∧ Upd (OwnP g c b) w w' := by subst hz; exact Go_P n g c b y w h hy hn

/-- How far a stamp leads. -/
def toA (at_ : Nat) (st : Int) : Nat := if st < at_ then at_ else if 1073741824 < st then 1073741824 else st.toNat
theorem toA_le (at_ : Nat) (st : Int) (h : at_ ≤ 1073741824) : at_ ≤ toA at_ st ∧ toA at_ st ≤ 1073741824 := by
  unfold toA
  split
  · omega
  · split <;> omega

theorem To_nil (st : Int) (w : World) : Calls Try.prog 49 #[.pointer none, .int .i64 st] w fun e w' => e = .returned (.tuple #[]) ∧ w = w' := by
  go_enter Try.func49, Try.ntmps49
  go_wp2
  (try simp only [Exit.inBlock, Exit.then])
  refine bodyPost_ret (results_none rfl _ _ _) rfl ?_
  exact ⟨rfl, rfl⟩

set_option maxRecDepth 100000 in
set_option maxHeartbeats 8000000 in
theorem To_P (st : Int) (p g : Nat) (c b : Nat → Nat) (y : PS) (at_ : Nat) (w : World) (h : SP w p g c b y at_ (at_ / 6)) (hy : y.Good) (ha : at_ ≤ 1073741824) : Calls Try.prog 49 #[.pointer (some ⟨p, 0, none⟩), .int .i64 st] w fun e w' =>
    e = .returned (.tuple #[]) ∧ SP w' p g c b (y.adv (toA at_ st / 6 - at_ / 6)) (toA at_ st) (toA at_ st / 6) ∧ Upd (SOwn p g c b) w w' := by
  have HA := Lib.hid h.p
  have HG := Lib.hid h.g
  have HY := Lib.hid hy
  have c0 := h.p.cell 0 rfl
  have c1 := h.p.cell 1 rfl
  have c2 := h.p.cell 2 rfl
  have f1 := h.p.frozen 1
  have HS := Lib.hid h
  clear h hy
  by_cases g1 : st < at_
  · have HT : Hid (toA at_ st = at_) := Lib.hid (if_pos g1)
    have hle : st ≤ 1073741824 := by omega
    rw [HT.out]
    go_enter Try.func49, Try.ntmps49
    go_wp2
    (try simp only [Exit.inBlock, Exit.then])
    refine bodyPost_ret (results_none rfl _ _ _) rfl ?_
    exact ⟨rfl, ⟨HS.out.p, by rw [Nat.sub_self]; exact HS.out.g⟩, Upd.refl _ _⟩
  · by_cases g2 : 1073741824 < st
    · have HT : Hid (toA at_ st = 1073741824) := Lib.hid (by unfold toA; rw [if_neg g1, if_pos g2])
      have hle : ¬ st ≤ 1073741824 := by omega
      have hge : ¬ (1073741824 : Int) < (at_ : Int) := by omega
      obtain ⟨q, hq⟩ : ∃ q : Nat, q = 1073741824 / 6 := ⟨_, rfl⟩
      have hAq : (178956970 : Int) = (q : Int) := by omega
      rw [HT.out, ← hq]
      clear HS g1 g2
      have HQ := Lib.hid hq
      have hqle : at_ / 6 ≤ q := by omega
      have hq9 : q ≤ 178956970 := by omega
      clear hq
      go_enter Try.func49, Try.ntmps49
      go_wp2_with fail
      have hU1 : Upd (· = p) w (w.setCell ⟨p, 1, none⟩ (.int .i64 1073741824)) := (Upd.refl (· = p) w).here _
      have HA1 : Hid (At (w.setCell ⟨p, 1, none⟩ (.int .i64 1073741824)) p 148 [.pointer (some ⟨g, 0, none⟩), .int .i64 (1073741824 : Int), .int .i64 ((at_ / 6 : Nat) : Int)]) := Lib.hid ((HA.out.set 1 (.int .i64 (1073741824 : Int))).of_eq rfl)
      have HG1 : Hid (GP (w.setCell ⟨p, 1, none⟩ (.int .i64 1073741824)) g c b (y.adv (at_ / 6 - at_ / 6))) := Lib.hid (by rw [Nat.sub_self]; exact HG.out.upd hU1 (fun x hx h => sp_own HA.out HG.out (h ▸ hx)))
      have HU1 : Hid (Upd (SOwn p g c b) w (w.setCell ⟨p, 1, none⟩ (.int .i64 1073741824))) := Lib.hid (hU1.mono fun _ _ h => .inl h)
      clear hU1 HA HG c0 c1 c2 f1
      generalize w.setCell _ _ = w1 at *
      go_loopw [4] (fun _ wr => ∃ k : Nat, at_ / 6 ≤ k ∧ k ≤ q ∧ Hid (At wr p 148 [.pointer (some ⟨g, 0, none⟩), .int .i64 (1073741824 : Int), .int .i64 (k : Int)]) ∧ Hid (GP wr g c b (y.adv (k - at_ / 6))) ∧ Hid (Upd (SOwn p g c b) w wr)) (fun _ wr => q - (intOf ((wr.cell? ⟨p, 2, none⟩).getD undef)).toNat)
      case atStart => exact ⟨at_ / 6, Nat.le_refl _, by omega, HA1, HG1, HU1⟩
      case round =>
        clear HA1 HG1 HU1
        obtain ⟨k, hk1, hk2, HA, HG, HU⟩ := hrel
        have c0 := HA.out.cell 0 rfl
        have c1 := HA.out.cell 1 rfl
        have c2 := HA.out.cell 2 rfl
        have HMW := Lib.hid c2
        by_cases hlt : k < q
        · have hqk : IntKind.i64.wrap ((q : Int) - (k : Int)) = ((q - k : Nat) : Int) := by rw [IntKind.wrap_i64]; omega
          have hlt' : (k : Int) < (q : Int) := by omega
          obtain ⟨d, hd⟩ : ∃ d, d = q - k := ⟨_, rfl⟩
          rw [← hd] at hqk
          have hqk2 : (q : Int) - (k : Int) = (d : Int) := by omega
          have HD : Hid (k + d = q) := Lib.hid (by omega)
          clear hd
          by_cases hbig : 65536 < d
          · have hbig' : ¬ (d : Int) ≤ 65536 := by omega
            go_wp2_with fail
            refine (Go_P' 65536 65536 (by omega) g c b _ wr HG.out (PS.adv_good HY.out _) (by omega)).mono ?_
            rintro e w2 ⟨rfl, hG2, hU2⟩
            rw [← PS.adv_add, show (k - at_ / 6) + 65536 = (k + 65536) - at_ / 6 by omega] at hG2
            have hA2 := HA.out.upd hU2 (fun h => sp_own HA.out HG.out h)
            have HU2 : Hid (Upd (SOwn p g c b) w w2) := Lib.hid (HU.out.trans hU2 fun _ _ h => .inr h)
            have c2 := hA2.cell 2 rfl
            have c0 := hA2.cell 0 rfl
            have f2 := hA2.frozen 2
            have HA2 := Lib.hid hA2
            have HG2 := Lib.hid hG2
            have hsum : IntKind.i64.wrap ((k : Int) + (65536 : Int)) = ((k + 65536 : Nat) : Int) := by have := HD.out; rw [IntKind.wrap_i64]; omega
            clear hG2 hU2 hA2 HA HG HU
            generalize hkn : k + 65536 = k2 at *
            go_wp2_with fail
            have hU3 : Upd (· = p) w2 (w2.setCell ⟨p, 2, none⟩ (.int .i64 (k2 : Int))) := (Upd.refl (· = p) w2).here _
            have HA3 : Hid (At (w2.setCell ⟨p, 2, none⟩ (.int .i64 (k2 : Int))) p 148 [.pointer (some ⟨g, 0, none⟩), .int .i64 (1073741824 : Int), .int .i64 (k2 : Int)]) := Lib.hid ((HA2.out.set 2 (.int .i64 (k2 : Int))).of_eq rfl)
            have HG3 := Lib.hid (HG2.out.upd hU3 (fun x hx h => sp_own HA2.out HG2.out (h ▸ hx)))
            have HU3 := Lib.hid (HU2.out.trans hU3 fun _ _ h => .inl h)
            have m2 := HA3.out.cell 2 rfl
            clear hU3 HA2 HG2 HU2 c0 c2 f2
            generalize w2.setCell _ _ = w3 at *
            go_roundw
            case rel => exact ⟨k2, by omega, by have := HD.out; omega, HA3, HG3, HU3⟩
            case measure =>
              have := HD.out
              rw [m2, HMW.out]
              simp [intOf]; omega
          · have hbig' : (d : Int) ≤ 65536 := by omega
            go_wp2_with fail
            refine (Go_P' (d : Int) d (by omega) g c b _ wr HG.out (PS.adv_good HY.out _) (by omega)).mono ?_
            rintro e w2 ⟨rfl, hG2, hU2⟩
            rw [← PS.adv_add, show (k - at_ / 6) + d = (k + d) - at_ / 6 by omega] at hG2
            have hA2 := HA.out.upd hU2 (fun h => sp_own HA.out HG.out h)
            have HU2 : Hid (Upd (SOwn p g c b) w w2) := Lib.hid (HU.out.trans hU2 fun _ _ h => .inr h)
            have c2 := hA2.cell 2 rfl
            have c0 := hA2.cell 0 rfl
            have f2 := hA2.frozen 2
            have HA2 := Lib.hid hA2
            have HG2 := Lib.hid hG2
            have hsum : IntKind.i64.wrap ((k : Int) + (d : Int)) = ((k + d : Nat) : Int) := by have := HD.out; rw [IntKind.wrap_i64]; omega
            clear hG2 hU2 hA2 HA HG HU
            generalize hkn : k + d = k2 at *
            go_wp2_with fail
            have hU3 : Upd (· = p) w2 (w2.setCell ⟨p, 2, none⟩ (.int .i64 (k2 : Int))) := (Upd.refl (· = p) w2).here _
            have HA3 : Hid (At (w2.setCell ⟨p, 2, none⟩ (.int .i64 (k2 : Int))) p 148 [.pointer (some ⟨g, 0, none⟩), .int .i64 (1073741824 : Int), .int .i64 (k2 : Int)]) := Lib.hid ((HA2.out.set 2 (.int .i64 (k2 : Int))).of_eq rfl)
            have HG3 := Lib.hid (HG2.out.upd hU3 (fun x hx h => sp_own HA2.out HG2.out (h ▸ hx)))
            have HU3 := Lib.hid (HU2.out.trans hU3 fun _ _ h => .inl h)
            have m2 := HA3.out.cell 2 rfl
            clear hU3 HA2 HG2 HU2 c0 c2 f2
            generalize w2.setCell _ _ = w3 at *
            go_roundw
            case rel => exact ⟨k2, by omega, by have := HD.out; omega, HA3, HG3, HU3⟩
            case measure =>
              have := HD.out
              rw [m2, HMW.out]
              simp [intOf]; omega
        · obtain rfl : k = q := by omega
          have hge : ¬ (k : Int) < (k : Int) := by omega
          go_wp2
          go_end0
          exact ⟨rfl, ⟨HA.out, HG.out⟩, HU.out⟩
    · obtain ⟨A, rfl⟩ : ∃ A : Nat, st = A := ⟨st.toNat, by omega⟩
      have HT : Hid (toA at_ (A : Int) = A) := Lib.hid (by unfold toA; rw [if_neg g1, if_neg g2]; exact Int.toNat_natCast A)
      have hle : (A : Int) ≤ 1073741824 := by omega
      have hge : ¬ (A : Int) < (at_ : Int) := by omega
      obtain ⟨q, hq⟩ : ∃ q : Nat, q = A / 6 := ⟨_, rfl⟩
      have hAq : (A : Int) / 6 = (q : Int) := by omega
      rw [HT.out, ← hq]
      clear HS g1 g2
      have HQ := Lib.hid hq
      have hqle : at_ / 6 ≤ q := by omega
      have hq9 : q ≤ 178956970 := by omega
      clear hq
      go_enter Try.func49, Try.ntmps49
      go_wp2_with fail
      have hU1 : Upd (· = p) w (w.setCell ⟨p, 1, none⟩ (.int .i64 A)) := (Upd.refl (· = p) w).here _
      have HA1 : Hid (At (w.setCell ⟨p, 1, none⟩ (.int .i64 A)) p 148 [.pointer (some ⟨g, 0, none⟩), .int .i64 (A : Int), .int .i64 ((at_ / 6 : Nat) : Int)]) := Lib.hid ((HA.out.set 1 (.int .i64 (A : Int))).of_eq rfl)
      have HG1 : Hid (GP (w.setCell ⟨p, 1, none⟩ (.int .i64 A)) g c b (y.adv (at_ / 6 - at_ / 6))) := Lib.hid (by rw [Nat.sub_self]; exact HG.out.upd hU1 (fun x hx h => sp_own HA.out HG.out (h ▸ hx)))
      have HU1 : Hid (Upd (SOwn p g c b) w (w.setCell ⟨p, 1, none⟩ (.int .i64 A))) := Lib.hid (hU1.mono fun _ _ h => .inl h)
      clear hU1 HA HG c0 c1 c2 f1
      generalize w.setCell _ _ = w1 at *
      go_loopw [4] (fun _ wr => ∃ k : Nat, at_ / 6 ≤ k ∧ k ≤ q ∧ Hid (At wr p 148 [.pointer (some ⟨g, 0, none⟩), .int .i64 (A : Int), .int .i64 (k : Int)]) ∧ Hid (GP wr g c b (y.adv (k - at_ / 6))) ∧ Hid (Upd (SOwn p g c b) w wr)) (fun _ wr => q - (intOf ((wr.cell? ⟨p, 2, none⟩).getD undef)).toNat)
      case atStart => exact ⟨at_ / 6, Nat.le_refl _, by omega, HA1, HG1, HU1⟩
      case round =>
        clear HA1 HG1 HU1
        obtain ⟨k, hk1, hk2, HA, HG, HU⟩ := hrel
        have c0 := HA.out.cell 0 rfl
        have c1 := HA.out.cell 1 rfl
        have c2 := HA.out.cell 2 rfl
        have HMW := Lib.hid c2
        by_cases hlt : k < q
        · have hqk : IntKind.i64.wrap ((q : Int) - (k : Int)) = ((q - k : Nat) : Int) := by rw [IntKind.wrap_i64]; omega
          have hlt' : (k : Int) < (q : Int) := by omega
          obtain ⟨d, hd⟩ : ∃ d, d = q - k := ⟨_, rfl⟩
          rw [← hd] at hqk
          have hqk2 : (q : Int) - (k : Int) = (d : Int) := by omega
          have HD : Hid (k + d = q) := Lib.hid (by omega)
          clear hd
          by_cases hbig : 65536 < d
          · have hbig' : ¬ (d : Int) ≤ 65536 := by omega
            go_wp2_with fail
            refine (Go_P' 65536 65536 (by omega) g c b _ wr HG.out (PS.adv_good HY.out _) (by omega)).mono ?_
            rintro e w2 ⟨rfl, hG2, hU2⟩
            rw [← PS.adv_add, show (k - at_ / 6) + 65536 = (k + 65536) - at_ / 6 by omega] at hG2
            have hA2 := HA.out.upd hU2 (fun h => sp_own HA.out HG.out h)
            have HU2 : Hid (Upd (SOwn p g c b) w w2) := Lib.hid (HU.out.trans hU2 fun _ _ h => .inr h)
            have c2 := hA2.cell 2 rfl
            have c0 := hA2.cell 0 rfl
            have f2 := hA2.frozen 2
            have HA2 := Lib.hid hA2
            have HG2 := Lib.hid hG2
            have hsum : IntKind.i64.wrap ((k : Int) + (65536 : Int)) = ((k + 65536 : Nat) : Int) := by have := HD.out; rw [IntKind.wrap_i64]; omega
            clear hG2 hU2 hA2 HA HG HU
            generalize hkn : k + 65536 = k2 at *
            go_wp2_with fail
            have hU3 : Upd (· = p) w2 (w2.setCell ⟨p, 2, none⟩ (.int .i64 (k2 : Int))) := (Upd.refl (· = p) w2).here _
            have HA3 : Hid (At (w2.setCell ⟨p, 2, none⟩ (.int .i64 (k2 : Int))) p 148 [.pointer (some ⟨g, 0, none⟩), .int .i64 (A : Int), .int .i64 (k2 : Int)]) := Lib.hid ((HA2.out.set 2 (.int .i64 (k2 : Int))).of_eq rfl)
            have HG3 := Lib.hid (HG2.out.upd hU3 (fun x hx h => sp_own HA2.out HG2.out (h ▸ hx)))
            have HU3 := Lib.hid (HU2.out.trans hU3 fun _ _ h => .inl h)
            have m2 := HA3.out.cell 2 rfl
            clear hU3 HA2 HG2 HU2 c0 c2 f2
            generalize w2.setCell _ _ = w3 at *
            go_roundw
            case rel => exact ⟨k2, by omega, by have := HD.out; omega, HA3, HG3, HU3⟩
            case measure =>
              have := HD.out
              rw [m2, HMW.out]
              simp [intOf]; omega
          · have hbig' : (d : Int) ≤ 65536 := by omega
            go_wp2_with fail
            refine (Go_P' (d : Int) d (by omega) g c b _ wr HG.out (PS.adv_good HY.out _) (by omega)).mono ?_
            rintro e w2 ⟨rfl, hG2, hU2⟩
            rw [← PS.adv_add, show (k - at_ / 6) + d = (k + d) - at_ / 6 by omega] at hG2
            have hA2 := HA.out.upd hU2 (fun h => sp_own HA.out HG.out h)
            have HU2 : Hid (Upd (SOwn p g c b) w w2) := Lib.hid (HU.out.trans hU2 fun _ _ h => .inr h)
            have c2 := hA2.cell 2 rfl
            have c0 := hA2.cell 0 rfl
            have f2 := hA2.frozen 2
            have HA2 := Lib.hid hA2
            have HG2 := Lib.hid hG2
            have hsum : IntKind.i64.wrap ((k : Int) + (d : Int)) = ((k + d : Nat) : Int) := by have := HD.out; rw [IntKind.wrap_i64]; omega
            clear hG2 hU2 hA2 HA HG HU
            generalize hkn : k + d = k2 at *
            go_wp2_with fail
            have hU3 : Upd (· = p) w2 (w2.setCell ⟨p, 2, none⟩ (.int .i64 (k2 : Int))) := (Upd.refl (· = p) w2).here _
            have HA3 : Hid (At (w2.setCell ⟨p, 2, none⟩ (.int .i64 (k2 : Int))) p 148 [.pointer (some ⟨g, 0, none⟩), .int .i64 (A : Int), .int .i64 (k2 : Int)]) := Lib.hid ((HA2.out.set 2 (.int .i64 (k2 : Int))).of_eq rfl)
            have HG3 := Lib.hid (HG2.out.upd hU3 (fun x hx h => sp_own HA2.out HG2.out (h ▸ hx)))
            have HU3 := Lib.hid (HU2.out.trans hU3 fun _ _ h => .inl h)
            have m2 := HA3.out.cell 2 rfl
            clear hU3 HA2 HG2 HU2 c0 c2 f2
            generalize w2.setCell _ _ = w3 at *
            go_roundw
            case rel => exact ⟨k2, by omega, by have := HD.out; omega, HA3, HG3, HU3⟩
            case measure =>
              have := HD.out
              rw [m2, HMW.out]
              simp [intOf]; omega
        · obtain rfl : k = q := by omega
          have hge : ¬ (k : Int) < (k : Int) := by omega
          go_wp2
          go_end0
          exact ⟨rfl, ⟨HA.out, HG.out⟩, HU.out⟩

theorem SWr_nil (a v : Int) (w : World) : Calls Try.prog 48 #[.pointer none, .int .i64 a, .int .u8 v] w fun e w' => e = .returned (.tuple #[]) ∧ w = w' := by
  go_enter Try.func48, Try.ntmps48
  go_wp2
  (try simp only [Exit.inBlock, Exit.then])
  go_end0
  exact ⟨rfl, rfl⟩
theorem SWr_P (reg v : Nat) (p g : Nat) (c b : Nat → Nat) (y : PS) (at_ k : Nat) (w : World) (h : SP w p g c b y at_ k) (hy : y.Ok) (hv : v < 256) (hreg : reg < 256) : Calls Try.prog 48 #[.pointer (some ⟨p, 0, none⟩), .int .i64 (reg : Int), .int .u8 (v : Int)] w fun e w' =>
    e = .returned (.tuple #[]) ∧ SP w' p g c b (y.wr reg v) at_ k ∧ Upd (SOwn p g c b) w w' := by
  have HS := Lib.hid h
  have HY := Lib.hid hy
  have c0 := h.p.cell 0 rfl
  clear h hy
  go_enter Try.func48, Try.ntmps48
  go_wp2_with fail
  refine (Write_P reg v g c b y w HS.out.g HY.out hv hreg).mono ?_
  rintro e w2 ⟨rfl, hG2, hU2⟩
  have HA2 := Lib.hid (HS.out.p.upd hU2 (fun h => sp_own HS.out.p HS.out.g h))
  have HG2 := Lib.hid hG2
  have HU2 : Hid (Upd (SOwn p g c b) w w2) := Lib.hid (hU2.mono fun _ _ h => .inr h)
  clear hG2 hU2
  go_wp2
  go_end0
  exact ⟨rfl, ⟨HA2.out, HG2.out⟩, HU2.out⟩

theorem Cl_nil (w : World) : Calls Try.prog 53 #[.pointer none] w fun e w' => e = .returned (.int .i64 0) ∧ w = w' := by
  go_enter Try.func53, Try.ntmps53
  go_wp2
  (try simp only [Exit.inBlock, Exit.then])
  go_ret
  exact ⟨rfl, rfl⟩
theorem Cl_P (p g : Nat) (c b : Nat → Nat) (y : PS) (at_ k : Nat) (w : World) (h : SP w p g c b y at_ k) : Calls Try.prog 53 #[.pointer (some ⟨p, 0, none⟩)] w fun e w' => e = .returned (.int .i64 (k : Int)) ∧ w = w' := by
  have c2 := h.p.cell 2 rfl
  clear h
  go_enter Try.func53, Try.ntmps53
  go_wp2
  (try simp only [Exit.inBlock, Exit.then])
  go_ret
  exact ⟨rfl, rfl⟩
end Go.Proofs.Ytgkbpdcedighcac

/-
  The walks of sound: Sides, Check; of phys: Where, Reg.
-/
namespace Go.Proofs.Ytgkbpdcedighcac
open Go.RowKit Go.Sort NoiseP

theorem heard_bd (V : Nat → Vo) (f : Vo → Int) (h : ∀ v, -126976 ≤ f v ∧ f v ≤ 126976) (i : Nat) : -126976 ≤ heard V f i ∧ heard V f i ≤ 126976 := by
  unfold heard
  split
  · exact h _
  · omega
theorem PS.left_bd (y : PS) : -761856 ≤ y.left ∧ y.left ≤ 761856 := by
  have := sumZ_bd (heard y.vo fun v => v.l (y.mn / 16)) 6 fun i _ => heard_bd _ _ (fun v => sideZ_bd _ _ _ _) i
  unfold PS.left
  omega
theorem PS.right_bd (y : PS) : -761856 ≤ y.right ∧ y.right ≤ 761856 := by
  have := sumZ_bd (heard y.vo fun v => v.r (y.mn % 16)) 6 fun i _ => heard_bd _ _ (fun v => sideZ_bd _ _ _ _) i
  unfold PS.right
  omega

theorem both_nil (w : World) : Calls Try.prog 97 #[.pointer none] w fun e w' => e = .returned (.complex .f64 0 0) ∧ w = w' := by
  go_enter Try.func97, Try.ntmps97
  go_wp2
  (try simp only [Exit.inBlock, Exit.then])
  go_ret
  exact ⟨rfl, rfl⟩
theorem both_S (p g : Nat) (c b : Nat → Nat) (y : PS) (at_ k : Nat) (w : World) (h : SP w p g c b y at_ k) (hy : y.Ok) : Calls Try.prog 97 #[.pointer (some ⟨p, 0, none⟩)] w fun e w' => e = .returned (.complex .f64 (floatOfInt .f64 y.left) (floatOfInt .f64 y.right)) ∧ Below w.heap.size w w' := by
  have HS := Lib.hid h
  have HY := Lib.hid hy
  have c0 := h.p.cell 0 rfl
  clear h hy
  go_enter Try.func97, Try.ntmps97
  go_wp2_with fail
  refine (Of_P g c b y w HS.out.g HY.out).mono ?_
  rintro e w2 ⟨rfl, hB⟩
  have HB := Lib.hid hB
  clear hB
  go_wp2
  (try simp only [Exit.inBlock, Exit.then])
  go_ret
  exact ⟨rfl, HB.out⟩
theorem Sides_nil (w : World) : Calls Try.prog 51 #[.pointer none] w fun e w' => e = .returned (.tuple #[.int .i64 0, .int .i64 0]) ∧ w = w' := by
  have f1 := fint_fact (P := Try.prog) is_zero (by omega) 131 3 (by kernel_rfl) Try.underlying3 w
  go_enter Try.func51, Try.ntmps51
  go_wp2_with fail
  refine (both_nil w).mono ?_
  rintro e _ ⟨rfl, rfl⟩
  go_wp2
  go_ret2
  exact ⟨rfl, rfl⟩
theorem Sides_S (p g : Nat) (c b : Nat → Nat) (y : PS) (at_ k : Nat) (w : World) (h : SP w p g c b y at_ k) (hy : y.Ok) : Calls Try.prog 51 #[.pointer (some ⟨p, 0, none⟩)] w fun e w' => e = .returned (.tuple #[.int .i64 y.left, .int .i64 y.right]) ∧ Below w.heap.size w w' := by
  have k1 := both_S p g c b y at_ k w h hy
  have hl := y.left_bd
  have hr := y.right_bd
  have i1 := intf_is y.left (by omega)
  have i2 := intf_is y.right (by omega)
  clear h hy
  generalize floatOfInt .f64 y.left = fl at *
  generalize floatOfInt .f64 y.right = fr at *
  have f1 := fun w => fint_fact (P := Try.prog) i1 (by omega) 131 3 (by kernel_rfl) Try.underlying3 w
  have f2 := fun w => fint_fact (P := Try.prog) i2 (by omega) 131 3 (by kernel_rfl) Try.underlying3 w
  clear i1 i2 hl hr
  go_enter Try.func51, Try.ntmps51
  go_wp2_with fail
  refine k1.mono ?_
  rintro e w2 ⟨rfl, hB⟩
  have HB := Lib.hid hB
  clear hB k1
  go_wp2
  go_ret2
  exact ⟨rfl, HB.out⟩

/-- What may be asked. -/
def chkZ (every n : Int) : Int := if every < 1 ∨ 6000 < every then 1 else if n < 0 ∨ 1000 < n then 2 else 0
theorem Check_any (every n : Int) (w : World) : Calls Try.prog 94 #[.int .i64 every, .int .i64 n] w fun e w' => e = .returned (.int .i64 (chkZ every n)) ∧ w = w' := by
  have HC : Hid (chkZ every n = if every < 1 ∨ 6000 < every then 1 else if n < 0 ∨ 1000 < n then 2 else 0) := Lib.hid rfl
  by_cases h1 : every < 1
  · have HC2 : Hid (chkZ every n = 1) := Lib.hid (by rw [HC.out, if_pos (.inl h1)])
    go_enter Try.func94, Try.ntmps94
    go_wp2
    (try simp only [Exit.inBlock, Exit.then])
    go_ret
    exact ⟨by rw [HC2.out]; rfl, rfl⟩
  · by_cases h2 : 6000 < every
    · have HC2 : Hid (chkZ every n = 1) := Lib.hid (by rw [HC.out, if_pos (.inr h2)])
      go_enter Try.func94, Try.ntmps94
      go_wp2
      (try simp only [Exit.inBlock, Exit.then])
      go_ret
      exact ⟨by rw [HC2.out]; rfl, rfl⟩
    · have HC1 : Hid (chkZ every n = if n < 0 ∨ 1000 < n then 2 else 0) := Lib.hid (by rw [HC.out, if_neg (by omega)])
      clear HC
      by_cases h3 : n < 0
      · have HC2 : Hid (chkZ every n = 2) := Lib.hid (by rw [HC1.out, if_pos (.inl h3)])
        go_enter Try.func94, Try.ntmps94
        go_wp2
        (try simp only [Exit.inBlock, Exit.then])
        go_ret
        exact ⟨by rw [HC2.out]; rfl, rfl⟩
      · by_cases h4 : 1000 < n
        · have HC2 : Hid (chkZ every n = 2) := Lib.hid (by rw [HC1.out, if_pos (.inr h4)])
          go_enter Try.func94, Try.ntmps94
          go_wp2
          (try simp only [Exit.inBlock, Exit.then])
          go_ret
          exact ⟨by rw [HC2.out]; rfl, rfl⟩
        · have HC2 : Hid (chkZ every n = 0) := Lib.hid (by rw [HC1.out, if_neg (by omega)])
          go_enter Try.func94, Try.ntmps94
          go_wp2
          (try simp only [Exit.inBlock, Exit.then])
          go_ret
          exact ⟨by rw [HC2.out]; rfl, rfl⟩
end Go.Proofs.Ytgkbpdcedighcac

/-
  The walks of phys: Where, Reg.
-/
namespace Go.Proofs.Ytgkbpdcedighcac
open Go.RowKit Go.Sort NoiseP

theorem below_dN {b : Nat} {w w' : World} (h : RowKit.Below b w w') (n : Nat) : RowKit.Below b w (w'.drewN n) := ⟨h.os, h.tape, h.output, h.size, h.block⟩
def unF (k : Nat) : Nat := if k = 0 then 6144 else if k = 1 then 5120 else if k = 2 then 4096 else if k = 3 then 3072 else if k = 4 then 2048 else if k = 5 then 1024 else 0
def unW (k : Nat) : Nat := if k = 0 then 2 else if k = 1 then 8 else if k = 2 then 7 else if k = 3 then 6 else if k = 4 then 5 else if k = 5 then 4 else 3
def unitL : List Value := [.int .u16 6144, .int .u8 2, .int .u16 5120, .int .u8 8, .int .u16 4096, .int .u8 7, .int .u16 3072, .int .u8 6, .int .u16 2048, .int .u8 5, .int .u16 1024, .int .u8 4, .int .u16 0, .int .u8 3]
theorem unit_get {k : Nat} (h : k < 7) : unitL.toArray.extract (k * 2) (k * 2 + 2) = #[.int .u16 (unF k : Int), .int .u8 (unW k : Int)] := by
  match k, h with
  | 0, _ => rfl
  | 1, _ => rfl
  | 2, _ => rfl
  | 3, _ => rfl
  | 4, _ => rfl
  | 5, _ => rfl
  | 6, _ => rfl
theorem unit_one : ∀ v ∈ unitL, v.oneCell' = true := by
  intro v hv
  simp only [unitL, List.mem_cons, List.not_mem_nil, or_false] at hv
  rcases hv with rfl | rfl | rfl | rfl | rfl | rfl | rfl | rfl | rfl | rfl | rfl | rfl | rfl | rfl <;> rfl

/-- Which unit it is, from place k on. -/
def unFrom (off : Nat) : Nat → Nat → Nat
  | _, 0 => 2
  | k, n + 1 => if unF k ≤ off then unW k else unFrom off (k + 1) n
/-- What is there. -/
def whN (a : Nat) : Nat := if a / 8192 % 256 ≤ 127 then 0 else if 248 ≤ a / 8192 % 256 ∧ a / 8192 % 256 ≤ 251 then 1 else if a / 8192 % 256 ≠ 255 then 2 else unFrom (a % 8192) 0 7
theorem unW_lt (k : Nat) : unW k < 9 := by
  unfold unW
  repeat' split
  all_goals omega
theorem unFrom_lt (off : Nat) : ∀ n k, unFrom off k n < 9
  | 0, _ => by rw [unFrom]; decide
  | n + 1, k => by
    rw [unFrom]
    split
    · exact unW_lt k
    · exact unFrom_lt off n (k + 1)
theorem whN_lt (a : Nat) : whN a < 9 := by
  unfold whN
  repeat' split
  all_goals first | omega | exact unFrom_lt _ _ _

theorem Bank_any (a : Nat) (w : World) (ha : a < 4294967296) : Calls Try.prog 136 #[.int .u32 (a : Int)] w fun e w' => e = .returned (.int .u8 ((a / 8192 % 256 : Nat) : Int)) ∧ w = w' := by
  have e1 : (a : Int) / 8192 = ((a / 8192 : Nat) : Int) := by omega
  have e2 : IntKind.u8.wrap ((a / 8192 : Nat) : Int) = ((a / 8192 % 256 : Nat) : Int) := by rw [IntKind.wrap_u8]; omega
  obtain ⟨q, hq⟩ : ∃ q, q = a / 8192 := ⟨_, rfl⟩
  rw [← hq] at e1 e2 ⊢
  obtain ⟨r, hr⟩ : ∃ r, r = q % 256 := ⟨_, rfl⟩
  rw [← hr] at e2 ⊢
  have hq1 : q < 524288 := by omega
  clear hq hr
  go_enter Try.func136, Try.ntmps136
  go_wp2
  go_ret
  exact ⟨rfl, rfl⟩
theorem Off_any (a : Nat) (w : World) (ha : a < 4294967296) : Calls Try.prog 138 #[.int .u32 (a : Int)] w fun e w' => e = .returned (.int .u16 ((a % 8192 : Nat) : Int)) ∧ w = w' := by
  have e1 : bits .and .u32 (a : Int) 8191 = ((a % 8192 : Nat) : Int) := by
    have := u32_and a 8191 ha (by omega)
    rw [show (a &&& 8191) = a % 8192 from Nat.and_two_pow_sub_one_eq_mod a 13] at this
    exact this
  obtain ⟨q, hq⟩ : ∃ q, q = a % 8192 := ⟨_, rfl⟩
  have hq1 : q < 8192 := by omega
  rw [← hq] at e1 ⊢
  have e2 : IntKind.u16.wrap (q : Int) = (q : Int) := by rw [IntKind.wrap_u16]; omega
  clear hq
  go_enter Try.func138, Try.ntmps138
  go_wp2
  go_ret
  exact ⟨rfl, rfl⟩

set_option maxRecDepth 100000 in
theorem Units_any (w : World) : Calls Try.prog 137 #[] w fun e w' => e = .returned (.agg unitL.toArray) ∧ Below w.heap.size w w' := by
  have HN : Hid (At (w.alloc (.cells #[.int .u16 0, .int .u8 0, .int .u16 0, .int .u8 0, .int .u16 0, .int .u8 0, .int .u16 0, .int .u8 0, .int .u16 0, .int .u8 0, .int .u16 0, .int .u8 0, .int .u16 0, .int .u8 0] 199)) w.heap.size 199 [.int .u16 0, .int .u8 0, .int .u16 0, .int .u8 0, .int .u16 0, .int .u8 0, .int .u16 0, .int .u8 0, .int .u16 0, .int .u8 0, .int .u16 0, .int .u8 0, .int .u16 0, .int .u8 0]) := Lib.hid (At.new w _ _)
  have hbn : Below w.heap.size w (w.alloc (.cells #[.int .u16 0, .int .u8 0, .int .u16 0, .int .u8 0, .int .u16 0, .int .u8 0, .int .u16 0, .int .u8 0, .int .u16 0, .int .u8 0, .int .u16 0, .int .u8 0, .int .u16 0, .int .u8 0] 199)) := (Below.refl _ w).alloc (Nat.le_refl _) _
  have HBN := Lib.hid hbn
  clear hbn
  go_enter Try.func137, Try.ntmps137
  go_wp2_with (with_reducible refine wpList_store_row rfl 199 (.tmp 0) (.tmp 8) rfl rfl w.heap.size (by kernel_rfl) unitL (by kernel_rfl) 199 _ HN.out (by kernel_rfl) (by kernel_rfl) unit_one ?_)
  intro w2 hA2 hU2
  have hB2 := step_upd HBN.out hU2 (Nat.le_refl _)
  go_wp2
  refine bodyPost_ret (results_cell_at rfl _ _ w.heap.size 199 unitL hA2 _ (by kernel_rfl) Try.underlying199 rfl (by kernel_rfl)) rfl ?_
  exact ⟨rfl, hB2⟩

set_option maxRecDepth 100000 in
set_option maxHeartbeats 4000000 in
theorem Where_any (a : Nat) (w : World) (ha : a < 4294967296) : Calls Try.prog 118 #[.int .u32 (a : Int)] w fun e w' => e = .returned (.int .u8 (whN a : Int)) ∧ Below w.heap.size w w' := by
  have kB := Bank_any a w ha
  have HW : Hid (whN a = if a / 8192 % 256 ≤ 127 then 0 else if 248 ≤ a / 8192 % 256 ∧ a / 8192 % 256 ≤ 251 then 1 else if a / 8192 % 256 ≠ 255 then 2 else unFrom (a % 8192) 0 7) := Lib.hid rfl
  have kO := fun w => Off_any a w ha
  have hbk : a / 8192 % 256 < 256 := by omega
  have hof : a % 8192 < 8192 := by omega
  generalize a / 8192 % 256 = bk at *
  generalize a % 8192 = off at *
  by_cases h1 : bk ≤ 127
  · have HW2 : Hid (whN a = 0) := Lib.hid (by rw [HW.out, if_pos h1])
    clear HW kO
    go_enter Try.func118, Try.ntmps118
    go_wp2_with fail
    refine kB.mono ?_
    rintro e _ ⟨rfl, rfl⟩
    go_wp2
    (try simp only [Exit.inBlock, Exit.then])
    go_ret
    exact ⟨by rw [HW2.out]; rfl, Below.refl _ _⟩
  · by_cases h2 : 248 ≤ bk ∧ bk ≤ 251
    · have HW2 : Hid (whN a = 1) := Lib.hid (by rw [HW.out, if_neg h1, if_pos h2])
      obtain ⟨h2a, h2b⟩ := h2
      clear HW kO
      go_enter Try.func118, Try.ntmps118
      go_wp2_with fail
      refine kB.mono ?_
      rintro e _ ⟨rfl, rfl⟩
      go_wp2
      (try simp only [Exit.inBlock, Exit.then])
      go_ret
      exact ⟨by rw [HW2.out]; rfl, Below.refl _ _⟩
    · by_cases h3 : bk = 255
      · have HW2 : Hid (whN a = unFrom off 0 7) := Lib.hid (by rw [HW.out, if_neg h1, if_neg h2, if_neg (by omega)])
        have h2a : 248 ≤ bk := by omega
        have h2b : ¬ bk ≤ 251 := by omega
        have hn : ((bk : Int) != 255) = false := by rw [h3]; rfl
        have e1 : decide ((bk : Int) ≤ 127) = false := decide_eq_false (by omega)
        have e2 : decide (248 ≤ (bk : Int)) = true := decide_eq_true (by omega)
        have e3 : decide ((bk : Int) ≤ 251) = false := decide_eq_false (by omega)
        clear HW h1 h2 h3
        go_enter Try.func118, Try.ntmps118
        go_wp2_with fail
        refine kB.mono ?_
        rintro e _ ⟨rfl, rfl⟩
        go_wp2_with fail
        refine (Units_any w).mono ?_
        rintro e w2 ⟨rfl, hB2⟩
        have HB2 := Lib.hid hB2
        clear hB2
        go_wp2_with fail
        go_loopw [22] (fun i wr => ∃ k : Nat, k ≤ 7 ∧ i = .int .i64 (k : Int) ∧ Hid (unFrom off 0 7 = unFrom off k (7 - k)) ∧ Hid (Below w.heap.size w wr)) (fun i _ => 7 - (intOf i).toNat)
        case atStart => exact ⟨0, by omega, rfl, Lib.hid rfl, HB2⟩
        case round =>
          clear HB2
          obtain ⟨k, hk, rfl, HF, HB⟩ := hrel
          by_cases hlt : k < 7
          · have hx := fun w => index_agg (P := Try.prog) 199 198 7 unitL.toArray .i64 k _ 2 Try.underlying199 Try.underlying198 rfl (by kernel_rfl) (by omega) w
            rw [Int.toNat_natCast, unit_get hlt] at hx
            have hst : unFrom off k (7 - k) = if unF k ≤ off then unW k else unFrom off (k + 1) (7 - (k + 1)) := by
              obtain ⟨d, hd⟩ : ∃ d, 7 - k = d + 1 := ⟨6 - k, by omega⟩
              rw [hd, unFrom, show 7 - (k + 1) = d by omega]
            have HST := Lib.hid hst
            have HNU : Hid (At (wr.alloc (.cells #[.int .u16 0, .int .u8 0] 198)) wr.heap.size 198 [.int .u16 0, .int .u8 0]) := Lib.hid (At.new wr _ _)
            have hbx : Below w.heap.size w (wr.alloc (.cells #[.int .u16 0, .int .u8 0] 198)) := HB.out.alloc HB.out.size _
            have HBX := Lib.hid hbx
            have hone : ∀ v ∈ [Value.int .u16 (unF k : Int), .int .u8 (unW k : Int)], v.oneCell' = true := by
              intro v hv
              simp at hv
              rcases hv with rfl | rfl <;> rfl
            have hws := HB.out.size
            clear hst hbx
            generalize unF k = fk at *
            generalize unW k = wk at *
            have hk7 : (k : Int) < 7 := by omega
            go_wp2_with (with_reducible refine wpList_store_row rfl 198 (.tmp 5) (.tmp 24) rfl rfl wr.heap.size (by kernel_rfl) [.int .u16 (fk : Int), .int .u8 (wk : Int)] (by kernel_rfl) 198 _ HNU.out (by kernel_rfl) (by kernel_rfl) hone ?_)
            intro w4 hA4 hU4
            have HB4 := Lib.hid (step_upd HBX.out hU4 hws)
            have c0 := hA4.cell 0 rfl
            have c1 := hA4.cell 1 rfl
            have KO : ∀ q, Calls Try.prog 138 #[.int .u32 (a : Int)] (w4.drewN q) fun e w'' => e = .returned (.int .u16 (off : Int)) ∧ ∃ r, w'' = w4.drewN r := fun q =>
              Calls.quiet_of_same (Calls.mono (kO (w4.drewN q)) (fun e w' h => ⟨h.1, h.2.symm⟩))
            clear hA4 hU4 HNU HBX HB hone hx
            by_cases hge : fk ≤ off
            · have hge' : decide (fk ≤ off) = true := decide_eq_true hge
              rw [if_pos hge] at HST
              clear hge
              go_wp2_with fail
              refine wp_region_quiet_lit (by kernel_rfl) (by kernel_rfl) ?_
              repeat (go_big_quiet_step (((go_at_call 138; exact KO _))))
              refine wpQuiet_nil ?_
              intro _ hw'
              obtain ⟨nq, rfl⟩ := hw'
              go_wp2
              (try simp only [Exit.inBlock, Exit.then])
              go_ret
              exact ⟨by rw [HW2.out, HF.out, HST.out]; rfl, below_dN HB4.out nq⟩
            · have hge' : decide (fk ≤ off) = false := decide_eq_false hge
              rw [if_neg hge] at HST
              clear hge
              go_wp2_with fail
              refine wp_region_quiet_lit (by kernel_rfl) (by kernel_rfl) ?_
              repeat (go_big_quiet_step (((go_at_call 138; exact KO _))))
              refine wpQuiet_nil ?_
              intro _ hw'
              obtain ⟨nq, rfl⟩ := hw'
              go_wp2
              go_roundw
              case rel => exact ⟨k + 1, by omega, by go_num, Lib.hid (by rw [HF.out, HST.out]), Lib.hid (below_dN HB4.out nq)⟩
              case measure => simp [intOf]; omega
          · obtain rfl : k = 7 := by omega
            go_wp2
            go_ret
            exact ⟨by rw [HW2.out, HF.out]; rfl, HB.out⟩
      · have HW2 : Hid (whN a = 2) := Lib.hid (by rw [HW.out, if_neg h1, if_neg h2, if_pos h3])
        have hn : ((bk : Int) != 255) = true := by rw [bne_iff_ne]; omega
        clear HW kO
        by_cases h2a : 248 ≤ bk
        · have h2b : ¬ bk ≤ 251 := by omega
          go_enter Try.func118, Try.ntmps118
          go_wp2_with fail
          refine kB.mono ?_
          rintro e _ ⟨rfl, rfl⟩
          go_wp2
          (try simp only [Exit.inBlock, Exit.then])
          go_ret
          exact ⟨by rw [HW2.out]; rfl, Below.refl _ _⟩
        · go_enter Try.func118, Try.ntmps118
          go_wp2_with fail
          refine kB.mono ?_
          rintro e _ ⟨rfl, rfl⟩
          go_wp2
          (try simp only [Exit.inBlock, Exit.then])
          go_ret
          exact ⟨by rw [HW2.out]; rfl, Below.refl _ _⟩

set_option maxRecDepth 100000 in
set_option maxHeartbeats 4000000 in
theorem Reg_psg (a : Nat) (w : World) (ha : a < 4294967296) (hw : whN a = 5) : Calls Try.prog 119 #[.int .u32 (a : Int)] w fun e w' => e = .returned (.int .i64 ((a % 8192 % 16 : Nat) : Int)) ∧ Below w.heap.size w w' := by
  have kW := Where_any a w ha
  rw [hw] at kW
  have kO := fun w => Off_any a w ha
  have hof : a % 8192 < 8192 := by omega
  generalize a % 8192 = off at *
  have hrem : (off : Int).tmod 16 = ((off % 16 : Nat) : Int) := by rw [Int.tmod_eq_emod_of_nonneg (by omega)]; rfl
  clear hw
  go_enter Try.func119, Try.ntmps119
  go_wp2_with fail
  refine kW.mono ?_
  rintro e w2 ⟨rfl, hB2⟩
  have HB2 := Lib.hid hB2
  clear hB2 kW
  go_wp2_with fail
  refine (kO w2).mono ?_
  rintro e _ ⟨rfl, rfl⟩
  go_wp2
  go_ret
  exact ⟨rfl, HB2.out⟩
end Go.Proofs.Ytgkbpdcedighcac

/-
  Plain: a row of accesses, played up to a stamp; heard again and again.
-/
namespace Go.Proofs.Ytgkbpdcedighcac
open NoiseP

/-- An access. -/
structure Ac where
  st : Int
  ad : Nat
  ex : Nat
  wr : Bool
  da : Nat
/-- The channels, and how far they went. -/
structure HS where
  y : PS
  t : Nat
structure HS.Ok (h : HS) : Prop where
  y : h.y.Good
  t : h.t ≤ 1073741824
def HS.new : HS := ⟨PS.new, 0⟩
theorem HS.new_ok : HS.new.Ok := ⟨PS.new_good, by show (0 : Nat) ≤ _; omega⟩
def HS.to (h : HS) (st : Int) : HS := ⟨h.y.adv (toA h.t st / 6 - h.t / 6), toA h.t st⟩
theorem HS.to_ok {h : HS} (hh : h.Ok) (st : Int) : (h.to st).Ok := ⟨PS.adv_good hh.y _, (toA_le _ _ hh.t).2⟩
/-- One access. -/
def HS.one (h : HS) (a : Ac) : HS := if a.wr = true ∧ whN a.ad = 5 then ⟨(h.to a.st).y.wr (a.ad % 8192 % 16) a.da, (h.to a.st).t⟩ else h
theorem HS.one_ok {h : HS} (hh : h.Ok) {a : Ac} (hd : a.da < 256) : (h.one a).Ok := by
  unfold HS.one
  split
  · exact ⟨PS.wr_good (HS.to_ok hh _).y _ hd, (HS.to_ok hh _).t⟩
  · exact hh
/-- Accesses i, i + 1 .. n - 1, as long as they aren't later than s: the state, and how many were played. -/
def play (E : Nat → Ac) (s : Int) : Nat → Nat → HS → HS × Nat
  | _, 0, h => (h, 0)
  | i, d + 1, h => if s < (E i).st then (h, 0) else ((play E s (i + 1) d (h.one (E i))).1, (play E s (i + 1) d (h.one (E i))).2 + 1)
theorem play_le (E : Nat → Ac) (s : Int) : ∀ d i h, (play E s i d h).2 ≤ d
  | 0, _, _ => Nat.le_refl _
  | d + 1, i, h => by
    rw [play]
    split
    · exact Nat.zero_le _
    · have := play_le E s d (i + 1) (h.one (E i)); omega
theorem play_ok (E : Nat → Ac) (s : Int) : ∀ d i (h : HS), h.Ok → (∀ j, i ≤ j → j < i + d → (E j).da < 256) → (play E s i d h).1.Ok
  | 0, _, _, hh, _ => hh
  | d + 1, i, h, hh, hd => by
    rw [play]
    split
    · exact hh
    · exact play_ok E s d (i + 1) _ (HS.one_ok hh (hd i (Nat.le_refl _) (by omega))) fun j h1 h2 => hd j (by omega) (by omega)
/-- Sample k: the state and how many accesses are gone. -/
def hear (E : Nat → Ac) (n : Nat) (every : Int) : Nat → HS × Nat
  | 0 => (HS.new, 0)
  | k + 1 => ((play E (every * k) (hear E n every k).2 (n - (hear E n every k).2) (hear E n every k).1).1.to (every * k), (hear E n every k).2 + (play E (every * k) (hear E n every k).2 (n - (hear E n every k).2) (hear E n every k).1).2)
theorem hear_le (E : Nat → Ac) (n : Nat) (every : Int) : ∀ k, (hear E n every k).2 ≤ n
  | 0 => Nat.zero_le _
  | k + 1 => by
    have h1 := hear_le E n every k
    have h2 := play_le E (every * k) (n - (hear E n every k).2) (hear E n every k).2 (hear E n every k).1
    show (hear E n every k).2 + _ ≤ n
    omega
theorem hear_ok (E : Nat → Ac) (n : Nat) (every : Int) (hd : ∀ j, j < n → (E j).da < 256) : ∀ k, (hear E n every k).1.Ok
  | 0 => HS.new_ok
  | k + 1 => by
    have h1 := hear_le E n every k
    exact HS.to_ok (play_ok E _ _ _ _ (hear_ok E n every hd k) fun j _ h2 => hd j (by omega)) _

/-- What comes later isn't heard ahead. -/
theorem play_more (E F : Nat → Ac) (s : Int) (n m : Nat) (hE : ∀ j, j < n → F j = E j) (hF : ∀ j, n ≤ j → j < m → s < (F j).st) (hnm : n ≤ m) : ∀ d i h, i + d = n → play F s i (m - i) h = play E s i d h
  | 0, i, h, hi => by
    obtain rfl : i = n := by omega
    rcases Nat.eq_zero_or_pos (m - i) with h0 | h0
    · rw [h0]; rfl
    · obtain ⟨e, he⟩ : ∃ e, m - i = e + 1 := ⟨m - i - 1, by omega⟩
      rw [he]
      show (if s < (F i).st then (h, 0) else _) = (h, 0)
      rw [if_pos (hF i (Nat.le_refl _) (by omega))]
  | d + 1, i, h, hi => by
    obtain ⟨e, he⟩ : ∃ e, m - i = e + 1 := ⟨m - i - 1, by omega⟩
    rw [he, play, play, hE i (by omega), show e = m - (i + 1) by omega, play_more E F s n m hE hF hnm d (i + 1) _ (by omega)]
theorem hear_more (E F : Nat → Ac) (n m : Nat) (every : Int) (K : Nat) (hE : ∀ j, j < n → F j = E j) (hF : ∀ j, n ≤ j → j < m → ∀ k, k < K → every * (k : Nat) < (F j).st) (hnm : n ≤ m) : ∀ k, k ≤ K → hear F m every k = hear E n every k
  | 0, _ => rfl
  | k + 1, hk => by
    have ih := hear_more E F n m every K hE hF hnm k (by omega)
    have hl := hear_le E n every k
    rw [hear, hear, ih, play_more E F (every * k) n m hE (fun j h1 h2 => hF j h1 h2 k (by omega)) hnm (n - (hear E n every k).2) _ _ (by omega)]
end Go.Proofs.Ytgkbpdcedighcac

/-
  The walk of sound: play. Printed by gen_hear.py.
-/
namespace Go.Proofs.Ytgkbpdcedighcac
open Go.RowKit Go.Sort NoiseP

def Ac.cs (a : Ac) : List Value := [.int .i64 a.st, .int .u32 (a.ad : Int), .int .u8 (a.ex : Int), .bool a.wr, .int .u8 (a.da : Int)]
def Ac.Ok (a : Ac) : Prop := a.ad < 4294967296 ∧ a.da < 256
/-- A row of accesses. -/
def Acs (w : World) (A : Option Addr) (n : Nat) (E : Nat → Ac) : Prop := RowOf w A n 5 (fun i => (E i).cs) ∧ ∀ i, i < n → (E i).Ok
theorem Acs.below {w w' : World} {A : Option Addr} {n : Nat} {E : Nat → Ac} (h : Acs w A n E) (hb : Below w.heap.size w w') : Acs w' A n E := ⟨h.1.below hb, h.2⟩
theorem Acs.upd {w w' : World} {A : Option Addr} {n : Nat} {E : Nat → Ac} {S : Nat → Prop} (h : Acs w A n E) (hu : Upd S w w') (hS : ∀ b off, A = some ⟨b, off, none⟩ → 0 < n → ¬ S b) : Acs w' A n E := ⟨h.1.upd hu hS, h.2⟩
/-- Behind the first one. -/
theorem acs_tail {w w' : World} {b2 off2 n i : Nat} {A2 : Option Addr} {E : Nat → Ac} {S : Nat → Prop} (h : Acs w (some ⟨b2, off2, none⟩) (n - i) (fun j => E (i + j))) (hn : ¬ S b2) (h2 : 0 < n - (i + 1) → A2 = some ⟨b2, off2 + 5, none⟩) (hm : n - i = (n - (i + 1)) + 1) (hu : Upd S w w') :
    Acs w' A2 (n - (i + 1)) (fun j => E (i + 1 + j)) ∧ ∀ b' off', A2 = some ⟨b', off', none⟩ → 0 < n - (i + 1) → ¬ S b' := by
  have h' := h.upd hu (fun b off he _ => by injection he with he; injection he with he; exact he ▸ hn)
  refine ⟨⟨fun j hj => ?_, fun j hj => ?_⟩, fun b' off' he hp => ?_⟩
  · obtain ⟨b, off, he, hb, hc⟩ := h'.1 (j + 1) (by omega)
    injection he with he
    injection he with he1 he2
    subst he1 he2
    refine ⟨b2, off2 + 5, h2 (by omega), hb, ?_⟩
    have e : off2 + 5 + j * 5 = off2 + (j + 1) * 5 := by omega
    rw [e]
    show CellsAt w' b2 _ (E (i + 1 + j)).cs
    rw [show i + 1 + j = i + (j + 1) by omega]
    exact hc
  · have := h'.2 (j + 1) (by omega)
    show (E (i + 1 + j)).Ok
    rw [show i + 1 + j = i + (j + 1) by omega]
    exact this
  · rw [h2 hp] at he
    injection he with he
    injection he with he
    exact he ▸ hn

def SL (p g : Nat) (c b : Nat → Nat) (lo k : Nat) : Prop := SOwn p g c b k ∨ lo ≤ k

def slLen : Value → Nat
  | .slice _ n _ => n
  | _ => 0

/-- What holds at the label. -/
def PlJ (lo p g : Nat) (c b : Nat → Nat) (n : Nat) (E : Nat → Ac) (s : Int) (h0 : HS) (w : World) (a : Act) (wr : World) : Prop :=
  ∃ (i : Nat) (A' : Option Addr) (cap' : Nat) (h : HS) (u7 u8 u9 u10 u11 u12 u13 u14 u15 u16 u17 u18 u19 u20 u21 u22 u23 u24 u25 u26 u27 u28 u29 u30 u31 u32 u33 u34 u35 u36 u37 u38 u39 u40 u41 u42 u43 : Value), a = ⟨#[.pointer (some ⟨p, 0, none⟩), .slice A' (n - i) cap', .int .i64 s, undef, undef, undef, .slice none 0 0, u7, u8, u9, u10, u11, u12, u13, u14, u15, u16, u17, u18, u19, u20, u21, u22, u23, u24, u25, u26, u27, u28, u29, u30, u31, u32, u33, u34, u35, u36, u37, u38, u39, u40, u41, u42, u43], []⟩ ∧ i ≤ n ∧ n - i ≤ cap' ∧ Hid (SP wr p g c b h.y h.t (h.t / 6)) ∧ Hid h.Ok ∧ Hid (Acs wr A' (n - i) (fun j => E (i + j))) ∧
    Hid (∀ b' off', A' = some ⟨b', off', none⟩ → 0 < n - i → ¬ SL p g c b lo b') ∧ Hid (play E s 0 n h0 = ((play E s i (n - i) h).1, (play E s i (n - i) h).2 + i)) ∧ Hid (Upd (SOwn p g c b) w wr)

theorem PlJ.elim {lo p g : Nat} {c b : Nat → Nat} {n : Nat} {E : Nat → Ac} {s : Int} {h0 : HS} {w0 : World} {K : Act → World → Prop} {a : Act} {w : World} (hJ : PlJ lo p g c b n E s h0 w0 a w) (h : ∀ a w, PlJ lo p g c b n E s h0 w0 a w → K a w) : K a w := h a w hJ

set_option maxRecDepth 100000 in
set_option maxHeartbeats 8000000 in
theorem play_P (lo : Nat) (A : Option Addr) (n cap : Nat) (E : Nat → Ac) (s : Int) (p g : Nat) (c b : Nat → Nat) (h0 : HS) (w : World) (hS : SP w p g c b h0.y h0.t (h0.t / 6)) (hh : h0.Ok) (hE : Acs w A n E) (hcap : n ≤ cap)
    (hN : ∀ b' off', A = some ⟨b', off', none⟩ → 0 < n → ¬ SL p g c b lo b') :
    Calls Try.prog 98 #[.pointer (some ⟨p, 0, none⟩), .slice A n cap, .int .i64 s] w fun e w' => ∃ A' cap', e = .returned (.slice A' (n - (play E s 0 n h0).2) cap') ∧ n - (play E s 0 n h0).2 ≤ cap' ∧ SP w' p g c b (play E s 0 n h0).1.y (play E s 0 n h0).1.t ((play E s 0 n h0).1.t / 6) ∧
      Acs w' A' (n - (play E s 0 n h0).2) (fun j => E ((play E s 0 n h0).2 + j)) ∧ (∀ b' off', A' = some ⟨b', off', none⟩ → 0 < n - (play E s 0 n h0).2 → ¬ SL p g c b lo b') ∧ Upd (SOwn p g c b) w w' := by
  have hJ0 : ∀ (u7 u8 u9 u10 u11 u12 u13 u14 u15 u16 u17 u18 u19 u20 u21 u22 u23 u24 u25 u26 u27 u28 u29 u30 u31 u32 u33 u34 u35 u36 u37 u38 u39 u40 u41 u42 u43 : Value), PlJ lo p g c b n E s h0 w ⟨#[.pointer (some ⟨p, 0, none⟩), .slice A n cap, .int .i64 s, undef, undef, undef, .slice none 0 0, u7, u8, u9, u10, u11, u12, u13, u14, u15, u16, u17, u18, u19, u20, u21, u22, u23, u24, u25, u26, u27, u28, u29, u30, u31, u32, u33, u34, u35, u36, u37, u38, u39, u40, u41, u42, u43], []⟩ w := fun u7 u8 u9 u10 u11 u12 u13 u14 u15 u16 u17 u18 u19 u20 u21 u22 u23 u24 u25 u26 u27 u28 u29 u30 u31 u32 u33 u34 u35 u36 u37 u38 u39 u40 u41 u42 u43 => ⟨0, A, cap, h0, u7, u8, u9, u10, u11, u12, u13, u14, u15, u16, u17, u18, u19, u20, u21, u22, u23, u24, u25, u26, u27, u28, u29, u30, u31, u32, u33, u34, u35, u36, u37, u38, u39, u40, u41, u42, u43, rfl, Nat.zero_le _, hcap, Lib.hid hS, Lib.hid hh,
    Lib.hid (by simp only [Nat.zero_add]; exact hE), Lib.hid (by rw [Nat.sub_zero]; exact hN), Lib.hid (by rw [Nat.sub_zero, Nat.add_zero]), Lib.hid (Upd.refl _ _)⟩
  have HJ0 := Lib.hid hJ0
  clear hJ0 hS hh hE hN hcap
  go_enter Try.func98, Try.ntmps98
  go_wp2_with fail
  refine wp_scope_jumps 0 (PlJ lo p g c b n E s h0 w) (fun a _ => slLen (a.tmps.getD 1 undef)) (by rfl) ?first ?pass
  case first =>
    go_wp2_with fail
    refine wp_label ?_
    refine PlJ.elim (HJ0.out undef undef undef undef undef undef undef undef undef undef undef undef undef undef undef undef undef undef undef undef undef undef undef undef undef undef undef undef undef undef undef undef undef undef undef undef undef) ?_
    intro a wr hJ
    obtain ⟨i, A', cap', h, u7, u8, u9, u10, u11, u12, u13, u14, u15, u16, u17, u18, u19, u20, u21, u22, u23, u24, u25, u26, u27, u28, u29, u30, u31, u32, u33, u34, u35, u36, u37, u38, u39, u40, u41, u42, u43, rfl, hin, hca, HSP, HH, HE, HN, HP, HU⟩ := hJ
    have HC := Lib.hid hca
    clear hca
    by_cases hlt : i < n
    · have hm : n - i = (n - (i + 1)) + 1 := by omega
      obtain ⟨b2, off2, rfl, hbl, hcl⟩ := HE.out.1 0 (by omega)
      have hok := HE.out.2 0 (by omega)
      have hnown := HN.out b2 off2 rfl (by omega)
      rw [Nat.zero_mul, Nat.add_zero] at hcl
      replace hcl : CellsAt wr b2 off2 (E (i + 0)).cs := hcl
      replace hok : (E (i + 0)).Ok := hok
      rw [Nat.add_zero] at hcl hok
      have HPL : Hid (play E s i ((n - (i + 1)) + 1) h = if s < (E i).st then (h, 0) else ((play E s (i + 1) (n - (i + 1)) (h.one (E i))).1, (play E s (i + 1) (n - (i + 1)) (h.one (E i))).2 + 1)) := Lib.hid rfl
      rw [← hm] at HPL
      have HON : Hid (h.one (E i) = if (E i).wr = true ∧ whN (E i).ad = 5 then ⟨(h.to (E i).st).y.wr ((E i).ad % 8192 % 16) (E i).da, (h.to (E i).st).t⟩ else h) := Lib.hid rfl
      have HOO : Hid ((h.one (E i)).Ok) := Lib.hid (HS.one_ok HH.out hok.2)
      have HEI := Lib.hid HE.out
      obtain ⟨had, hda⟩ := hok
      have HCL0 : Hid (CellsAt wr b2 off2 [.int .i64 (E i).st, .int .u32 ((E i).ad : Int), .int .u8 ((E i).ex : Int), .bool (E i).wr, .int .u8 ((E i).da : Int)]) := Lib.hid hcl
      have HNX : Hid (∀ A2, (0 < n - (i + 1) → A2 = some ⟨b2, off2 + 5, none⟩) → ∀ w', Upd (SOwn p g c b) wr w' → Acs w' A2 (n - (i + 1)) (fun j => E (i + 1 + j)) ∧ ∀ b' off', A2 = some ⟨b', off', none⟩ → 0 < n - (i + 1) → ¬ SL p g c b lo b') := Lib.hid fun A2 h2 w' hu => acs_tail (S := SL p g c b lo) HEI.out hnown h2 hm (hu.mono fun _ _ h => .inl h)
      have hcap1 := HC.out
      have HM := Lib.hid hm
      clear hm
      clear hcl HEI
      have hn0 : ((n - i : Nat) : Int) ≠ 0 := by omega
      have hz0 : (((n - i : Nat) : Int) == 0) = false := by rw [beq_eq_false_iff_ne]; omega
      have hi0 : (0 : Int) < ((n - i : Nat) : Int) := by omega
      generalize (E i).st = st at *
      generalize (E i).ad = ad at *
      generalize (E i).ex = ex at *
      generalize (E i).wr = wb at *
      generalize (E i).da = da at *
      generalize hone : h.one (E i) = h1 at *
      clear hone
      have c0 : wr.cell? ⟨b2, off2, none⟩ = some (.int .i64 st) := HCL0.out 0 _ rfl
      by_cases hs : s < st
      · have HP2 : Hid (play E s 0 n h0 = (h, i)) := Lib.hid (by rw [HP.out, HPL.out, if_pos hs]; show (h, 0 + i) = _; rw [Nat.zero_add])
        have hs' : decide (s < st) = true := decide_eq_true hs
        clear hs HPL HP HON HOO HNX HCL0
        go_wp2
        (try simp only [Exit.jump])
        go_ret
        rw [HP2.out]
        exact ⟨_, cap', rfl, HC.out, HSP.out, HE.out, HN.out, HU.out⟩
      · have HP2 : Hid (play E s 0 n h0 = ((play E s (i + 1) (n - (i + 1)) h1).1, (play E s (i + 1) (n - (i + 1)) h1).2 + (i + 1))) := Lib.hid (by rw [HP.out, HPL.out, if_neg hs]; show (_, _ + 1 + i) = _; congr 1; omega)
        have hs' : decide (s < st) = false := decide_eq_false hs
        clear hs HPL HP HE HN
        have HNA : Hid (At (wr.alloc (.cells #[.int .i64 0, .int .u32 0, .int .u8 0, .bool false, .int .u8 0] 82)) wr.heap.size 82 [.int .i64 0, .int .u32 0, .int .u8 0, .bool false, .int .u8 0]) := Lib.hid (At.new wr _ _)
        have hone : ∀ v ∈ [Value.int .i64 st, .int .u32 (ad : Int), .int .u8 (ex : Int), .bool wb, .int .u8 (da : Int)], v.oneCell' = true := by
          intro v hv
          simp at hv
          rcases hv with rfl | rfl | rfl | rfl | rfl <;> rfl
        go_wp2_with (first | (with_reducible refine wpList_load_cells (by kernel_rfl) 82 (.tmp 21) rfl b2 off2 rfl _ HCL0.out _ Try.underlying82 rfl (by kernel_rfl) ?_) | (with_reducible refine wpList_store_row rfl 82 (.tmp 7) (.tmp 22) rfl rfl wr.heap.size (by kernel_rfl) [.int .i64 st, .int .u32 (ad : Int), .int .u8 (ex : Int), .bool wb, .int .u8 (da : Int)] (by kernel_rfl) 82 [.int .i64 0, .int .u32 0, .int .u8 0, .bool false, .int .u8 0] HNA.out (by kernel_rfl) (by kernel_rfl) hone ?_))
        intro w4 hA4 hU4
        have hb4 : Below wr.heap.size wr w4 := (((Upd.refl (· = wr.heap.size) wr).alloc _).trans hU4 fun _ _ h => h).to (Below.refl _ _) (Nat.le_refl _) (fun b h => Nat.le_of_eq h.symm)
        have HA4 := Lib.hid hA4
        have HB4 := Lib.hid hb4
        have HS4 := Lib.hid (HSP.out.below hb4)
        clear hA4 hU4 hb4 HNA hone HCL0
        have d0 := HA4.out.cell 0 rfl
        have d1 := HA4.out.cell 1 rfl
        have d3 := HA4.out.cell 3 rfl
        have d4 := HA4.out.cell 4 rfl
        cases wb with
        | false =>
          have HO1 : Hid (h = h1) := Lib.hid (by rw [HON.out, if_neg (by rintro ⟨h, _⟩; cases h)])
          have HS5 : Hid (SP w4 p g c b h1.y h1.t (h1.t / 6)) := Lib.hid (by rw [← HO1.out]; exact HS4.out)
          go_wp2
          all_goals
            refine wp_goto ?_
            refine ⟨rfl, ?_⟩
            skip
            exact ⟨i + 1, _, _, h1, _, _, _, _, _, _, _, _, _, _, _, _, _, _, _, _, _, _, _, _, _, _, _, _, _, _, _, _, _, _, _, _, _, _, _, _, _, rfl, by omega, by omega, HS5, HOO, Lib.hid (HNX.out _ (by first | exact (fun _ => rfl) | (intro h; omega)) _ (Upd.of_below HB4.out)).1, Lib.hid (HNX.out _ (by first | exact (fun _ => rfl) | (intro h; omega)) _ (Upd.of_below HB4.out)).2, HP2, Lib.hid (HU.out.trans (Upd.of_below HB4.out) fun _ _ h => h)⟩
        | true =>
          go_wp2_with fail
          refine (Where_any ad w4 had).mono ?_
          rintro e w5 ⟨rfl, hB5⟩
          have HB5 := Lib.hid (step_below HB4.out hB5)
          have HS5 := Lib.hid (HS4.out.below hB5)
          have HA5 := Lib.hid (HA4.out.below hB5 HA4.out.lt)
          clear hB5 HS4 HA4 d0 d1 d3 d4
          have d0 := HA5.out.cell 0 rfl
          have d1 := HA5.out.cell 1 rfl
          have d4 := HA5.out.cell 4 rfl
          have hwl := whN_lt ad
          by_cases h5 : whN ad = 5
          · have hq5 : ((whN ad : Int) == 5) = true := by rw [beq_iff_eq]; omega
            have HO1 : Hid (h1 = ⟨(h.to st).y.wr (ad % 8192 % 16) da, (h.to st).t⟩) := Lib.hid (by rw [HON.out, if_pos (by simp [h5])])
            have HR := fun w => Reg_psg ad w had h5
            have HW5 := Lib.hid h5
            clear h5 hwl
            have hrg16 : ad % 8192 % 16 < 16 := by omega
            generalize ad % 8192 % 16 = rg at *
            generalize whN ad = wn at *
            go_wp2_with fail
            refine (To_P st p g c b h.y h.t w5 HS5.out HH.out.y HH.out.t).mono ?_
            rintro e w6 ⟨rfl, hS6, hU6⟩
            have hnA : ¬ SOwn p g c b wr.heap.size := fun hx => by have := HSP.out.own_lt hx; omega
            have HA6 := Lib.hid (HA5.out.upd hU6 hnA)
            have HU6 : Hid (Upd (SOwn p g c b) wr w6) := Lib.hid ((Upd.of_below HB5.out).trans hU6 fun _ _ h => h)
            have HS6 : Hid (SP w6 p g c b (h.to st).y (h.to st).t ((h.to st).t / 6)) := Lib.hid hS6
            clear hS6 hU6 HS5 HA5 d0 d1 d4 hnA
            have r1 := HA6.out.regrown 1 rfl
            have r4 := HA6.out.regrown 4 rfl
            have HG6 := Lib.hid (HS.to_ok HH.out st).y
            go_wp2_with fail
            refine region_below_tail 6 (by kernel_rfl) (by kernel_rfl) ?_
            simp only [List.take_succ_cons, List.take_zero, List.drop_succ_cons, List.drop_zero]
            repeat (go_big_quiet_step (((go_at_call 119; exact Calls.regrown_of (HR _)))))
            refine wpQuiet_nil ?_
            intro w7 hw'
            have hb7 : Below w6.heap.size w6 w7 := below_of_regrown hw'
            clear hw'
            have HS7 := Lib.hid (HS6.out.below hb7)
            have HU7 : Hid (Upd (SOwn p g c b) wr w7) := Lib.hid (HU6.out.trans (Upd.of_below (S := SOwn p g c b) hb7) fun _ _ h => h)
            clear hb7 r1 r4 HS6 HU6 HR
            go_wp2_with fail
            refine (SWr_P rg da p g c b (h.to st).y (h.to st).t ((h.to st).t / 6) w7 HS7.out HG6.out.ok hda (by omega)).mono ?_
            rintro e w8 ⟨rfl, hS8, hU8⟩
            have HS8 : Hid (SP w8 p g c b h1.y h1.t (h1.t / 6)) := Lib.hid (by rw [HO1.out]; exact hS8)
            have HU8 : Hid (Upd (SOwn p g c b) wr w8) := Lib.hid (HU7.out.trans hU8 fun _ _ h => h)
            clear hS8 hU8 HS7 HU7
            go_wp2
            all_goals
              refine wp_goto ?_
              refine ⟨rfl, ?_⟩
              skip
              exact ⟨i + 1, _, _, h1, _, _, _, _, _, _, _, _, _, _, _, _, _, _, _, _, _, _, _, _, _, _, _, _, _, _, _, _, _, _, _, _, _, _, _, _, _, rfl, by omega, by omega, HS8, HOO, Lib.hid (HNX.out _ (by first | exact (fun _ => rfl) | (intro h; omega)) _ HU8.out).1, Lib.hid (HNX.out _ (by first | exact (fun _ => rfl) | (intro h; omega)) _ HU8.out).2, HP2, Lib.hid (HU.out.trans HU8.out fun _ _ h => h)⟩
          · have hq5 : ((whN ad : Int) == 5) = false := by rw [beq_eq_false_iff_ne]; omega
            have HO1 : Hid (h = h1) := Lib.hid (by rw [HON.out, if_neg (by rintro ⟨_, hx⟩; exact h5 hx)])
            have HS6 : Hid (SP w5 p g c b h1.y h1.t (h1.t / 6)) := Lib.hid (by rw [← HO1.out]; exact HS5.out)
            clear h5
            generalize whN ad = wn at *
            go_wp2
            all_goals
              refine wp_goto ?_
              refine ⟨rfl, ?_⟩
              skip
              exact ⟨i + 1, _, _, h1, _, _, _, _, _, _, _, _, _, _, _, _, _, _, _, _, _, _, _, _, _, _, _, _, _, _, _, _, _, _, _, _, _, _, _, _, _, rfl, by omega, by omega, HS6, HOO, Lib.hid (HNX.out _ (by first | exact (fun _ => rfl) | (intro h; omega)) _ (Upd.of_below HB5.out)).1, Lib.hid (HNX.out _ (by first | exact (fun _ => rfl) | (intro h; omega)) _ (Upd.of_below HB5.out)).2, HP2, Lib.hid (HU.out.trans (Upd.of_below HB5.out) fun _ _ h => h)⟩
    · obtain rfl : i = n := by omega
      have HP2 : Hid (play E s 0 i h0 = (h, i)) := Lib.hid (by rw [HP.out, Nat.sub_self]; show (h, 0 + i) = _; rw [Nat.zero_add])
      have HE2 := HE
      have HN2 := HN
      have hz0 : i - i = 0 := Nat.sub_self i
      rw [hz0]
      go_wp2
      (try simp only [Exit.jump])
      go_ret
      rw [HP2.out]
      exact ⟨A', cap', by rw [hz0]; rfl, by omega, HSP.out, HE2.out, HN2.out, HU.out⟩
  case pass =>
    intro a wr hJ
    obtain ⟨i, A', cap', h, u7, u8, u9, u10, u11, u12, u13, u14, u15, u16, u17, u18, u19, u20, u21, u22, u23, u24, u25, u26, u27, u28, u29, u30, u31, u32, u33, u34, u35, u36, u37, u38, u39, u40, u41, u42, u43, rfl, hin, hca, HSP, HH, HE, HN, HP, HU⟩ := hJ
    have HC := Lib.hid hca
    clear hca
    by_cases hlt : i < n
    · have hm : n - i = (n - (i + 1)) + 1 := by omega
      obtain ⟨b2, off2, rfl, hbl, hcl⟩ := HE.out.1 0 (by omega)
      have hok := HE.out.2 0 (by omega)
      have hnown := HN.out b2 off2 rfl (by omega)
      rw [Nat.zero_mul, Nat.add_zero] at hcl
      replace hcl : CellsAt wr b2 off2 (E (i + 0)).cs := hcl
      replace hok : (E (i + 0)).Ok := hok
      rw [Nat.add_zero] at hcl hok
      have HPL : Hid (play E s i ((n - (i + 1)) + 1) h = if s < (E i).st then (h, 0) else ((play E s (i + 1) (n - (i + 1)) (h.one (E i))).1, (play E s (i + 1) (n - (i + 1)) (h.one (E i))).2 + 1)) := Lib.hid rfl
      rw [← hm] at HPL
      have HON : Hid (h.one (E i) = if (E i).wr = true ∧ whN (E i).ad = 5 then ⟨(h.to (E i).st).y.wr ((E i).ad % 8192 % 16) (E i).da, (h.to (E i).st).t⟩ else h) := Lib.hid rfl
      have HOO : Hid ((h.one (E i)).Ok) := Lib.hid (HS.one_ok HH.out hok.2)
      have HEI := Lib.hid HE.out
      obtain ⟨had, hda⟩ := hok
      have HCL0 : Hid (CellsAt wr b2 off2 [.int .i64 (E i).st, .int .u32 ((E i).ad : Int), .int .u8 ((E i).ex : Int), .bool (E i).wr, .int .u8 ((E i).da : Int)]) := Lib.hid hcl
      have HNX : Hid (∀ A2, (0 < n - (i + 1) → A2 = some ⟨b2, off2 + 5, none⟩) → ∀ w', Upd (SOwn p g c b) wr w' → Acs w' A2 (n - (i + 1)) (fun j => E (i + 1 + j)) ∧ ∀ b' off', A2 = some ⟨b', off', none⟩ → 0 < n - (i + 1) → ¬ SL p g c b lo b') := Lib.hid fun A2 h2 w' hu => acs_tail (S := SL p g c b lo) HEI.out hnown h2 hm (hu.mono fun _ _ h => .inl h)
      have hcap1 := HC.out
      have HM := Lib.hid hm
      clear hm
      clear hcl HEI
      have hn0 : ((n - i : Nat) : Int) ≠ 0 := by omega
      have hz0 : (((n - i : Nat) : Int) == 0) = false := by rw [beq_eq_false_iff_ne]; omega
      have hi0 : (0 : Int) < ((n - i : Nat) : Int) := by omega
      generalize (E i).st = st at *
      generalize (E i).ad = ad at *
      generalize (E i).ex = ex at *
      generalize (E i).wr = wb at *
      generalize (E i).da = da at *
      generalize hone : h.one (E i) = h1 at *
      clear hone
      have c0 : wr.cell? ⟨b2, off2, none⟩ = some (.int .i64 st) := HCL0.out 0 _ rfl
      by_cases hs : s < st
      · have HP2 : Hid (play E s 0 n h0 = (h, i)) := Lib.hid (by rw [HP.out, HPL.out, if_pos hs]; show (h, 0 + i) = _; rw [Nat.zero_add])
        have hs' : decide (s < st) = true := decide_eq_true hs
        clear hs HPL HP HON HOO HNX HCL0
        go_wp2
        (try simp only [Exit.jump])
        go_ret
        rw [HP2.out]
        exact ⟨_, cap', rfl, HC.out, HSP.out, HE.out, HN.out, HU.out⟩
      · have HP2 : Hid (play E s 0 n h0 = ((play E s (i + 1) (n - (i + 1)) h1).1, (play E s (i + 1) (n - (i + 1)) h1).2 + (i + 1))) := Lib.hid (by rw [HP.out, HPL.out, if_neg hs]; show (_, _ + 1 + i) = _; congr 1; omega)
        have hs' : decide (s < st) = false := decide_eq_false hs
        clear hs HPL HP HE HN
        have HNA : Hid (At (wr.alloc (.cells #[.int .i64 0, .int .u32 0, .int .u8 0, .bool false, .int .u8 0] 82)) wr.heap.size 82 [.int .i64 0, .int .u32 0, .int .u8 0, .bool false, .int .u8 0]) := Lib.hid (At.new wr _ _)
        have hone : ∀ v ∈ [Value.int .i64 st, .int .u32 (ad : Int), .int .u8 (ex : Int), .bool wb, .int .u8 (da : Int)], v.oneCell' = true := by
          intro v hv
          simp at hv
          rcases hv with rfl | rfl | rfl | rfl | rfl <;> rfl
        go_wp2_with (first | (with_reducible refine wpList_load_cells (by kernel_rfl) 82 (.tmp 21) rfl b2 off2 rfl _ HCL0.out _ Try.underlying82 rfl (by kernel_rfl) ?_) | (with_reducible refine wpList_store_row rfl 82 (.tmp 7) (.tmp 22) rfl rfl wr.heap.size (by kernel_rfl) [.int .i64 st, .int .u32 (ad : Int), .int .u8 (ex : Int), .bool wb, .int .u8 (da : Int)] (by kernel_rfl) 82 [.int .i64 0, .int .u32 0, .int .u8 0, .bool false, .int .u8 0] HNA.out (by kernel_rfl) (by kernel_rfl) hone ?_))
        intro w4 hA4 hU4
        have hb4 : Below wr.heap.size wr w4 := (((Upd.refl (· = wr.heap.size) wr).alloc _).trans hU4 fun _ _ h => h).to (Below.refl _ _) (Nat.le_refl _) (fun b h => Nat.le_of_eq h.symm)
        have HA4 := Lib.hid hA4
        have HB4 := Lib.hid hb4
        have HS4 := Lib.hid (HSP.out.below hb4)
        clear hA4 hU4 hb4 HNA hone HCL0
        have d0 := HA4.out.cell 0 rfl
        have d1 := HA4.out.cell 1 rfl
        have d3 := HA4.out.cell 3 rfl
        have d4 := HA4.out.cell 4 rfl
        cases wb with
        | false =>
          have HO1 : Hid (h = h1) := Lib.hid (by rw [HON.out, if_neg (by rintro ⟨h, _⟩; cases h)])
          have HS5 : Hid (SP w4 p g c b h1.y h1.t (h1.t / 6)) := Lib.hid (by rw [← HO1.out]; exact HS4.out)
          go_wp2
          all_goals
            refine wp_goto ?_
            refine ⟨rfl, ?_⟩
            refine ⟨?_, by simp [slLen]; omega⟩
            exact ⟨i + 1, _, _, h1, _, _, _, _, _, _, _, _, _, _, _, _, _, _, _, _, _, _, _, _, _, _, _, _, _, _, _, _, _, _, _, _, _, _, _, _, _, rfl, by omega, by omega, HS5, HOO, Lib.hid (HNX.out _ (by first | exact (fun _ => rfl) | (intro h; omega)) _ (Upd.of_below HB4.out)).1, Lib.hid (HNX.out _ (by first | exact (fun _ => rfl) | (intro h; omega)) _ (Upd.of_below HB4.out)).2, HP2, Lib.hid (HU.out.trans (Upd.of_below HB4.out) fun _ _ h => h)⟩
        | true =>
          go_wp2_with fail
          refine (Where_any ad w4 had).mono ?_
          rintro e w5 ⟨rfl, hB5⟩
          have HB5 := Lib.hid (step_below HB4.out hB5)
          have HS5 := Lib.hid (HS4.out.below hB5)
          have HA5 := Lib.hid (HA4.out.below hB5 HA4.out.lt)
          clear hB5 HS4 HA4 d0 d1 d3 d4
          have d0 := HA5.out.cell 0 rfl
          have d1 := HA5.out.cell 1 rfl
          have d4 := HA5.out.cell 4 rfl
          have hwl := whN_lt ad
          by_cases h5 : whN ad = 5
          · have hq5 : ((whN ad : Int) == 5) = true := by rw [beq_iff_eq]; omega
            have HO1 : Hid (h1 = ⟨(h.to st).y.wr (ad % 8192 % 16) da, (h.to st).t⟩) := Lib.hid (by rw [HON.out, if_pos (by simp [h5])])
            have HR := fun w => Reg_psg ad w had h5
            have HW5 := Lib.hid h5
            clear h5 hwl
            have hrg16 : ad % 8192 % 16 < 16 := by omega
            generalize ad % 8192 % 16 = rg at *
            generalize whN ad = wn at *
            go_wp2_with fail
            refine (To_P st p g c b h.y h.t w5 HS5.out HH.out.y HH.out.t).mono ?_
            rintro e w6 ⟨rfl, hS6, hU6⟩
            have hnA : ¬ SOwn p g c b wr.heap.size := fun hx => by have := HSP.out.own_lt hx; omega
            have HA6 := Lib.hid (HA5.out.upd hU6 hnA)
            have HU6 : Hid (Upd (SOwn p g c b) wr w6) := Lib.hid ((Upd.of_below HB5.out).trans hU6 fun _ _ h => h)
            have HS6 : Hid (SP w6 p g c b (h.to st).y (h.to st).t ((h.to st).t / 6)) := Lib.hid hS6
            clear hS6 hU6 HS5 HA5 d0 d1 d4 hnA
            have r1 := HA6.out.regrown 1 rfl
            have r4 := HA6.out.regrown 4 rfl
            have HG6 := Lib.hid (HS.to_ok HH.out st).y
            go_wp2_with fail
            refine region_below_tail 6 (by kernel_rfl) (by kernel_rfl) ?_
            simp only [List.take_succ_cons, List.take_zero, List.drop_succ_cons, List.drop_zero]
            repeat (go_big_quiet_step (((go_at_call 119; exact Calls.regrown_of (HR _)))))
            refine wpQuiet_nil ?_
            intro w7 hw'
            have hb7 : Below w6.heap.size w6 w7 := below_of_regrown hw'
            clear hw'
            have HS7 := Lib.hid (HS6.out.below hb7)
            have HU7 : Hid (Upd (SOwn p g c b) wr w7) := Lib.hid (HU6.out.trans (Upd.of_below (S := SOwn p g c b) hb7) fun _ _ h => h)
            clear hb7 r1 r4 HS6 HU6 HR
            go_wp2_with fail
            refine (SWr_P rg da p g c b (h.to st).y (h.to st).t ((h.to st).t / 6) w7 HS7.out HG6.out.ok hda (by omega)).mono ?_
            rintro e w8 ⟨rfl, hS8, hU8⟩
            have HS8 : Hid (SP w8 p g c b h1.y h1.t (h1.t / 6)) := Lib.hid (by rw [HO1.out]; exact hS8)
            have HU8 : Hid (Upd (SOwn p g c b) wr w8) := Lib.hid (HU7.out.trans hU8 fun _ _ h => h)
            clear hS8 hU8 HS7 HU7
            go_wp2
            all_goals
              refine wp_goto ?_
              refine ⟨rfl, ?_⟩
              refine ⟨?_, by simp [slLen]; omega⟩
              exact ⟨i + 1, _, _, h1, _, _, _, _, _, _, _, _, _, _, _, _, _, _, _, _, _, _, _, _, _, _, _, _, _, _, _, _, _, _, _, _, _, _, _, _, _, rfl, by omega, by omega, HS8, HOO, Lib.hid (HNX.out _ (by first | exact (fun _ => rfl) | (intro h; omega)) _ HU8.out).1, Lib.hid (HNX.out _ (by first | exact (fun _ => rfl) | (intro h; omega)) _ HU8.out).2, HP2, Lib.hid (HU.out.trans HU8.out fun _ _ h => h)⟩
          · have hq5 : ((whN ad : Int) == 5) = false := by rw [beq_eq_false_iff_ne]; omega
            have HO1 : Hid (h = h1) := Lib.hid (by rw [HON.out, if_neg (by rintro ⟨_, hx⟩; exact h5 hx)])
            have HS6 : Hid (SP w5 p g c b h1.y h1.t (h1.t / 6)) := Lib.hid (by rw [← HO1.out]; exact HS5.out)
            clear h5
            generalize whN ad = wn at *
            go_wp2
            all_goals
              refine wp_goto ?_
              refine ⟨rfl, ?_⟩
              refine ⟨?_, by simp [slLen]; omega⟩
              exact ⟨i + 1, _, _, h1, _, _, _, _, _, _, _, _, _, _, _, _, _, _, _, _, _, _, _, _, _, _, _, _, _, _, _, _, _, _, _, _, _, _, _, _, _, rfl, by omega, by omega, HS6, HOO, Lib.hid (HNX.out _ (by first | exact (fun _ => rfl) | (intro h; omega)) _ (Upd.of_below HB5.out)).1, Lib.hid (HNX.out _ (by first | exact (fun _ => rfl) | (intro h; omega)) _ (Upd.of_below HB5.out)).2, HP2, Lib.hid (HU.out.trans (Upd.of_below HB5.out) fun _ _ h => h)⟩
    · obtain rfl : i = n := by omega
      have HP2 : Hid (play E s 0 i h0 = (h, i)) := Lib.hid (by rw [HP.out, Nat.sub_self]; show (h, 0 + i) = _; rw [Nat.zero_add])
      have HE2 := HE
      have HN2 := HN
      have hz0 : i - i = 0 := Nat.sub_self i
      rw [hz0]
      go_wp2
      (try simp only [Exit.jump])
      go_ret
      rw [HP2.out]
      exact ⟨A', cap', by rw [hz0]; rfl, by omega, HSP.out, HE2.out, HN2.out, HU.out⟩
end Go.Proofs.Ytgkbpdcedighcac

/-
  The walk of sound: Hear.
-/
namespace Go.Proofs.Ytgkbpdcedighcac
open Go.RowKit Go.Sort NoiseP

theorem infoP2 : (Try.prog.info? 87).map (fun i => (i.zero, i.size, i.bytes)) = some (some (.agg #[.int .i64 0, .int .i64 0]), 2, 16) := by kernel_rfl

theorem play_shift (E : Nat → Ac) (s : Int) (i : Nat) : ∀ d j h, play (fun j => E (i + j)) s j d h = play E s (i + j) d h
  | 0, _, _ => rfl
  | d + 1, j, h => by
    rw [play, play, play_shift E s i d (j + 1)]
    rfl

/-- The samples' cells. -/
def prRow (f g : Nat → Int) : Nat → List Value
  | 0 => []
  | k + 1 => prRow f g k ++ [.int .i64 (f k), .int .i64 (g k)]
theorem prRow_length (f g : Nat → Int) : ∀ k, (prRow f g k).length = k * 2
  | 0 => rfl
  | k + 1 => by rw [prRow, List.length_append, prRow_length f g k]; simp; omega
theorem prRow_get {f g : Nat → Int} : ∀ {k i : Nat}, i < k → (prRow f g k)[i * 2]? = some (.int .i64 (f i)) ∧ (prRow f g k)[i * 2 + 1]? = some (.int .i64 (g i))
  | k + 1, i, h => by
    rw [prRow]
    by_cases hi : i < k
    · obtain ⟨a, b⟩ := prRow_get (f := f) (g := g) hi
      rw [List.getElem?_append_left (by rw [prRow_length]; omega), List.getElem?_append_left (by rw [prRow_length]; omega)]
      exact ⟨a, b⟩
    · obtain rfl : i = k := by omega
      rw [List.getElem?_append_right (by rw [prRow_length]; omega), List.getElem?_append_right (by rw [prRow_length]; omega), prRow_length]
      rw [show i * 2 - i * 2 = 0 by omega, show i * 2 + 1 - i * 2 = 1 by omega]
      exact ⟨rfl, rfl⟩
/-- What is heard. -/
def heL (E : Nat → Ac) (n : Nat) (every : Int) (k : Nat) : Int := (hear E n every (k + 1)).1.y.left
def heR (E : Nat → Ac) (n : Nat) (every : Int) (k : Nat) : Int := (hear E n every (k + 1)).1.y.right

theorem own_lt' {w : World} {base s n : Nat} {e : TypeId} {v : Value} {xs : List Value} (h : w.ownsRow base e s v n xs) {b : Nat} (hb : v.ownBlock = some b) : base ≤ b := by
  rcases h.2 with ⟨rfl, _⟩ | ⟨g, cap, cur, rfl, hbg, hh, _⟩
  · simp [Value.ownBlock] at hb
  · have hg : g = b := by simpa [Value.ownBlock] using hb
    exact hg ▸ hbg
theorem kept_none {w w' : World} {base s n : Nat} {e : TypeId} {v : Value} {xs : List Value} (h : w.ownsRow base e s v n xs) (hw : w.grownBy w' none) : w'.ownsRow base e s v n xs := h.kept hw (by
  cases hv : v.ownBlock with
  | none => exact .inl rfl
  | some b => exact .inr (by simp))
theorem grown_below {w w' : World} (h : Below w.heap.size w w') : w.grownBy w' none := ⟨h.os, h.tape, h.output, h.size, fun k hk _ => h.block k hk⟩
theorem own_notS {w : World} {base s n : Nat} {v : Value} {xs : List Value} {p g : Nat} {c b : Nat → Nat} {y : PS} {at_ k : Nat} (h : w.ownsRow base 87 s v n xs) (hS : SP w p g c b y at_ k) : ∀ x, v.ownBlock = some x → ¬ SOwn p g c b x := fun x hx hs => by
  rcases hs with rfl | rfl | ⟨i, hi, rfl | rfl⟩
  · exact own_ne h hS.p (by decide) hx
  · exact own_ne h hS.g.g (by decide) hx
  · exact own_ne h (hS.g.x i hi).c (by decide) hx
  · exact own_ne h (hS.g.x i hi).b (by decide) hx
theorem upd_grownV {w w' : World} {v : Value} (h : w.grownBy w' v.ownBlock) : Upd (fun k => v.ownBlock = some k) w w' := ⟨h.os, h.tape, h.output, h.size, fun k hk hn => h.block k hk fun he => hn he.symm⟩

/-- What Hear answers. -/
def HearE (E : Nat → Ac) (N : Nat) (every : Int) (n : Nat) (w w' : World) (e : Ending) : Prop :=
  ∃ v, e = .returned (.tuple #[v, .int .i64 0]) ∧ w'.ownsRow w.heap.size 87 2 v n (prRow (heL E N every) (heR E N every) n)

set_option maxRecDepth 100000 in
set_option maxHeartbeats 8000000 in
theorem Hear_ok (A : Option Addr) (N cap : Nat) (E : Nat → Ac) (every : Int) (n : Nat) (w : World) (hE : Acs w A N E) (hcap : N ≤ cap) (hlt : ∀ b' off, A = some ⟨b', off, none⟩ → 0 < N → b' < w.heap.size) (he : 1 ≤ every ∧ every ≤ 6000) (hn : n ≤ 1000) :
    Calls Try.prog 54 #[.slice A N cap, .int .i64 every, .int .i64 (n : Int)] w fun e w' => HearE E N every n w w' e ∧ Below w.heap.size w w' := by
  have HE := Lib.hid hE
  have HL := Lib.hid hlt
  have HD : Hid (∀ j, j < N → (E j).da < 256) := Lib.hid fun j hj => (hE.2 j hj).2
  have hck : chkZ every n = 0 := by unfold chkZ; rw [if_neg (by omega), if_neg (by omega)]
  clear hE hlt
  obtain ⟨i0, hi0⟩ := Option.map_eq_some_iff.1 infoP2
  obtain ⟨hi, hzz⟩ := hi0
  have hz0 : i0.zero = some (.agg #[.int .i64 0, .int .i64 0]) := congrArg Prod.fst hzz
  have hz1 : i0.size = 2 := congrArg (fun p => p.2.1) hzz
  have hz2 : i0.bytes = 16 := congrArg (fun p => p.2.2) hzz
  clear hzz
  go_enter Try.func54, Try.ntmps54
  go_wp2_with fail
  refine (Check_any every n w).mono ?_
  rintro e _ ⟨he', rfl⟩
  rw [hck] at he'
  subst he'
  clear hck
  go_wp2_with fail
  refine (SNew_any w).mono ?_
  rintro e w1 ⟨p, g, c, b, rfl, hS1, hO1, hB1⟩
  have HS1 : Hid (SP w1 p g c b (hear E N every 0).1.y (hear E N every 0).1.t ((hear E N every 0).1.t / 6)) := Lib.hid (by
    rw [show hear E N every 0 = (HS.new, 0) from rfl]
    exact hS1)
  have HO := Lib.hid hO1
  have HB1 := Lib.hid hB1
  have HE1 : Hid (Acs w1 A (N - (hear E N every 0).2) (fun j => E ((hear E N every 0).2 + j))) := Lib.hid (by
    show Acs w1 A N (fun j => E (0 + j))
    simp only [Nat.zero_add]
    exact HE.out.below hB1)
  have HN1 : Hid (∀ b' off', A = some ⟨b', off', none⟩ → 0 < N - (hear E N every 0).2 → ¬ SL p g c b w.heap.size b') := Lib.hid fun b' off' h1 h2 h3 => by
    have hb' := HL.out b' off' h1 (by omega)
    rcases h3 with h3 | h3
    · have := hO1 b' h3; omega
    · omega
  clear hS1 hO1 hB1 HE HL
  go_wp2_with fail
  go_loopw [0, 10, 23] (fun l v i wr => ∃ (k : Nat) (A' : Option Addr) (cap' : Nat), k ≤ n ∧ i = .int .i64 (k : Int) ∧ l = .slice A' (N - (hear E N every k).2) cap' ∧ Hid (N - (hear E N every k).2 ≤ cap') ∧ Hid (SP wr p g c b (hear E N every k).1.y (hear E N every k).1.t ((hear E N every k).1.t / 6)) ∧
    Hid (Acs wr A' (N - (hear E N every k).2) (fun j => E ((hear E N every k).2 + j))) ∧ Hid (∀ b' off', A' = some ⟨b', off', none⟩ → 0 < N - (hear E N every k).2 → ¬ SL p g c b w.heap.size b') ∧
    Hid (wr.ownsRow w.heap.size 87 2 v k (prRow (heL E N every) (heR E N every) k)) ∧ Hid (Below w.heap.size w wr)) (fun _ _ i _ => n - (intOf i).toNat)
  case atStart => exact ⟨0, A, cap, Nat.zero_le _, rfl, rfl, Lib.hid hcap, HS1, HE1, HN1, Lib.hid ⟨rfl, .inl ⟨rfl, rfl⟩⟩, HB1⟩
  case round =>
    clear HS1 HE1 HN1 HB1 hcap
    obtain ⟨k, A', cap', hk, rfl, rfl, HC, HS, HE, HN, HV, HB⟩ := hrel
    by_cases hlt : k < n
    · obtain ⟨z, hz⟩ : ∃ z, z = every * (k : Int) := ⟨_, rfl⟩
      have hzb : 0 ≤ every * (k : Int) ∧ every * (k : Int) ≤ 6000000 := by
        constructor
        · exact Int.mul_nonneg (by omega) (by omega)
        · calc every * (k : Int) ≤ 6000 * (k : Int) := Int.mul_le_mul_of_nonneg_right (by omega) (by omega)
            _ ≤ 6000000 := by omega
      have hmul : IntKind.i64.wrap (every * (k : Int)) = z := by rw [hz, IntKind.wrap_i64]; omega
      have HK1 : Hid (hear E N every (k + 1) = ((play E z (hear E N every k).2 (N - (hear E N every k).2) (hear E N every k).1).1.to z, (hear E N every k).2 + (play E z (hear E N every k).2 (N - (hear E N every k).2) (hear E N every k).1).2)) := Lib.hid (by rw [hz]; rfl)
      have HOK : Hid ((hear E N every k).1.Ok) := Lib.hid (hear_ok E N every HD.out k)
      have HPK : Hid (∀ h, h.Ok → (play E z (hear E N every k).2 (N - (hear E N every k).2) h).1.Ok) := Lib.hid fun h hh => play_ok E z _ _ h hh fun j _ h2 => HD.out j (by omega)
      have HLL : Hid (heL E N every k = (hear E N every (k + 1)).1.y.left ∧ heR E N every k = (hear E N every (k + 1)).1.y.right) := Lib.hid ⟨rfl, rfl⟩
      have hpl := play_le E z (N - (hear E N every k).2) (hear E N every k).2 (hear E N every k).1
      clear hz hzb
      generalize hgk : hear E N every (k + 1) = hk1 at *
      have HGK := Lib.hid hgk
      clear hgk
      generalize hear E N every k = hk0 at *
      obtain ⟨h0, i⟩ := hk0
      replace HK1 : Hid (hk1 = ((play E z i (N - i) h0).1.to z, i + (play E z i (N - i) h0).2)) := HK1
      replace HPK : Hid (∀ h, h.Ok → (play E z i (N - i) h).1.Ok) := HPK
      replace hpl : (play E z i (N - i) h0).2 ≤ N - i := hpl
      go_wp2_with fail
      refine (play_P w.heap.size A' (N - i) cap' (fun j => E (i + j)) z p g c b h0 wr HS.out HOK.out HE.out HC.out HN.out).mono ?_
      rintro e w2 ⟨A2, cap2, rfl, hC2, hS2, hE2, hN2, hU2⟩
      rw [play_shift E z i (N - i) 0 h0, Nat.add_zero] at hC2 hS2 hE2 hN2 ⊢
      have hO2 := HPK.out h0 HOK.out
      generalize play E z i (N - i) h0 = pr at *
      obtain ⟨h1, cc⟩ := pr
      replace HK1 : Hid (hk1 = (h1.to z, i + cc)) := HK1
      replace hC2 : N - i - cc ≤ cap2 := hC2
      replace hS2 : SP w2 p g c b h1.y h1.t (h1.t / 6) := hS2
      replace hE2 : Acs w2 A2 (N - i - cc) (fun j => E (i + (cc + j))) := hE2
      replace hN2 : ∀ b' off', A2 = some ⟨b', off', none⟩ → 0 < N - i - cc → ¬ SL p g c b w.heap.size b' := hN2
      replace hO2 : h1.Ok := hO2
      replace hpl : cc ≤ N - i := hpl
      have HV2 := Lib.hid (own_upd HV.out hU2 (own_notS HV.out HS.out))
      have HB2 := Lib.hid (hU2.to HB.out HB.out.size (fun b hb => HO.out b hb))
      have HS2 := Lib.hid hS2
      have HE2 := Lib.hid hE2
      have HN2 := Lib.hid hN2
      have HO2 := Lib.hid hO2
      have HC2 := Lib.hid hC2
      clear hC2 hS2 hE2 hN2 hO2 hU2 HV HB HS HE HN HC HPK HOK
      rw [show ((h1, cc) : HS × Nat).2 = cc from rfl]
      go_wp2_with fail
      refine (To_P z p g c b h1.y h1.t w2 HS2.out HO2.out.y HO2.out.t).mono ?_
      rintro e w3 ⟨rfl, hS3, hU3⟩
      have HS3 : Hid (SP w3 p g c b hk1.1.y hk1.1.t (hk1.1.t / 6)) := Lib.hid (by rw [HK1.out]; exact hS3)
      have HE3 := Lib.hid (HE2.out.upd hU3 (fun b off h h0 hs => HN2.out b off h h0 (.inl hs)))
      have HV3 := Lib.hid (own_upd HV2.out hU3 (own_notS HV2.out HS2.out))
      have HB3 := Lib.hid (hU3.to HB2.out HB2.out.size (fun b hb => HO.out b hb))
      have HO3 : Hid (hk1.1.Ok) := Lib.hid (by rw [HK1.out]; exact HS.to_ok HO2.out z)
      have HI : Hid (N - hk1.2 = N - i - cc ∧ ∀ j, E (hk1.2 + j) = E (i + (cc + j))) := Lib.hid (by rw [HK1.out]; exact ⟨(Nat.sub_sub N i cc).symm, fun j => by show E (i + cc + j) = _; rw [Nat.add_assoc]⟩)
      clear hS3 hU3 HS2 HE2 HV2 HB2 HO2 HK1
      go_wp2_with fail
      refine (Sides_S p g c b hk1.1.y hk1.1.t _ w3 HS3.out HO3.out.y.ok).mono ?_
      rintro e w4 ⟨rfl, hB4⟩
      have hba : Below w3.heap.size w3 (w4.alloc (.cells #[.int .i64 hk1.1.y.left, .int .i64 hk1.1.y.right] 87)) := hB4.alloc hB4.size _
      have HS4 := Lib.hid (HS3.out.below hba)
      have HE4 := Lib.hid (HE3.out.below hba)
      have HV4 := Lib.hid (kept_none HV3.out (grown_below hba))
      have HB4 := Lib.hid (step_below HB3.out hba)
      clear hba hB4 HS3 HE3 HV3 HB3
      have HLL' := HLL.out
      rw [show hk1.1.y.left = hk1.1.y.left from rfl] at HLL'
      generalize hk1.1.y.left = yl at *
      generalize hk1.1.y.right = yr at *
      have hb16 : (k + 1) * 16 ≤ 140737488355328 := by omega
      have hml : k + 1 ≤ maxLen := by unfold maxLen; omega
      have hws := HB4.out.size
      go_wp2_with (at_builtin; go_loud (refine wpList_append_own _ rfl _ _ 83 rfl w.heap.size 87 i0 (.agg #[.int .i64 0, .int .i64 0]) 2 16 Try.underlying83 hi hz0 hz1 hz2 rfl (by decide) _ k _ rfl HV4.out ⟨w4.heap.size, 0, none⟩ 1 1 [.int .i64 yl, .int .i64 yr] rfl rfl (fun j u hj => by rw [addr_add, Nat.zero_add]; exact (At.new w4 #[.int .i64 yl, .int .i64 yr] _).cell j hj) (by intro u hu; simp at hu; rcases hu with rfl | rfl <;> rfl) hml hb16 hws ?_))
      intro v5 w5 hO5 hg5 _
      have hu5 := upd_grownV hg5
      have hob : ∀ x, u10.ownBlock = some x → w.heap.size ≤ x := fun x hx => (own_lt' HV4.out hx)
      have HS5 := Lib.hid (HS4.out.upd hu5 (fun x hx hv => own_notS HV4.out HS4.out x hv hx))
      have HE5 := Lib.hid (HE4.out.upd hu5 (fun b off h h0 hv => HN2.out b off h h0 (.inr (hob b hv))))
      have HB5 := Lib.hid (hu5.to HB4.out HB4.out.size hob)
      have HV5 : Hid (w5.ownsRow w.heap.size 87 2 v5 (k + 1) (prRow (heL E N every) (heR E N every) (k + 1))) := Lib.hid (by
        show w5.ownsRow _ _ _ _ _ (prRow _ _ k ++ [.int .i64 (heL E N every k), .int .i64 (heR E N every k)])
        rw [HLL'.1, HLL'.2]
        exact hO5)
      clear hO5 hg5 hu5 hob HS4 HE4 HV4 HB4 HLL HLL'
      go_wp2
      go_roundw
      case rel =>
        refine ⟨k + 1, A2, cap2, by omega, by go_num, ?_, ?_, ?_, ?_, ?_, HV5, HB5⟩
        · rw [HGK.out, HI.out.1]
        · rw [HGK.out, HI.out.1]; exact HC2
        · rw [HGK.out]; exact HS5
        · rw [HGK.out, HI.out.1, show (fun j => E (hk1.2 + j)) = fun j => E (i + (cc + j)) from funext HI.out.2]; exact HE5
        · rw [HGK.out, HI.out.1]; exact HN2
      case measure => simp [intOf]; omega
    · obtain rfl : k = n := by omega
      go_wp2
      go_ret2
      exact ⟨⟨_, rfl, HV.out⟩, HB.out⟩
end Go.Proofs.Ytgkbpdcedighcac

