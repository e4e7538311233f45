/-
  The walks of the reference 15: New, Write, Depth.
-/
import Derived.Test.YtgkbpdcedighcacPsgV
import Derived.Test.YtgkbpdcedighcacWaveS
namespace Go.Proofs.Ytgkbpdcedighcac
open Go.RowKit Go.Sort NoiseP

attribute [local go_sem ↓] Go.wp_at_zero Go.wp_at_succ

/-- The reference's six channels lie there. -/
structure RP (w : World) (g : Nat) (c b : Nat → Nat) (y : PS) : Prop where
  g : At w g 48 (pz (fun i => ptr (c i)) y.ch y.mn y.bd)
  x : ∀ i, i < 6 → RC w (c i) (b i) (y.x i)
  inj : ∀ i j, i < 6 → j < 6 → i ≠ j → c i ≠ c j ∧ b i ≠ b j
theorem RP.below {w w' : World} {g : Nat} {c b : Nat → Nat} {y : PS} (h : RP w g c b y) (hb : Below w.heap.size w w') : RP w' g c b y := ⟨h.g.below hb h.g.lt, fun i hi => (h.x i hi).below hb, h.inj⟩
theorem RP.upd {w w' : World} {g : Nat} {c b : Nat → Nat} {y : PS} {S : Nat → Prop} (h : RP w g c b y) (hu : Upd S w w') (hS : ∀ k, OwnP g c b k → ¬ S k) : RP w' g c b y :=
  ⟨h.g.upd hu (hS _ (.inl rfl)), fun i hi => (h.x i hi).upd hu (hS _ (.inr ⟨i, hi, .inl rfl⟩)) (hS _ (.inr ⟨i, hi, .inr rfl⟩)), h.inj⟩
theorem RP.own_lt {w : World} {g : Nat} {c b : Nat → Nat} {y : PS} (h : RP w g c b y) {k : Nat} (hk : OwnP g c b k) : k < w.heap.size := by
  rcases hk with rfl | ⟨i, hi, rfl | rfl⟩
  · exact h.g.lt
  · exact (h.x i hi).d.lt
  · exact (h.x i hi).g.lt
theorem RP.one {w w' : World} {g : Nat} {c b : Nat → Nat} {y : PS} (h : RP w g c b y) {i : Nat} (hi : i < 6) {z : CS} (hu : Upd (fun k => k = c i ∨ k = b i) w w') (hz : RC w' (c i) (b i) z) :
    RP w' g c b { y with x := fun j => if j = i then z else y.x j } := by
  refine ⟨h.g.upd hu (fun k => k.elim (fun k => h.g.ne_ (h.x i hi).d (by decide) k) (fun k => h.g.ne_ (h.x i hi).g (by decide) k)), fun j hj => ?_, h.inj⟩
  show RC w' (c j) (b j) (if j = i then z else y.x j)
  by_cases hji : j = i
  · subst hji; rw [if_pos rfl]; exact hz
  · rw [if_neg hji]
    have hn := h.inj j i hj hi hji
    have h1 := (h.x j hj).d.ne_ (h.x i hi).g (by decide)
    have h2 := (h.x j hj).g.ne_ (h.x i hi).d (by decide)
    exact (h.x j hj).upd hu (fun k => k.elim hn.1 h1) (fun k => k.elim h2 hn.2)

/-- While they are made: k of them. -/
def MkR (w : World) (g base : Nat) (c b : Nat → Nat) (k : Nat) : Prop :=
  At w g 48 (pz (fun i => if i < k then ptr (c i) else .pointer none) 0 0 0) ∧ (∀ i, i < k → RC w (c i) (b i) CS.new ∧ base ≤ c i ∧ base ≤ b i) ∧ ∀ i j, i < k → j < k → i ≠ j → c i ≠ c j ∧ b i ≠ b j

theorem MkR.step {w w' : World} {g : Nat} {c b : Nat → Nat} {k c' b' : Nat} (h : MkR w g g c b k) (hk : k < 6) (hb : Below w.heap.size w w') (h1 : w.heap.size ≤ b') (h2 : b' < c') (h3 : RC w' c' b' CS.new) :
    MkR (w'.setCell ⟨g, k, none⟩ (ptr c')) g g (fun j => if j = k then c' else c j) (fun j => if j = k then b' else b j) (k + 1) := by
  obtain ⟨hA, hP, hi⟩ := h
  have hlt := hA.lt
  have hA2 := hA.below hb hlt
  refine ⟨((hA2.set k (ptr c')).of_eq ?_), fun i hik => ?_, fun i j hik hjk hij => ?_⟩
  · rw [pz_set hk]
    refine pz_ext fun i _ => ?_
    by_cases hik : i = k
    · subst hik; rw [if_pos rfl, if_pos (by omega)]; simp
    · rw [if_neg hik]
      by_cases hlt2 : i < k
      · rw [if_pos hlt2, if_pos (by omega)]; simp [hik]
      · rw [if_neg hlt2, if_neg (by omega)]
  · have hu := (Upd.refl (· = g) w').here (i := k) (ptr c')
    by_cases hik2 : i = k
    · subst hik2
      simp only [if_pos]
      exact ⟨h3.upd hu (by omega) (by omega), by omega, by omega⟩
    · simp only [if_neg hik2]
      obtain ⟨p1, p2, p3⟩ := hP i (by omega)
      have n1 := hA.ne_ p1.d (by decide)
      have n2 := hA.ne_ p1.g (by decide)
      exact ⟨(p1.below hb).upd hu (fun h => n1 h.symm) (fun h => n2 h.symm), p2, p3⟩
  · by_cases hik2 : i = k
    · subst hik2
      have hj := (hP j (by omega)).1
      have := hj.d.lt
      have := hj.g.lt
      simp only [if_pos, if_neg (show ¬ j = i by omega)]
      omega
    · by_cases hjk2 : j = k
      · subst hjk2
        have hj := (hP i (by omega)).1
        have := hj.d.lt
        have := hj.g.lt
        simp only [if_pos, if_neg hik2]
        omega
      · simp only [if_neg hik2, if_neg hjk2]
        exact hi i j (by omega) (by omega) hij

set_option maxRecDepth 100000 in
set_option maxHeartbeats 4000000 in
theorem RPNew_any (w : World) : Calls Try.prog 24 #[] w fun e w' => ∃ g c b, e = .returned (.pointer (some ⟨g, 0, none⟩)) ∧ RP w' g c b PS.new ∧ (∀ k, OwnP g c b k → w.heap.size ≤ k) ∧ Below w.heap.size w w' := by
  go_enter Try.func24, Try.ntmps24
  go_wp2_with fail
  refine allocs1 ?_
  intro w1 hA1 hB1 _
  have HM1 : Hid (MkR w1 w.heap.size w.heap.size (fun _ => 0) (fun _ => 0) 0) := Lib.hid ⟨hA1.of_eq rfl, fun i hi => by omega, fun i j hi => by omega⟩
  have HB1 := Lib.hid hB1
  clear hA1 hB1
  generalize hG : w.heap.size = G at *
  go_loopw [2] (fun i wr => ∃ (k : Nat) (c b : Nat → Nat), k ≤ 6 ∧ i = .int .i64 k ∧ Hid (MkR wr G G c b k) ∧ Hid (Below G w wr)) (fun i _ => 6 - (intOf i).toNat)
  case atStart => exact ⟨0, _, _, by omega, rfl, HM1, HB1⟩
  case round =>
    clear HM1 HB1
    obtain ⟨k, c, b, hk, rfl, HM, HB⟩ := hrel
    by_cases hlt : k < 6
    · have hk0 : (0 : Int) ≤ (k : Int) := by omega
      have hk6 : (k : Int) < 6 := by omega
      have HA : Hid (At wr.drew G 48 (pz (fun i => if i < k then ptr (c i) else .pointer none) 0 0 0)) := Lib.hid HM.out.1
      have hGl : G < wr.drew.heap.size := HA.out.lt
      go_wp2_with fail
      go_region_held3 (fun _ => True) (trivial) (first | (go_at_call 34; refine (QNew_any _).mono ?_; rintro e w4 ⟨c', b', rfl, hb', hbc', hA', hN', hB'⟩; have q := (HA.out.below hB' hGl).cell k (pz_get hlt); have f := (HA.out.below hB' hGl).frozen k))
      have hM5 : MkR (w4.setCell ⟨G, k, none⟩ (.pointer (some ⟨c', 0, none⟩))) G G _ _ (k + 1) := MkR.step HM.out hlt ⟨hB'.os, hB'.tape, hB'.output, hB'.size, hB'.block⟩ hb' hbc' ⟨hA', hN'⟩
      have HM5 := Lib.hid hM5
      have hB4 : Below G w w4 := HB.out.trans ((show Below wr.heap.size wr w4 from ⟨hB'.os, hB'.tape, hB'.output, hB'.size, hB'.block⟩).mono (by have := HB.out.size; omega))
      have HB5 : Hid (Below G w (w4.setCell ⟨G, k, none⟩ (.pointer (some ⟨c', 0, none⟩)))) := Lib.hid (((Upd.refl (· = G) w4).here (i := k) (.pointer (some ⟨c', 0, none⟩))).to hB4 (by have : wr.heap.size ≤ w4.heap.size := hB'.size; have : G < wr.heap.size := hGl; omega) (fun b h => by omega))
      clear HA HM hM5 hA' hN' hB' q f HB hB4
      generalize w4.setCell _ _ = w5 at *
      go_wp2
      go_round
      case rel => exact ⟨k + 1, _, _, by omega, by go_num, HM5, HB5⟩
      case measure => simp [intOf]; omega
    · obtain rfl : k = 6 := by omega
      go_wp2
      go_ret
      obtain ⟨hA, hP, hi⟩ := HM.out
      refine ⟨G, c, b, rfl, ⟨hA.of_eq (pz_ext fun i hi => by rw [if_pos hi]), fun i hi => (hP i hi).1, hi⟩, ?_, hG ▸ HB.out⟩
      rintro k (rfl | ⟨i, hi, rfl | rfl⟩)
      · omega
      · have := (hP i hi).2.1; omega
      · have := (hP i hi).2.2; omega

theorem RDepth_any (g : Nat) (c b : Nat → Nat) (y : PS) (w : World) (h : RP w g c b y) (hy : y.Ok) : Calls Try.prog 72 #[.pointer (some ⟨g, 0, none⟩)] w fun e w' => e = .returned (.int .i64 (depT (y.bd % 4))) ∧ Below w.heap.size w w' := by
  have hg := h.g
  have e1 : (y.bd : Int).tmod 4 = ((y.bd % 4 : Nat) : Int) := by rw [Int.tmod_eq_emod_of_nonneg (by omega)]; rfl
  have hr : y.bd % 4 = 0 ∨ y.bd % 4 = 1 ∨ y.bd % 4 = 2 ∨ y.bd % 4 = 3 := by omega
  have hbd := hy.bd
  have c8 : w.cell? ⟨g, 8, none⟩ = some (.int .u8 (y.bd : Int)) := hg.cell 8 rfl
  have c8n := fun o => (hg.alloc o).cell 8 (v := .int .u8 (y.bd : Int)) rfl
  clear h hy hg
  generalize y.bd % 4 = r at *
  rcases hr with rfl | rfl | rfl | rfl
  all_goals
    go_enter Try.func72, Try.ntmps72
    go_wp2
    go_ret
    exact ⟨rfl, (Below.refl _ _).alloc (Nat.le_refl _) _⟩
end Go.Proofs.Ytgkbpdcedighcac
