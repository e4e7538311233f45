/-
  The walk of the law 14's alike.
-/
import Derived.Test.YtgkbpdcedighcacWaveE
import Derived.Test.YtgkbpdcedighcacRWaveG
namespace Go.Proofs.Ytgkbpdcedighcac
open Go.RowKit Go.Sort NoiseP

/-- A channel and its noise, the reference's channel and its noise. -/
structure WS (w : World) (c b d g fr : Nat) (be : Int) (co ba to : Nat) (ny : Bool) (wv : Nat → Nat) (pl : Nat) (lf : Int) (s : Nat) (l f : Int) : Prop where
  c : At w c 138 (wz b fr be co ba to ny wv pl lf)
  b : At w b 175 (nz s l (perI f))
  d : At w d 129 (cz g fr be co ba to ny wv pl lf)
  g : At w g 172 (rz s l f)
theorem WS.drewN {w : World} {c b d g fr : Nat} {be : Int} {co ba to : Nat} {ny : Bool} {wv : Nat → Nat} {pl : Nat} {lf : Int} {s : Nat} {l f : Int} (h : WS w c b d g fr be co ba to ny wv pl lf s l f) (n : Nat) : WS (w.drewN n) c b d g fr be co ba to ny wv pl lf s l f := ⟨h.c.drewN n, h.b.drewN n, h.d.drewN n, h.g.drewN n⟩
theorem WS.below {w w' : World} {c b d g fr : Nat} {be : Int} {co ba to : Nat} {ny : Bool} {wv : Nat → Nat} {pl : Nat} {lf : Int} {s : Nat} {l f : Int} (h : WS w c b d g fr be co ba to ny wv pl lf s l f) (hb : Below w.heap.size w w') : WS w' c b d g fr be co ba to ny wv pl lf s l f :=
  ⟨h.c.below hb h.c.lt, h.b.below hb h.b.lt, h.d.below hb h.d.lt, h.g.below hb h.g.lt⟩

set_option maxRecDepth 100000 in
set_option maxHeartbeats 4000000 in
theorem alike_any (c b d g fr : Nat) (be : Int) (co ba to : Nat) (ny : Bool) (wv : Nat → Nat) (pl : Nat) (lf : Int) (s : Nat) (l f : Int) (w : World) (hI : WS w c b d g fr be co ba to ny wv pl lf s l f)
    (hfr : fr < 4096) (hbe : -4096 ≤ be ∧ be ≤ 4096) (hco : co < 256) (hba : ba < 256) (hpl : pl < 32) (hs : s < 262144) :
    Calls Try.prog 38 #[.pointer (some ⟨c, 0, none⟩), .pointer (some ⟨d, 0, none⟩)] w fun e w' => e = .returned (.bool true) ∧ Below w.heap.size w w' := by
  have HI := Lib.hid hI
  have e1 : (co : Int).tmod 32 = ((co % 32 : Nat) : Int) := by rw [Int.tmod_eq_emod_of_nonneg (by omega)]; rfl
  have e2 : (ba : Int).tdiv 16 = ((ba / 16 : Nat) : Int) := by rw [Int.tdiv_eq_ediv_of_nonneg (by omega)]; rfl
  have e3 : (ba : Int).tmod 16 = ((ba % 16 : Nat) : Int) := by rw [Int.tmod_eq_emod_of_nonneg (by omega)]; rfl
  have d1 : decide (128 ≤ (co : Int)) = decide (128 ≤ co) := by rw [decide_eq_decide]; omega
  have v1 : co % 32 < 32 := by omega
  have v2 : ba / 16 < 16 := by omega
  have v3 : ba % 16 < 16 := by omega
  obtain ⟨r1, hr1⟩ : ∃ r, r = co % 32 := ⟨_, rfl⟩
  obtain ⟨r2, hr2⟩ : ∃ r, r = ba / 16 := ⟨_, rfl⟩
  obtain ⟨r3, hr3⟩ : ∃ r, r = ba % 16 := ⟨_, rfl⟩
  obtain ⟨o, ho⟩ : ∃ o, o = decide (128 ≤ co) := ⟨_, rfl⟩
  rw [← hr1] at e1 v1
  rw [← hr2] at e2 v2
  rw [← hr3] at e3 v3
  rw [← ho] at d1
  have HR1 := Lib.hid hr1
  have HR2 := Lib.hid hr2
  have HR3 := Lib.hid hr3
  have HO := Lib.hid ho
  have q := eql32_same wv
  clear hr1 hr2 hr3 ho hI
  go_enter Try.func38, Try.ntmps38
  go_wp2_with fail
  refine (Balance_any c b fr be co ba to ny wv pl lf w HI.out.c hba).mono ?_
  rintro e _ ⟨rfl, n1, rfl⟩
  rw [← HR2.out, ← HR3.out]
  have H1 := Lib.hid (HI.out.drewN n1)
  have HB1 : Hid (Below w.heap.size w (w.drewN n1)) := Lib.hid ((Upd.refl (fun _ => False) w).drewN n1 |>.to_below fun b hb => ⟨hb, id⟩)
  generalize w.drewN n1 = w1 at *
  clear HI
  have HG : ∀ d os, Hid (WS (grow (redrawn w1 d) os) c b _ g fr be co ba to ny wv pl lf s l f) := fun d os => Lib.hid (H1.out.below (below_regrown _ _ _))
  have q1 := H1.out.d.regrown 1 rfl
  have q3 := H1.out.d.regrown 3 rfl
  have q4 := H1.out.d.regrown 4 rfl
  have q40 := H1.out.d.regrown 40 rfl
  have hs4 : s < 4294967296 := by omega
  have k1 := fun d os => Level_w c b fr be co ba to ny wv pl lf (grow (redrawn w1 d) os) s l _ (HG d os).out.c (HG d os).out.b hco hs4 hpl
  have k2 := fun d' os => QLevel_any d g fr be co ba to ny wv pl lf (grow (redrawn w1 d') os) s l f (HG d' os).out.d (HG d' os).out.g hco hs4 hpl
  have k3 := fun d os => Period_w c b fr be co ba to ny wv pl lf (grow (redrawn w1 d) os) (HG d os).out.c hfr hbe
  have k4 := fun d' os => QPeriod_any d g fr be co ba to ny wv pl lf (grow (redrawn w1 d') os) (HG d' os).out.d hfr hbe
  have k5 := fun d os => On_any c b fr be co ba to ny wv pl lf (grow (redrawn w1 d) os) (HG d os).out.c hco
  have k6 := fun d os => Volume_any c b fr be co ba to ny wv pl lf (grow (redrawn w1 d) os) (HG d os).out.c hco
  have k7 := fun d os => Wave_w c b fr be co ba to ny wv pl lf (grow (redrawn w1 d) os) (HG d os).out.c
  have k8 := fun d os => Place_any c b fr be co ba to ny wv pl lf (grow (redrawn w1 d) os) (HG d os).out.c
  have k9 := fun d os => Until_any c b fr be co ba to ny wv pl lf (grow (redrawn w1 d) os) (HG d os).out.c
  rw [← HO.out] at k5
  rw [← HR1.out] at k6
  generalize lvW co to ny wv pl s = lev at *
  generalize perW fr be = per at *
  go_wp2_with fail
  refine wp_region_quiet_below (by kernel_rfl) (by kernel_rfl) ?_
  simp only [List.append_eq, List.cons_append, List.nil_append]
  repeat (first
    | go_big_quiet_step (first
      | (go_at_call 42; exact Calls.regrown_drew (k1 _ _))
      | (go_at_call 73; exact Calls.regrown_drew (k2 _ _))
      | (go_at_call 44; exact Calls.regrown_drew (k3 _ _))
      | (go_at_call 88; exact Calls.regrown_drew (k4 _ _))
      | (go_at_call 80; exact Calls.regrown_same (k5 _ _))
      | (go_at_call 79; exact Calls.regrown_same (k6 _ _))
      | (go_at_call 76; exact Calls.regrown_of (k7 _ _))
      | (go_at_call 40; exact Calls.regrown_same (k8 _ _))
      | (go_at_call 41; exact Calls.regrown_same (k9 _ _))))
  refine BigFrame.wpQuiet_want rfl fun K hK => ?_
  refine quiet_load_part 66 _ rfl d 6 32 rfl 129 (cz g fr be co ba to ny wv pl lf) _ (fun w' hw' => H1.out.d.below (below_of_regrown hw') H1.out.d.lt) (by rw [cz_len]; omega) Try.underlying66 rfl (by kernel_rfl) (wrow wv) rfl (hK _ ?_)
  clear hK K
  (conv => arg 6; whnf)
  simp only [List.setIfInBounds_toArray, List.set_cons_succ, List.set_cons_zero]
  repeat (first
    | go_big_quiet_step (first
      | (go_at_call 40; exact Calls.regrown_same (k8 _ _))
      | (go_at_call 41; exact Calls.regrown_same (k9 _ _))))
  refine wpQuiet_nil ?_
  intro w5 hw'
  have hb5 := below_of_regrown hw'
  clear hw'
  go_wp2
  go_ret
  exact ⟨rfl, step_below HB1.out hb5⟩
end Go.Proofs.Ytgkbpdcedighcac
