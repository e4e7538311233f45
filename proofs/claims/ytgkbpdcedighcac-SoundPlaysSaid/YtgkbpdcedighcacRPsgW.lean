/-
  The walk of the reference 15's Write. Printed by gen_rpsg.py.
-/
import Derived.Test.YtgkbpdcedighcacRPsg
namespace Go.Proofs.Ytgkbpdcedighcac
open Go.RowKit Go.Sort NoiseP

set_option maxRecDepth 100000 in
set_option maxHeartbeats 4000000 in
theorem RWrite_P (reg v : Nat) (g : Nat) (c b : Nat → Nat) (y : PS) (w : World) (h : RP w g c b y) (hy : y.Ok) (hv : v < 256) (hreg : reg < 256) :
    Calls Try.prog 26 #[.pointer (some ⟨g, 0, none⟩), .int .i64 (reg : Int), .int .u8 (v : Int)] w fun e w' => e = .returned (.tuple #[]) ∧ RP w' g c b (y.wr reg v) ∧ Upd (OwnP g c b) w w' := by
  have e1 : (reg : Int).tmod 16 = ((reg % 16 : Nat) : Int) := by rw [Int.tmod_eq_emod_of_nonneg (by omega)]; rfl
  have e2 : (((reg % 16 : Nat) : Int) + 16).tmod 16 = ((reg % 16 : Nat) : Int) := by rw [Int.tmod_eq_emod_of_nonneg (by omega)]; omega
  have e3 : (v : Int).tmod 8 = ((v % 8 : Nat) : Int) := by rw [Int.tmod_eq_emod_of_nonneg (by omega)]; rfl
  have hr : reg % 16 < 16 := by omega
  have hv8 : v % 8 < 8 := by omega
  have HW : Hid (y.wr reg v = if reg % 16 = 0 then { y with ch := v % 8 } else if reg % 16 = 1 then { y with mn := v } else if reg % 16 = 9 then { y with bd := v } else if reg % 16 ≤ 7 ∧ y.ch < 6 ∧ (reg % 16 ≠ 7 ∨ 4 ≤ y.ch) then { y with x := fun j => if j = y.ch then (y.x y.ch).wr ((reg % 16 : Nat) : Int) v else y.x j } else y) := Lib.hid rfl
  generalize y.wr reg v = z at *
  generalize reg % 16 = r at *
  generalize v % 8 = u at *
  have HG := Lib.hid h
  have HY := Lib.hid hy
  have hch := hy.ch
  have c6 : w.cell? ⟨g, 6, none⟩ = some (.int .i64 (y.ch : Int)) := h.g.cell 6 rfl
  have c7 : w.cell? ⟨g, 7, none⟩ = some (.int .u8 (y.mn : Int)) := h.g.cell 7 rfl
  have c8 : w.cell? ⟨g, 8, none⟩ = some (.int .u8 (y.bd : Int)) := h.g.cell 8 rfl
  have f6 := h.g.frozen 6
  have f7 := h.g.frozen 7
  have f8 := h.g.frozen 8
  have fin : ∀ (i : Nat) (x : Value) (z' : PS), (pz (fun i => ptr (c i)) y.ch y.mn y.bd).set i x = pz (fun i => ptr (c i)) z'.ch z'.mn z'.bd → z'.x = y.x → RP (w.setCell ⟨g, i, none⟩ x) g c b z' ∧ Upd (OwnP g c b) w (w.setCell ⟨g, i, none⟩ x) := fun i x z' he hx => by
    have hu : Upd (· = g) w (w.setCell ⟨g, i, none⟩ x) := (Upd.refl _ _).here _
    refine ⟨⟨(HG.out.g.set i x).of_eq he, fun j hj => ?_, HG.out.inj⟩, hu.mono fun k _ h => .inl h⟩
    rw [hx]
    exact (HG.out.x j hj).upd hu (fun h => HG.out.g.ne_ (HG.out.x j hj).d (by decide) h.symm) (fun h => HG.out.g.ne_ (HG.out.x j hj).g (by decide) h.symm)
  have HFIN := Lib.hid fin
  clear fin h hy
  by_cases h0 : r = 0
  · subst h0
    rw [if_pos rfl] at HW
    go_enter Try.func26, Try.ntmps26
    go_wp2
    go_end0
    rw [HW.out]
    exact ⟨rfl, HFIN.out 6 _ { y with ch := u } rfl rfl⟩
  · rw [if_neg h0] at HW
    by_cases h1 : r = 1
    · subst h1
      rw [if_pos rfl] at HW
      go_enter Try.func26, Try.ntmps26
      go_wp2
      go_end0
      rw [HW.out]
      exact ⟨rfl, HFIN.out 7 _ { y with mn := v } rfl rfl⟩
    · rw [if_neg h1] at HW
      by_cases h9 : r = 9
      · subst h9
        rw [if_pos rfl] at HW
        go_enter Try.func26, Try.ntmps26
        go_wp2
        go_end0
        rw [HW.out]
        exact ⟨rfl, HFIN.out 8 _ { y with bd := v } rfl rfl⟩
      · rw [if_neg h9] at HW
        have q0 : ((r : Int) == 0) = false := by rw [beq_eq_false_iff_ne]; omega
        have q1 : ((r : Int) == 1) = false := by rw [beq_eq_false_iff_ne]; omega
        have q9 : ((r : Int) == 9) = false := by rw [beq_eq_false_iff_ne]; omega
        have g2 : decide (2 ≤ (r : Int)) = true := by rw [decide_eq_true_eq]; omega
        by_cases h7 : r = 7
        · subst h7
          by_cases h4 : y.ch = 4
          · have h6 : y.ch < 6 := by omega
            rw [if_pos ⟨by omega, h6, .inr (by omega)⟩] at HW
            have q4 : ((y.ch : Int) == 4) = true := by rw [beq_iff_eq]; omega
            have H4 := Lib.hid h4
            clear h4
            have cp : w.cell? ⟨g, y.ch, none⟩ = some (.pointer (some ⟨c y.ch, 0, none⟩)) := HG.out.g.cell y.ch (pz_get (p := fun i => ptr (c i)) h6)
            have hk0 : (0 : Int) ≤ (y.ch : Int) := by omega
            have hk6 : (y.ch : Int) < 6 := by omega
            go_enter Try.func26, Try.ntmps26
            go_wp2_with fail
            refine region_drew_tail 11 (by kernel_rfl) (by kernel_rfl) ?_
            simp only [List.take_succ_cons, List.take_zero, List.drop_succ_cons, List.drop_zero]
            repeat (go_big_quiet_step ((fail)))
            refine wpQuiet_nil ?_
            intro _ hw'
            obtain ⟨nq, rfl⟩ := hw'
            go_wp2_with fail
            refine (QWrite_S (c y.ch) (b y.ch) (y.x y.ch) (7 : Nat) v _ ⟨(HG.out.x y.ch h6).d.drewN nq, (HG.out.x y.ch h6).g.drewN nq⟩ (HY.out.x y.ch h6) hv).mono ?_
            rintro e w2 ⟨rfl, hP, hU⟩
            have hU0 : Upd (fun k => k = c y.ch ∨ k = b y.ch) w w2 := ((Upd.refl (fun k => k = c y.ch ∨ k = b y.ch) w).drewN nq).trans hU fun _ _ h => h
            go_wp2
            go_end0
            rw [HW.out]
            exact ⟨rfl, HG.out.one h6 hU0 hP, hU0.mono fun k _ h => .inr ⟨y.ch, h6, h⟩⟩
          · have q4 : ((y.ch : Int) == 4) = false := by rw [beq_eq_false_iff_ne]; omega
            by_cases h5 : y.ch = 5
            · have h6 : y.ch < 6 := by omega
              rw [if_pos ⟨by omega, h6, .inr (by omega)⟩] at HW
              have q5 : ((y.ch : Int) == 5) = true := by rw [beq_iff_eq]; omega
              have H5 := Lib.hid h5
              clear h5 h4
              have cp : w.cell? ⟨g, y.ch, none⟩ = some (.pointer (some ⟨c y.ch, 0, none⟩)) := HG.out.g.cell y.ch (pz_get (p := fun i => ptr (c i)) h6)
              have hk0 : (0 : Int) ≤ (y.ch : Int) := by omega
              have hk6 : (y.ch : Int) < 6 := by omega
              go_enter Try.func26, Try.ntmps26
              go_wp2_with fail
              refine region_drew_tail 11 (by kernel_rfl) (by kernel_rfl) ?_
              simp only [List.take_succ_cons, List.take_zero, List.drop_succ_cons, List.drop_zero]
              repeat (go_big_quiet_step ((fail)))
              refine wpQuiet_nil ?_
              intro _ hw'
              obtain ⟨nq, rfl⟩ := hw'
              go_wp2_with fail
              refine (QWrite_S (c y.ch) (b y.ch) (y.x y.ch) (7 : Nat) v _ ⟨(HG.out.x y.ch h6).d.drewN nq, (HG.out.x y.ch h6).g.drewN nq⟩ (HY.out.x y.ch h6) hv).mono ?_
              rintro e w2 ⟨rfl, hP, hU⟩
              have hU0 : Upd (fun k => k = c y.ch ∨ k = b y.ch) w w2 := ((Upd.refl (fun k => k = c y.ch ∨ k = b y.ch) w).drewN nq).trans hU fun _ _ h => h
              go_wp2
              go_end0
              rw [HW.out]
              exact ⟨rfl, HG.out.one h6 hU0 hP, hU0.mono fun k _ h => .inr ⟨y.ch, h6, h⟩⟩
            · have q5 : ((y.ch : Int) == 5) = false := by rw [beq_eq_false_iff_ne]; omega
              rw [if_neg (by omega)] at HW
              go_enter Try.func26, Try.ntmps26
              go_wp2
              go_end0
              rw [HW.out]
              exact ⟨rfl, HG.out, Upd.refl _ _⟩
        · have q7 : ((r : Int) == 7) = false := by rw [beq_eq_false_iff_ne]; omega
          by_cases h76 : r ≤ 6
          · have g6 : decide ((r : Int) ≤ 6) = true := by rw [decide_eq_true_eq]; omega
            by_cases h6 : y.ch < 6
            · have d6 : decide ((y.ch : Int) < 6) = true := by rw [decide_eq_true_eq]; omega
              rw [if_pos ⟨by omega, h6, .inl (by omega)⟩] at HW
              have cp : w.cell? ⟨g, y.ch, none⟩ = some (.pointer (some ⟨c y.ch, 0, none⟩)) := HG.out.g.cell y.ch (pz_get (p := fun i => ptr (c i)) h6)
              have hk0 : (0 : Int) ≤ (y.ch : Int) := by omega
              have hk6 : (y.ch : Int) < 6 := by omega
              go_enter Try.func26, Try.ntmps26
              go_wp2_with fail
              refine region_drew_tail 11 (by kernel_rfl) (by kernel_rfl) ?_
              simp only [List.take_succ_cons, List.take_zero, List.drop_succ_cons, List.drop_zero]
              repeat (go_big_quiet_step ((fail)))
              refine wpQuiet_nil ?_
              intro _ hw'
              obtain ⟨nq, rfl⟩ := hw'
              go_wp2_with fail
              refine (QWrite_S (c y.ch) (b y.ch) (y.x y.ch) r v _ ⟨(HG.out.x y.ch h6).d.drewN nq, (HG.out.x y.ch h6).g.drewN nq⟩ (HY.out.x y.ch h6) hv).mono ?_
              rintro e w2 ⟨rfl, hP, hU⟩
              have hU0 : Upd (fun k => k = c y.ch ∨ k = b y.ch) w w2 := ((Upd.refl (fun k => k = c y.ch ∨ k = b y.ch) w).drewN nq).trans hU fun _ _ h => h
              go_wp2
              go_end0
              rw [HW.out]
              exact ⟨rfl, HG.out.one h6 hU0 hP, hU0.mono fun k _ h => .inr ⟨y.ch, h6, h⟩⟩
            · have d6 : decide ((y.ch : Int) < 6) = false := by rw [decide_eq_false_iff_not]; omega
              rw [if_neg (by omega)] at HW
              go_enter Try.func26, Try.ntmps26
              go_wp2
              go_end0
              rw [HW.out]
              exact ⟨rfl, HG.out, Upd.refl _ _⟩
          · have g6 : decide ((r : Int) ≤ 6) = false := by rw [decide_eq_false_iff_not]; omega
            rw [if_neg (by omega)] at HW
            go_enter Try.func26, Try.ntmps26
            go_wp2
            go_end0
            rw [HW.out]
            exact ⟨rfl, HG.out, Upd.refl _ _⟩
end Go.Proofs.Ytgkbpdcedighcac
