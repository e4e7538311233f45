/-
  The walk of the law SoundPlays.
-/
import Derived.Test.YtgkbpdcedighcacSndAB
import Derived.Test.YtgkbpdcedighcacRPlayA
import Derived.Test.YtgkbpdcedighcacOpenS
import Derived.Test.YtgkbpdcedighcacOpenA
namespace Go.Proofs.Ytgkbpdcedighcac
open Go.RowKit Go.Sort NoiseP

structure Sp where
  wr : Bool
  rg : Nat
  b : Nat
  st : Int
def Sp.cs (s : Sp) : List Value := [.bool s.wr, .int .u8 (s.rg : Int), .int .u8 (s.b : Int), .int .i64 s.st]
def Sp.Ok (s : Sp) : Prop := s.rg < 256 ∧ s.b < 256
def IsSp (cs : List Value) : Prop := ∃ s : Sp, cs = s.cs ∧ s.Ok
set_option maxRecDepth 100000 in
theorem IsSp_of {H : Type} {enc : TypeId × Value → H} {w : World} {base : Nat} {spare : Nat → Bool} {held : Bool} {m : Nat} {cs : List Value} {x : DataW H × List MemPlace}
    (h : DataW.trod enc Try.prog w base spare held m 75 cs = some x) : IsSp cs := by
  obtain ⟨hl, hf⟩ := struct_cells Try.underlying75 (by kernel_rfl) (by kernel_rfl) h
  obtain ⟨d, hd⟩ := field_bool Try.underlying4 (hf 0 _ rfl)
  obtain ⟨b, hb, wb⟩ := field_int Try.underlying5 (hf 1 _ rfl)
  obtain ⟨c, hc, wc⟩ := field_int Try.underlying5 (hf 2 _ rfl)
  obtain ⟨a, ha, wa⟩ := field_int Try.underlying2 (hf 3 _ rfl)
  have h1 := wf_bounds_u8 wb
  have h2 := wf_bounds_u8 wc
  refine ⟨⟨d, b.toNat, c.toNat, a⟩, ?_, by show b.toNat < 256; omega, by show c.toNat < 256; omega⟩
  show cs = [.bool d, .int .u8 ((b.toNat : Nat) : Int), .int .u8 ((c.toNat : Nat) : Int), .int .i64 a]
  rw [Int.toNat_of_nonneg h1.1, Int.toNat_of_nonneg h2.1]
  replace hl : cs.length = 4 := hl
  apply List.ext_getElem?
  intro i
  match i with
  | 0 => exact hd
  | 1 => exact hb
  | 2 => exact hc
  | 3 => exact ha
  | i + 4 => rw [List.getElem?_eq_none (by rw [hl]; omega), List.getElem?_eq_none (by simp)]
def Sps (w : World) (a : Option Addr) (n : Nat) (E : Nat → Sp) : Prop := RowOf w a n 4 (fun i => (E i).cs) ∧ ∀ i, i < n → (E i).Ok
theorem sps_of {w : World} {a : Option Addr} {n cap : Nat} {F : Nat → List Value} (h : SlR w a n cap 4 IsSp F) : ∃ E, Sps w a n E := by
  have hex : ∀ i, ∃ v : Sp, i < n → F i = v.cs ∧ v.Ok := fun i => by
    by_cases hi : i < n
    · obtain ⟨v, h1, h2⟩ := (h.elem i hi).1
      exact ⟨v, fun _ => ⟨h1, h2⟩⟩
    · exact ⟨⟨false, 0, 0, 0⟩, fun h => absurd h hi⟩
  obtain ⟨V, hV⟩ := Classical.skolem.1 hex
  refine ⟨V, fun i hi => ?_, fun i hi => (hV i hi).2⟩
  obtain ⟨_, hl, b, off, h1, h2, h3⟩ := h.elem i hi
  refine ⟨b, off, h1, h2, fun j v hv => ?_⟩
  have hj : j < 4 := by
    rcases Nat.lt_or_ge j 4 with h | h
    · exact h
    · rw [List.getElem?_eq_none (by show 4 ≤ j; omega)] at hv; cases hv
  rw [Nat.add_assoc, h3 j hj, (hV i hi).1]
  exact hv
theorem toA_le2 {at_ : Nat} {st : Int} (h : at_ ≤ 60000) (hs : st ≤ 60000) : toA at_ st ≤ 60000 := by
  unfold toA
  split
  · exact h
  · split <;> omega

set_option maxRecDepth 100000 in
set_option maxHeartbeats 16000000 in
theorem SoundPlays_walk (w : World) (a : Option Addr) (n cap : Nat) (F : Nat → List Value) (s : SlR w a n cap 4 IsSp F) :
    Calls Try.prog 11 #[.slice a n cap] w fun e w' => e = .returned (.bool true) ∧ Below w.heap.size w w' := by
  obtain ⟨E, hE⟩ := sps_of s
  have H0 := Lib.hid hE
  have HL0 : Hid (∀ b off, a = some ⟨b, off, none⟩ → 0 < n → b < w.heap.size) := Lib.hid fun b off h h0 => hE.1.lt h0 h
  clear s hE
  by_cases g0 : 60 < n
  · go_enter Try.func11, Try.ntmps11
    go_wp2_with fail
    refine (live37_any w).mono ?_
    rintro e w1 ⟨rfl, hB1⟩
    go_wp2
    (try simp only [Exit.inBlock, Exit.then])
    go_ret
    exact ⟨rfl, hB1⟩
  have hn60 : n ≤ 60 := by omega
  go_enter Try.func11, Try.ntmps11
  go_wp2_with fail
  refine (live37_any w).mono ?_
  rintro e w1 ⟨rfl, hB1⟩
  have HB1 := Lib.hid hB1
  clear hB1
  go_wp2_with fail
  refine (SNew_any w1).mono ?_
  rintro e w2 ⟨p, g, c, b, rfl, hS2, hO2, hb2⟩
  have HB2 := Lib.hid (step_below HB1.out hb2)
  have HO2 : Hid (∀ k, SOwn p g c b k → w.heap.size ≤ k) := Lib.hid fun k hk => Nat.le_trans HB1.out.size (hO2 k hk)
  have HLT2 : Hid (∀ k, SOwn p g c b k → k < w2.heap.size) := Lib.hid fun k hk => hS2.own_lt hk
  have HS2 := Lib.hid hS2
  clear hS2 hO2 hb2
  go_wp2_with fail
  refine (RSNew_any w2).mono ?_
  rintro e w3 ⟨p', g', c', b', rfl, hR3, hO3, hb3⟩
  have HS3 : Hid (SP w3 p g c b HS.new.y HS.new.t (HS.new.t / 6)) := Lib.hid (HS2.out.below hb3)
  have HR3 : Hid (RSP w3 p' g' c' b' HS.new.y HS.new.t (HS.new.t / 6)) := Lib.hid hR3
  have HB3 := Lib.hid (step_below HB2.out hb3)
  have HO3 : Hid (∀ k, SOwn p' g' c' b' k → w.heap.size ≤ k) := Lib.hid fun k hk => Nat.le_trans HB2.out.size (hO3 k hk)
  have HD : Hid (∀ x, SOwn p g c b x → ¬ SOwn p' g' c' b' x) := Lib.hid fun x h1 h2 => by have := HLT2.out x h1; have := hO3 x h2; omega
  clear hR3 hO3 hb3 HS2 HLT2 HB2
  go_wp2_with fail
  go_loopw [5] (fun i wr => ∃ (k : Nat) (h : HS), k ≤ n ∧ i = .int .i64 (k : Int) ∧ Hid (SP wr p g c b h.y h.t (h.t / 6)) ∧ Hid (RSP wr p' g' c' b' h.y h.t (h.t / 6)) ∧ Hid (h.y.Good ∧ h.t ≤ 60000) ∧ Hid (Below w.heap.size w wr)) (fun i _ => n - (intOf i).toNat)
  case atStart => exact ⟨0, HS.new, Nat.zero_le _, rfl, HS3, HR3, Lib.hid ⟨PS.new_good, by show (0 : Nat) ≤ _; omega⟩, HB3⟩
  case round =>
    clear HS3 HR3 HB3
    obtain ⟨k, h, hk, rfl, HS, HR, HY, HB⟩ := hrel
    by_cases hlt : k < n
    · have hrow := H0.out.1.below HB.out k hlt
      obtain ⟨b2, off2, rfl, hbl, hcl⟩ := hrow
      have hok := H0.out.2 k hlt
      obtain ⟨hrg, hby⟩ := hok
      have HCL : Hid (CellsAt wr b2 (off2 + k * 4) [.bool (E k).wr, .int .u8 ((E k).rg : Int), .int .u8 ((E k).b : Int), .int .i64 (E k).st]) := Lib.hid hcl
      clear hcl
      have hk0 : (0 : Int) ≤ (k : Int) := by omega
      have hkn : (k : Int) < (n : Int) := by omega
      generalize (E k).wr = wb at *
      generalize (E k).rg = rg at *
      generalize (E k).b = by0 at *
      generalize (E k).st = st at *
      have HNA : Hid (At (wr.alloc (.cells #[.bool false, .int .u8 0, .int .u8 0, .int .i64 0] 75)) wr.heap.size 75 [.bool false, .int .u8 0, .int .u8 0, .int .i64 0]) := Lib.hid (At.new wr _ _)
      have hone : ∀ v ∈ [Value.bool wb, .int .u8 (rg : Int), .int .u8 (by0 : Int), .int .i64 st], v.oneCell' = true := by
        intro v hv
        simp at hv
        rcases hv with rfl | rfl | rfl | rfl <;> rfl
      go_wp2_with (first | (with_reducible refine wpList_load_cells (by kernel_rfl) 75 (.tmp 26) rfl b2 (off2 + k * 4) rfl _ HCL.out _ Try.underlying75 rfl (by kernel_rfl) ?_) | (with_reducible refine wpList_store_row rfl 75 (.tmp 6) (.tmp 27) rfl rfl wr.heap.size (by kernel_rfl) [.bool wb, .int .u8 (rg : Int), .int .u8 (by0 : Int), .int .i64 st] (by kernel_rfl) 75 [.bool false, .int .u8 0, .int .u8 0, .int .i64 0] HNA.out (by kernel_rfl) (by kernel_rfl) hone ?_))
      intro w4 hA4 hU4
      have hb4 : Below wr.heap.size wr w4 := (((Upd.refl (· = wr.heap.size) wr).alloc _).trans hU4 fun _ _ h => h).to (Below.refl _ _) (Nat.le_refl _) (fun b h => Nat.le_of_eq h.symm)
      have HN1 : Hid (¬ SOwn p g c b wr.heap.size) := Lib.hid fun hx => by have := HS.out.own_lt hx; omega
      have HN2 : Hid (¬ SOwn p' g' c' b' wr.heap.size) := Lib.hid fun hx => by have := HR.out.own_lt hx; omega
      have HA4 := Lib.hid hA4
      have HS4 := Lib.hid (HS.out.below hb4)
      have HR4 := Lib.hid (HR.out.below hb4)
      have HB4 := Lib.hid (step_below HB.out hb4)
      clear hA4 hU4 hb4 HNA hone HCL HS HR HB
      generalize wr.heap.size = B0 at *
      have d0 := HA4.out.cell 0 rfl
      have d1 := HA4.out.cell 1 rfl
      have d2 := HA4.out.cell 2 rfl
      have d3 := HA4.out.cell 3 rfl
      by_cases hst : 60000 < st
      · have hst' : decide (60000 < st) = true := decide_eq_true hst
        go_wp2
        (try simp only [Exit.inBlock, Exit.then])
        go_ret
        exact ⟨rfl, HB4.out⟩
      · have hst' : decide (60000 < st) = false := decide_eq_false hst
        have hst6 : st ≤ 60000 := by omega
        have hw8 : IntKind.i64.wrap (rg : Int) = (rg : Int) := by rw [IntKind.wrap_i64]; omega
        cases wb with
        | true =>
          go_wp2_with fail
          refine (SWr_P rg by0 p g c b h.y h.t (h.t / 6) w4 HS4.out HY.out.1.ok hby hrg).mono ?_
          rintro e w5 ⟨rfl, hS5, hU5⟩
          have HS5 := Lib.hid hS5
          have HR5 := Lib.hid (HR4.out.upd hU5 (fun x h1 h2 => HD.out x h2 h1))
          have HA5 := Lib.hid (HA4.out.upd hU5 HN1.out)
          have HB5 := Lib.hid (hU5.to HB4.out HB4.out.size HO2.out)
          clear hS5 hU5 HS4 HR4 HA4 HB4 d0 d1 d2 d3
          have d1 := HA5.out.cell 1 rfl
          have d2 := HA5.out.cell 2 rfl
          have p0 := HR5.out.p.cell 0 rfl
          go_wp2_with fail
          refine region_drew_tail 9 (by kernel_rfl) (by kernel_rfl) ?_
          simp only [List.take_succ_cons, List.take_zero, List.drop_succ_cons, List.drop_zero]
          repeat (go_big_quiet_step ((fail)))
          refine wpQuiet_nil ?_
          intro _ hw'
          obtain ⟨nq, rfl⟩ := hw'
          go_wp2_with fail
          refine (RWrite_P rg by0 g' c' b' h.y (w5.drewN nq) (HR5.out.g.upd ((Upd.refl (fun _ => False) w5).drewN nq) (fun _ _ h => h)) HY.out.1.ok hby hrg).mono ?_
          rintro e w6 ⟨rfl, hG6, hU6⟩
          have hU6' : Upd (OwnP g' c' b') w5 w6 := ((Upd.refl (OwnP g' c' b') w5).drewN nq).trans hU6 fun _ _ h => h
          have HR6 : Hid (RSP w6 p' g' c' b' (h.y.wr rg by0) h.t (h.t / 6)) := Lib.hid ⟨HR5.out.p.upd hU6' (fun h => rsp_own HR5.out.p HR5.out.g h), hG6⟩
          have HS6 : Hid (SP w6 p g c b (h.y.wr rg by0) h.t (h.t / 6)) := Lib.hid (HS5.out.upd hU6' (fun x h1 h2 => HD.out x h1 (.inr h2)))
          have HB6 := Lib.hid (hU6'.to HB5.out HB5.out.size (fun x hx => HO3.out x (.inr hx)))
          have HY6 : Hid ((h.y.wr rg by0).Good ∧ h.t ≤ 60000) := Lib.hid ⟨PS.wr_good HY.out.1 rg hby, HY.out.2⟩
          clear hG6 hU6 hU6' HS5 HR5 HA5 HB5 d1 d2 p0 HY
          generalize h.y.wr rg by0 = yy at *
          generalize h.t = tt at *
          go_wp2_with fail
          refine (Sides_S p g c b yy tt (tt / 6) w6 HS6.out HY6.out.1.ok).mono ?_
          rintro e w7 ⟨rfl, hb7⟩
          have HS7 := Lib.hid (HS6.out.below hb7)
          have HR7 := Lib.hid (HR6.out.below hb7)
          have HB7 := Lib.hid (step_below HB6.out hb7)
          clear hb7 HS6 HR6 HB6
          go_wp2_with fail
          refine (RSides_P p' g' c' b' yy tt (tt / 6) w7 HR7.out HY6.out.1.ok).mono ?_
          rintro e w8 ⟨rfl, hb8⟩
          have HS8 := Lib.hid (HS7.out.below hb8)
          have HR8 := Lib.hid (HR7.out.below hb8)
          have HB8 := Lib.hid (step_below HB7.out hb8)
          clear hb8 HS7 HR7 HB7
          have x1 : (yy.left != yy.left) = false := by simp
          have x2 : (yy.right != yy.right) = false := by simp
          have p2 := HR8.out.p.cell 2 rfl
          have KC : ∀ q, Calls Try.prog 53 #[.pointer (some ⟨p, 0, none⟩)] (w8.drewN q) fun e w'' => e = .returned (.int .i64 ((tt / 6 : Nat) : Int)) ∧ ∃ r, w'' = w8.drewN r := fun q =>
            Calls.quiet_of_same (Calls.mono (Cl_P p g c b yy tt (tt / 6) (w8.drewN q) (HS8.out.drewN q)) (fun e w' h => ⟨h.1, h.2.symm⟩))
          obtain ⟨t6, ht6⟩ : ∃ x, x = tt / 6 := ⟨_, rfl⟩
          rw [← ht6] at p2 KC
          have x3 : ((t6 : Int) != (t6 : Int)) = false := by simp
          have HT6 := Lib.hid ht6
          clear ht6
          generalize yy.left = yl at *
          generalize yy.right = yr at *
          go_wp2_with fail
          refine wp_region_quiet_lit (by kernel_rfl) (by kernel_rfl) ?_
          repeat (go_big_quiet_step (((go_at_call 53; exact KC _))))
          refine wpQuiet_nil ?_
          intro _ hw'
          obtain ⟨nq, rfl⟩ := hw'
          have HS9 := Lib.hid (HS8.out.drewN nq)
          have HR9 : Hid (RSP (w8.drewN nq) p' g' c' b' yy tt (tt / 6)) := Lib.hid (HR8.out.upd ((Upd.refl (fun _ => False) w8).drewN nq) (fun _ _ h => h))
          have HB9 := Lib.hid (below_dN HB8.out nq)
          clear HS8 HR8 HB8 p2 KC
          go_wp2
          go_roundw
          case rel => exact ⟨k + 1, ⟨yy, tt⟩, by omega, by go_num, HS9, HR9, HY6, HB9⟩
          case measure => simp [intOf]; omega
        | false =>
          go_wp2_with fail
          refine (To_P st p g c b h.y h.t w4 HS4.out HY.out.1 (by have := HY.out.2; omega)).mono ?_
          rintro e w5 ⟨rfl, hS5, hU5⟩
          have HS5 := Lib.hid hS5
          have HR5 := Lib.hid (HR4.out.upd hU5 (fun x h1 h2 => HD.out x h2 h1))
          have HA5 := Lib.hid (HA4.out.upd hU5 HN1.out)
          have HB5 := Lib.hid (hU5.to HB4.out HB4.out.size HO2.out)
          clear hS5 hU5 HS4 HR4 HA4 HB4 d0 d1 d2 d3
          have d3 := HA5.out.cell 3 rfl
          go_wp2_with fail
          refine (RTo_P st p' g' c' b' h.y h.t w5 HR5.out HY.out.1 HY.out.2 hst6).mono ?_
          rintro e w6 ⟨rfl, hR6, hU6⟩
          have HR6 := Lib.hid hR6
          have HS6 := Lib.hid (HS5.out.upd hU6 (fun x h1 h2 => HD.out x h1 h2))
          have HB6 := Lib.hid (hU6.to HB5.out HB5.out.size HO3.out)
          have HY6 : Hid ((h.y.adv (toA h.t st / 6 - h.t / 6)).Good ∧ toA h.t st ≤ 60000) := Lib.hid ⟨PS.adv_good HY.out.1 _, toA_le2 HY.out.2 hst6⟩
          clear hR6 hU6 HS5 HR5 HA5 HB5 d3 HY
          generalize h.y.adv (toA h.t st / 6 - h.t / 6) = yy at *
          generalize toA h.t st = tt at *
          go_wp2_with fail
          refine (Sides_S p g c b yy tt (tt / 6) w6 HS6.out HY6.out.1.ok).mono ?_
          rintro e w7 ⟨rfl, hb7⟩
          have HS7 := Lib.hid (HS6.out.below hb7)
          have HR7 := Lib.hid (HR6.out.below hb7)
          have HB7 := Lib.hid (step_below HB6.out hb7)
          clear hb7 HS6 HR6 HB6
          go_wp2_with fail
          refine (RSides_P p' g' c' b' yy tt (tt / 6) w7 HR7.out HY6.out.1.ok).mono ?_
          rintro e w8 ⟨rfl, hb8⟩
          have HS8 := Lib.hid (HS7.out.below hb8)
          have HR8 := Lib.hid (HR7.out.below hb8)
          have HB8 := Lib.hid (step_below HB7.out hb8)
          clear hb8 HS7 HR7 HB7
          have x1 : (yy.left != yy.left) = false := by simp
          have x2 : (yy.right != yy.right) = false := by simp
          have p2 := HR8.out.p.cell 2 rfl
          have KC : ∀ q, Calls Try.prog 53 #[.pointer (some ⟨p, 0, none⟩)] (w8.drewN q) fun e w'' => e = .returned (.int .i64 ((tt / 6 : Nat) : Int)) ∧ ∃ r, w'' = w8.drewN r := fun q =>
            Calls.quiet_of_same (Calls.mono (Cl_P p g c b yy tt (tt / 6) (w8.drewN q) (HS8.out.drewN q)) (fun e w' h => ⟨h.1, h.2.symm⟩))
          obtain ⟨t6, ht6⟩ : ∃ x, x = tt / 6 := ⟨_, rfl⟩
          rw [← ht6] at p2 KC
          have x3 : ((t6 : Int) != (t6 : Int)) = false := by simp
          have HT6 := Lib.hid ht6
          clear ht6
          generalize yy.left = yl at *
          generalize yy.right = yr at *
          go_wp2_with fail
          refine wp_region_quiet_lit (by kernel_rfl) (by kernel_rfl) ?_
          repeat (go_big_quiet_step (((go_at_call 53; exact KC _))))
          refine wpQuiet_nil ?_
          intro _ hw'
          obtain ⟨nq, rfl⟩ := hw'
          have HS9 := Lib.hid (HS8.out.drewN nq)
          have HR9 : Hid (RSP (w8.drewN nq) p' g' c' b' yy tt (tt / 6)) := Lib.hid (HR8.out.upd ((Upd.refl (fun _ => False) w8).drewN nq) (fun _ _ h => h))
          have HB9 := Lib.hid (below_dN HB8.out nq)
          clear HS8 HR8 HB8 p2 KC
          go_wp2
          go_roundw
          case rel => exact ⟨k + 1, ⟨yy, tt⟩, by omega, by go_num, HS9, HR9, HY6, HB9⟩
          case measure => simp [intOf]; omega
    · obtain rfl : k = n := by omega
      have hkk : ¬ (k : Int) < (k : Int) := by omega
      go_wp2
      go_ret
      exact ⟨rfl, HB.out⟩
end Go.Proofs.Ytgkbpdcedighcac
