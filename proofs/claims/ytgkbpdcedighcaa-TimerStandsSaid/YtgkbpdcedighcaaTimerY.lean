/-
  The walk of play: both timers go on alike.
-/
import Derived.Test.YtgkbpdcedighcaaTimerS
namespace Go.Proofs.Ytgkbpdcedighcaa
open Go.RowKit Go.Sort

/-- Both timers are in the same state. -/
def TI (w : World) (b g : Nat) : Prop :=
  ∃ r c on left, At w b 115 (tk r c on left) ∧ At w g 61 (tk r c on left) ∧ 0 ≤ r ∧ r ≤ 127 ∧ 0 ≤ c ∧ c ≤ 127 ∧ 1 ≤ left ∧ left ≤ 3072

/-- What a write to register reg makes of a timer. -/
def wSt (r c : Int) (on : Bool) (left reg x : Int) : Int × Int × Bool × Int :=
  if reg = 0 then (x % 128, c, on, left)
  else if reg = 1 then (r, if decide (x % 2 = 1) && !on then r else c, decide (x % 2 = 1), if decide (x % 2 = 1) && !on then 3072 else left)
  else (r, c, on, left)

theorem wSt_bd (r c : Int) (on : Bool) (left reg x : Int) (r0 : 0 ≤ r) (r1 : r ≤ 127) (c0 : 0 ≤ c) (c1 : c ≤ 127) (l0 : 1 ≤ left) (l1 : left ≤ 3072) :
    0 ≤ (wSt r c on left reg x).1 ∧ (wSt r c on left reg x).1 ≤ 127 ∧ 0 ≤ (wSt r c on left reg x).2.1 ∧ (wSt r c on left reg x).2.1 ≤ 127 ∧ 1 ≤ (wSt r c on left reg x).2.2.2 ∧ (wSt r c on left reg x).2.2.2 ≤ 3072 := by
  unfold wSt
  split
  · simp only; omega
  · split
    · simp only; split <;> omega
    · simp only; omega

theorem Write_any (b : Nat) (r c : Int) (on : Bool) (left reg x : Int) (w : World) (hA : At w b 115 (tk r c on left)) (hl : 0 < left) (h0 : 0 ≤ x) (h1 : x ≤ 255) :
    Calls Try.prog 43 #[.pointer (some ⟨b, 0, none⟩), .int .i64 reg, .int .u8 x] w fun e w' => e = .returned (.tuple #[]) ∧ At w' b 115 (tk (wSt r c on left reg x).1 (wSt r c on left reg x).2.1 (wSt r c on left reg x).2.2.1 (wSt r c on left reg x).2.2.2) ∧ Upd (· = b) w w' := by
  unfold wSt
  by_cases g0 : reg = 0
  · subst g0; exact Write0_any b r c on left x w hA hl h0 h1
  · by_cases g1 : reg = 1
    · subst g1; exact Write1_any b r c on left x w hA hl h0 h1
    · rw [if_neg g0, if_neg g1]
      exact (WriteN_any b r c on left x reg w hA hl g0 g1).mono fun e w' ⟨h2, h3⟩ => ⟨h2, h3 ▸ hA, h3 ▸ Upd.refl _ _⟩
theorem Write2_any (b : Nat) (r c : Int) (on : Bool) (left reg x : Int) (w : World) (hA : At w b 61 (tk r c on left)) (h0 : 0 ≤ x) :
    Calls Try.prog 68 #[.pointer (some ⟨b, 0, none⟩), .int .i64 reg, .int .u8 x] w fun e w' => e = .returned (.tuple #[]) ∧ At w' b 61 (tk (wSt r c on left reg x).1 (wSt r c on left reg x).2.1 (wSt r c on left reg x).2.2.1 (wSt r c on left reg x).2.2.2) ∧ Upd (· = b) w w' := by
  unfold wSt
  by_cases g0 : reg = 0
  · subst g0; exact Write02_any b r c on left x w hA h0
  · by_cases g1 : reg = 1
    · subst g1; exact Write12_any b r c on left x w hA h0
    · rw [if_neg g0, if_neg g1]
      exact (WriteN2_any b x reg w g0 g1).mono fun e w' ⟨h2, h3⟩ => ⟨h2, h3 ▸ hA, h3 ▸ Upd.refl _ _⟩

theorem upd_cell {S : Nat → Prop} {w w' : World} {b o : Nat} {v : Value} (h : w.cell? ⟨b, o, none⟩ = some v) (hu : Upd S w w') (hb : ¬ S b) : w'.cell? ⟨b, o, none⟩ = some v := by
  rw [World.cell?_of_block (w := w) (a := ⟨b, o, none⟩) (hu.block b (block_lt_of_cell h) hb)]; exact h

theorem Steps09.upd {w w' : World} {a : Option Addr} {n : Nat} {x y z : Nat → Int} {S : Nat → Prop} (h : Steps09 w a n x y z) (hu : Upd S w w') (hS : ∀ b off, a = some ⟨b, off, none⟩ → ¬ S b) : Steps09 w' a n x y z := fun i hi => by
  obtain ⟨h1, h2, h3, b, off, h4, h5, h6, h7, h8⟩ := h i hi
  have hb := hS b off h4
  exact ⟨h1, h2, h3, b, off, h4, Nat.lt_of_lt_of_le h5 hu.size, upd_cell h6 hu hb, upd_cell h7 hu hb, upd_cell h8 hu hb⟩

set_option maxRecDepth 100000 in
set_option maxHeartbeats 4000000 in
theorem play_any (b g : Nat) (a : Option Addr) (n cap : Nat) (x y z : Nat → Int) (w : World) (hI : TI w b g) (hs : Steps09 w a n x y z) (hn : smallB n z = true) (hab : ∀ b' off, a = some ⟨b', off, none⟩ → 0 < n → b' ≠ b ∧ b' ≠ g) :
    Calls Try.prog 38 #[.pointer (some ⟨b, 0, none⟩), .pointer (some ⟨g, 0, none⟩), .slice a n cap] w fun e w' => e = .returned (.bool true) ∧ TI w' b g ∧ Upd (fun k => k = b ∨ k = g) w w' := by
  obtain ⟨hn60, hz⟩ := smallB_spec hn
  have HZ := Lib.hid hz
  have HS := Lib.hid hs
  have HI := Lib.hid hI
  clear hs hz hn hI
  go_enter Try.func38, Try.ntmps38
  go_wp2_with fail
  go_loopw [7] (fun i wr => ∃ k : Nat, k ≤ n ∧ i = .int .i64 k ∧ Hid (TI wr b g) ∧ Hid (Upd (fun k => k = b ∨ k = g) w wr) ∧ Hid (Steps09 wr a n x y z)) (fun i _ => n - (intOf i).toNat)
  case atStart => exact ⟨0, Nat.zero_le _, rfl, HI, Lib.hid (Upd.refl _ _), HS⟩
  case round =>
    obtain ⟨k, hk, rfl, HT, HU, HR⟩ := hrel
    by_cases hlt : k < n
    · obtain ⟨hx, hy, hz, b2, off2, rfl, hbl, hc0, hc1, hc2⟩ := HR.out k hlt
      obtain ⟨r, c, on, left, hA, hRf, r0, r1, c0, c1, l0, l1⟩ := HT.out
      have hzk := HZ.out k hlt
      have hbne : b2 ≠ b ∧ b2 ≠ g := hab b2 off2 rfl (by omega)
      have hbg : b ≠ g := hA.ne_ hRf (by decide)
      have sb1 : b ≠ wr.heap.size := by have := hA.lt; omega
      have sb2 : g ≠ wr.heap.size := by have := hRf.lt; omega
      have hA2 := hA.alloc (.cells #[.int .u8 (x k), .int .u8 (y k), .int .i64 (z k)] 111)
      have hR2 := hRf.alloc (.cells #[.int .u8 (x k), .int .u8 (y k), .int .i64 (z k)] 111)
      have hS2 := At.new wr #[.int .u8 (x k), .int .u8 (y k), .int .i64 (z k)] 111
      have HU2 := Lib.hid (HU.out.alloc (.cells #[.int .u8 (x k), .int .u8 (y k), .int .i64 (z k)] 111))
      have HR2 := Lib.hid (HR.out.below ((Below.refl _ wr).alloc (Nat.le_refl _) (.cells #[.int .u8 (x k), .int .u8 (y k), .int .i64 (z k)] 111)))
      have HBD := Lib.hid (And.intro r0 (And.intro r1 (And.intro c0 (And.intro c1 (And.intro l0 l1)))))
      clear hA hRf
      by_cases h3 : x k < 3
      · have hw := Lib.hid (wSt_bd r c on left (x k) (y k) r0 r1 c0 c1 l0 l1)
        go_wp2_with fail
        clear hc0 hc1 hc2
        generalize hsz : wr.heap.size = sb at *
        clear hsz
        generalize wr.alloc (.cells #[.int .u8 (x k), .int .u8 (y k), .int .i64 (z k)] 111) = w2 at *
        refine (Write_any b r c on left (x k) (y k) w2 hA2 (by omega) hy.1 hy.2).mono ?_
        rintro e w3 ⟨rfl, hA3, hU3⟩
        have hR3 := hR2.upd hU3 (fun h => hbg h.symm)
        have hS3 := hS2.upd hU3 (fun h => sb1 h.symm)
        have HU3 := Lib.hid (HU2.out.trans hU3 fun _ _ h => .inl h)
        have HR3 := Lib.hid (HR2.out.upd hU3 (fun b' off h => by injection h with h; injection h with h; subst h; exact hbne.1))
        have d0 := hS3.cell 0 rfl
        have d1 := hS3.cell 1 rfl
        clear hA2 hR2 hS2 HU2 HR2 hU3
        go_wp2_with fail
        refine (Write2_any g r c on left (x k) (y k) w3 hR3 hy.1).mono ?_
        rintro e w5 ⟨rfl, hR5, hU5⟩
        have hA5 := hA3.upd hU5 hbg
        have HU5 := Lib.hid (HU3.out.trans hU5 fun _ _ h => .inr h)
        have HR5 := Lib.hid (HR3.out.upd hU5 (fun b' off h => by injection h with h; injection h with h; subst h; exact hbne.2))
        have HBD5 := hw
        clear d0 d1 hA3 hR3 hS3 HU3 HR3 hU5
        generalize wSt r c on left (x k) (y k) = s at *
        obtain ⟨r', c', on', left'⟩ := s
        have q0 := hR5.cell 0 rfl
        have q1 := hR5.cell 1 rfl
        have q2 := hR5.cell 2 rfl
        have q3 := hR5.cell 3 rfl
        go_wp2_with fail
        refine wp_region_quiet_lit (by kernel_rfl) (by kernel_rfl) ?_
        repeat (go_big_quiet_step ((first | (go_at_call 41; exact Calls.quiet_of_same ((Cnt_any _ _ _ _ _ _ (hA5.drewN _)).mono fun _ _ h => ⟨h.1, h.2.symm⟩)) | (go_at_call 67; exact Calls.quiet_of_same ((Rel_any _ _ _ _ _ _ (hA5.drewN _)).mono fun _ _ h => ⟨h.1, h.2.symm⟩)) | (go_at_call 46; exact Calls.quiet_of_same ((On_any _ _ _ _ _ _ (hA5.drewN _)).mono fun _ _ h => ⟨h.1, h.2.symm⟩)) | (go_at_call 42; exact Calls.quiet_of_same ((Left_any _ _ _ _ _ _ (hA5.drewN _)).mono fun _ _ h => ⟨h.1, h.2.symm⟩)))))
        refine wpQuiet_nil ?_
        intro _ hw'
        obtain ⟨nq, rfl⟩ := hw'
        have HT6 : Hid (TI (w5.drewN nq) b g) := Lib.hid ⟨_, _, _, _, hA5.drewN _, hR5.drewN _, HBD5.out⟩
        have HU6 := Lib.hid (HU5.out.drewN nq)
        have HR6 : Hid (Steps09 (w5.drewN nq) (some ⟨b2, off2, none⟩) n x y z) := Lib.hid HR5.out
        clear q0 q1 q2 q3 hA5 hR5
        go_wp2
        go_roundw
        case rel => exact ⟨k + 1, by omega, by go_num, HT6, HU6, HR6⟩
        case measure => simp [intOf]; omega
      · cases on
        · go_wp2_with fail
          clear hc0 hc1 hc2
          generalize hsz : wr.heap.size = sb at *
          clear hsz
          generalize wr.alloc (.cells #[.int .u8 (x k), .int .u8 (y k), .int .i64 (z k)] 111) = w2 at *
          have hAd : At w2.drew b 115 _ := hA2.drew
          have hRd : At w2.drew g 61 _ := hR2.drew
          have d2 : w2.drew.cell? ⟨sb, 2, none⟩ = _ := hS2.drew.cell 2 rfl
          go_region_with (first | (go_at_call 44; refine (Go_off b r c false left (z k) _ hAd (by omega) (.inl rfl)).mono ?_; rintro e w' ⟨rfl, rfl⟩) | (go_at_call 69; refine (Go2_off g r c left (z k) _ hRd).mono ?_; rintro e w' ⟨rfl, rfl⟩))
          all_goals
            go_wp2_with fail
            (conv => arg 4; whnf)
            simp only [List.setIfInBounds_toArray, List.set_cons_succ, List.set_cons_zero]
            have hA5 : At w2.drew b 115 (tk r c false left) := hAd
            have hR5 : At w2.drew g 61 (tk r c false left) := hRd
            have HU5 := Lib.hid HU2.out.drew
            have HR5 : Hid (Steps09 w2.drew (some ⟨b2, off2, none⟩) n x y z) := Lib.hid HR2.out
            have HBD5 := HBD
            clear hAd hRd d2 hA2 hR2 hS2
            generalize w2.drew = w5 at *
            have q0 := hR5.cell 0 rfl
            have q1 := hR5.cell 1 rfl
            have q2 := hR5.cell 2 rfl
            have q3 := hR5.cell 3 rfl
            go_wp2_with fail
            refine wp_region_quiet_lit (by kernel_rfl) (by kernel_rfl) ?_
            repeat (go_big_quiet_step ((first | (go_at_call 41; exact Calls.quiet_of_same ((Cnt_any _ _ _ _ _ _ (hA5.drewN _)).mono fun _ _ h => ⟨h.1, h.2.symm⟩)) | (go_at_call 67; exact Calls.quiet_of_same ((Rel_any _ _ _ _ _ _ (hA5.drewN _)).mono fun _ _ h => ⟨h.1, h.2.symm⟩)) | (go_at_call 46; exact Calls.quiet_of_same ((On_any _ _ _ _ _ _ (hA5.drewN _)).mono fun _ _ h => ⟨h.1, h.2.symm⟩)) | (go_at_call 42; exact Calls.quiet_of_same ((Left_any _ _ _ _ _ _ (hA5.drewN _)).mono fun _ _ h => ⟨h.1, h.2.symm⟩)))))
            refine wpQuiet_nil ?_
            intro _ hw'
            obtain ⟨nq, rfl⟩ := hw'
            have HT6 : Hid (TI (w5.drewN nq) b g) := Lib.hid ⟨_, _, _, _, hA5.drewN _, hR5.drewN _, HBD5.out⟩
            have HU6 := Lib.hid (HU5.out.drewN nq)
            have HR6 : Hid (Steps09 (w5.drewN nq) (some ⟨b2, off2, none⟩) n x y z) := Lib.hid HR5.out
            clear q0 q1 q2 q3 hA5 hR5
            go_wp2
            go_roundw
            case rel => exact ⟨k + 1, by omega, by go_num, HT6, HU6, HR6⟩
            case measure => simp [intOf]; omega
        · go_wp2_with fail
          clear hc0 hc1 hc2
          generalize hsz : wr.heap.size = sb at *
          clear hsz
          generalize wr.alloc (.cells #[.int .u8 (x k), .int .u8 (y k), .int .i64 (z k)] 111) = w2 at *
          have hbd := Lib.hid (e_bd r c left (z k) r0 r1 c0 c1 l0 l1)
          have hAd : At w2.drew b 115 _ := hA2.drew
          have hRd : At w2.drew g 61 _ := hR2.drew
          have d2 : w2.drew.cell? ⟨sb, 2, none⟩ = some (.int .i64 (z k)) := hS2.drew.cell 2 rfl
          go_region_with (first | (go_at_call 44; refine (Go_e b r c left (z k) _ hAd r0 r1 c0 c1 l0 l1 (by omega)).mono ?_; rintro e w3 ⟨rfl, hA3, hU3⟩; have hR3 := hRd.upd hU3 (fun h => hbg h.symm); have d3 := upd_cell d2 hU3 (fun h => sb1 h.symm)) | (go_at_call 69; refine (Go2_any g r c left (z k) _ hR3 r0 r1 c0 c1 l0 l1 hz.1 (by omega)).mono ?_; rintro e w5 ⟨rfl, hR5, hU5⟩))
          all_goals
            have hA5 := hA3.upd hU5 hbg
            have HU5 := Lib.hid ((HU2.out.drew.trans hU3 fun _ _ h => .inl h).trans hU5 fun _ _ h => .inr h)
            have HR5 := Lib.hid ((Steps09.upd (w := w2.drew) HR2.out hU3 (fun b' off h => by injection h with h; injection h with h; subst h; exact hbne.1)).upd hU5 (fun b' off h => by injection h with h; injection h with h; subst h; exact hbne.2))
            have HBD5 : Hid (0 ≤ r ∧ r ≤ 127 ∧ 0 ≤ eC r c left (z k) ∧ eC r c left (z k) ≤ 127 ∧ 1 ≤ eL left (z k) ∧ eL left (z k) ≤ 3072) := Lib.hid ⟨r0, r1, hbd.out⟩
            clear hAd hRd d2 hA2 hR2 hS2 hA3 hR3 hU3 hU5 d3
            go_wp2_with fail
            (conv => arg 4; whnf)
            simp only [List.setIfInBounds_toArray, List.set_cons_succ, List.set_cons_zero]
            have q0 := hR5.cell 0 rfl
            have q1 := hR5.cell 1 rfl
            have q2 := hR5.cell 2 rfl
            have q3 := hR5.cell 3 rfl
            go_wp2_with fail
            refine wp_region_quiet_lit (by kernel_rfl) (by kernel_rfl) ?_
            repeat (go_big_quiet_step ((first | (go_at_call 41; exact Calls.quiet_of_same ((Cnt_any _ _ _ _ _ _ (hA5.drewN _)).mono fun _ _ h => ⟨h.1, h.2.symm⟩)) | (go_at_call 67; exact Calls.quiet_of_same ((Rel_any _ _ _ _ _ _ (hA5.drewN _)).mono fun _ _ h => ⟨h.1, h.2.symm⟩)) | (go_at_call 46; exact Calls.quiet_of_same ((On_any _ _ _ _ _ _ (hA5.drewN _)).mono fun _ _ h => ⟨h.1, h.2.symm⟩)) | (go_at_call 42; exact Calls.quiet_of_same ((Left_any _ _ _ _ _ _ (hA5.drewN _)).mono fun _ _ h => ⟨h.1, h.2.symm⟩)))))
            refine wpQuiet_nil ?_
            intro _ hw'
            obtain ⟨nq, rfl⟩ := hw'
            have HT6 : Hid (TI (w5.drewN nq) b g) := Lib.hid ⟨_, _, _, _, hA5.drewN _, hR5.drewN _, HBD5.out⟩
            have HU6 := Lib.hid (HU5.out.drewN nq)
            have HR6 : Hid (Steps09 (w5.drewN nq) (some ⟨b2, off2, none⟩) n x y z) := Lib.hid HR5.out
            clear q0 q1 q2 q3 hA5 hR5
            go_wp2
            go_roundw
            case rel => exact ⟨k + 1, by omega, by go_num, HT6, HU6, HR6⟩
            case measure => simp [intOf]; omega
    · go_wp2
      go_ret
      exact ⟨rfl, HT.out, HU.out⟩
end Go.Proofs.Ytgkbpdcedighcaa
