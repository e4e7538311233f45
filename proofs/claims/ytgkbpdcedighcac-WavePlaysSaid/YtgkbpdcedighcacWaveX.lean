/-
  A step of the law 14, as it comes in; play.
-/
import Derived.Test.YtgkbpdcedighcacWaveS
import Derived.Test.YtgkbpdcedighcacWaveT
import Derived.Test.YtgkbpdcedighcacOpenS
import Derived.Test.YtgkbpdcedighcacRowL
namespace Go.Proofs.Ytgkbpdcedighcac
open Go.RowKit Go.Sort NoiseP

def IsStep14 (cs : List Value) : Prop := ∃ (k r b : Nat) (n d : Int), cs = [.int .u8 (k : Int), .int .u8 (r : Int), .int .u8 (b : Int), .int .u16 n, .int .i64 d] ∧ k < 256 ∧ r < 256 ∧ b < 256 ∧ (0 ≤ n ∧ n ≤ 65535)

set_option maxRecDepth 100000 in
theorem IsStep14_of {H : Type} {enc : TypeId × Value → H} {w : World} {base : Nat} {spare : Nat → Bool} {held : Bool} {m : Nat} {cs : List Value} {x : DataW H × List MemPlace}
    (h : DataW.trod enc Try.prog w base spare held m 141 cs = some x) : IsStep14 cs := by
  obtain ⟨hl, hf⟩ := struct_cells Try.underlying141 (by kernel_rfl) (by kernel_rfl) h
  obtain ⟨a, ha, wa⟩ := field_int Try.underlying5 (hf 0 _ rfl)
  obtain ⟨b, hb, wb⟩ := field_int Try.underlying5 (hf 1 _ rfl)
  obtain ⟨c, hc, wc⟩ := field_int Try.underlying5 (hf 2 _ rfl)
  obtain ⟨d, hd, wd⟩ := field_int Try.underlying67 (hf 3 _ rfl)
  obtain ⟨e, he, we⟩ := field_int Try.underlying3 (hf 4 _ rfl)
  have h1 := wf_bounds_u8 wa
  have h2 := wf_bounds_u8 wb
  have h3 := wf_bounds_u8 wc
  refine ⟨a.toNat, b.toNat, c.toNat, d, e, ?_, by omega, by omega, by omega, wf_bounds_u16 wd⟩
  rw [Int.toNat_of_nonneg h1.1, Int.toNat_of_nonneg h2.1, Int.toNat_of_nonneg h3.1]
  apply List.ext_getElem?
  intro i
  match i with
  | 0 => exact ha
  | 1 => exact hb
  | 2 => exact hc
  | 3 => exact hd
  | 4 => exact he
  | i + 5 => rw [List.getElem?_eq_none (by rw [hl]; simp), List.getElem?_eq_none (by simp)]

/-- The steps, as they came in. -/
def Steps14 (w : World) (a : Option Addr) (n : Nat) (F : Nat → List Value) : Prop := RowOf w a n 5 F ∧ ∀ i, i < n → IsStep14 (F i)
theorem steps14 {w : World} {a : Option Addr} {n cap : Nat} {F : Nat → List Value} (h : SlR w a n cap 5 IsStep14 F) : Steps14 w a n F :=
  ⟨fun i hi => by
    obtain ⟨_, hl, b, off, h1, h2, h3⟩ := h.elem i hi
    exact ⟨b, off, h1, h2, fun j v hv => by
      have hj : j < 5 := by
        rcases Nat.lt_or_ge j 5 with h | h
        · exact h
        · rw [List.getElem?_eq_none (by omega)] at hv; cases hv
      rw [Nat.add_assoc, h3 j hj, hv]⟩, fun i hi => (h.elem i hi).1⟩
theorem Steps14.below {w w' : World} {a : Option Addr} {n : Nat} {F : Nat → List Value} (h : Steps14 w a n F) (hb : Below w.heap.size w w') : Steps14 w' a n F := ⟨h.1.below hb, h.2⟩
theorem Steps14.upd {w w' : World} {a : Option Addr} {n : Nat} {F : Nat → List Value} {S : Nat → Prop} (h : Steps14 w a n F) (hu : Upd S w w') (hS : ∀ b off, a = some ⟨b, off, none⟩ → 0 < n → ¬ S b) : Steps14 w' a n F := ⟨h.1.upd hu hS, h.2⟩

/-- A channel and the reference's, alike. -/
def WI (w : World) (c b d g : Nat) : Prop := ∃ x : CS, PC w c b x ∧ RC w d g x ∧ x.Ok
def Own4 (c b d g k : Nat) : Prop := (k = c ∨ k = b) ∨ (k = d ∨ k = g)

theorem alike_S (c b d g : Nat) (x : CS) (w : World) (h1 : PC w c b x) (h2 : RC w d g x) (hx : x.Ok) :
    Calls Try.prog 38 #[.pointer (some ⟨c, 0, none⟩), .pointer (some ⟨d, 0, none⟩)] w fun e w' => e = .returned (.bool true) ∧ Below w.heap.size w w' :=
  alike_any c b d g x.fr x.be x.co x.ba x.to x.ny x.wv x.pl x.lf x.s x.l x.f w ⟨h1.c, h1.b, h2.d, h2.g⟩ hx.fr hx.be hx.co hx.ba hx.pl hx.s

theorem rd3 (k : Nat) : k % 3 = 0 ∨ k % 3 = 1 ∨ k % 3 = 2 := by omega

set_option maxRecDepth 100000 in
set_option maxHeartbeats 8000000 in
theorem play14_any (c b d g : Nat) (a : Option Addr) (n cap : Nat) (F : Nat → List Value) (w : World) (hI : WI w c b d g) (hs : Steps14 w a n F) (hn : n ≤ 60) (hab : ∀ b' off, a = some ⟨b', off, none⟩ → 0 < n → ¬ Own4 c b d g b') :
    Calls Try.prog 35 #[.pointer (some ⟨c, 0, none⟩), .pointer (some ⟨d, 0, none⟩), .slice a n cap] w fun e w' => e = .returned (.bool true) ∧ WI w' c b d g ∧ Upd (Own4 c b d g) w w' := by
  have HS := Lib.hid hs
  have HI := Lib.hid hI
  have HAB := Lib.hid hab
  clear hs hI hab
  go_enter Try.func35, Try.ntmps35
  go_wp2_with fail
  go_loopw [7] (fun i wr => ∃ k : Nat, k ≤ n ∧ i = .int .i64 k ∧ Hid (WI wr c b d g) ∧ Hid (Upd (Own4 c b d g) w wr) ∧ Hid (Steps14 wr a n F)) (fun i _ => n - (intOf i).toNat)
  case atStart => exact ⟨0, Nat.zero_le _, rfl, HI, Lib.hid (Upd.refl _ _), HS⟩
  case round =>
    clear HS HI
    obtain ⟨k, hk, rfl, HT, HU, HR⟩ := hrel
    by_cases hlt : k < n
    · obtain ⟨b2, off2, rfl, hbl, hcl⟩ := HR.out.1 k hlt
      obtain ⟨kd, rg, bb, nn, dd, hF, hkd, hrg, hbb, hnn⟩ := HR.out.2 k hlt
      rw [hF] at hcl
      obtain ⟨x, hP, hR, hx⟩ := HT.out
      have HX := Lib.hid hx
      have HP := Lib.hid hP
      have HRR := Lib.hid hR
      clear hP hR hx HT
      have em : (kd : Int).tmod 3 = ((kd % 3 : Nat) : Int) := by rw [Int.tmod_eq_emod_of_nonneg (by omega)]; rfl
      have hr3 := rd3 kd
      generalize kd % 3 = r3 at *
      rcases hr3 with rfl | rfl | rfl
      · go_wp2_with (with_reducible refine wpList_load_cells (by kernel_rfl) 141 (.tmp 17) rfl b2 (off2 + k * 5) rfl _ hcl _ Try.underlying141 rfl (by kernel_rfl) ?_)
        refine allocs1 (F := fun w => Calls _ _ _ w _) ?_
        intro w1 hA1 hB1 _
        have P1 := HP.out.below hB1
        have R1 := HRR.out.below hB1
        have lc := HP.out.c.lt
        have lb := HP.out.b.lt
        have ld := HRR.out.d.lt
        have lg := HRR.out.g.lt
        obtain ⟨n1, n2, n3, n4⟩ := HP.out.ne HRR.out
        have HU1 : Hid (Upd (Own4 c b d g) wr w1) := Lib.hid (Upd.of_below hB1)
        clear hB1 HP HRR hcl
        refine (Write_S c b x rg bb w1 P1 HX.out hbb).mono ?_
        rintro e w2 ⟨rfl, P2, U2⟩
        have R2 := R1.upd U2 (fun h => h.elim (fun h => n1 h.symm) (fun h => n3 h.symm)) (fun h => h.elim (fun h => n2 h.symm) (fun h => n4 h.symm))
        have hA2 := hA1.upd U2 (fun h => h.elim (fun h => by omega) (fun h => by omega))
        have HU2 := Lib.hid (HU1.out.trans U2 fun _ _ h => Or.inl h)
        clear hA1 P1 R1 U2 HU1
        have s1 := hA2.cell 1 rfl
        have s2 := hA2.cell 2 rfl
        have s3 := hA2.cell 3 rfl
        have s4 := hA2.cell 4 rfl
        clear hA2
        have HP2 := Lib.hid P2
        have HR2 := Lib.hid R2
        clear P2 R2
        go_wp2_with fail
        refine (QWrite_S d g x rg bb w2 HR2.out HX.out hbb).mono ?_
        rintro e w3 ⟨rfl, R3, U3⟩
        have P3 := HP2.out.upd U3 (fun h => h.elim n1 n2) (fun h => h.elim n3 n4)
        have HU3 := Lib.hid (HU2.out.trans U3 fun _ _ h => Or.inr h)
        clear HP2 HR2 U3 HU2
        go_wp2_with fail
        refine (alike_S c b d g _ w3 P3 R3 (CS.wr_ok HX.out rg hbb)).mono ?_
        rintro e w4 ⟨rfl, hb4⟩
        have HT4 : Hid (WI w4 c b d g) := Lib.hid ⟨_, P3.below hb4, R3.below hb4, (CS.wr_ok HX.out rg hbb)⟩
        have hU4 : Upd (Own4 c b d g) wr w4 := HU3.out.trans (Upd.of_below (S := fun _ => False) hb4) fun _ _ h => h.elim
        have HR4 := Lib.hid (HR.out.upd hU4 fun b' off h h0 => HAB.out b' off h h0)
        have HU4 := Lib.hid (HU.out.trans hU4 fun _ _ h => h)
        clear P3 R3 HU3 hb4 hU4 HU HR s1 s2 s3 s4
        go_wp2
        go_roundw
        case rel => exact ⟨k + 1, by omega, by go_num, HT4, HU4, HR4⟩
        case measure => simp [intOf]; omega
      · go_wp2_with (with_reducible refine wpList_load_cells (by kernel_rfl) 141 (.tmp 17) rfl b2 (off2 + k * 5) rfl _ hcl _ Try.underlying141 rfl (by kernel_rfl) ?_)
        refine allocs1 (F := fun w => Calls _ _ _ w _) ?_
        intro w1 hA1 hB1 _
        have P1 := HP.out.below hB1
        have R1 := HRR.out.below hB1
        have lc := HP.out.c.lt
        have lb := HP.out.b.lt
        have ld := HRR.out.d.lt
        have lg := HRR.out.g.lt
        obtain ⟨n1, n2, n3, n4⟩ := HP.out.ne HRR.out
        have HU1 : Hid (Upd (Own4 c b d g) wr w1) := Lib.hid (Upd.of_below hB1)
        clear hB1 HP HRR hcl
        refine (Go_S c b x nn w1 P1 HX.out (by omega)).mono ?_
        rintro e w2 ⟨rfl, P2, U2⟩
        have R2 := R1.upd U2 (fun h => h.elim (fun h => n1 h.symm) (fun h => n3 h.symm)) (fun h => h.elim (fun h => n2 h.symm) (fun h => n4 h.symm))
        have hA2 := hA1.upd U2 (fun h => h.elim (fun h => by omega) (fun h => by omega))
        have HU2 := Lib.hid (HU1.out.trans U2 fun _ _ h => Or.inl h)
        clear hA1 P1 R1 U2 HU1
        have s1 := hA2.cell 1 rfl
        have s2 := hA2.cell 2 rfl
        have s3 := hA2.cell 3 rfl
        have s4 := hA2.cell 4 rfl
        clear hA2
        have HP2 := Lib.hid P2
        have HR2 := Lib.hid R2
        clear P2 R2
        go_wp2_with fail
        refine (QGo_S d g x nn w2 HR2.out HX.out (by omega)).mono ?_
        rintro e w3 ⟨rfl, R3, U3⟩
        have P3 := HP2.out.upd U3 (fun h => h.elim n1 n2) (fun h => h.elim n3 n4)
        have HU3 := Lib.hid (HU2.out.trans U3 fun _ _ h => Or.inr h)
        clear HP2 HR2 U3 HU2
        go_wp2_with fail
        refine (alike_S c b d g _ w3 P3 R3 (CS.go_ok HX.out hnn.1)).mono ?_
        rintro e w4 ⟨rfl, hb4⟩
        have HT4 : Hid (WI w4 c b d g) := Lib.hid ⟨_, P3.below hb4, R3.below hb4, (CS.go_ok HX.out hnn.1)⟩
        have hU4 : Upd (Own4 c b d g) wr w4 := HU3.out.trans (Upd.of_below (S := fun _ => False) hb4) fun _ _ h => h.elim
        have HR4 := Lib.hid (HR.out.upd hU4 fun b' off h h0 => HAB.out b' off h h0)
        have HU4 := Lib.hid (HU.out.trans hU4 fun _ _ h => h)
        clear P3 R3 HU3 hb4 hU4 HU HR s1 s2 s3 s4
        go_wp2
        go_roundw
        case rel => exact ⟨k + 1, by omega, by go_num, HT4, HU4, HR4⟩
        case measure => simp [intOf]; omega
      · go_wp2_with (with_reducible refine wpList_load_cells (by kernel_rfl) 141 (.tmp 17) rfl b2 (off2 + k * 5) rfl _ hcl _ Try.underlying141 rfl (by kernel_rfl) ?_)
        refine allocs1 (F := fun w => Calls _ _ _ w _) ?_
        intro w1 hA1 hB1 _
        have P1 := HP.out.below hB1
        have R1 := HRR.out.below hB1
        have lc := HP.out.c.lt
        have lb := HP.out.b.lt
        have ld := HRR.out.d.lt
        have lg := HRR.out.g.lt
        obtain ⟨n1, n2, n3, n4⟩ := HP.out.ne HRR.out
        have HU1 : Hid (Upd (Own4 c b d g) wr w1) := Lib.hid (Upd.of_below hB1)
        clear hB1 HP HRR hcl
        refine (Bend_S c b x dd w1 P1).mono ?_
        rintro e w2 ⟨rfl, P2, U2⟩
        have R2 := R1.upd U2 (fun h => h.elim (fun h => n1 h.symm) (fun h => n3 h.symm)) (fun h => h.elim (fun h => n2 h.symm) (fun h => n4 h.symm))
        have hA2 := hA1.upd U2 (fun h => h.elim (fun h => by omega) (fun h => by omega))
        have HU2 := Lib.hid (HU1.out.trans U2 fun _ _ h => Or.inl h)
        clear hA1 P1 R1 U2 HU1
        have s1 := hA2.cell 1 rfl
        have s2 := hA2.cell 2 rfl
        have s3 := hA2.cell 3 rfl
        have s4 := hA2.cell 4 rfl
        clear hA2
        have HP2 := Lib.hid P2
        have HR2 := Lib.hid R2
        clear P2 R2
        go_wp2_with fail
        refine (Hold_any dd w2).mono ?_
        rintro e _ ⟨rfl, rfl⟩
        have q2 := HR2.out.d.cell 2 rfl
        have f2 := HR2.out.d.frozen 2
        have R3 : RC (w2.setCell ⟨d, 2, none⟩ (.int .i64 (holdW dd))) d g (x.bend dd) := ⟨(HR2.out.d.set 2 _).of_eq rfl, HR2.out.g.upd ((Upd.refl (· = d) w2).here _) (HR2.out.g.ne_ HR2.out.d (by decide))⟩
        have U3 : Upd (fun k => k = d ∨ k = g) w2 (w2.setCell ⟨d, 2, none⟩ (.int .i64 (holdW dd))) := (Upd.refl _ _).setCell (.inl (.inl rfl)) _
        have P3 := HP2.out.upd U3 (fun h => h.elim n1 n2) (fun h => h.elim n3 n4)
        have HU3 := Lib.hid (HU2.out.trans U3 fun _ _ h => Or.inr h)
        clear HP2 HR2 U3 HU2
        go_wp2_with fail
        generalize w2.setCell _ _ = w3 at *
        refine (alike_S c b d g _ w3 P3 R3 (CS.bend_ok HX.out dd)).mono ?_
        rintro e w4 ⟨rfl, hb4⟩
        have HT4 : Hid (WI w4 c b d g) := Lib.hid ⟨_, P3.below hb4, R3.below hb4, (CS.bend_ok HX.out dd)⟩
        have hU4 : Upd (Own4 c b d g) wr w4 := HU3.out.trans (Upd.of_below (S := fun _ => False) hb4) fun _ _ h => h.elim
        have HR4 := Lib.hid (HR.out.upd hU4 fun b' off h h0 => HAB.out b' off h h0)
        have HU4 := Lib.hid (HU.out.trans hU4 fun _ _ h => h)
        clear P3 R3 HU3 hb4 hU4 HU HR s1 s2 s3 s4
        go_wp2
        go_roundw
        case rel => exact ⟨k + 1, by omega, by go_num, HT4, HU4, HR4⟩
        case measure => simp [intOf]; omega
    · obtain rfl : k = n := by omega
      go_wp2
      go_ret
      exact ⟨rfl, HT.out, HU.out⟩
end Go.Proofs.Ytgkbpdcedighcac
