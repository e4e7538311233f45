/-
  A step of the noise's laws, as it comes in; play.
-/
import Derived.Test.YtgkbpdcedighcabNoiseV
import Derived.Test.YtgkbpdcedighcabNoiseW
import Derived.Test.YtgkbpdcedighcabOpenS
namespace Go.Proofs.Ytgkbpdcedighcab
open Go.RowKit Go.Sort NoiseP

def IsStep13 (cs : List Value) : Prop := ∃ x y n, cs = [.bool x, .int .u8 y, .int .u16 n] ∧ (0 ≤ y ∧ y ≤ 255) ∧ (0 ≤ n ∧ n ≤ 65535)

set_option maxRecDepth 100000 in
theorem IsStep13_of {H : Type} {enc : TypeId × Value → H} {w : World} {base : Nat} {spare : Nat → Bool} {held : Bool} {m : Nat} {cs : List Value} {x : DataW H × List MemPlace}
    (h : DataW.trod enc Try.prog w base spare held m 111 cs = some x) : IsStep13 cs := by
  obtain ⟨hl, hf⟩ := struct_cells Try.underlying111 (by kernel_rfl) (by kernel_rfl) h
  obtain ⟨a, ha⟩ := field_bool Try.underlying4 (hf 0 _ rfl)
  obtain ⟨b, hb, wb⟩ := field_int Try.underlying5 (hf 1 _ rfl)
  obtain ⟨c, hc, wc⟩ := field_int Try.underlying50 (hf 2 _ rfl)
  refine ⟨a, b, c, ?_, wf_bounds_u8 wb, wf_bounds_u16 wc⟩
  apply List.ext_getElem?
  intro i
  match i with
  | 0 => exact ha
  | 1 => exact hb
  | 2 => exact hc
  | i + 3 => rw [List.getElem?_eq_none (by rw [hl]; simp), List.getElem?_eq_none (by simp)]

/-- The steps (a, n) read as x, y, z. -/
def Steps13 (w : World) (a : Option Addr) (n : Nat) (x : Nat → Bool) (y z : Nat → Int) : Prop :=
  ∀ i, i < n → (0 ≤ y i ∧ y i ≤ 255) ∧ (0 ≤ z i ∧ z i ≤ 65535) ∧ ∃ b off, a = some ⟨b, off, none⟩ ∧ b < w.heap.size ∧
    w.cell? ⟨b, off + i * 3, none⟩ = some (.bool (x i)) ∧ w.cell? ⟨b, off + i * 3 + 1, none⟩ = some (.int .u8 (y i)) ∧ w.cell? ⟨b, off + i * 3 + 2, none⟩ = some (.int .u16 (z i))

theorem steps13 {w : World} {a : Option Addr} {n cap : Nat} {F : Nat → List Value} (h : SlR w a n cap 3 IsStep13 F) : ∃ x y z, Steps13 w a n x y z := by
  have hex : ∀ i, ∃ t : Bool × Int × Int, i < n → (0 ≤ t.2.1 ∧ t.2.1 ≤ 255) ∧ (0 ≤ t.2.2 ∧ t.2.2 ≤ 65535) ∧ ∃ b off, a = some ⟨b, off, none⟩ ∧ b < w.heap.size ∧
      w.cell? ⟨b, off + i * 3, none⟩ = some (.bool t.1) ∧ w.cell? ⟨b, off + i * 3 + 1, none⟩ = some (.int .u8 t.2.1) ∧ w.cell? ⟨b, off + i * 3 + 2, none⟩ = some (.int .u16 t.2.2) := by
    intro i
    by_cases hi : i < n
    · obtain ⟨⟨p, q, r, he, h2, h3⟩, _, b, off, ha, hb, hc⟩ := h.elem i hi
      refine ⟨(p, q, r), fun _ => ⟨h2, h3, b, off, ha, hb, ?_, ?_, ?_⟩⟩
      · have := hc 0 (by omega); rwa [he] at this
      · have := hc 1 (by omega); rwa [he] at this
      · have := hc 2 (by omega); rwa [he] at this
    · exact ⟨(false, 0, 0), fun h => absurd h hi⟩
  obtain ⟨f, hf⟩ := Classical.skolem.1 hex
  exact ⟨fun i => (f i).1, fun i => (f i).2.1, fun i => (f i).2.2, hf⟩

theorem Steps13.below {w w' : World} {a : Option Addr} {n : Nat} {x : Nat → Bool} {y z : Nat → Int} (h : Steps13 w a n x y z) (hb : Below w.heap.size w w') : Steps13 w' a n x y z := fun i hi => by
  obtain ⟨h2, h3, b, off, h4, h5, h6, h7, h8⟩ := h i hi
  exact ⟨h2, h3, b, off, h4, Nat.lt_of_lt_of_le h5 hb.size, (hb.cell (p := ⟨b, _, none⟩) h5).trans h6, (hb.cell (p := ⟨b, _, none⟩) h5).trans h7, (hb.cell (p := ⟨b, _, none⟩) h5).trans h8⟩

theorem upd13_cell {w w' : World} {S : Nat → Prop} {b i : Nat} {v : Value} (h : w.cell? ⟨b, i, none⟩ = some v) (hlt : b < w.heap.size) (hu : Upd S w w') (hb : ¬ S b) : w'.cell? ⟨b, i, none⟩ = some v := by
  have := hu.block b hlt hb
  unfold World.cell? at h ⊢
  rw [this]
  exact h
theorem Steps13.upd {w w' : World} {a : Option Addr} {n : Nat} {x : Nat → Bool} {y z : Nat → Int} {S : Nat → Prop} (h : Steps13 w a n x y z) (hu : Upd S w w') (hS : ∀ b off, a = some ⟨b, off, none⟩ → ¬ S b) : Steps13 w' a n x y z := fun i hi => by
  obtain ⟨h2, h3, b, off, h4, h5, h6, h7, h8⟩ := h i hi
  have hb := hS b off h4
  exact ⟨h2, h3, b, off, h4, Nat.lt_of_lt_of_le h5 hu.size, upd13_cell h6 h5 hu hb, upd13_cell h7 h5 hu hb, upd13_cell h8 h5 hu hb⟩
theorem Steps13.lt {w : World} {a : Option Addr} {n : Nat} {x : Nat → Bool} {y z : Nat → Int} (h : Steps13 w a n x y z) (hn : 0 < n) {b off : Nat} (ha : a = some ⟨b, off, none⟩) : b < w.heap.size := by
  obtain ⟨_, _, b', off', h4, h5, _⟩ := h 0 hn
  rw [h4] at ha
  injection ha with ha
  injection ha with ha
  exact ha ▸ h5

/-- A Noise and the reference's, alike. -/
def NI (w : World) (b g : Nat) : Prop := ∃ (s : Nat) (l f : Int), At w b 109 (nz s l (perI f)) ∧ At w g 67 (rz s l f) ∧ s < 262144 ∧ (1 ≤ l ∧ l ≤ 1984) ∧ (0 ≤ f ∧ f ≤ 255)

set_option maxRecDepth 100000 in
set_option maxHeartbeats 4000000 in
theorem play13_any (b g : Nat) (a : Option Addr) (n cap : Nat) (x : Nat → Bool) (y z : Nat → Int) (w : World) (hI : NI w b g) (hs : Steps13 w a n x y z) (hn : n ≤ 60) (hab : ∀ b' off, a = some ⟨b', off, none⟩ → 0 < n → b' ≠ b ∧ b' ≠ g) :
    Calls Try.prog 41 #[.pointer (some ⟨b, 0, none⟩), .pointer (some ⟨g, 0, none⟩), .slice a n cap] w fun e w' => e = .returned (.bool true) ∧ NI w' b g ∧ Upd (fun k => k = b ∨ k = g) w w' := by
  have HS := Lib.hid hs
  have HI := Lib.hid hI
  clear hs hI
  go_enter Try.func41, Try.ntmps41
  go_wp2_with fail
  go_loopw [7] (fun i wr => ∃ k : Nat, k ≤ n ∧ i = .int .i64 k ∧ Hid (NI wr b g) ∧ Hid (Upd (fun k => k = b ∨ k = g) w wr) ∧ Hid (Steps13 wr a n x y z)) (fun i _ => n - (intOf i).toNat)
  case atStart => exact ⟨0, Nat.zero_le _, rfl, HI, Lib.hid (Upd.refl _ _), HS⟩
  case round =>
    obtain ⟨k, hk, rfl, HT, HU, HR⟩ := hrel
    by_cases hlt : k < n
    · obtain ⟨hy, hz, b2, off2, rfl, hbl, hc0, hc1, hc2⟩ := HR.out k hlt
      obtain ⟨s, l, f, hA, hRf, hs, hl, hf⟩ := HT.out
      have hbne : b2 ≠ b ∧ b2 ≠ g := hab b2 off2 rfl (by omega)
      have hbg : b ≠ g := hA.ne_ hRf (by decide)
      have f2 := hRf.frozen 2
      have e2 := hRf.cell 2 rfl
      cases hxk : x k
      · rw [hxk] at hc0
        have HXK := Lib.hid hxk
        have hp := perI_pos f
        clear hxk f2 e2
        go_wp2_with fail
        refine (Go_any b s l (perI f) (z k) wr hA hs hl hp (by omega)).mono ?_
        rintro e w3 ⟨rfl, hA3, hU3⟩
        have hR3 := hRf.upd hU3 (fun h => hbg h.symm)
        have hs3 := HR.out.upd hU3 (fun b' off h => by injection h with h; injection h with h; subst h; exact hbne.1)
        have HU3 := Lib.hid (HU.out.trans hU3 fun _ _ h => .inl h)
        clear hA hRf hU3 hc0 hc1 hc2
        have HR3 := Lib.hid hs3
        obtain ⟨-, -, b3, off3, hadr, -, hc0, hc1, hc2⟩ := hs3 k hlt
        obtain ⟨rfl, rfl⟩ : b2 = b3 ∧ off2 = off3 := by injection hadr with h; injection h with h h2 _; exact ⟨h, h2⟩
        clear hadr hs3
        go_wp2_with fail
        refine (RGo_any g s l f (z k) w3 hR3 hs hl hf (by omega)).mono ?_
        rintro e w5 ⟨rfl, hR5, hU5⟩
        have hA5 := hA3.upd hU5 hbg
        have HU5 := Lib.hid (HU3.out.trans hU5 fun _ _ h => .inr h)
        have HR5 := Lib.hid (HR3.out.upd hU5 (fun b' off h => by injection h with h; injection h with h; subst h; exact hbne.2))
        have HBD := Lib.hid (And.intro (goS_lt s l (perI f) (z k) hs) (And.intro (And.intro (goL_pos l (perI f) (z k) hp.1) (goL_le l (perI f) (z k) hz.1 hp.1 hl.2 hp.2)) hf))
        have hS5 : goS s l (perI f) (z k) < 4294967296 := by have := HBD.out.1; omega
        clear hA3 hR3 HU3 HR3 hU5 hc0 hc1 hc2 HU HR HT
        generalize goS s l (perI f) (z k) = s5 at *
        generalize goL l (perI f) (z k) = l5 at *
        have q0 := hR5.cell 0 rfl
        have q1 := hR5.cell 1 rfl
        go_wp2_with fail
        refine wp_region_quiet_lit (by kernel_rfl) (by kernel_rfl) ?_
        repeat (go_big_quiet_step ((first | (go_at_call 44; exact Calls.quiet_of_same ((State_any _ _ _ _ _ (hA5.drewN _)).mono fun _ _ h => ⟨h.1, h.2.symm⟩)) | (go_at_call 45; exact Calls.quiet_of_same ((Left_any _ _ _ _ _ (hA5.drewN _)).mono fun _ _ h => ⟨h.1, h.2.symm⟩)) | (go_at_call 68; exact Calls.quiet_of_same ((Level_any _ _ _ _ _ (hA5.drewN _) hS5).mono fun _ _ h => ⟨h.1, h.2.symm⟩)) | (go_at_call 74; exact Calls.quiet_of_same ((RLevel_any _ _ _ _ _ (hR5.drewN _) hS5).mono fun _ _ h => ⟨h.1, h.2.symm⟩)))))
        refine wpQuiet_nil ?_
        intro _ hw'
        obtain ⟨nq, rfl⟩ := hw'
        have HT6 : Hid (NI (w5.drewN nq) b g) := Lib.hid ⟨_, _, _, hA5.drewN _, hR5.drewN _, HBD.out⟩
        have HU6 := Lib.hid (HU5.out.drewN nq)
        have HR6 : Hid (Steps13 (w5.drewN nq) (some ⟨b2, off2, none⟩) n x y z) := Lib.hid HR5.out
        clear q0 q1 hA5 hR5
        go_wp2
        go_roundw
        case rel => exact ⟨k + 1, by omega, by go_num, HT6, HU6, HR6⟩
        case measure => simp [intOf]; omega
      · rw [hxk] at hc0
        have HXK := Lib.hid hxk
        clear hxk f2 e2
        go_wp2_with fail
        refine (Set_any b s l (perI f) (y k) wr hA hy.1 hy.2).mono ?_
        rintro e w3 ⟨rfl, hA3, hU3⟩
        have hR3 := hRf.upd hU3 (fun h => hbg h.symm)
        have hs3 := HR.out.upd hU3 (fun b' off h => by injection h with h; injection h with h; subst h; exact hbne.1)
        have HU3 := Lib.hid (HU.out.trans hU3 fun _ _ h => .inl h)
        clear hA hRf hU3 hc0 hc1 hc2
        have HR3 := Lib.hid hs3
        obtain ⟨-, -, b3, off3, hadr, -, hc0, hc1, hc2⟩ := hs3 k hlt
        obtain ⟨rfl, rfl⟩ : b2 = b3 ∧ off2 = off3 := by injection hadr with h; injection h with h h2 _; exact ⟨h, h2⟩
        clear hadr hs3
        have f2 := hR3.frozen 2
        have e2 := hR3.cell 2 rfl
        have HA3 := Lib.hid hA3
        have hR3' := Lib.hid hR3
        clear hA3 hR3
        go_wp2_with fail
        have hR5 : At (w3.setCell ⟨g, 2, none⟩ (.int .u8 (y k))) g 67 (rz s l (y k)) := by
          (apply At.of_eq; (repeat (first | (with_reducible apply At.set) | (with_reducible apply At.drew) | (with_reducible apply At.drewN) | exact hR3'.out)); rfl)
        have hU5 : Upd (· = g) w3 (w3.setCell ⟨g, 2, none⟩ (.int .u8 (y k))) := by
          (repeat (first | (with_reducible apply Upd.here) | (with_reducible apply Upd.drew) | (with_reducible apply Upd.drewN) | exact Upd.refl _ _))
        clear hc0 hc1 hc2 f2 e2
        generalize w3.setCell ⟨g, 2, none⟩ (.int .u8 (y k)) = w5 at *
        have hA5 := HA3.out.upd hU5 hbg
        have HU5 := Lib.hid (HU3.out.trans hU5 fun _ _ h => .inr h)
        have HR5 := Lib.hid (HR3.out.upd hU5 (fun b' off h => by injection h with h; injection h with h; subst h; exact hbne.2))
        have HBD := Lib.hid (And.intro hs (And.intro hl hy))
        have hS5 : s < 4294967296 := by omega
        clear HA3 hR3' HU3 HR3 hU5 HU HR HT
        have q0 := hR5.cell 0 rfl
        have q1 := hR5.cell 1 rfl
        refine wp_region_quiet_lit (by kernel_rfl) (by kernel_rfl) ?_
        repeat (go_big_quiet_step ((first | (go_at_call 44; exact Calls.quiet_of_same ((State_any _ _ _ _ _ (hA5.drewN _)).mono fun _ _ h => ⟨h.1, h.2.symm⟩)) | (go_at_call 45; exact Calls.quiet_of_same ((Left_any _ _ _ _ _ (hA5.drewN _)).mono fun _ _ h => ⟨h.1, h.2.symm⟩)) | (go_at_call 68; exact Calls.quiet_of_same ((Level_any _ _ _ _ _ (hA5.drewN _) hS5).mono fun _ _ h => ⟨h.1, h.2.symm⟩)) | (go_at_call 74; exact Calls.quiet_of_same ((RLevel_any _ _ _ _ _ (hR5.drewN _) hS5).mono fun _ _ h => ⟨h.1, h.2.symm⟩)))))
        refine wpQuiet_nil ?_
        intro _ hw'
        obtain ⟨nq, rfl⟩ := hw'
        have HT6 : Hid (NI (w5.drewN nq) b g) := Lib.hid ⟨_, _, _, hA5.drewN _, hR5.drewN _, HBD.out⟩
        have HU6 := Lib.hid (HU5.out.drewN nq)
        have HR6 : Hid (Steps13 (w5.drewN nq) (some ⟨b2, off2, none⟩) n x y z) := Lib.hid HR5.out
        clear q0 q1 hA5 hR5
        go_wp2
        go_roundw
        case rel => exact ⟨k + 1, by omega, by go_num, HT6, HU6, HR6⟩
        case measure => simp [intOf]; omega
    · obtain rfl : k = n := by omega
      go_wp2
      go_ret
      exact ⟨rfl, HT.out, HU.out⟩
end Go.Proofs.Ytgkbpdcedighcab
