/-
  The law's write: bytes are written, to both.
-/
import Derived.Test.YtgkbpdcedighcaaRam
import Derived.Test.YtgkbpdcedighcaaByRow
import Derived.Test.YtgkbpdcedighcaaOpenS
import Derived.Test.YtgkbpdcedighcaaRowL
namespace Go.Proofs.Ytgkbpdcedighcaa
open Go.RowKit Go.Sort

/-- A row of bytes. -/
def bys (f : Nat → Nat) (n : Nat) : List Value := (List.range n).map fun j => .int .u8 (f j : Int)
theorem bys_set {f : Nat → Nat} {n : Nat} (a b : Nat) (ha : a < n) : (bys f n).set a (.int .u8 (b : Int)) = bys (fun j => if j = a then b else f j) n := by
  apply List.ext_getElem?
  intro i
  unfold bys
  rw [List.getElem?_set]
  by_cases hi : i < n
  · by_cases he : a = i
    · subst he
      rw [if_pos rfl, if_pos (by simpa using hi)]
      simp [hi]
    · rw [if_neg he]
      have : ¬ i = a := fun h => he h.symm
      simp [hi, this]
  · have h1 : ¬ a = i := by omega
    rw [if_neg h1, List.getElem?_eq_none (by simp; omega), List.getElem?_eq_none (by simp; omega)]

/-- A put. -/
structure Pu where
  at_ : Nat
  b : Nat
def Pu.cs (p : Pu) : List Value := [.int .u16 (p.at_ : Int), .int .u8 (p.b : Int)]
def Pu.Ok (p : Pu) : Prop := p.at_ < 65536 ∧ p.b < 256
def IsPu (cs : List Value) : Prop := ∃ p : Pu, cs = p.cs ∧ p.Ok
theorem IsPu_of {H : Type} {enc : TypeId × Value → H} {w : World} {base : Nat} {spare : Nat → Bool} {held : Bool} {m : Nat} {cs : List Value} {x : DataW H × List MemPlace}
    (h : DataW.trod enc Try.prog w base spare held m 88 cs = some x) : IsPu cs := by
  obtain ⟨hl, hg⟩ := struct_cells Try.underlying88 (by kernel_rfl) (by kernel_rfl) h
  have h0 := field_int (k := .u16) (by first | exact Try.underlying46 | kernel_rfl) (hg 0 _ rfl)
  have h1 := field_int (k := .u8) (by first | exact Try.underlying5 | kernel_rfl) (hg 1 _ rfl)
  obtain ⟨a, ha, wa⟩ := h0
  obtain ⟨b, hb, wb⟩ := h1
  have ba := wf_bounds_u16 wa
  have bb := wf_bounds_u8 wb
  refine ⟨⟨a.toNat, b.toNat⟩, ?_, by show a.toNat < 65536; omega, by show b.toNat < 256; omega⟩
  have e1 : ((a.toNat : Nat) : Int) = a := by omega
  have e2 : ((b.toNat : Nat) : Int) = b := by omega
  unfold Pu.cs
  show cs = [.int .u16 ((a.toNat : Nat) : Int), .int .u8 ((b.toNat : Nat) : Int)]
  rw [e1, e2]
  replace hl : cs.length = 2 := hl
  apply List.ext_getElem?
  intro i
  match i with
  | 0 => exact ha
  | 1 => exact hb
  | i + 2 => rw [List.getElem?_eq_none (by rw [hl]; simp), List.getElem?_eq_none (by simp)]

/-- Puts, as they came in. -/
def Pus (w : World) (a : Option Addr) (n : Nat) (E : Nat → Pu) : Prop := RowOf w a n 2 (fun i => (E i).cs) ∧ ∀ i, i < n → (E i).Ok
theorem Pus.below {w w' : World} {a : Option Addr} {n : Nat} {E : Nat → Pu} (h : Pus w a n E) (hb : Below w.heap.size w w') : Pus w' a n E := ⟨h.1.below hb, h.2⟩
theorem Pus.upd {w w' : World} {a : Option Addr} {n : Nat} {E : Nat → Pu} {S : Nat → Prop} (h : Pus w a n E) (hu : Upd S w w') (hS : ∀ b off, a = some ⟨b, off, none⟩ → 0 < n → ¬ S b) : Pus w' a n E := ⟨h.1.upd hu hS, h.2⟩
theorem pus_of {w : World} {a : Option Addr} {n cap : Nat} {F : Nat → List Value} (h : SlR w a n cap 2 IsPu F) : ∃ E, Pus w a n E := by
  have hex : ∀ i, ∃ v : Pu, i < n → F i = v.cs ∧ v.Ok := fun i => by
    by_cases hi : i < n
    · obtain ⟨v, h1, h2⟩ := (h.elem i hi).1
      exact ⟨v, fun _ => ⟨h1, h2⟩⟩
    · exact ⟨⟨0, 0⟩, fun h => absurd h hi⟩
  obtain ⟨V, hV⟩ := Classical.skolem.1 hex
  refine ⟨V, fun i hi => ?_, fun i hi => (hV i hi).2⟩
  obtain ⟨_, hl, b, off, h1, h2, h3⟩ := h.elem i hi
  refine ⟨b, off, h1, h2, fun j v hv => ?_⟩
  have hj : j < 2 := by
    rcases Nat.lt_or_ge j 2 with h | h
    · exact h
    · rw [List.getElem?_eq_none (by show 2 ≤ j; omega)] at hv; cases hv
  rw [Nat.add_assoc, h3 j hj, (hV i hi).1]
  exact hv

/-- All of them, one behind the other. -/
def puts (f : Nat → Nat) (E : Nat → Pu) : Nat → Nat → Nat
  | 0 => f
  | n + 1 => putB (puts f E n) (E n).at_ (E n).b

theorem bys_at {w : World} {base n : Nat} {e : TypeId} {v : Value} {f : Nat → Nat} (h : w.ownsRow base e 1 v n (bys f n)) {j : Nat} (hj : j < n) :
    ∃ g cap, v = .slice (some ⟨g, 0, none⟩) n cap ∧ base ≤ g ∧ w.cell? ⟨g, j, none⟩ = some (.int .u8 (f j : Int)) ∧ w.frozen? ⟨g, j, none⟩ = false := by
  obtain ⟨b, cap, rfl, _, hb, _, hc⟩ := own_cell h hj
  exact ⟨b, cap, rfl, hb, hc, h.frozenAt j⟩
theorem bys_br {w : World} {base n : Nat} {e : TypeId} {A : Option Addr} {cap : Nat} {f : Nat → Nat} (h : w.ownsRow base e 1 (.slice A n cap) n (bys f n)) : BR w A n f := fun i hi => by
  obtain ⟨b, cap', he, _, hb, _, hc⟩ := own_cell h hi
  simp only [Value.slice.injEq] at he
  obtain ⟨rfl, -, rfl⟩ := he
  exact ⟨b, 0, rfl, by rw [Nat.zero_add]; exact hc⟩

theorem own_ne_map {w : World} {base s n B : Nat} {e : TypeId} {v : Value} {xs : List Value} {f : Nat → Nat} (h : w.ownsRow base e s v n xs) (hM : MapAt w B f) : v.ownBlock ≠ some B := by
  obtain ⟨D, ⟨es, clock, hb, _⟩, _⟩ := hM
  rcases h.2 with ⟨rfl, _⟩ | ⟨g', cap, cur, rfl, _, hh, _⟩
  · simp [Value.ownBlock]
  · intro he
    have he' : g' = B := by simpa [Value.ownBlock] using he
    subst he'
    rw [hb] at hh
    cases hh

/-- What a write to both turns. -/
def WS (B : Nat) (v : Value) (k : Nat) : Prop := k = B ∨ v.ownBlock = some k

set_option maxRecDepth 100000 in
set_option maxHeartbeats 4000000 in
theorem write_any (m B : Nat) (f : Nat → Nat) (base N : Nat) (v : Value) (a : Option Addr) (n cap : Nat) (E : Nat → Pu) (lo : Nat) (w : World) (hn2 : n ≤ 200) (hN : Hid (N = 8192)) (hR : RamAt w m B f) (hv : w.ownsRow base 5 1 v N (bys f N))
    (hE : Pus w a n E) (hlo : ∀ b off, a = some ⟨b, off, none⟩ → 0 < n → b < lo) (hB : lo ≤ B) (hbase : lo ≤ base) :
    Calls Try.prog 49 #[.pointer (some ⟨m, 0, none⟩), v, .slice a n cap] w fun e w' => e = .returned (.tuple #[]) ∧ RamAt w' m B (puts f E n) ∧ w'.ownsRow base 5 1 v N (bys (puts f E n) N) ∧ Upd (WS B v) w w' := by
  have HR := Lib.hid hR
  have HV := Lib.hid hv
  have HE := Lib.hid hE
  have hNE : m ≠ B := fun h => hR.ne h.symm
  clear hR hv hE
  go_enter Try.func49, Try.ntmps49
  go_wp2_with fail
  go_loopw [6] (fun i wr => ∃ k : Nat, k ≤ n ∧ i = .int .i64 k ∧ Hid (RamAt wr m B (puts f E k)) ∧ Hid (wr.ownsRow base 5 1 v N (bys (puts f E k) N)) ∧ Hid (Pus wr a n E) ∧ Hid (Upd (WS B v) w wr)) (fun i _ => n - (intOf i).toNat)
  case atStart => exact ⟨0, Nat.zero_le _, rfl, HR, HV, HE, Lib.hid (Upd.refl _ _)⟩
  case round =>
    clear HR HV HE
    obtain ⟨k, hk, rfl, HR, HV, HE, HU⟩ := hrel
    by_cases hlt : k < n
    · obtain ⟨b2, off2, rfl, hbl, hcl⟩ := HE.out.1 k hlt
      obtain ⟨hat, hby⟩ := HE.out.2 k hlt
      have hlo2 := hlo b2 off2 rfl (by omega)
      have HPE : Hid (puts f E (k + 1) = putB (puts f E k) (E k).at_ (E k).b) := Lib.hid rfl
      have HCL := Lib.hid hcl
      clear hcl
      replace HCL : Hid (CellsAt wr b2 (off2 + k * 2) [.int .u16 ((E k).at_ : Int), .int .u8 ((E k).b : Int)]) := HCL
      generalize (E k).at_ = at0 at *
      generalize (E k).b = by0 at *
      have c0 : wr.cell? ⟨b2, off2 + k * 2, none⟩ = some (.int .u16 (at0 : Int)) := HCL.out 0 _ rfl
      have c1 : wr.cell? ⟨b2, off2 + k * 2 + 1, none⟩ = some (.int .u8 (by0 : Int)) := HCL.out 1 _ rfl
      have hk0 : (0 : Int) ≤ (k : Int) := by omega
      have hkn : (k : Int) < (n : Int) := by omega
      go_wp2_with fail
      refine region_drew_tail 11 (by kernel_rfl) (by kernel_rfl) ?_
      simp only [List.take_succ_cons, List.take_zero, List.drop_succ_cons, List.drop_zero]
      repeat (go_big_quiet_step ((fail)))
      refine wpQuiet_nil ?_
      intro _ hw'
      obtain ⟨nq, rfl⟩ := hw'
      go_wp2_with fail
      refine (Write_any m B (puts f E k) at0 by0 _ ⟨HR.out.c.drewN nq, HR.out.d⟩).mono ?_
      rintro e w4 ⟨rfl, hR4, hU4⟩
      have hU4' : Upd (· = B) wr w4 := ((Upd.refl (· = B) wr).drewN nq).trans hU4 fun _ _ h => h
      have hbne : ¬ b2 = B := by omega
      have hvB : v.ownBlock ≠ some B := own_ne_map HV.out HR.out.d
      have HR4 := Lib.hid hR4
      have HV4 := Lib.hid (own_upd HV.out hU4' (fun b hb h => hvB (h ▸ hb)))
      have HE4 := Lib.hid (HE.out.upd hU4' (fun b' off h1 _ => by injection h1 with h1; injection h1 with h1; subst h1; exact hbne))
      have HC4 := Lib.hid (HCL.out.upd hU4' hbl hbne)
      have HU4 := Lib.hid (HU.out.trans hU4' fun _ _ h => .inl h)
      have hbl4 : b2 < w4.heap.size := Nat.lt_of_lt_of_le hbl hU4'.size
      clear c0 c1 hR4 hU4 hU4' HR HV HE HCL HU
      have c0 : w4.cell? ⟨b2, off2 + k * 2, none⟩ = some (.int .u16 (at0 : Int)) := HC4.out 0 _ rfl
      have c1 : w4.cell? ⟨b2, off2 + k * 2 + 1, none⟩ = some (.int .u8 (by0 : Int)) := HC4.out 1 _ rfl
      have hrem : (at0 : Int).tmod 8192 = ((at0 % 8192 : Nat) : Int) := by rw [Int.tmod_eq_emod_of_nonneg (by omega)]; rfl
      have hw : IntKind.i64.wrap (at0 : Int) = (at0 : Int) := by rw [IntKind.wrap_i64]; omega
      have hln := hN.out
      have hj : at0 % 8192 < N := by omega
      clear hln
      obtain ⟨g, capv, rfl, hgb, hc, hfz⟩ := bys_at HV4.out hj
      have HPB : Hid (∀ j, putB (puts f E k) at0 by0 j = if j = at0 % 8192 then by0 else puts f E k j) := Lib.hid fun _ => rfl
      have hj0 : (0 : Int) ≤ ((at0 % 8192 : Nat) : Int) := by omega
      have hjn : ((at0 % 8192 : Nat) : Int) < (N : Int) := by omega
      generalize at0 % 8192 = j0 at *
      go_wp2_with fail
      refine region_drew_tail 14 (by kernel_rfl) (by kernel_rfl) ?_
      simp only [List.take_succ_cons, List.take_zero, List.drop_succ_cons, List.drop_zero]
      repeat (go_big_quiet_step ((fail)))
      refine wpQuiet_nil ?_
      intro _ hw'
      obtain ⟨nq, rfl⟩ := hw'
      have hgne : ¬ b2 = g := by omega
      have hWm : (w4.drewN nq).ownsRow base 5 1 (.slice (some ⟨g, 0, none⟩) N capv) N (bys (puts f E k) N) := own_upd HV4.out ((Upd.refl (fun _ => False) w4).drewN nq) (fun _ _ h => h)
      have hmg : m ≠ g := fun h => own_ne HV4.out HR4.out.c (by decide) (by rw [h]; rfl)
      have hBg : B ≠ g := fun h => own_ne_map HV4.out HR4.out.d (by rw [h]; rfl)
      obtain ⟨hst, _⟩ := hWm.stored j0 (.int .u8 (by0 : Int))
      rw [bys_set j0 by0 hj] at hst
      have hU5 : Upd (· = g) w4 ((w4.drewN nq).setCell ⟨g, j0, none⟩ (.int .u8 (by0 : Int))) := ((Upd.refl (· = g) w4).drewN nq).here _
      have HV5 : Hid (((w4.drewN nq).setCell ⟨g, j0, none⟩ (.int .u8 (by0 : Int))).ownsRow base 5 1 (.slice (some ⟨g, 0, none⟩) N capv) N (bys (puts f E (k + 1)) N)) := Lib.hid (by
        rw [HPE.out, show putB (puts f E k) at0 by0 = fun j => if j = j0 then by0 else puts f E k j from funext HPB.out]
        exact hst)
      have HR5 : Hid (RamAt ((w4.drewN nq).setCell ⟨g, j0, none⟩ (.int .u8 (by0 : Int))) m B (puts f E (k + 1))) := Lib.hid (by rw [HPE.out]; exact HR4.out.upd hU5 hmg hBg)
      have HE5 := Lib.hid (HE4.out.upd hU5 (fun b' off h1 _ => by injection h1 with h1; injection h1 with h1; subst h1; exact hgne))
      have HU5 := Lib.hid (HU4.out.trans hU5 fun b _ h => .inr (by rw [h]; rfl))
      clear hst hWm hU5 HPB HPE HV4 HR4 HE4 HU4
      go_wp2
      go_roundw
      case rel => exact ⟨k + 1, by omega, by go_num, HR5, HV5, HE5, HU5⟩
      case measure => simp [intOf]; omega
    · obtain rfl : k = n := by omega
      go_wp2
      go_end0
      exact ⟨rfl, HR.out, HV.out, HU.out⟩
end Go.Proofs.Ytgkbpdcedighcaa
