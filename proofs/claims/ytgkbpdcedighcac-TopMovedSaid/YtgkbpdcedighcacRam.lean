/-
  The walks of ram: New, place, Read, Write.
-/
import Derived.Test.YtgkbpdcedighcacRamP
import Derived.Test.YtgkbpdcedighcacRows
import Derived.Test.YtgkbpdcedighcacRow
import Derived.Test.YtgkbpdcedighcacEql
import Derived.Test.YtgkbpdcedighcacIndex
import Derived.WalkKit
import Derived.WalkSpells
import Derived.WalkLawsBesides
import Derived.Outline
namespace Go.Proofs.Ytgkbpdcedighcac
open Go.RowKit Go.Sort Go.Maps

theorem keyed16 : Keyed Try.prog 67 := int_keyed Try.underlying67
theorem key16 (k : Nat) (h : k < 65536) : keyOf Try.prog 67 (.int .u16 (k : Int)) = some (kl k) := keyOf_int_mk Try.underlying67 (by
  simp only [Lit.wf]
  have h1 : IntKind.min .u16 = 0 := by decide
  have h2 : IntKind.max .u16 = 65535 := by decide
  simp [h1, h2]; omega)
set_option maxRecDepth 100000 in
theorem zeroB (w : World) : (zeroValue 163).run Try.prog w = .ok bz w := by kernel_rfl

/-- The map's block reads so. -/
def MapAt (w : World) (B : Nat) (f : Nat → Nat) : Prop := ∃ D, w.ownsMap Try.prog 67 Rv B 128 D ∧ RamD D f
structure RamAt (w : World) (m B : Nat) (f : Nat → Nat) : Prop where
  c : At w m 166 [.map (some B)]
  d : MapAt w B f

theorem tight {w : World} {B n : Nat} {D : DataW Value} (h : w.ownsMap Try.prog 67 Rv B n D) : w.ownsMap Try.prog 67 Rv B (Maps.size D) D := by
  obtain ⟨es, clock, hb, F, hs, rfl⟩ := h
  exact ⟨es, clock, hb, F, by simp [Maps.size, length_sorted], rfl⟩
theorem MapAt.of {w : World} {B n : Nat} {D : DataW Value} {f : Nat → Nat} (h : w.ownsMap Try.prog 67 Rv B n D) (hD : RamD D f) : MapAt w B f :=
  ⟨D, (tight h).mono (by rw [hD.size]; exact cntb_le f 128), hD⟩
theorem MapAt.lt {w : World} {B : Nat} {f : Nat → Nat} (h : MapAt w B f) : B < w.heap.size := by obtain ⟨D, h1, _⟩ := h; exact h1.lt
theorem MapAt.grown {w w' : World} {B : Nat} {f : Nat → Nat} {row : Option Nat} (h : MapAt w B f) (hg : w.grownBy w' row) (hne : some B ≠ row) : MapAt w' B f := by
  obtain ⟨D, h1, h2⟩ := h; exact ⟨D, h1.kept hg hne, h2⟩
theorem MapAt.same {w w' : World} {B : Nat} {f : Nat → Nat} (h : MapAt w B f) (hs : w'.heap[B]? = w.heap[B]?) : MapAt w' B f := by
  obtain ⟨D, ⟨es, clock, hb, F, hs', hD⟩, h2⟩ := h
  exact ⟨D, ⟨es, clock, hs.trans hb, F, hs', hD⟩, h2⟩
theorem MapAt.upd {w w' : World} {B : Nat} {f : Nat → Nat} {S : Nat → Prop} (h : MapAt w B f) (hu : Upd S w w') (hS : ¬ S B) : MapAt w' B f := h.same (hu.block B h.lt hS)
theorem MapAt.below {w w' : World} {B : Nat} {f : Nat → Nat} (h : MapAt w B f) (hb : Below w.heap.size w w') : MapAt w' B f := h.same (hb.block B h.lt)
theorem MapAt.ne {w : World} {B m : Nat} {f : Nat → Nat} {t : TypeId} {cs : List Value} (h : MapAt w B f) (hA : At w m t cs) : B ≠ m := by
  rintro rfl
  obtain ⟨D, ⟨es, clock, hb, _⟩, _⟩ := h
  unfold At at hA
  rw [hb] at hA
  cases hA
theorem RamAt.ne {w : World} {m B : Nat} {f : Nat → Nat} (h : RamAt w m B f) : B ≠ m := h.d.ne h.c
theorem RamAt.below {w w' : World} {m B : Nat} {f : Nat → Nat} (h : RamAt w m B f) (hb : Below w.heap.size w w') : RamAt w' m B f := ⟨h.c.below hb h.c.lt, h.d.below hb⟩
theorem RamAt.upd {w w' : World} {m B : Nat} {f : Nat → Nat} {S : Nat → Prop} (h : RamAt w m B f) (hu : Upd S w w') (h1 : ¬ S m) (h2 : ¬ S B) : RamAt w' m B f := ⟨h.c.upd hu h1, h.d.upd hu h2⟩
theorem RamAt.ext {w : World} {m B : Nat} {f g : Nat → Nat} (h : RamAt w m B f) (he : ∀ j, j < 8192 → g j = f j) : RamAt w m B g := by
  obtain ⟨hc, D, h1, h2⟩ := h
  have e : ∀ k, k < 128 → ∀ i, i < 64 → g (64 * k + i) = f (64 * k + i) := fun k hk i hi => he _ (by omega)
  refine ⟨hc, D, h1, fun k hk => by rw [h2.at_ k hk, bv_ext (e k hk)], fun k hk => by rw [h2.has_ k hk, nzb_ext (e k hk)], ?_⟩
  rw [h2.size]
  have : ∀ n, n ≤ 128 → cntb f n = cntb g n := by
    intro n
    induction n with
    | zero => intro _; rfl
    | succ n ih => intro hn; rw [cntb, cntb, ih (by omega), nzb_ext (e n (by omega))]
  exact this 128 (Nat.le_refl _)

section
variable {P : Program} {ops : Array Oper} {rest : List Oper} {o : Oper} {a : Act} {Q : Exit → Act → World → Prop}
theorem wpList_lookup_ram (w : World) (hg : o.guard = none) (m x : Operand) (hop : o.op = Op.lookup 164 m x false) (B : Nat) (f : Nat → Nat) (k : Nat) (hk : k < 128)
    (hm : a.eval m = .map (some B)) (h : MapAt w B f) (hx : a.eval x = .int .u16 (k : Int)) (hK : wpList Try.prog ops Q rest (a.put o.dst (.agg (brow f k).toArray)) w) : wpList Try.prog ops Q (o :: rest) a w := by
  refine wpList_plain hg fun K' hK' => ?_
  obtain ⟨D, h1, h2⟩ := h
  obtain ⟨v, ps, hrun, hv⟩ := h1.lookup keyed16 Try.underlying164 (zeroB w) (zd := .held bz) (zp := []) rfl (key16 k (by omega))
  rw [h2.at_ k hk] at hv
  have e : v = bv f k := DataW.held.inj (congrArg Prod.fst (Option.some.inj hv))
  subst e
  unfold Oper.wp
  simp [execOp, hop, hm, hx, hrun, Result.andThen]
  exact hK' _ _ hK
end

theorem upd_grown {w w' : World} {B : Nat} (h : w.grownBy w' (some B)) : Upd (· = B) w w' := ⟨h.os, h.tape, h.output, h.size, fun i hi hn => h.block i hi (fun e => hn (Option.some.inj e))⟩
theorem upd_turned {w w' : World} {B : Nat} (h : w.mapTurned w' B) : Upd (· = B) w w' := by
  obtain ⟨es, clock, es', clock', hb, rfl⟩ := h
  exact ⟨rfl, rfl, rfl, by simp [ChangeMaps.setBlock], fun i _ hn => ChangeMaps.heap_setBlock_other hb _ hn⟩

theorem New_ram (w : World) : Calls Try.prog 104 #[] w fun e w' => ∃ m B, e = .returned (.pointer (some ⟨m, 0, none⟩)) ∧ RamAt w' m B (fun _ => 0) ∧ w.heap.size ≤ m ∧ w.heap.size ≤ B ∧ Below w.heap.size w w' := by
  have hmm := @run_makeMap Try.prog
  go_enter Try.func104, Try.ntmps104
  go_wp2
  go_ret
  have hb1 : Below w.heap.size w (w.alloc (.map #[] 0)) := (Below.refl _ w).alloc (Nat.le_refl _) _
  have hD : MapAt (w.alloc (.map #[] 0)) w.heap.size (fun _ => 0) := MapAt.of (World.ownsMap_made w _ _ _) RamD.new
  have hA : At ((w.alloc (.map #[] 0)).alloc (.cells #[.map (some w.heap.size)] 166)) (w.heap.size + 1) 166 [.map (some w.heap.size)] := (At.new (w.alloc (.map #[] 0)) _ _).of_eq rfl |> fun h => by simpa using h
  refine ⟨_, _, rfl, ⟨hA, hD.below ((Below.refl _ _).alloc (Nat.le_refl _) _)⟩, ?_, ?_, hb1.alloc hb1.size _⟩
  · simp
  · exact Nat.le_refl _

theorem Place_any (at_ : Nat) (w : World) : Calls Try.prog 105 #[.int .u16 (at_ : Int)] w fun e w' => e = .returned (.tuple #[.int .u16 ((at_ % 8192 / 64 : Nat) : Int), .int .u16 ((at_ % 8192 % 64 : Nat) : Int)]) ∧ w = w' := by
  have e1 : (at_ : Int).tmod 8192 = ((at_ % 8192 : Nat) : Int) := by rw [Int.tmod_eq_emod_of_nonneg (by omega)]; rfl
  obtain ⟨x, hx⟩ : ∃ x, x = at_ % 8192 := ⟨_, rfl⟩
  rw [← hx] at e1 ⊢
  have hlt : x < 8192 := by omega
  have e2 : (x : Int).tdiv 64 = ((x / 64 : Nat) : Int) := by rw [Int.tdiv_eq_ediv_of_nonneg (by omega)]; rfl
  have e3 : (x : Int).tmod 64 = ((x % 64 : Nat) : Int) := by rw [Int.tmod_eq_emod_of_nonneg (by omega)]; rfl
  obtain ⟨q, hq⟩ : ∃ q, q = x / 64 := ⟨_, rfl⟩
  obtain ⟨r, hr⟩ : ∃ r, r = x % 64 := ⟨_, rfl⟩
  rw [← hq] at e2 ⊢
  rw [← hr] at e3 ⊢
  have hq1 : q < 128 := by omega
  have hr1 : r < 64 := by omega
  clear hx hq hr
  go_enter Try.func105, Try.ntmps105
  go_wp2
  go_ret2
  exact ⟨rfl, rfl⟩

/-- A byte that is written. -/
def putB (f : Nat → Nat) (a b : Nat) : Nat → Nat := fun j => if j = a % 8192 then b else f j

set_option maxRecDepth 100000 in
theorem Read_any (m B : Nat) (f : Nat → Nat) (at_ : Nat) (w : World) (h : RamAt w m B f) : Calls Try.prog 61 #[.pointer (some ⟨m, 0, none⟩), .int .u16 (at_ : Int)] w fun e w' => e = .returned (.int .u8 (f (at_ % 8192) : Int)) ∧ w = w' := by
  have c0 := h.c.cell 0 rfl
  have HD := Lib.hid h.d
  obtain ⟨k, hk⟩ : ∃ k, k = at_ % 8192 / 64 := ⟨_, rfl⟩
  obtain ⟨i, hi⟩ : ∃ i, i = at_ % 8192 % 64 := ⟨_, rfl⟩
  have hk1 : k < 128 := by omega
  have hi1 : i < 64 := by omega
  have hf : f (at_ % 8192) = f (64 * k + i) := by rw [show 64 * k + i = at_ % 8192 by omega]
  have kp := Place_any at_ w
  rw [← hk, ← hi] at kp
  rw [hf]
  clear hk hi hf h
  have hidx := fun w => index_one (P := Try.prog) 163 5 64 (brow f k).toArray .u16 (i : Int) _ 1 (.int .u8 (f (64 * k + i) : Int)) rfl rfl rfl (by kernel_rfl) rfl (by omega) (by rw [List.getElem?_toArray]; exact rowF_get (f := fun i => Value.int .u8 (f (64 * k + i) : Int)) hi1) w
  go_enter Try.func61, Try.ntmps61
  go_wp2_with fail
  refine kp.mono ?_
  rintro e _ ⟨rfl, rfl⟩
  go_wp2_with (at_lookup; refine wpList_lookup_ram _ rfl _ _ rfl B f k hk1 rfl HD.out rfl ?_)
  go_ret
  exact ⟨rfl, rfl⟩

def zrow : List Value := rowF 64 fun _ => .int .u8 0
theorem info8 : (Try.prog.info? 5).isSome = true := by kernel_rfl
set_option maxRecDepth 100000 in
theorem eqlB (f : Nat → Nat) (k : Nat) (w : World) : (Op.equalIn 10000 163 (.agg (brow f k).toArray) (.agg zrow.toArray)).run Try.prog w = .ok (!nzb f k) w := by
  obtain ⟨inf, hi⟩ := Option.isSome_iff_exists.1 info8
  have h := (equal_ints (P := Try.prog) w 9998 163 5 64 .u8 inf (brow f k).toArray zrow.toArray (fun i => (f (64 * k + i) : Int)) (fun _ => 0) Try.underlying163 Try.underlying5 hi (by kernel_rfl)
    (fun i hi => by rw [List.getElem?_toArray]; exact rowF_get (f := fun i => Value.int .u8 (f (64 * k + i) : Int)) hi) (fun i hi => by rw [List.getElem?_toArray]; exact rowF_get hi))
  rw [h]
  congr 1
  unfold nzb
  rw [Bool.eq_iff_iff]
  simp only [List.all_eq_true, List.mem_range, beq_iff_eq, Bool.not_eq_true', List.any_eq_false, decide_eq_true_eq]
  constructor
  · intro h i hi; have := h i hi; omega
  · intro h i hi; have := h i hi; omega

theorem eqlB_t {f : Nat → Nat} {k : Nat} (h : nzb f k = false) (w : World) : (Op.equalIn 10000 163 (.agg (brow f k).toArray) (.agg zrow.toArray)).run Try.prog w = .ok true w := by rw [eqlB, h]; rfl
theorem eqlB_f {f : Nat → Nat} {k : Nat} (h : nzb f k = true) (w : World) : (Op.equalIn 10000 163 (.agg (brow f k).toArray) (.agg zrow.toArray)).run Try.prog w = .ok false w := by rw [eqlB, h]; rfl
theorem brow_one (f : Nat → Nat) (k : Nat) : ∀ v ∈ brow f k, v.oneCell' = true := rowF_all fun _ _ => rfl
theorem brow_set (f : Nat → Nat) (a b : Nat) (k i : Nat) (hk : k = a % 8192 / 64) (hi : i = a % 8192 % 64) : (brow f k).set i (.int .u8 (b : Int)) = brow (putB f a b) k := by
  unfold brow
  rw [rowF_set _ (by omega)]
  refine rowF_ext fun j hj => ?_
  unfold putB
  by_cases h : j = i
  · rw [if_pos h, if_pos (by omega)]
  · rw [if_neg h, if_neg (by omega)]

set_option maxRecDepth 100000 in
set_option maxHeartbeats 4000000 in
theorem Write_any (m B : Nat) (f : Nat → Nat) (at_ b : Nat) (w : World) (h : RamAt w m B f) : Calls Try.prog 63 #[.pointer (some ⟨m, 0, none⟩), .int .u16 (at_ : Int), .int .u8 (b : Int)] w fun e w' => e = .returned (.tuple #[]) ∧ RamAt w' m B (putB f at_ b) ∧ Upd (· = B) w w' := by
  have c0 := h.c.cell 0 rfl
  have HR := Lib.hid h
  obtain ⟨k, hk⟩ : ∃ k, k = at_ % 8192 / 64 := ⟨_, rfl⟩
  obtain ⟨i, hi⟩ : ∃ i, i = at_ % 8192 % 64 := ⟨_, rfl⟩
  have hk1 : k < 128 := by omega
  have hi1 : i < 64 := by omega
  have kp := Place_any at_ w
  rw [← hk, ← hi] at kp
  have HS := Lib.hid (brow_set f at_ b k i hk hi)
  have HO : Hid (∀ j, j / 64 ≠ k → putB f at_ b j = f j) := Lib.hid fun j hj => by unfold putB; rw [if_neg (by omega)]
  have hi0 : (0 : Int) ≤ (i : Int) := by omega
  have hi64 : (i : Int) < 64 := by omega
  clear hk hi h
  go_enter Try.func63, Try.ntmps63
  go_wp2_with fail
  refine kp.mono ?_
  rintro e _ ⟨rfl, rfl⟩
  clear kp
  have hN : At (w.alloc (.cells zrow.toArray 163)) w.heap.size 163 zrow := At.new w _ _
  go_wp2_with (first
    | (at_lookup; refine wpList_lookup_ram _ rfl _ _ rfl B f k hk1 rfl HR.out.d rfl ?_)
    | (refine wpList_store_row rfl 163 (.tmp 8) (.tmp 21) rfl rfl w.heap.size (by kernel_rfl) (brow f k) (by kernel_rfl) 163 zrow hN (by kernel_rfl) (by kernel_rfl) (brow_one f k) ?_))
  intro w2 hA2 hU2
  have HR2 : Hid (RamAt w2 m B f) := Lib.hid ((HR.out.below ((Below.refl _ w).alloc (Nat.le_refl _) (.cells zrow.toArray 163))).upd hU2 (by have := HR.out.c.lt; omega) (by have := HR.out.d.lt; omega))
  have HU2 : Hid (Below w.heap.size w w2) := Lib.hid (step_upd ((Below.refl _ w).alloc (Nat.le_refl _) (.cells zrow.toArray 163)) hU2 (Nat.le_refl _))
  have hBl := HR.out.d.lt
  have hml := HR.out.c.lt
  clear hU2 HR hN
  go_wp2_with (refine wpList_store_cell rfl 5 (.tmp 24) (.tmp 23) rfl rfl w.heap.size i rfl (.int .u8 (b : Int)) rfl 163 (brow f k) hA2 (by simp [brow, hi1]) (by kernel_rfl) rfl rfl ?_)
  intro w3 hA3 hU3
  rw [HS.out] at hA3
  have HR3 := Lib.hid (HR2.out.upd hU3 (by omega) (by omega))
  have HU3 := Lib.hid (step_upd HU2.out hU3 (Nat.le_refl _))
  clear hU3 HR2 HU2 hA2
  have HA3 := Lib.hid hA3
  cases hnz : nzb (putB f at_ b) k
  · have hq : ∀ w, (Op.equalIn 10000 163 (.agg (brow (putB f at_ b) k).toArray) (.agg #[.int .u8 0, .int .u8 0, .int .u8 0, .int .u8 0, .int .u8 0, .int .u8 0, .int .u8 0, .int .u8 0, .int .u8 0, .int .u8 0, .int .u8 0, .int .u8 0, .int .u8 0, .int .u8 0, .int .u8 0, .int .u8 0, .int .u8 0, .int .u8 0, .int .u8 0, .int .u8 0, .int .u8 0, .int .u8 0, .int .u8 0, .int .u8 0, .int .u8 0, .int .u8 0, .int .u8 0, .int .u8 0, .int .u8 0, .int .u8 0, .int .u8 0, .int .u8 0, .int .u8 0, .int .u8 0, .int .u8 0, .int .u8 0, .int .u8 0, .int .u8 0, .int .u8 0, .int .u8 0, .int .u8 0, .int .u8 0, .int .u8 0, .int .u8 0, .int .u8 0, .int .u8 0, .int .u8 0, .int .u8 0, .int .u8 0, .int .u8 0, .int .u8 0, .int .u8 0, .int .u8 0, .int .u8 0, .int .u8 0, .int .u8 0, .int .u8 0, .int .u8 0, .int .u8 0, .int .u8 0, .int .u8 0, .int .u8 0, .int .u8 0, .int .u8 0])).run Try.prog w = .ok true w := fun w => eqlB_t hnz w
    have c3 := HR3.out.c.cell 0 rfl
    obtain ⟨D, hown, hD⟩ := HR3.out.d
    have HM := Lib.hid hown
    have HDD := Lib.hid (hD.del (hown.tidy keyed16) hk1 HO.out hnz)
    clear hown hD
    go_wp2_with (first
      | (with_reducible refine wpList_load_at rfl 163 (.tmp 8) rfl w.heap.size (by kernel_rfl) 163 (brow (putB f at_ b) k) hA3 _ Try.underlying163 rfl (by kernel_rfl) ?_)
      | (at_delete; refine wpList_delete_own _ rfl _ _ 164 67 rfl 163 keyed16 Try.underlying164 Rv B 128 D rfl HM.out (.int .u16 (k : Int)) (kl k) rfl (key16 k (by omega)) ?_))
    intro w4 hown4 hturn4
    have hU4 := upd_turned hturn4
    have hR4 : RamAt w4 m B (putB f at_ b) := ⟨HR3.out.c.upd hU4 (fun h => HR3.out.ne h.symm), MapAt.of hown4 HDD.out⟩
    go_wp2
    (try simp only [Exit.inBlock, Exit.then])
    refine bodyPost_ret (results_none rfl _ _ _) rfl ?_
    exact ⟨rfl, hR4, (Upd.of_below HU3.out).trans hU4 fun _ _ h => h⟩
  · have hq : ∀ w, (Op.equalIn 10000 163 (.agg (brow (putB f at_ b) k).toArray) (.agg #[.int .u8 0, .int .u8 0, .int .u8 0, .int .u8 0, .int .u8 0, .int .u8 0, .int .u8 0, .int .u8 0, .int .u8 0, .int .u8 0, .int .u8 0, .int .u8 0, .int .u8 0, .int .u8 0, .int .u8 0, .int .u8 0, .int .u8 0, .int .u8 0, .int .u8 0, .int .u8 0, .int .u8 0, .int .u8 0, .int .u8 0, .int .u8 0, .int .u8 0, .int .u8 0, .int .u8 0, .int .u8 0, .int .u8 0, .int .u8 0, .int .u8 0, .int .u8 0, .int .u8 0, .int .u8 0, .int .u8 0, .int .u8 0, .int .u8 0, .int .u8 0, .int .u8 0, .int .u8 0, .int .u8 0, .int .u8 0, .int .u8 0, .int .u8 0, .int .u8 0, .int .u8 0, .int .u8 0, .int .u8 0, .int .u8 0, .int .u8 0, .int .u8 0, .int .u8 0, .int .u8 0, .int .u8 0, .int .u8 0, .int .u8 0, .int .u8 0, .int .u8 0, .int .u8 0, .int .u8 0, .int .u8 0, .int .u8 0, .int .u8 0, .int .u8 0])).run Try.prog w = .ok false w := fun w => eqlB_f hnz w
    have c3 := HR3.out.c.cell 0 rfl
    go_wp2_with (first
      | (with_reducible refine wpList_load_at rfl 163 (.tmp 8) rfl w.heap.size (by kernel_rfl) 163 (brow (putB f at_ b) k) hA3 _ Try.underlying163 rfl (by kernel_rfl) ?_))
    obtain ⟨D, hown, hD⟩ := HR3.out.d
    have HM := Lib.hid hown
    have HDD := Lib.hid (hD.put (hown.tidy keyed16) hk1 HO.out hnz)
    clear hown hD
    refine region_drew_tail 6 (by kernel_rfl) (by kernel_rfl) ?_
    simp only [List.take_succ_cons, List.take_zero, List.drop_succ_cons, List.drop_zero]
    go_big_quiet_step (fail)
    go_big_quiet_step (fail)
    go_big_quiet_step (fail)
    go_big_quiet_step (fail)
    go_big_quiet_step (fail)
    refine BigFrame.wpQuiet_want rfl fun K hK => ?_
    refine quiet_load_row 163 _ rfl w.heap.size rfl 163 (brow (putB f at_ b) k) _ (fun w' hw' => (by obtain ⟨k, rfl⟩ := hw'; exact HA3.out.drewN k)) Try.underlying163 rfl (by kernel_rfl) (hK _ ?_)
    clear hK K
    (conv => arg 6; whnf)
    simp only [List.setIfInBounds_toArray, List.set_cons_succ, List.set_cons_zero]
    refine wpQuiet_nil ?_
    intro _ hw'
    obtain ⟨nq, rfl⟩ := hw'
    go_wp2_with (at_mapUpdate; refine wpList_mapUpdate_own _ rfl _ _ _ 164 rfl 67 163 keyed16 Try.underlying164 Rv B 128 D rfl HM.out (by unfold maxLen; omega) (.int .u16 (k : Int)) _ (kl k) rfl rfl (key16 k (by omega)) (.held (bv (putB f at_ b) k)) [] rfl ?_)
    intro w4 hown4 hgrow4
    have hU4 := upd_grown hgrow4
    have hR4 : RamAt w4 m B (putB f at_ b) := ⟨(HR3.out.c.drewN nq).upd hU4 (fun h => HR3.out.ne h.symm), MapAt.of hown4 HDD.out⟩
    go_wp2
    go_end0
    exact ⟨rfl, hR4, ((Upd.of_below HU3.out).drewN nq).trans hU4 fun _ _ h => h⟩
end Go.Proofs.Ytgkbpdcedighcac
