/-
  The walks of lines: Check, At.
-/
import Derived.Test.YtgkbpdcedighcadLines
import Derived.Scope
namespace Go.Proofs.Ytgkbpdcedighcad
open Go.RowKit Go.Sort

def ahd (E : Nat → Ed) (k : Nat) : Int := if k = 0 then 0 else (E (k - 1)).st
def ckR (E : Nat → Ed) : Nat → Option (Int × Int)
  | 0 => none
  | k + 1 => match ckR E k with
    | some x => some x
    | none => if wrE (E k) (ahd E k) = 0 then none else some (wrE (E k) (ahd E k), (k : Int))
theorem ckR_some {E : Nat → Ed} {k : Nat} {x : Int × Int} (h : ckR E k = some x) : ∀ d, ckR E (k + d) = some x
  | 0 => h
  | d + 1 => by
    show (match ckR E (k + d) with | some x => some x | none => _) = some x
    rw [ckR_some h d]
def ckZ (E : Nat → Ed) (n : Nat) : Int × Int := if 1000 < n then (2, 1000) else (ckR E n).getD (0, 0)

set_option maxRecDepth 100000 in
set_option maxHeartbeats 4000000 in
theorem Check_any (a : Option Addr) (n cap : Nat) (E : Nat → Ed) (w : World) (hE : Eds w a n E) (hn : n ≤ cap) :
    Calls Try.prog 11 #[.slice a n cap] w fun e w' => e = .returned (.agg #[.int .i64 (ckZ E n).1, .int .i64 (ckZ E n).2]) ∧ Below w.heap.size w w' := by
  have HE := Lib.hid hE
  clear hE
  have hone : ∀ x y : Int, ∀ v ∈ ([.int .i64 x, .int .i64 y] : List Value), v.oneCell' = true := by
    intro x y v hv; simp only [List.mem_cons, List.not_mem_nil, or_false] at hv; rcases hv with rfl | rfl <;> rfl
  have hbn : Below w.heap.size w (w.alloc (.cells #[.int .i64 0, .int .i64 0] 30)) := (Below.refl _ w).alloc (Nat.le_refl _) _
  have hnew : At (w.alloc (.cells #[.int .i64 0, .int .i64 0] 30)) w.heap.size 30 [.int .i64 0, .int .i64 0] := At.new w _ _
  by_cases hlong : 1000 < n
  · have hd : decide (1000 < (n : Int)) = true := by rw [decide_eq_true_eq]; omega
    have HZ : Hid (ckZ E n = (2, 1000)) := Lib.hid (if_pos hlong)
    go_enter Try.func11, Try.ntmps11
    go_wp2_with (with_reducible refine wpList_store_row rfl 30 (.tmp 2) (.tmp 10) rfl rfl w.heap.size (by kernel_rfl) [.int .i64 2, .int .i64 1000] (by kernel_rfl) 30 [.int .i64 0, .int .i64 0] hnew (by kernel_rfl) (by kernel_rfl) (hone 2 1000) ?_)
    intro w5 hA5 hU5
    have hB5 := step_upd hbn hU5 (Nat.le_refl _)
    go_wp2
    (try simp only [Exit.inBlock, Exit.then])
    refine bodyPost_ret (results_cell_at rfl _ _ w.heap.size 30 _ hA5 _ (by kernel_rfl) Try.underlying30 rfl (by kernel_rfl)) rfl ?_
    exact ⟨by rw [HZ.out], hB5⟩
  · have hd : decide (1000 < (n : Int)) = false := by rw [decide_eq_false_iff_not]; omega
    have HZ : Hid (ckZ E n = (ckR E n).getD (0, 0)) := Lib.hid (if_neg hlong)
    go_enter Try.func11, Try.ntmps11
    go_wp2_with fail
    have HA1 := Lib.hid hnew
    have HB1 := Lib.hid hbn
    have HE1 := Lib.hid (HE.out.below hbn)
    clear hnew hbn HE
    go_loopw [3, 13] (fun v i wr => ∃ k : Nat, k ≤ n ∧ i = .int .i64 k ∧ Hid (v = .int .i64 (ahd E k)) ∧ Hid (ckR E k = none) ∧ Hid (At wr w.heap.size 30 [.int .i64 0, .int .i64 0]) ∧ Hid (Eds wr a n E) ∧ Hid (Below w.heap.size w wr)) (fun _ i _ => n - (intOf i).toNat)
    case atStart => exact ⟨0, Nat.zero_le _, rfl, Lib.hid rfl, Lib.hid rfl, HA1, HE1, HB1⟩
    case round =>
      clear HA1 HE1 HB1
      obtain ⟨k, hk, rfl, HV, HN, HA, HE, HB⟩ := hrel
      obtain rfl := HV.out
      clear HV
      by_cases hlt : k < n
      · obtain ⟨b2, off2, rfl, hbl, hcl⟩ := HE.out.1 k hlt
        have hok := HE.out.2 k hlt
        replace hcl : CellsAt wr b2 (off2 + k * 3) (E k).cs := hcl
        have HST : Hid (ahd E (k + 1) = (E k).st) := Lib.hid (by rw [ahd, if_neg (by omega), Nat.add_sub_cancel])
        have HCK : Hid (ckR E (k + 1) = if wrE (E k) (ahd E k) = 0 then none else some (wrE (E k) (ahd E k), (k : Int))) := Lib.hid (by rw [ckR, HN.out])
        have k1 := fun w0 => wrong_any (E k) (ahd E k) w0 hok
        have hbd := wrE_bd (E k) (ahd E k)
        generalize hev : E k = ek at *
        obtain ⟨st, ln, up⟩ := ek
        rw [show (Ed.mk st ln up).cs.toArray = #[.int .i64 st, .int .u8 (ln : Int), .bool up] from rfl] at k1
        replace hcl : CellsAt wr b2 (off2 + k * 3) [.int .i64 st, .int .u8 (ln : Int), .bool up] := hcl
        replace HST : Hid (ahd E (k + 1) = st) := HST
        generalize hah : ahd E k = ah at *
        generalize wrE ⟨st, ln, up⟩ ah = wr0 at *
        clear hah hev
        by_cases hz : wr0 = 0
        · subst hz
          rw [if_pos rfl] at HCK
          go_wp2_with (with_reducible refine wpList_load_cells (by kernel_rfl) 73 (.tmp 16) rfl b2 (off2 + k * 3) rfl _ hcl _ Try.underlying73 rfl (by kernel_rfl) ?_)
          refine allocs1 (F := fun w => Calls _ _ _ w _) ?_
          intro w1 hA1 hb1 _
          have HA1' := Lib.hid (HA.out.below hb1 HA.out.lt)
          have hE1 := HE.out.below hb1
          have hB1 := step_below HB.out hb1
          refine (k1 w1).mono ?_
          rintro e w2 ⟨rfl, hb2⟩
          have hS2 := hA1.below hb2 hA1.lt
          have HA2 := Lib.hid (HA1'.out.below hb2 HA1'.out.lt)
          have HE2 := Lib.hid (hE1.below hb2)
          have HB2 := Lib.hid (step_below hB1 hb2)
          have s0 := hS2.cell 0 rfl
          clear hb1 hb2 hE1 hB1 k1 hA1 hS2 HA HE HB HA1' hcl
          go_wp2
          go_roundw
          case rel => exact ⟨k + 1, by omega, by go_num, Lib.hid (by rw [HST.out]), HCK, HA2, HE2, HB2⟩
          case measure => simp [intOf]; omega
        · rw [if_neg hz] at HCK
          have hbz : (wr0 != 0) = true := by rw [bne_iff_ne]; exact hz
          have HZ2 : Hid (ckZ E n = (wr0, (k : Int))) := Lib.hid (by
            rw [HZ.out, show n = k + 1 + (n - (k + 1)) by omega, ckR_some HCK.out]; rfl)
          go_wp2_with (with_reducible refine wpList_load_cells (by kernel_rfl) 73 (.tmp 16) rfl b2 (off2 + k * 3) rfl _ hcl _ Try.underlying73 rfl (by kernel_rfl) ?_)
          refine allocs1 (F := fun w => Calls _ _ _ w _) ?_
          intro w1 hA1 hb1 _
          have hA1' := HA.out.below hb1 HA.out.lt
          have hB1 := step_below HB.out hb1
          refine (k1 w1).mono ?_
          rintro e w2 ⟨rfl, hb2⟩
          have hA2 := hA1'.below hb2 hA1'.lt
          have hB2 := step_below hB1 hb2
          clear hb1 hb2 hB1 k1 hA1 HA HE HB hcl
          go_wp2_with (with_reducible refine wpList_store_row rfl 30 (.tmp 2) (.tmp 25) rfl rfl w.heap.size (by kernel_rfl) [.int .i64 wr0, .int .i64 (k : Int)] (by kernel_rfl) 30 [.int .i64 0, .int .i64 0] hA2 (by kernel_rfl) (by kernel_rfl) (hone wr0 k) ?_)
          intro w5 hA5 hU5
          have hB5 := step_upd hB2 hU5 (Nat.le_refl _)
          go_wp2
          (try simp only [Exit.inBlock, Exit.then])
          refine bodyPost_ret (results_cell_at rfl _ _ w.heap.size 30 _ hA5 _ (by kernel_rfl) Try.underlying30 rfl (by kernel_rfl)) rfl ?_
          exact ⟨by rw [HZ2.out], hB5⟩
      · obtain rfl : k = n := by omega
        have HZ2 : Hid (ckZ E k = (0, 0)) := Lib.hid (by rw [HZ.out, HN.out]; rfl)
        have hA2 := HA.out
        have hB2 := HB.out
        go_wp2_with (with_reducible refine wpList_store_row rfl 30 (.tmp 2) (.tmp 29) rfl rfl w.heap.size (by kernel_rfl) [.int .i64 0, .int .i64 0] (by kernel_rfl) 30 [.int .i64 0, .int .i64 0] hA2 (by kernel_rfl) (by kernel_rfl) (hone 0 0) ?_)
        intro w5 hA5 hU5
        have hB5 := step_upd hB2 hU5 (Nat.le_refl _)
        go_wp2
        (try simp only [Exit.inBlock, Exit.then])
        refine bodyPost_ret (results_cell_at rfl _ _ w.heap.size 30 _ hA5 _ (by kernel_rfl) Try.underlying30 rfl (by kernel_rfl)) rfl ?_
        exact ⟨by rw [HZ2.out], hB5⟩

/-- Whether a line is up behind the first k edges. -/
def upF (E : Nat → Ed) : Nat → Nat → Bool
  | 0, _ => false
  | k + 1, l => if (E k).ln = l then (E k).up else upF E k l
/-- The first m edges are those up to that stamp. -/
def Upto (E : Nat → Ed) (n : Nat) (s : Int) (m : Nat) : Prop := m ≤ n ∧ (∀ j, j < m → (E j).st ≤ s) ∧ (m = n ∨ s < (E m).st)
theorem upto_ex (E : Nat → Ed) (s : Int) : ∀ n, ∃ m, Upto E n s m
  | 0 => ⟨0, Nat.le_refl _, fun _ h => by omega, .inl rfl⟩
  | n + 1 => by
    obtain ⟨m, h1, h2, h3⟩ := upto_ex E s n
    by_cases hm : m = n
    · subst hm
      by_cases hs : s < (E m).st
      · exact ⟨m, by omega, h2, .inr hs⟩
      · refine ⟨m + 1, Nat.le_refl _, fun j hj => ?_, .inl rfl⟩
        by_cases hjm : j = m
        · subst hjm; omega
        · exact h2 j (by omega)
    · exact ⟨m, by omega, h2, .inr (h3.resolve_left hm)⟩

set_option maxRecDepth 100000 in
set_option maxHeartbeats 4000000 in
theorem At_any (a : Option Addr) (n cap : Nat) (E : Nat → Ed) (l : Nat) (s : Int) (m : Nat) (w : World) (hE : Eds w a n E) (hn : n ≤ 1000) (hm : Upto E n s m) :
    Calls Try.prog 16 #[.slice a n cap, .int .u8 (l : Int), .int .i64 s] w fun e w' => e = .returned (.bool (upF E m l)) ∧ Below w.heap.size w w' := by
  have HE := Lib.hid hE
  have HM := Lib.hid hm
  clear hE hm
  go_enter Try.func16, Try.ntmps16
  go_wp2_with fail
  refine wp_scope_straight ?_
  go_wp2_with fail
  refine wp_label ?_
  go_wp2_with fail
  go_loopw [7, 12] (fun v i wr => ∃ k : Nat, k ≤ n ∧ k ≤ m ∧ i = .int .i64 k ∧ Hid (v = .bool (upF E k l)) ∧ Hid (Eds wr a n E) ∧ Hid (Below w.heap.size w wr)) (fun _ i _ => n - (intOf i).toNat)
  case atStart => exact ⟨0, Nat.zero_le _, Nat.zero_le _, rfl, Lib.hid rfl, HE, Lib.hid (Below.refl _ _)⟩
  case round =>
    clear HE
    obtain ⟨k, hk, hkm, rfl, HV, HE, HB⟩ := hrel
    obtain rfl := HV.out
    clear HV
    by_cases hlt : k < n
    · obtain ⟨b2, off2, rfl, hbl, hcl⟩ := HE.out.1 k hlt
      have hok := HE.out.2 k hlt
      replace hcl : CellsAt wr b2 (off2 + k * 3) (E k).cs := hcl
      have HUP : Hid (upF E (k + 1) l = if (E k).ln = l then (E k).up else upF E k l) := Lib.hid rfl
      have h2 := HM.out.2.1
      have h3 := HM.out.2.2
      by_cases hs : s < (E k).st
      · have hkm2 : k = m := by
          rcases Nat.lt_or_ge k m with h | h
          · have := h2 k h; omega
          · omega
        subst hkm2
        generalize hu0 : upF E k l = u0 at *
        have HU0 := Lib.hid hu0
        clear hu0
        generalize hev : E k = ek at *
        obtain ⟨st, ln, up⟩ := ek
        replace hs : s < st := hs
        have d1 : decide (s < st) = true := decide_eq_true hs
        replace hcl : CellsAt wr b2 (off2 + k * 3) [.int .i64 st, .int .u8 (ln : Int), .bool up] := hcl
        clear hev h2 h3
        have hbn : Below wr.heap.size wr (wr.alloc (.cells #[.int .i64 st, .int .u8 (ln : Int), .bool up] 73)) := (Below.refl _ wr).alloc (Nat.le_refl _) _
        have HB2 := Lib.hid (step_below HB.out hbn)
        clear hbn
        go_wp2_with (with_reducible refine wpList_load_cells (by kernel_rfl) 73 (.tmp 14) rfl b2 (off2 + k * 3) rfl _ hcl _ Try.underlying73 rfl (by kernel_rfl) ?_)
        (try simp only [Exit.noGoto, Exit.inBlock, Exit.then])
        go_ret
        exact ⟨by rw [HU0.out]; rfl, HB2.out⟩
      · have hkm2 : k + 1 ≤ m := by
          rcases h3 with h | h
          · omega
          · rcases Nat.lt_or_ge k m with h' | h'
            · omega
            · exact absurd ((show k = m by omega) ▸ h) hs
        generalize hu0 : upF E k l = u0 at *
        have HU0 := Lib.hid hu0
        clear hu0
        generalize hev : E k = ek at *
        obtain ⟨st, ln, up⟩ := ek
        replace hs : ¬ s < st := hs
        have d1 : decide (s < st) = false := decide_eq_false hs
        replace hcl : CellsAt wr b2 (off2 + k * 3) [.int .i64 st, .int .u8 (ln : Int), .bool up] := hcl
        replace HUP : Hid (upF E (k + 1) l = if ln = l then up else u0) := HUP
        clear hev h2 h3
        have hbn : Below wr.heap.size wr (wr.alloc (.cells #[.int .i64 st, .int .u8 (ln : Int), .bool up] 73)) := (Below.refl _ wr).alloc (Nat.le_refl _) _
        have HB2 := Lib.hid (step_below HB.out hbn)
        have HE2 := Lib.hid (HE.out.below hbn)
        clear hbn
        by_cases hl : ln = l
        · have e1 : ((ln : Int) == (l : Int)) = true := by rw [beq_iff_eq]; omega
          rw [if_pos hl] at HUP
          clear hl
          go_wp2_with (with_reducible refine wpList_load_cells (by kernel_rfl) 73 (.tmp 14) rfl b2 (off2 + k * 3) rfl _ hcl _ Try.underlying73 rfl (by kernel_rfl) ?_)
          go_roundw
          case rel => exact ⟨k + 1, by omega, hkm2, by go_num, Lib.hid (by rw [HUP.out]), HE2, HB2⟩
          case measure => simp [intOf]; omega
        · have e1 : ((ln : Int) == (l : Int)) = false := by rw [beq_eq_false_iff_ne]; omega
          rw [if_neg hl] at HUP
          go_wp2_with (with_reducible refine wpList_load_cells (by kernel_rfl) 73 (.tmp 14) rfl b2 (off2 + k * 3) rfl _ hcl _ Try.underlying73 rfl (by kernel_rfl) ?_)
          go_roundw
          case rel => exact ⟨k + 1, by omega, hkm2, by go_num, Lib.hid (by rw [HUP.out]), HE2, HB2⟩
          case measure => simp [intOf]; omega
    · obtain rfl : k = n := by omega
      obtain rfl : m = k := by have := HM.out.1; omega
      generalize hu0 : upF E m l = u0 at *
      have HU0 := Lib.hid hu0
      clear hu0
      go_wp2
      (try simp only [Exit.noGoto])
      go_ret
      exact ⟨by rw [HU0.out]; rfl, HB.out⟩
end Go.Proofs.Ytgkbpdcedighcad
