/-
  The walk of the law MixTurns.
-/
import Derived.Test.YtgkbpdcedighcacMixL
import Derived.Test.YtgkbpdcedighcacVoiceA
namespace Go.Proofs.Ytgkbpdcedighcac
open Go.RowKit Go.Sort

theorem sumZ_front (f : Nat → Int) (n : Nat) : sumZ f (n + 1) = f 0 + sumZ (fun i => f (i + 1)) n := by
  induction n with
  | zero => simp [sumZ]
  | succ n ih =>
    rw [sumZ, ih, sumZ, Int.add_assoc]
theorem sumZ_back (f : Nat → Int) (n : Nat) : sumZ (fun i => f (n - 1 - i)) n = sumZ f n := by
  induction n generalizing f with
  | zero => rfl
  | succ n ih =>
    rw [sumZ_front, sumZ]
    have e : sumZ (fun i => f (n + 1 - 1 - (i + 1))) n = sumZ f n := by
      rw [← ih f]
      exact sumZ_congr n fun i hi => by rw [show n + 1 - 1 - (i + 1) = n - 1 - i by omega]
    rw [e, show n + 1 - 1 - 0 = n by omega, Int.add_comm]

set_option maxRecDepth 100000 in
set_option maxHeartbeats 8000000 in
theorem MixTurns_walk (w : World) (a : Option Addr) (n cap : Nat) (F : Nat → List Value) (s : SlR w a n cap 4 IsVoice F) (l0 : Int) (hl0 : (Lit.int .u8 l0).wf = true) (r0 : Int) (hr0 : (Lit.int .u8 r0).wf = true) :
    Calls Try.prog 7 #[.slice a n cap, .int .u8 l0, .int .u8 r0] w fun e w' => e = .returned (.bool true) ∧ Below w.heap.size w w' := by
  obtain ⟨l, rfl⟩ : ∃ v : Nat, l0 = v := ⟨l0.toNat, by have := wf_bounds_u8 hl0; omega⟩
  obtain ⟨r, rfl⟩ : ∃ v : Nat, r0 = v := ⟨r0.toNat, by have := wf_bounds_u8 hr0; omega⟩
  have hl : l < 256 := by have := wf_bounds_u8 hl0; omega
  have hr : r < 256 := by have := wf_bounds_u8 hr0; omega
  have hm := s.max
  have hle := s.le
  unfold maxLen at hm
  obtain ⟨V, hV⟩ := vos_of s
  have HV := Lib.hid hV
  clear s hl0 hr0 hV
  by_cases hlong : 300 < n
  · have hd : decide (300 < (n : Int)) = true := by rw [decide_eq_true_eq]; omega
    go_enter Try.func7, Try.ntmps7
    go_wp2_with fail
    refine (live16_any w).mono ?_
    rintro e w1 ⟨rfl, hB1⟩
    go_wp2
    go_ret
    exact ⟨rfl, hB1⟩
  · have hd : decide (300 < (n : Int)) = false := by rw [decide_eq_false_iff_not]; omega
    obtain ⟨i0, hi0⟩ := Option.map_eq_some_iff.1 info_voice
    have HI := Lib.hid hi0
    clear hi0
    go_enter Try.func7, Try.ntmps7
    go_wp2_with fail
    refine (live16_any w).mono ?_
    rintro e w1 ⟨rfl, hB1⟩
    have HV1 := Lib.hid (HV.out.below hB1)
    have HB1 := Lib.hid hB1
    have hlt1 : ∀ b off, a = some ⟨b, off, none⟩ → 0 < n → b < w.heap.size := fun b off h h0 => HV.out.lt h0 h
    have HLT := Lib.hid hlt1
    have HSW0 : w.heap.size ≤ w1.heap.size := hB1.size
    clear hB1 HV hlt1
    generalize hS : w1.heap.size = S at *
    have HSW := Lib.hid HSW0
    clear HSW0
    go_wp2
    go_loopw [7, 8] (fun v i wr => ∃ m : Nat, m ≤ n ∧ i = .int .i64 ((m : Int) - 1) ∧ Hid (wr.ownsRow S 32 4 v (n - m) (vflat (n - m) fun j => V (n - 1 - j))) ∧ Hid (Vos wr a n V) ∧ Hid (Below w.heap.size w wr) ∧ S ≤ wr.heap.size) (fun _ i _ => (intOf i + 1).toNat)
    case atStart => exact ⟨n, Nat.le_refl _, rfl, Lib.hid (by rw [Nat.sub_self]; exact ⟨rfl, .inl ⟨rfl, rfl⟩⟩), HV1, HB1, by omega⟩
    case round =>
      clear HV1 HB1 hS
      obtain ⟨m, hm, rfl, HO, HV, HB, hS⟩ := hrel
      by_cases h0 : m = 0
      · subst h0
        have HR1 : Hid (sumZ (fun i => (V (n - 1 - i)).l l) n = sumZ (fun i => (V i).l l) n) := Lib.hid (sumZ_back (fun i => (V i).l l) n)
        have HR2 : Hid (sumZ (fun i => (V (n - 1 - i)).r r) n = sumZ (fun i => (V i).r r) n) := Lib.hid (sumZ_back (fun i => (V i).r r) n)
        have hO := HO.out
        rw [Nat.sub_zero] at hO
        have HOK : Hid (∀ i, i < n → (V (n - 1 - i)).Ok) := Lib.hid fun i hi => HV.out.2 (n - 1 - i) (by omega)
        obtain ⟨a2, cap2, rfl, hVos⟩ := own_vos hO HOK.out
        have b1 := sumZ_bd (fun i => (V i).l l) n fun i _ => sideZ_bd _ _ _ _
        have b2 := sumZ_bd (fun i => (V i).r r) n fun i _ => sideZ_bd _ _ _ _
        have k1 := fun w0 (h : Vos w0 a n V) => All_any l r a n cap V w0 h hl hr (by omega)
        have k2 := fun w0 (h : Vos w0 a n V) => Turned_any l r a n cap V w0 h hl hr (by omega)
        have k3 := fun w0 (h : Vos w0 a2 n (fun j => V (n - 1 - j))) => All_any l r a2 n cap2 (fun j => V (n - 1 - j)) w0 h hl hr (by omega)
        rw [HR1.out, HR2.out] at k3
        generalize sumZ (fun i => (V i).l l) n = m1 at *
        generalize sumZ (fun i => (V i).r r) n = m2 at *
        go_wp2_with fail
        refine (k1 wr HV.out).mono ?_
        rintro e w2 ⟨rfl, hb2⟩
        have hV2 := HV.out.below hb2
        have hR2 := hVos.below hb2
        have hB2 := step_below HB.out hb2
        clear hb2 HV HB hVos k1 HO hO
        go_wp2_with fail
        refine (k2 w2 hV2).mono ?_
        rintro e w3 ⟨rfl, hb3⟩
        have hR3 := hR2.below hb3
        have hB3 := step_below hB2 hb3
        clear hb3 hV2 hB2 hR2 k2
        go_wp2_with fail
        refine (k3 w3 hR3).mono ?_
        rintro e w4 ⟨rfl, hb4⟩
        have HB4 := Lib.hid (step_below hB3 hb4)
        clear hb4 hR3 hB3 k3
        go_wp2
        go_ret
        exact ⟨rfl, HB4.out⟩
      · obtain ⟨j, rfl⟩ : ∃ j, m = j + 1 := ⟨m - 1, by omega⟩
        obtain ⟨b2, off2, rfl, hbl, hcl⟩ := HV.out.1 j (by omega)
        have hok := HV.out.2 j (by omega)
        replace hcl : CellsAt wr b2 (off2 + j * 4) (V j).cs := hcl
        have HVJ : Hid (V (n - 1 - (n - (j + 1))) = V j) := Lib.hid (by rw [show n - 1 - (n - (j + 1)) = j by omega])
        generalize hvv : V j = vk at hcl hok
        obtain ⟨lv, vo, le, ri⟩ := vk
        replace hcl : CellsAt wr b2 (off2 + j * 4) [.int .u8 (lv : Int), .int .u8 (vo : Int), .int .u8 (le : Int), .int .u8 (ri : Int)] := hcl
        have HVV := Lib.hid hvv
        clear hvv
        have hone : ∀ u ∈ ([.int .u8 (lv : Int), .int .u8 (vo : Int), .int .u8 (le : Int), .int .u8 (ri : Int)] : List Value), u.oneCell' = true := by
          intro v hv; simp only [List.mem_cons, List.not_mem_nil, or_false] at hv; rcases hv with rfl | rfl | rfl | rfl <;> rfl
        have HNE := Lib.hid hone
        clear hone hok
        obtain ⟨hi, hzz⟩ := HI.out
        have hz0 : i0.zero = some (.agg #[.int .u8 0, .int .u8 0, .int .u8 0, .int .u8 0]) := congrArg Prod.fst hzz
        have hz1 : i0.size = 4 := congrArg (fun p => p.2.1) hzz
        have hz2 : i0.bytes = 4 := congrArg (fun p => p.2.2) hzz
        clear hzz
        have hO := HO.out
        have hbS : b2 < S := by have := HLT.out b2 off2 rfl (by omega); have := HSW.out; omega
        rw [show ((j + 1 : Nat) : Int) - 1 = (j : Int) by omega]
        go_wp2_with (first
          | (with_reducible refine wpList_load_cells (by kernel_rfl) 32 (.tmp 30) rfl b2 (off2 + j * 4) rfl [.int .u8 (lv : Int), .int .u8 (vo : Int), .int .u8 (le : Int), .int .u8 (ri : Int)] hcl _ Try.underlying32 rfl (by kernel_rfl) ?_)
          | (at_builtin; refine wpList_append_own _ rfl _ _ 26 rfl S 32 i0 (.agg #[.int .u8 0, .int .u8 0, .int .u8 0, .int .u8 0]) 4 4 Try.underlying26 hi hz0 hz1 hz2 rfl (by decide) _ _ _ rfl (hO.alloc _) ⟨wr.heap.size, 0, none⟩ 1 1 [.int .u8 (lv : Int), .int .u8 (vo : Int), .int .u8 (le : Int), .int .u8 (ri : Int)] rfl rfl (cells_new4 wr #[.int .u8 (lv : Int), .int .u8 (vo : Int), .int .u8 (le : Int), .int .u8 (ri : Int)] 32) HNE.out (by unfold maxLen; omega) (by omega) (by simp; omega) ?_))
        intro v' w4 hO4 hg4 _
        have hB3 : Below w.heap.size w (wr.alloc (.cells #[.int .u8 (lv : Int), .int .u8 (vo : Int), .int .u8 (le : Int), .int .u8 (ri : Int)] 32)) := HB.out.alloc HB.out.size _
        have HB4 := Lib.hid (hB3.grown hg4 (by have := HB.out.size; simp; omega) (fun b hb => by have := (HO.out.lt b hb).1; have := HSW.out; omega))
        have hS4 : S ≤ w4.heap.size := by have := hg4.size; simp at this; omega
        have HV4 : Hid (Vos w4 (some ⟨b2, off2, none⟩) n V) := Lib.hid ⟨fun i hi => by
          obtain ⟨b3, off3, h1, h2, h3⟩ := HV.out.1 i hi
          obtain ⟨rfl, rfl⟩ : b2 = b3 ∧ off2 = off3 := by injection h1 with h; injection h with h h2 _; exact ⟨h, h2⟩
          refine ⟨b2, off2, rfl, by omega, fun q u hu => ?_⟩
          have hc := h3 q u hu
          have hbk := hg4.block b2 (by simp; omega) (fun he => by have := (HO.out.lt b2 he.symm).1; omega)
          unfold World.cell? at hc ⊢
          rw [hbk]
          have hal : (wr.alloc (.cells #[.int .u8 (lv : Int), .int .u8 (vo : Int), .int .u8 (le : Int), .int .u8 (ri : Int)] 32)).heap[b2]? = wr.heap[b2]? := by
            have := ((Below.refl wr.heap.size wr).alloc (Nat.le_refl _) (.cells #[.int .u8 (lv : Int), .int .u8 (vo : Int), .int .u8 (le : Int), .int .u8 (ri : Int)] 32)).block b2 (by omega)
            exact this
          rw [hal]
          exact hc, HV.out.2⟩
        have HO4 : Hid (w4.ownsRow S 32 4 v' (n - j) (vflat (n - j) fun j => V (n - 1 - j))) := Lib.hid (by
          have e1 : n - j = n - (j + 1) + 1 := by omega
          have e2 : (vflat (n - (j + 1)) fun j => V (n - 1 - j)) ++ [.int .u8 (lv : Int), .int .u8 (vo : Int), .int .u8 (le : Int), .int .u8 (ri : Int)] = vflat (n - (j + 1) + 1) fun j => V (n - 1 - j) := by
            show (vflat (n - (j + 1)) fun j => V (n - 1 - j)) ++ (Vo.mk lv vo le ri).cs = _
            rw [vflat_snoc]
            refine vflat_ext fun i _ => ?_
            by_cases him : i = n - (j + 1)
            · subst him; rw [if_pos rfl, HVJ.out, HVV.out]
            · rw [if_neg him]
          rw [e1, ← e2]
          exact hO4)
        clear hO4 hg4 hB3 hO hi hz0 hz1 hz2 HO HV HB hcl
        go_wp2
        go_roundw
        case rel => exact ⟨j, by omega, by go_num, HO4, HV4, HB4, hS4⟩
        case measure => simp [intOf]
end Go.Proofs.Ytgkbpdcedighcac
