/-
  The walk of the law TopMoved.
-/
import Derived.Test.YtgkbpdcedighcacMovB
import Derived.Test.YtgkbpdcedighcacOctet
import Derived.Test.YtgkbpdcedighcacRamOD
import Derived.Test.YtgkbpdcedighcacPcOD
import Derived.Test.YtgkbpdcedighcacOpen
import Derived.Test.YtgkbpdcedighcacOpenS
namespace Go.Proofs.Ytgkbpdcedighcac
open Go.RowKit Go.Sort

theorem bys_ext {f g : Nat → Nat} {n : Nat} (h : ∀ j, j < n → f j = g j) : bys f n = bys g n := by
  unfold bys
  exact List.map_congr_left fun j hj => by rw [h j (List.mem_range.1 hj)]
theorem below_nq {b : Nat} {w w' : World} (h : RowKit.Below b w w') (n : Nat) : RowKit.Below b w (w'.drewN n) := ⟨h.os, h.tape, h.output, h.size, h.block⟩
/-- The first bytes are laid. -/
def fillB (f : Nat → Nat) (k : Nat) : Nat → Nat := fun j => if j < k then f j else 0
theorem fillB_zero (f : Nat → Nat) : fillB f 0 = fun _ => 0 := by funext j; unfold fillB; rw [if_neg (by omega)]
theorem fillB_put (f : Nat → Nat) (k : Nat) : (fun j => if j = k then f k else fillB f k j) = fillB f (k + 1) := by
  funext j
  unfold fillB
  by_cases h : j = k
  · subst h; rw [if_pos rfl, if_pos (by omega)]
  · rw [if_neg h]
    by_cases h2 : j < k
    · rw [if_pos h2, if_pos (by omega)]
    · rw [if_neg h2, if_neg (by omega)]
theorem fillB_all (f : Nat → Nat) (n : Nat) : bys (fillB f n) n = bys f n := bys_ext fun j hj => by unfold fillB; rw [if_pos hj]

set_option maxRecDepth 100000 in
set_option maxHeartbeats 16000000 in
theorem TopMoved_walk (w : World) (k0 : Int) (hk0 : (Lit.int .u8 k0).wf = true) (a0 : Int) (ha0 : (Lit.int .u16 a0).wf = true) (b0 : Int) (hb0 : (Lit.int .u16 b0).wf = true) (l0 : Int) (hl0 : (Lit.int .u16 l0).wf = true)
    (aP : Option Addr) (nP pP : Nat) (FP : Nat → List Value) (sP : SlR w aP nP pP 2 (IsPc w) FP) :
    Calls Try.prog 14 #[.int .u8 k0, .int .u16 a0, .int .u16 b0, .int .u16 l0, .slice aP nP pP] w fun e w' => e = .returned (.bool true) ∧ Below w.heap.size w w' := by
  obtain ⟨Z, hZ⟩ := pcr_of sP
  have hnP : nP ≤ 9223372036854775807 := Nat.le_trans sP.le sP.max
  have HZ := Lib.hid hZ
  clear sP hZ
  obtain ⟨kk, rfl⟩ : ∃ v : Nat, k0 = v := ⟨k0.toNat, by have := wf_bounds_u8 hk0; omega⟩
  obtain ⟨a, rfl⟩ : ∃ v : Nat, a0 = v := ⟨a0.toNat, by have := wf_bounds_u16 ha0; omega⟩
  obtain ⟨b, rfl⟩ : ∃ v : Nat, b0 = v := ⟨b0.toNat, by have := wf_bounds_u16 hb0; omega⟩
  obtain ⟨ll, rfl⟩ : ∃ v : Nat, l0 = v := ⟨l0.toNat, by have := wf_bounds_u16 hl0; omega⟩
  have ha : a < 65536 := by have := wf_bounds_u16 ha0; omega
  have hb : b < 65536 := by have := wf_bounds_u16 hb0; omega
  clear hk0 ha0 hb0 hl0
  have i1 : (kk : Int).tmod 5 = ((kk % 5 : Nat) : Int) := by rw [Int.tmod_eq_emod_of_nonneg (by omega)]; rfl
  have i2 : (ll : Int).tmod 500 = ((ll % 500 : Nat) : Int) := by rw [Int.tmod_eq_emod_of_nonneg (by omega)]; rfl
  obtain ⟨k, hk⟩ : ∃ k, k = kk % 5 := ⟨_, rfl⟩
  have hk5 : k < 5 := by omega
  obtain ⟨l, hl⟩ : ∃ l, l = ll % 500 := ⟨_, rfl⟩
  have hl5 : l < 500 := by omega
  rw [← hk] at i1
  rw [← hl] at i2
  have i3 : IntKind.u16.wrap ((l : Int) + 1) = ((l + 1 : Nat) : Int) := by rw [IntKind.wrap_u16]; omega
  obtain ⟨L, hL⟩ : ∃ L, L = l + 1 := ⟨_, rfl⟩
  rw [← hL] at i3
  have hL0 : 1 ≤ L := by omega
  have hL5 : L ≤ 500 := by omega
  clear hk hl hL
  have hbit : bitB 1 0 = true := by decide
  obtain ⟨N, hN⟩ : ∃ n : Nat, n = 8192 := ⟨_, rfl⟩
  have HN := Lib.hid hN
  have HN8 : Hid ((8192 : Int) = (N : Int)) := Lib.hid (by omega)
  obtain ⟨q1, hq1⟩ := Option.map_eq_some_iff.1 infoBy
  obtain ⟨hj, hyy⟩ := hq1
  have hy0 : q1.zero = some (.int .u8 0) := congrArg Prod.fst hyy
  have hy1 : q1.size = 1 := congrArg (fun p => p.2.1) hyy
  have hy2 : q1.bytes = 1 := congrArg (fun p => p.2.2) hyy
  clear hyy
  have hby : q1.bytes * N ≤ 281474976710656 := by rw [hy2, hN]; decide
  have hnm : N ≤ maxLen := by rw [hN]; unfold maxLen; decide
  clear hN
  go_enter Try.func14, Try.ntmps14
  go_wp2_with fail
  refine (Bit_any 1 0 _ (by decide) (by decide)).mono ?_
  rintro e _ ⟨rfl, rfl⟩
  rw [hbit]
  go_wp2_with fail
  refine (Of_any aP nP pP Z w hnP HZ.out).mono ?_
  rintro e w2 ⟨hE, hb2⟩
  have HB2 := Lib.hid hb2
  have hsz2 := hb2.size
  clear hb2
  cases hbad : badAt Z nP with
  | some i =>
    rw [hbad] at hE
    obtain rfl : e = .returned (.tuple #[.pointer none, .agg #[.int .i64 1, .int .i64 (i : Int)]]) := hE
    clear hbad
    have hA4 : At (w2.alloc (.cells #[.int .i64 0, .int .i64 0] 104)) w2.heap.size 104 [.int .i64 0, .int .i64 0] := At.new w2 _ _
    have hB3 : Below w.heap.size w (w2.alloc (.cells #[.int .i64 0, .int .i64 0] 104)) := HB2.out.alloc HB2.out.size _
    go_wp2_with (with_reducible refine wpList_store_row rfl 104 (.tmp 12) (.tmp 26) rfl rfl w2.heap.size (by kernel_rfl) [.int .i64 1, .int .i64 (i : Int)] (by kernel_rfl) 104 [.int .i64 0, .int .i64 0] hA4 (by kernel_rfl) (by kernel_rfl) (fone2 1 i) ?_)
    intro w3 hA3 hU3
    have c0 := hA3.cell 0 rfl
    have HB3 := Lib.hid (hU3.to hB3 hB3.size (fun b h => by have := HB2.out.size; omega))
    clear hA3 hU3 hB3 hA4
    by_cases g0 : 20 < (nP : Int)
    · go_wp2
      (try simp only [Exit.inBlock, Exit.then])
      go_ret
      exact ⟨rfl, HB3.out⟩
    · go_wp2
      (try simp only [Exit.inBlock, Exit.then])
      go_ret
      exact ⟨rfl, HB3.out⟩
  | none =>
    rw [hbad] at hE
    obtain ⟨m, B, rfl, hR2, hm2, hBm2⟩ := hE
    clear hbad
    generalize laid Z nP = f at *
    have HR2 := Lib.hid (hR2.below ((Below.refl _ _).alloc (Nat.le_refl _) (.cells #[.int .i64 0, .int .i64 0] 104)))
    have hml := hR2.c.lt
    have hBl := hR2.d.lt
    have hmB : m ≠ B := fun h => hR2.ne h.symm
    clear hR2
    have hA4 : At (w2.alloc (.cells #[.int .i64 0, .int .i64 0] 104)) w2.heap.size 104 [.int .i64 0, .int .i64 0] := At.new w2 _ _
    have hB3 : Below w.heap.size w (w2.alloc (.cells #[.int .i64 0, .int .i64 0] 104)) := HB2.out.alloc HB2.out.size _
    go_wp2_with (with_reducible refine wpList_store_row rfl 104 (.tmp 12) (.tmp 26) rfl rfl w2.heap.size (by kernel_rfl) [.int .i64 0, .int .i64 0] (by kernel_rfl) 104 [.int .i64 0, .int .i64 0] hA4 (by kernel_rfl) (by kernel_rfl) (fone2 0 0) ?_)
    intro w3 hA3 hU3
    have c0 := hA3.cell 0 rfl
    have HR3 := Lib.hid (HR2.out.upd hU3 (by show m ≠ w2.heap.size; omega) (by show B ≠ w2.heap.size; omega))
    have HB3 := Lib.hid (hU3.to hB3 hB3.size (fun b h => by have := HB2.out.size; omega))
    clear hA3 hU3 hB3 hA4 HR2
    by_cases g0 : 20 < (nP : Int)
    · go_wp2
      (try simp only [Exit.inBlock, Exit.then])
      go_ret
      exact ⟨rfl, HB3.out⟩
    have hs3 : w3.heap.size ≤ w3.heap.size := Nat.le_refl _
    go_wp2_with (at_make; go_loud (refine wpList_make_full _ rfl _ _ 107 rfl w3.heap.size 5 q1 (.int .u8 0) 1 Try.underlying107 hj hy0 hy1 .i64 .i64 8192 8192 N rfl rfl HN8.out HN8.out hby hnm hs3 ?_))
    intro w4 hO4 hg4
    rw [bys_zero, ← fillB_zero f] at hO4
    have hb34 : Below w3.heap.size w3 w4 := (Below.refl _ w3).grown hg4 hs3 (fun k h => by cases h)
    have HO4 := Lib.hid hO4
    have HR4 := Lib.hid (HR3.out.below hb34)
    have HB4 := Lib.hid (step_below HB3.out hb34)
    have hml4 := HR4.out.c.lt
    have hBl4 := HR4.out.d.lt
    generalize hgg : w3.heap.size = g at *
    have hwg : w.heap.size ≤ g := by have := HB3.out.size; omega
    have hmg : m ≠ g := fun h => own_ne hO4 HR4.out.c (by decide) (by rw [h]; rfl)
    have hBg : B ≠ g := fun h => own_ne_map hO4 HR4.out.d (by rw [h]; rfl)
    clear hO4 hg4 hb34 HR3 HB3 HB2 hs3 c0 hby hnm hj hy0 hy1 hy2 hgg
    go_wp2_with fail
    go_loopw [14] (fun i wr => ∃ n : Nat, n ≤ 8192 ∧ i = .int .i64 n ∧ Hid (RamAt wr m B f) ∧ Hid (wr.ownsRow g 5 1 (.slice (some ⟨g, 0, none⟩) N N) N (bys (fillB f n) N)) ∧ Hid (Below w.heap.size w wr)) (fun i _ => 8192 - (intOf i).toNat)
    case atStart => exact ⟨0, by omega, rfl, HR4, HO4, HB4⟩
    case round =>
      clear HR4 HO4 HB4
      obtain ⟨n, hn, rfl, HR, HO, HB⟩ := hrel
      by_cases hlt : n < 8192
      · have hx1 : IntKind.u16.wrap (n : Int) = (n : Int) := by rw [IntKind.wrap_u16]; omega
        have hmod : n % 8192 = n := Nat.mod_eq_of_lt hlt
        have hlN : n < N := by have := HN.out; omega
        have hlc : (n : Int) < 8192 := by omega
        have hj0 : (0 : Int) ≤ (n : Int) := by omega
        have hjn : (n : Int) < (N : Int) := by omega
        obtain ⟨_, _, he, -, hc, hfz⟩ := bys_at HO.out hlN
        simp only [Value.slice.injEq, Option.some.injEq, Addr.mk.injEq, and_true, true_and] at he
        obtain ⟨rfl, -⟩ := he
        go_wp2_with fail
        refine (Read_any m B f n wr HR.out).mono ?_
        rintro e _ ⟨he, rfl⟩
        rw [hmod] at he
        subst he
        have HF : Hid ((fun j => if j = n then f n else fillB f n j) = fillB f (n + 1)) := Lib.hid (fillB_put f n)
        generalize f n = fn at *
        go_wp2
        obtain ⟨hst, _⟩ := HO.out.stored n (.int .u8 (fn : Int))
        rw [bys_set n fn hlN, HF.out] at hst
        have hU5 : Upd (· = g) wr (wr.setCell ⟨g, n, none⟩ (.int .u8 (fn : Int))) := (Upd.refl (· = g) wr).here _
        have HO5 := Lib.hid hst
        have HR5 := Lib.hid (HR.out.upd hU5 hmg hBg)
        have HB5 := Lib.hid (hU5.to HB.out HB.out.size (fun b h => by show w.heap.size ≤ b; omega))
        clear hst hU5 HO HR HB hc hfz
        go_roundw
        case rel => exact ⟨n + 1, by omega, by go_num, HR5, HO5, HB5⟩
        case measure => simp [intOf]; omega
      · obtain rfl : n = 8192 := by omega
        have HO5 : Hid (wr.ownsRow g 5 1 (.slice (some ⟨g, 0, none⟩) N N) N (bys f N)) := Lib.hid (by rw [← fillB_all f N, HN.out]; have := HO.out; rw [HN.out] at this; exact this)
        clear HO
        go_wp2_with fail
        refine (callsIn_wide.1 (All_in k a b L hk5 ha hb hL0 hL5 wr)).mono ?_
        rintro e w5 ⟨v, rfl, hM, hb5⟩
        obtain ⟨g2, cap2, rfl⟩ : ∃ g2 cap2, v = .slice (some ⟨g2, 0, none⟩) L cap2 := by
          obtain ⟨L', rfl⟩ : ∃ L', L = L' + 1 := ⟨L - 1, by omega⟩
          exact ownsRow_succ hM
        have hg2l : wr.heap.size ≤ g2 := (own_lt hM rfl).2
        have HM := Lib.hid hM
        have hmlr := HR.out.c.lt
        have hBlr := HR.out.d.lt
        have hglr : g < wr.heap.size := (own_lt HO5.out rfl).1
        have HR5 : Hid (RamAt w5 m B (mvl (wyF k a) (wyT k b) f (List.range 0))) := Lib.hid (HR.out.below hb5)
        have HO6 := Lib.hid (kept_none HO5.out (grown_below hb5))
        have HB5 := Lib.hid (step_below HB.out hb5)
        have hMB : B ≠ g2 := by omega
        have hGC : Hid (∀ i, i < L → ∀ W : World, W.ownsRow wr.heap.size 113 2 (.slice (some ⟨g2, 0, none⟩) L cap2) L (mrow (wyF k a) (wyT k b) (List.range L)) → W.cell? ⟨g2, i * 2, none⟩ = some (.int .u16 (wyF k a i : Int)) ∧ W.cell? ⟨g2, i * 2 + 1, none⟩ = some (.int .u16 (wyT k b i : Int))) := Lib.hid fun i hi W hW => by
          obtain ⟨e1, e2⟩ := mrow_get (wyF k a) (wyT k b) L i hi
          have x1 := hW.cells (g := g2) rfl _ _ e1
          have x2 := hW.cells (g := g2) rfl _ _ e2
          rw [Addr.add_lit, Nat.zero_add] at x1 x2
          exact ⟨x1, x2⟩
        clear hM hb5 HR HO5 HB
        generalize wr.heap.size = O5 at *
        go_wp2_with fail
        go_loopw [16] (fun i wr => ∃ n : Nat, n ≤ L ∧ i = .int .i64 n ∧ Hid (RamAt wr m B (mvl (wyF k a) (wyT k b) f (List.range n))) ∧ Hid (wr.ownsRow g 5 1 (.slice (some ⟨g, 0, none⟩) N N) N (bys f N)) ∧ Hid (wr.ownsRow O5 113 2 (.slice (some ⟨g2, 0, none⟩) L cap2) L (mrow (wyF k a) (wyT k b) (List.range L))) ∧ Hid (Below w.heap.size w wr)) (fun i _ => L - (intOf i).toNat)
        case atStart => exact ⟨0, by omega, rfl, HR5, HO6, HM, HB5⟩
        case round =>
          clear HR5 HO6 HM HB5
          obtain ⟨n, hn, rfl, HR, HO, HM, HB⟩ := hrel
          by_cases hlt : n < L
          · obtain ⟨c0, c1⟩ := hGC.out n hlt _ HM.out
            have hF := wyF_lt k a n
            have hT := wyT_lt k b n
            have hlc : (n : Int) < (L : Int) := by omega
            have hj0 : (0 : Int) ≤ (n : Int) := by omega
            have HS : Hid (mvl (wyF k a) (wyT k b) f (List.range (n + 1)) = putB (mvl (wyF k a) (wyT k b) f (List.range n)) (wyT k b n) (mvl (wyF k a) (wyT k b) f (List.range n) (wyF k a n % 8192))) := Lib.hid (mvl_range _ _ _ _)
            generalize mvl (wyF k a) (wyT k b) f (List.range n) = fp at *
            generalize wyF k a n = xf at *
            generalize wyT k b n = xt at *
            have KR : ∀ q, Calls Try.prog 61 #[.pointer (some ⟨m, 0, none⟩), .int .u16 (xf : Int)] (wr.drewN q) fun e w'' => e = .returned (.int .u8 (fp (xf % 8192) : Int)) ∧ ∃ r, w'' = wr.drewN r := fun q =>
              Calls.quiet_of_same (Calls.mono (Read_any m B fp xf (wr.drewN q) ⟨HR.out.c.drewN q, HR.out.d⟩) (fun e w' h => ⟨h.1, h.2.symm⟩))
            generalize fp (xf % 8192) = y at *
            go_wp2_with fail
            refine region_drew_tail 13 (by kernel_rfl) (by kernel_rfl) ?_
            simp only [List.take_succ_cons, List.take_zero, List.drop_succ_cons, List.drop_zero]
            repeat (go_big_quiet_step (((go_at_call 61; exact KR _))))
            refine wpQuiet_nil ?_
            intro _ hw'
            obtain ⟨nq, rfl⟩ := hw'
            go_wp2_with fail
            refine (Write_any m B fp xt y _ ⟨HR.out.c.drewN nq, HR.out.d⟩).mono ?_
            rintro e w6 ⟨rfl, hR6, hU6⟩
            have hU6' : Upd (· = B) wr w6 := ((Upd.refl (· = B) wr).drewN nq).trans hU6 fun _ _ h => h
            have HR6 : Hid (RamAt w6 m B (mvl (wyF k a) (wyT k b) f (List.range (n + 1)))) := Lib.hid (by rw [HS.out]; exact hR6)
            have HO7 := Lib.hid (own_upd HO.out hU6' (fun b' hb' h => hBg (by
              have hgb : g = b' := by simpa [Value.ownBlock] using hb'
              rw [hgb]; exact h.symm)))
            have HM7 := Lib.hid (own_upd HM.out hU6' (fun b' hb' h => hMB (by
              have hgb : g2 = b' := by simpa [Value.ownBlock] using hb'
              rw [hgb]; exact h.symm)))
            have HB7 := Lib.hid (hU6'.to HB.out HB.out.size (fun b' h => by show w.heap.size ≤ b'; omega))
            clear hR6 hU6 hU6' HS KR c0 c1 HR HO HM HB
            go_wp2
            go_roundw
            case rel => exact ⟨n + 1, by omega, by go_num, HR6, HO7, HM7, HB7⟩
            case measure => simp [intOf]; omega
          · obtain rfl : n = L := by omega
            clear HM hGC
            go_wp2_with fail
            refine (callsIn_wide.1 (Apply_in k a b n hk5 ha hb hL0 hL5 g g N N f wr HN HO.out)).mono ?_
            rintro e w6 ⟨v, rfl, hO6, hb6⟩
            have hn0 : 0 < N := by have := HN.out; omega
            obtain ⟨g3, cap3, rfl, -, -, -⟩ := bys_at hO6 hn0
            have HR6 := Lib.hid (HR.out.below hb6)
            have HO6 := Lib.hid hO6
            have HB6 := Lib.hid (step_below HB.out hb6)
            have hne : ((N : Int) != 8192) = false := by have := HN.out; simp; omega
            clear hO6 hb6 HR HO HB
            generalize mvl (wyF k a) (wyT k b) f (List.range n) = fr at *
            generalize wr.heap.size = O6 at *
            go_wp2_with fail
            go_loopw [19] (fun i wr => ∃ j : Nat, j ≤ 8192 ∧ i = .int .i64 j ∧ Hid (RamAt wr m B fr) ∧ Hid (wr.ownsRow O6 5 1 (.slice (some ⟨g3, 0, none⟩) N cap3) N (bys fr N)) ∧ Hid (Below w.heap.size w wr)) (fun i _ => 8192 - (intOf i).toNat)
            case atStart => exact ⟨0, by omega, rfl, HR6, HO6, HB6⟩
            case round =>
              clear HR6 HO6 HB6
              obtain ⟨j, hjj, rfl, HR, HO, HB⟩ := hrel
              by_cases hlt : j < 8192
              · have hx1 : IntKind.u16.wrap (j : Int) = (j : Int) := by rw [IntKind.wrap_u16]; omega
                have hmod : j % 8192 = j := Nat.mod_eq_of_lt hlt
                have hlN : j < N := by have := HN.out; omega
                have hlc : (j : Int) < 8192 := by omega
                have hj0 : (0 : Int) ≤ (j : Int) := by omega
                have hjn : (j : Int) < (N : Int) := by omega
                obtain ⟨_, _, he, -, hc, hfz⟩ := bys_at HO.out hlN
                simp only [Value.slice.injEq, Option.some.injEq, Addr.mk.injEq, and_true, true_and] at he
                obtain ⟨rfl, -⟩ := he
                have KR : ∀ q, Calls Try.prog 61 #[.pointer (some ⟨m, 0, none⟩), .int .u16 (j : Int)] (wr.drewN q) fun e w'' => e = .returned (.int .u8 (fr j : Int)) ∧ ∃ r, w'' = wr.drewN r := fun q =>
                  Calls.quiet_of_same (Calls.mono (Read_any m B fr j (wr.drewN q) ⟨HR.out.c.drewN q, HR.out.d⟩) (fun e w' h => ⟨by rw [h.1, hmod], h.2.symm⟩))
                generalize fr j = y at *
                have hee : ((y : Int) != (y : Int)) = false := by simp
                go_wp2_with fail
                refine wp_region_quiet_lit (by kernel_rfl) (by kernel_rfl) ?_
                repeat (go_big_quiet_step (((go_at_call 61; exact KR _))))
                refine wpQuiet_nil ?_
                intro _ hw'
                obtain ⟨nq, rfl⟩ := hw'
                have hUd := (Upd.refl (fun _ => False) wr).drewN nq
                have HO7 := Lib.hid (own_upd HO.out hUd (fun _ _ h => h))
                have HR7 : Hid (RamAt (wr.drewN nq) m B fr) := Lib.hid ⟨HR.out.c.drewN nq, HR.out.d⟩
                have HB7 := Lib.hid (below_nq HB.out nq)
                clear hUd HO HR HB KR hc hfz
                go_wp2
                go_roundw
                case rel => exact ⟨j + 1, by omega, by go_num, HR7, HO7, HB7⟩
                case measure => simp [intOf]; omega
              · obtain rfl : j = 8192 := by omega
                go_wp2
                go_ret
                exact ⟨rfl, HB.out⟩
end Go.Proofs.Ytgkbpdcedighcac
