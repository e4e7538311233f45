/-
  The walk of the law RamBack.
-/
import Derived.Test.YtgkbpdcedighcaaWRamHolds
namespace Go.Proofs.Ytgkbpdcedighcaa
open Go.RowKit Go.Sort Go.ChangeShapes Go.WideShapes Go.ChangeAt Go.Deep

set_option maxRecDepth 100000 in
theorem RamBack_1_arg {H : Type} {enc : TypeId × Value → H} {w : World} {base b0 : Nat} {spare : Nat → Bool} {held : Bool} {r : Reach} {v : Value} {d : DataW H} {p : List MemPlace}
    (hv : Value.okWide Try.prog w r b0 88 v) (h : DataW.Trod enc Try.prog w base spare held 88 v d p) : ∃ x : Pu, v = .agg x.cs.toArray ∧ x.Ok := by
  simp only [Value.okWide, Try.underlying88] at hv
  obtain ⟨cs, rfl, _⟩ := hv
  obtain ⟨fu, hm⟩ := h
  obtain ⟨x, hx, ho⟩ := IsPu_of (cs := cs.toList) (by exact hm)
  refine ⟨x, ?_, ho⟩
  rw [← hx]

theorem below_dN {b : Nat} {w w' : World} (h : RowKit.Below b w w') (n : Nat) : RowKit.Below b w (w'.drewN n) := ⟨h.os, h.tape, h.output, h.size, h.block⟩
theorem puts_far (E : Nat → Pu) : ∀ n j, 8192 ≤ j → puts (fun _ => 0) E n j = 0
  | 0, _, _ => rfl
  | n + 1, j, hj => by
    show putB (puts (fun _ => 0) E n) _ _ j = 0
    unfold putB
    rw [if_neg (by omega)]
    exact puts_far E n j hj
theorem othZ_put {f : Nat → Nat} {a b : Nat} : ∀ n, othZ f (putB f a b) n = if a % 8192 < n ∧ f (a % 8192) ≠ b then ((a % 8192 : Nat) : Int) else -1
  | 0 => by rw [if_neg (by omega)]; rfl
  | n + 1 => by
    rw [othZ, othZ_put n]
    by_cases h1 : a % 8192 < n ∧ f (a % 8192) ≠ b
    · rw [if_pos h1, if_neg (by omega), if_pos ⟨by omega, h1.2⟩]
    · rw [if_neg h1, if_pos rfl]
      by_cases h2 : n = a % 8192
      · subst h2
        have e : putB f a b (a % 8192) = b := by unfold putB; rw [if_pos rfl]
        rw [e]
        by_cases h3 : f (a % 8192) = b
        · rw [if_pos h3, if_neg (by rintro ⟨_, h⟩; exact h h3)]
        · rw [if_neg h3, if_pos ⟨by omega, h3⟩]
      · have e : putB f a b n = f n := by unfold putB; rw [if_neg h2]
        rw [e, if_pos rfl, if_neg (by
          rintro ⟨h3, h4⟩
          exact h1 ⟨by omega, h4⟩)]
theorem oth_put (f : Nat → Nat) (a b : Nat) : othA f (putB f a b) = if f (a % 8192) ≠ b then ((a % 8192 : Nat) : Int) else -1 := by
  rw [othA_N f _ rfl, othZ_put]
  by_cases h : f (a % 8192) ≠ b
  · rw [if_pos ⟨by omega, h⟩, if_pos h]
  · rw [if_neg (by rintro ⟨_, hx⟩; exact h hx), if_neg h]
theorem same_put (f : Nat → Nat) (a b : Nat) : sameZ f (putB f a b) = decide (f (a % 8192) = b) := by
  unfold sameZ
  rw [oth_put]
  by_cases h : f (a % 8192) = b
  · rw [if_neg (by simpa using h), decide_eq_true h]; rfl
  · rw [if_pos h, decide_eq_false h, decide_eq_false_iff_not]; omega

set_option maxRecDepth 100000 in
set_option maxHeartbeats 16000000 in
theorem RamBack_walk (w : World) (a1 : Option Addr) (n1 p1 : Nat) (F1 : Nat → List Value) (s1 : SlR w a1 n1 p1 2 IsPu F1) (x : Pu) (hx : x.Ok) :
    Calls Try.prog 13 #[.slice a1 n1 p1, .agg x.cs.toArray] w fun e w' => e = .returned (.bool true) ∧ Below w.heap.size w w' := by
  obtain ⟨E1, hE1⟩ := pus_of s1
  have H1 := Lib.hid hE1
  have L1 := Lib.hid hE1.lt
  clear s1 hE1
  obtain ⟨xa, xb⟩ := x
  obtain ⟨hxa, hxb⟩ := hx
  replace hxa : xa < 65536 := hxa
  replace hxb : xb < 256 := hxb
  rw [show (Pu.cs ⟨xa, xb⟩).toArray = #[.int .u16 (xa : Int), .int .u8 (xb : Int)] from rfl]
  have hbn : Below w.heap.size w (w.alloc (.cells #[.int .u16 (xa : Int), .int .u8 (xb : Int)] 88)) := (Below.refl _ w).alloc (Nat.le_refl _) _
  have HX0 : Hid (At (w.alloc (.cells #[.int .u16 (xa : Int), .int .u8 (xb : Int)] 88)) w.heap.size 88 [.int .u16 (xa : Int), .int .u8 (xb : Int)]) := Lib.hid (At.new w _ _)
  have HBN := Lib.hid hbn
  clear hbn
  by_cases g1 : 200 < n1
  · go_enter Try.func13, Try.ntmps13
    go_wp2_with fail
    refine (live05_any _).mono ?_
    rintro e w1 ⟨rfl, hB1⟩
    go_wp2
    (try simp only [Exit.inBlock, Exit.then])
    go_ret
    exact ⟨rfl, step_below HBN.out hB1⟩
  obtain ⟨N, hN⟩ : ∃ n : Nat, n = 8192 := ⟨_, rfl⟩
  have HN := Lib.hid hN
  have HN8 : Hid ((8192 : Int) = (N : Int)) := Lib.hid (by omega)
  obtain ⟨i1, hi1⟩ := Option.map_eq_some_iff.1 infoBy
  obtain ⟨hj, hyy⟩ := hi1
  have hy0 : i1.zero = some (.int .u8 0) := congrArg Prod.fst hyy
  have hy1 : i1.size = 1 := congrArg (fun p => p.2.1) hyy
  have hy2 : i1.bytes = 1 := congrArg (fun p => p.2.2) hyy
  clear hyy
  have hby : i1.bytes * N ≤ 281474976710656 := by rw [hy2, hN]; decide
  have hnm : N ≤ maxLen := by rw [hN]; unfold maxLen; decide
  clear hN
  have hn1 : n1 ≤ 200 := by omega
  go_enter Try.func13, Try.ntmps13
  go_wp2_with fail
  refine (live05_any _).mono ?_
  rintro e w1 ⟨rfl, hB1⟩
  have HB1 := Lib.hid (step_below HBN.out hB1)
  have HX1 := Lib.hid (HX0.out.below hB1 HX0.out.lt)
  clear hB1 HX0 HBN
  go_wp2_with fail
  refine (New_ram w1).mono ?_
  rintro e w2 ⟨m, B, rfl, hR2, hm2, hBm2, hb2⟩
  have hsz1 := HB1.out.size
  have HB2 := Lib.hid (step_below HB1.out hb2)
  have HX2 := Lib.hid (HX1.out.below hb2 HX1.out.lt)
  have hx1 := HX1.out.lt
  have HR2 := Lib.hid hR2
  have hml := hR2.c.lt
  have hBl := hR2.d.lt
  have hsz2 := HB2.out.size
  clear hR2 hb2 HX1
  go_wp2_with (at_make; go_loud (refine wpList_make_full _ rfl _ _ 77 rfl w2.heap.size 5 i1 (.int .u8 0) 1 Try.underlying77 hj hy0 hy1 .i64 .i64 8192 8192 N rfl rfl HN8.out HN8.out hby hnm (Nat.le_refl _) ?_))
  intro w3 hO3 hg3
  rw [bys_zero] at hO3
  have hb3 : Below w2.heap.size w2 w3 := (Below.refl _ w2).grown hg3 (Nat.le_refl _) (fun k h => by cases h)
  have HO3 := Lib.hid hO3
  have HR3 := Lib.hid (HR2.out.below hb3)
  have HX3 := Lib.hid (HX2.out.below hb3 HX2.out.lt)
  have HB3 := Lib.hid (step_below HB2.out hb3)
  have hs3 := hb3.size
  clear hO3 hg3 hb3 HR2 HX2 hby
  generalize w2.heap.size = g at *
  go_wp2_with fail
  refine (write_any m B (fun _ => 0) g N (.slice (some ⟨g, 0, none⟩) N N) a1 n1 p1 E1 w.heap.size w3 hn1 HN HR3.out HO3.out (H1.out.below HB3.out) L1.out (by omega) (by omega)).mono ?_
  rintro e w4 ⟨rfl, hR4, -, hU4⟩
  have hfar := puts_far E1 n1
  generalize puts (fun _ => 0) E1 n1 = f1 at *
  have hno : ∀ x, WS B (.slice (some ⟨g, 0, none⟩) N N) x → x = B ∨ x = g := fun x h => by
    rcases h with h | h
    · exact .inl h
    · right
      have : g = x := by simpa [Value.ownBlock] using h
      omega
  have HB4 := Lib.hid (hU4.to HB3.out HB3.out.size (fun b h => by rcases hno b h with h | h <;> omega))
  have HX4 := Lib.hid (HX3.out.upd hU4 (fun h => by rcases hno _ h with h | h <;> omega))
  have HR4 := Lib.hid hR4
  have hm4 := hR4.c.lt
  have hB4 := hR4.d.lt
  have HN8' : N ≤ 8192 := Nat.le_of_eq HN.out
  have HL := Lib.hid (laid_pcs f1 (n := N) (fun j hj => hfar j (by have := HN.out; omega)) HN8')
  have HFEW := Lib.hid (pcs_ok f1 N).few
  clear hR4 hU4 hno hfar HR3 HX3 HB3 HO3
  go_wp2_with fail
  refine (Pieces_z _ f1 N HN w4 HR4.out.rm).mono ?_
  rintro e w5 ⟨v5, sl5, rfl, hP5, hb5⟩
  obtain ⟨A5, cap5, he5, _⟩ := own_form hP5.row
  rw [he5] at hP5
  subst he5
  have HP5 := Lib.hid hP5.read.2
  have HB5 := Lib.hid (step_below HB4.out hb5)
  have HX5 := Lib.hid (HX4.out.below hb5 HX4.out.lt)
  have HR5 := Lib.hid (HR4.out.below hb5)
  clear hP5 hb5 HX4 HR4
  generalize pcs f1 N = pp at *
  have hpc : pp.c ≤ 8192 := Nat.le_trans HFEW.out HN8'
  obtain ⟨Zf, hZf⟩ : ∃ Zf : Nat → Pv, Zf = fun i => ⟨(pp.st i : Int), pp.ln i, fun j => f1 (pp.st i + j)⟩ := ⟨_, rfl⟩
  rw [← hZf] at HP5 HL
  clear hZf HFEW HN8'
  generalize pp.c = pc at *
  go_wp2_with fail
  refine (Of_any A5 pc cap5 Zf w5 hpc HP5.out).mono ?_
  rintro e w6 ⟨hE, hb6⟩
  rw [HL.out.1] at hE
  obtain ⟨m2, B2, rfl, hR6, hm26, hB26⟩ := hE
  rw [HL.out.2] at hR6
  have hs6 := hb6.size
  have hm5 := HR5.out.c.lt
  have hB5l := HR5.out.d.lt
  have hx5 := HX5.out.lt
  have HR6 := Lib.hid ((HR5.out.below hb6).below ((Below.refl _ _).alloc (Nat.le_refl _) (.cells #[.int .i64 0, .int .i64 0] 74)))
  have HRn6 := Lib.hid (hR6.below ((Below.refl _ _).alloc (Nat.le_refl _) (.cells #[.int .i64 0, .int .i64 0] 74)))
  have HX6 := Lib.hid ((HX5.out.below hb6 HX5.out.lt).alloc (.cells #[.int .i64 0, .int .i64 0] 74))
  have HB6 := Lib.hid (step_below HB5.out hb6)
  have hm6l := hR6.c.lt
  have hB6l := hR6.d.lt
  clear hR6 hb6 HR5 HX5 HP5 HL HB5
  have hA4 : At (w6.alloc (.cells #[.int .i64 0, .int .i64 0] 74)) w6.heap.size 74 [.int .i64 0, .int .i64 0] := At.new w6 _ _
  have hB7 : Below w.heap.size w (w6.alloc (.cells #[.int .i64 0, .int .i64 0] 74)) := HB6.out.alloc HB6.out.size _
  go_wp2_with (with_reducible refine wpList_store_row rfl 74 (.tmp 8) (.tmp 26) rfl rfl w6.heap.size (by kernel_rfl) [.int .i64 0, .int .i64 0] (by kernel_rfl) 74 [.int .i64 0, .int .i64 0] hA4 (by kernel_rfl) (by kernel_rfl) (fone2 0 0) ?_)
  intro w7 hA7 hU7
  have HR7 := Lib.hid (HR6.out.upd hU7 (by show m ≠ w6.heap.size; omega) (by show B ≠ w6.heap.size; omega))
  have HRn7 := Lib.hid (HRn6.out.upd hU7 (by show m2 ≠ w6.heap.size; omega) (by show B2 ≠ w6.heap.size; omega))
  have HX7 := Lib.hid (HX6.out.upd hU7 (by show w.heap.size ≠ w6.heap.size; omega))
  have HB7 := Lib.hid (hU7.to hB7 hB7.size (fun b h => by have := HB6.out.size; omega))
  have c7 := hA7.cell 0 rfl
  clear hA7 hU7 hB7 hA4 HR6 HRn6 HX6 HB6
  go_wp2_with fail
  refine (Same_any _ _ f1 f1 w7 HR7.out.rm HRn7.out.rm).mono ?_
  rintro e _ ⟨he, rfl⟩
  rw [same_self] at he
  subst he
  go_wp2_with fail
  refine (Other_any _ _ f1 f1 w7 HR7.out.rm HRn7.out.rm).mono ?_
  rintro e _ ⟨he, rfl⟩
  rw [oth_self] at he
  subst he
  have x0 := HX7.out.cell 0 rfl
  have x1 := HX7.out.cell 1 rfl
  have KR : ∀ q, Calls Try.prog 33 #[.pointer (some ⟨m, 0, none⟩), .int .u16 (xa : Int)] (w7.drewN q) fun e w'' => e = .returned (.int .u8 (f1 (xa % 8192) : Int)) ∧ ∃ r, w'' = w7.drewN r := fun q =>
    Calls.quiet_of_same (Calls.mono (Read_any m B f1 xa (w7.drewN q) ⟨HR7.out.c.drewN q, HR7.out.d⟩) (fun e w' h => ⟨h.1, h.2.symm⟩))
  have hrem : (xa : Int).tmod 8192 = ((xa % 8192 : Nat) : Int) := by rw [Int.tmod_eq_emod_of_nonneg (by omega)]; rfl
  have hw64 : IntKind.i64.wrap (xa : Int) = (xa : Int) := by rw [IntKind.wrap_i64]; omega
  have hSP := same_put f1 xa xb
  have hOP := oth_put f1 xa xb
  by_cases hch : f1 (xa % 8192) = xb
  · have hd : ((xb : Int) != (xb : Int)) = false := by simp
    rw [hch] at KR
    rw [decide_eq_true hch] at hSP
    have HSP := Lib.hid hSP
    clear hSP hOP hch
    go_wp2_with fail
    refine wp_region_quiet_lit (by kernel_rfl) (by kernel_rfl) ?_
    repeat (go_big_quiet_step (((go_at_call 33; exact KR _))))
    refine wpQuiet_nil ?_
    intro _ hw'
    obtain ⟨nq, rfl⟩ := hw'
    go_wp2_with fail
    refine (Write_any m2 B2 f1 xa xb _ ⟨HRn7.out.c.drewN nq, HRn7.out.d⟩).mono ?_
    rintro e w8 ⟨rfl, hR8, hU8⟩
    have hU8' : Upd (· = B2) w7 w8 := ((Upd.refl (· = B2) w7).drewN nq).trans hU8 fun _ _ h => h
    have HRn8 := Lib.hid hR8
    have HR8 := Lib.hid (HR7.out.upd hU8' (by show m ≠ B2; omega) (by show B ≠ B2; omega))
    have HX8 := Lib.hid (HX7.out.upd hU8' (by show w.heap.size ≠ B2; omega))
    have HB8 := Lib.hid (hU8'.to HB7.out HB7.out.size (fun b h => by show w.heap.size ≤ b; omega))
    clear hR8 hU8 hU8' c7 x0 x1 KR HR7 HRn7 HX7 HB7
    have x0 := HX8.out.cell 0 rfl
    have KS : ∀ q, Calls Try.prog 54 #[.pointer (some ⟨m, 0, none⟩), .pointer (some ⟨m2, 0, none⟩)] (w8.drewN q) fun e w'' => e = .returned (.bool true) ∧ ∃ r, w'' = w8.drewN r := fun q =>
      Calls.quiet_of_same (Calls.mono (Same_any _ _ f1 (putB f1 xa xb) (w8.drewN q) (RamAt.rm ⟨HR8.out.c.drewN q, HR8.out.d⟩) (RamAt.rm ⟨HRn8.out.c.drewN q, HRn8.out.d⟩)) (fun e w' h => ⟨by rw [h.1, HSP.out], h.2.symm⟩))
    go_wp2_with fail
    refine wp_region_quiet_lit (by kernel_rfl) (by kernel_rfl) ?_
    repeat (go_big_quiet_step (((go_at_call 54; exact KS _))))
    refine wpQuiet_nil ?_
    intro _ hw'
    obtain ⟨nq, rfl⟩ := hw'
    go_wp2
    go_ret
    exact ⟨rfl, below_dN HB8.out nq⟩
  · have hd : ((f1 (xa % 8192) : Int) != (xb : Int)) = true := by rw [bne_iff_ne]; omega
    rw [decide_eq_false hch] at hSP
    rw [if_pos hch] at hOP
    have HSP := Lib.hid hSP
    have HOP := Lib.hid hOP
    have hrr : (((xa % 8192 : Nat) : Int) == ((xa % 8192 : Nat) : Int)) = true := by simp
    clear hSP hOP hch
    generalize xa % 8192 = xr at *
    generalize f1 xr = fx at *
    go_wp2_with fail
    refine wp_region_quiet_lit (by kernel_rfl) (by kernel_rfl) ?_
    repeat (go_big_quiet_step (((go_at_call 33; exact KR _))))
    refine wpQuiet_nil ?_
    intro _ hw'
    obtain ⟨nq, rfl⟩ := hw'
    go_wp2_with fail
    refine (Write_any m2 B2 f1 xa xb _ ⟨HRn7.out.c.drewN nq, HRn7.out.d⟩).mono ?_
    rintro e w8 ⟨rfl, hR8, hU8⟩
    have hU8' : Upd (· = B2) w7 w8 := ((Upd.refl (· = B2) w7).drewN nq).trans hU8 fun _ _ h => h
    have HRn8 := Lib.hid hR8
    have HR8 := Lib.hid (HR7.out.upd hU8' (by show m ≠ B2; omega) (by show B ≠ B2; omega))
    have HX8 := Lib.hid (HX7.out.upd hU8' (by show w.heap.size ≠ B2; omega))
    have HB8 := Lib.hid (hU8'.to HB7.out HB7.out.size (fun b h => by show w.heap.size ≤ b; omega))
    clear hR8 hU8 hU8' c7 x0 x1 KR HR7 HRn7 HX7 HB7
    have x0 := HX8.out.cell 0 rfl
    have KS : ∀ q, Calls Try.prog 54 #[.pointer (some ⟨m, 0, none⟩), .pointer (some ⟨m2, 0, none⟩)] (w8.drewN q) fun e w'' => e = .returned (.bool false) ∧ ∃ r, w'' = w8.drewN r := fun q =>
      Calls.quiet_of_same (Calls.mono (Same_any _ _ f1 (putB f1 xa xb) (w8.drewN q) (RamAt.rm ⟨HR8.out.c.drewN q, HR8.out.d⟩) (RamAt.rm ⟨HRn8.out.c.drewN q, HRn8.out.d⟩)) (fun e w' h => ⟨by rw [h.1, HSP.out], h.2.symm⟩))
    have KO : ∀ q, Calls Try.prog 52 #[.pointer (some ⟨m, 0, none⟩), .pointer (some ⟨m2, 0, none⟩)] (w8.drewN q) fun e w'' => e = .returned (.int .i64 (xr : Int)) ∧ ∃ r, w'' = w8.drewN r := fun q =>
      Calls.quiet_of_same (Calls.mono (Other_any _ _ f1 (putB f1 xa xb) (w8.drewN q) (RamAt.rm ⟨HR8.out.c.drewN q, HR8.out.d⟩) (RamAt.rm ⟨HRn8.out.c.drewN q, HRn8.out.d⟩)) (fun e w' h => ⟨by rw [h.1, HOP.out], h.2.symm⟩))
    go_wp2_with fail
    refine wp_region_quiet_lit (by kernel_rfl) (by kernel_rfl) ?_
    repeat (go_big_quiet_step ((first | (go_at_call 54; exact KS _) | (go_at_call 52; exact KO _))))
    refine wpQuiet_nil ?_
    intro _ hw'
    obtain ⟨nq, rfl⟩ := hw'
    go_wp2
    go_ret
    exact ⟨rfl, below_dN HB8.out nq⟩
end Go.Proofs.Ytgkbpdcedighcaa
