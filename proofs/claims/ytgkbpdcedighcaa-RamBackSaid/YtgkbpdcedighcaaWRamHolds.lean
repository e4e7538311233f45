/-
  The walk of the law RamHolds.
-/
import Derived.Test.YtgkbpdcedighcaaRamL
import Derived.Test.YtgkbpdcedighcaaRamA
import Derived.Test.YtgkbpdcedighcaaMk
import Derived.Test.YtgkbpdcedighcaaPcO
import Derived.Test.YtgkbpdcedighcaaOpen
import Derived.Test.YtgkbpdcedighcaaOpenS
import Derived.Test.YtgkbpdcedighcaaOpenA
namespace Go.Proofs.Ytgkbpdcedighcaa
open Go.RowKit Go.Sort

theorem own_brb {w : World} {base n : Nat} {e : TypeId} {A : Option Addr} {cap : Nat} {f : Nat → Nat} (h : w.ownsRow base e 1 (.slice A n cap) n (bys f n)) : BRB w A n f := fun i hi => by
  obtain ⟨b, cap', he, _, hb, hlt, hc⟩ := own_cell h hi
  simp only [Value.slice.injEq] at he
  obtain ⟨rfl, -, rfl⟩ := he
  exact ⟨b, 0, rfl, hlt, by rw [Nat.zero_add]; exact hc⟩
theorem Pus.lt {w : World} {a : Option Addr} {n : Nat} {E : Nat → Pu} (h : Pus w a n E) : ∀ b off, a = some ⟨b, off, none⟩ → 0 < n → b < w.heap.size := fun _ _ ha hn => h.1.lt hn ha
theorem bys_one (f : Nat → Nat) (n : Nat) : ∀ u ∈ bys f n, u.oneCell' = true := by
  intro u hu
  obtain ⟨i, _, rfl⟩ := List.mem_map.1 hu
  rfl
theorem bys_len (f : Nat → Nat) (n : Nat) : (bys f n).length = n * 1 := by simp [bys]
theorem othA_N (f g : Nat → Nat) {N : Nat} (h : N = 8192) : othA f g = othZ f g N := by subst h; unfold othA; rfl
theorem sameZ_N (f g : Nat → Nat) {N : Nat} (h : N = 8192) : sameZ f g = eqN f g N := by unfold sameZ; rw [othA_N f g h, eqN_othZ]

set_option maxRecDepth 100000 in
set_option maxHeartbeats 16000000 in
theorem RamHolds_walk (w : World) (a0 : Option Addr) (n0 p0 : Nat) (F0 : Nat → List Value) (s0 : SlR w a0 n0 p0 2 (IsPc w) F0) (a1 : Option Addr) (n1 p1 : Nat) (F1 : Nat → List Value) (s1 : SlR w a1 n1 p1 2 IsPu F1)
    (a2 : Option Addr) (n2 p2 : Nat) (F2 : Nat → List Value) (s2 : SlR w a2 n2 p2 2 IsPu F2) :
    Calls Try.prog 12 #[.slice a0 n0 p0, .slice a1 n1 p1, .slice a2 n2 p2] w fun e w' => e = .returned (.bool true) ∧ Below w.heap.size w w' := by
  obtain ⟨Z, hZ⟩ := pcr_of s0
  obtain ⟨E1, hE1⟩ := pus_of s1
  obtain ⟨E2, hE2⟩ := pus_of s2
  have HZ := Lib.hid hZ
  have H1 := Lib.hid hE1
  have H2 := Lib.hid hE2
  have L1 := Lib.hid hE1.lt
  have L2 := Lib.hid hE2.lt
  clear s0 s1 s2 hZ hE1 hE2
  by_cases g0 : 20 < n0
  · go_enter Try.func12, Try.ntmps12
    go_wp2_with fail
    refine (live05_any w).mono ?_
    rintro e w1 ⟨rfl, hB1⟩
    go_wp2
    (try simp only [Exit.inBlock, Exit.then])
    go_ret
    exact ⟨rfl, hB1⟩
  by_cases g1 : 200 < n1
  · go_enter Try.func12, Try.ntmps12
    go_wp2_with fail
    refine (live05_any w).mono ?_
    rintro e w1 ⟨rfl, hB1⟩
    go_wp2
    (try simp only [Exit.inBlock, Exit.then])
    go_ret
    exact ⟨rfl, hB1⟩
  by_cases g2 : 200 < n2
  · go_enter Try.func12, Try.ntmps12
    go_wp2_with fail
    refine (live05_any w).mono ?_
    rintro e w1 ⟨rfl, hB1⟩
    go_wp2
    (try simp only [Exit.inBlock, Exit.then])
    go_ret
    exact ⟨rfl, hB1⟩
  obtain ⟨N, hN⟩ : ∃ n : Nat, n = 8192 := ⟨_, rfl⟩
  have HN := Lib.hid hN
  have hmx : 0 + N ≤ maxLen := by rw [hN]; unfold maxLen; decide
  have hbx : (0 + N) * 1 ≤ 140737488355328 := by rw [hN]; decide
  clear hN
  obtain ⟨i1, hi1⟩ := Option.map_eq_some_iff.1 infoBy
  obtain ⟨hj, hyy⟩ := hi1
  have hy0 : i1.zero = some (.int .u8 0) := congrArg Prod.fst hyy
  have hy1 : i1.size = 1 := congrArg (fun p => p.2.1) hyy
  have hy2 : i1.bytes = 1 := congrArg (fun p => p.2.2) hyy
  clear hyy
  have hn0 : n0 ≤ 8192 := by omega
  have hn1 : n1 ≤ 200 := by omega
  have hn2 : n2 ≤ 200 := by omega
  go_enter Try.func12, Try.ntmps12
  go_wp2_with fail
  refine (live05_any w).mono ?_
  rintro e w1 ⟨rfl, hB1⟩
  have HB1 := Lib.hid hB1
  clear hB1
  go_wp2_with fail
  refine (Of_any a0 n0 p0 Z w1 hn0 (HZ.out.below HB1.out)).mono ?_
  rintro e w2 ⟨hE, hb2⟩
  have HB2 := Lib.hid (step_below HB1.out hb2)
  have hsz1 := HB1.out.size
  have hsz2 := hb2.size
  clear hb2
  cases hbad : badAt Z n0 with
  | some i =>
    rw [hbad] at hE
    obtain rfl : e = .returned (.tuple #[.pointer none, .agg #[.int .i64 1, .int .i64 (i : Int)]]) := hE
    have HBAD := Lib.hid hbad
    clear hbad
    have hA4 : At (w2.alloc (.cells #[.int .i64 0, .int .i64 0] 74)) w2.heap.size 74 [.int .i64 0, .int .i64 0] := At.new w2 _ _
    have hB3 : Below w.heap.size w (w2.alloc (.cells #[.int .i64 0, .int .i64 0] 74)) := HB2.out.alloc HB2.out.size _
    go_wp2_with (with_reducible refine wpList_store_row rfl 74 (.tmp 8) (.tmp 32) rfl rfl w2.heap.size (by kernel_rfl) [.int .i64 1, .int .i64 (i : Int)] (by kernel_rfl) 74 [.int .i64 0, .int .i64 0] hA4 (by kernel_rfl) (by kernel_rfl) (fone2 1 i) ?_)
    intro w3 hA3 hU3
    have HA3 := Lib.hid hA3
    have HB3 := Lib.hid (hU3.to hB3 hB3.size (fun b h => by have := HB2.out.size; omega))
    clear hA3 hU3 hB3 hA4
    go_wp2_with fail
    refine (ROf_any a0 n0 p0 N Z w3 hn0 HN (HZ.out.below HB3.out)).mono ?_
    rintro e w4 ⟨hE, hb4⟩
    rw [HBAD.out] at hE
    obtain rfl : e = .returned (.tuple #[.slice none 0 0, .agg #[.int .i64 1, .int .i64 (i : Int)]]) := hE
    have HB4 := Lib.hid (step_below HB3.out hb4)
    have HA4 := Lib.hid ((HA3.out.below hb4 HA3.out.lt).alloc (.cells #[.int .i64 0, .int .i64 0] 74))
    have hlt4 : w2.heap.size < w4.heap.size := Nat.lt_of_lt_of_le HA3.out.lt hb4.size
    clear hb4 HA3
    have hA5 : At (w4.alloc (.cells #[.int .i64 0, .int .i64 0] 74)) w4.heap.size 74 [.int .i64 0, .int .i64 0] := At.new w4 _ _
    have hB5 : Below w.heap.size w (w4.alloc (.cells #[.int .i64 0, .int .i64 0] 74)) := HB4.out.alloc HB4.out.size _
    go_wp2_with (with_reducible refine wpList_store_row rfl 74 (.tmp 10) (.tmp 37) rfl rfl w4.heap.size (by kernel_rfl) [.int .i64 1, .int .i64 (i : Int)] (by kernel_rfl) 74 [.int .i64 0, .int .i64 0] hA5 (by kernel_rfl) (by kernel_rfl) (fone2 1 i) ?_)
    intro w5 hA6 hU5
    have HA5 := Lib.hid hA6
    have HA5' := Lib.hid (HA4.out.upd hU5 (by show w2.heap.size ≠ w4.heap.size; omega))
    have HB5 := Lib.hid (hU5.to hB5 hB5.size (fun b h => by have := HB4.out.size; omega))
    have c5 := hA6.cell 0 rfl
    have q1 := fun w => fault_alike w 1 (i : Int)
    clear hA5 hA6 hU5 hB5 HA4
    go_wp2_with (first
      | (with_reducible refine wpList_load_at rfl 74 (.tmp 8) rfl w2.heap.size (by kernel_rfl) 74 _ HA5'.out _ Try.underlying74 rfl (by kernel_rfl) ?_)
      | (with_reducible refine wpList_load_at rfl 74 (.tmp 10) rfl w4.heap.size (by kernel_rfl) 74 _ HA5.out _ Try.underlying74 rfl (by kernel_rfl) ?_))
    (try simp only [Exit.inBlock, Exit.then])
    go_ret
    exact ⟨rfl, HB5.out⟩
  | none =>
    rw [hbad] at hE
    obtain ⟨m, B, rfl, hR2, hm2, hBm2⟩ := hE
    have HBAD := Lib.hid hbad
    clear hbad
    have hmw : w.heap.size ≤ m := by omega
    have hBw : w.heap.size ≤ B := by omega
    have HR2 := Lib.hid (hR2.below ((Below.refl _ _).alloc (Nat.le_refl _) (.cells #[.int .i64 0, .int .i64 0] 74)))
    have hml := hR2.c.lt
    have hBl := hR2.d.lt
    clear hR2 hm2 hBm2
    have hA4 : At (w2.alloc (.cells #[.int .i64 0, .int .i64 0] 74)) w2.heap.size 74 [.int .i64 0, .int .i64 0] := At.new w2 _ _
    have hB3 : Below w.heap.size w (w2.alloc (.cells #[.int .i64 0, .int .i64 0] 74)) := HB2.out.alloc HB2.out.size _
    go_wp2_with (with_reducible refine wpList_store_row rfl 74 (.tmp 8) (.tmp 32) rfl rfl w2.heap.size (by kernel_rfl) [.int .i64 0, .int .i64 0] (by kernel_rfl) 74 [.int .i64 0, .int .i64 0] hA4 (by kernel_rfl) (by kernel_rfl) (fone2 0 0) ?_)
    intro w3 hA3 hU3
    have HA3 := Lib.hid hA3
    have HR3 := Lib.hid (HR2.out.upd hU3 (by show m ≠ w2.heap.size; omega) (by show B ≠ w2.heap.size; omega))
    have HB3 := Lib.hid (hU3.to hB3 hB3.size (fun b h => by have := HB2.out.size; omega))
    clear hA3 hU3 hB3 hA4 HR2
    go_wp2_with fail
    refine (ROf_any a0 n0 p0 N Z w3 hn0 HN (HZ.out.below HB3.out)).mono ?_
    rintro e w4 ⟨hE, hb4⟩
    rw [HBAD.out] at hE
    obtain ⟨g, rfl, hO4⟩ := hE
    have hgl := (own_lt hO4 rfl).1
    replace hgl : g < w4.heap.size := hgl
    have hgw : w3.heap.size ≤ g := (own_lt hO4 rfl).2
    have HB4 := Lib.hid (step_below HB3.out hb4)
    have HR4 := Lib.hid (HR3.out.below hb4)
    have HA4 := Lib.hid ((HA3.out.below hb4 HA3.out.lt).alloc (.cells #[.int .i64 0, .int .i64 0] 74))
    have HO4 := Lib.hid hO4
    have hlt4 : w2.heap.size < w4.heap.size := Nat.lt_of_lt_of_le HA3.out.lt hb4.size
    have hml4 := HR4.out.c.lt
    have hBl4 := HR4.out.d.lt
    have hws3 := HB3.out.size
    clear hO4 hb4 HA3 HR3 HBAD
    have hA5 : At (w4.alloc (.cells #[.int .i64 0, .int .i64 0] 74)) w4.heap.size 74 [.int .i64 0, .int .i64 0] := At.new w4 _ _
    have hB5 : Below w.heap.size w (w4.alloc (.cells #[.int .i64 0, .int .i64 0] 74)) := HB4.out.alloc HB4.out.size _
    go_wp2_with (with_reducible refine wpList_store_row rfl 74 (.tmp 10) (.tmp 37) rfl rfl w4.heap.size (by kernel_rfl) [.int .i64 0, .int .i64 0] (by kernel_rfl) 74 [.int .i64 0, .int .i64 0] hA5 (by kernel_rfl) (by kernel_rfl) (fone2 0 0) ?_)
    intro w5 hA6 hU5
    have hb45 : Below w4.heap.size w4 w5 := (((Upd.refl (· = w4.heap.size) w4).alloc _).trans hU5 fun _ _ h => h).to (Below.refl _ _) (Nat.le_refl _) (fun b h => Nat.le_of_eq h.symm)
    have HA5 := Lib.hid hA6
    have HA5' := Lib.hid (HA4.out.upd hU5 (by show w2.heap.size ≠ w4.heap.size; omega))
    have HB5 := Lib.hid (step_below HB4.out hb45)
    have HR5 := Lib.hid (HR4.out.below hb45)
    have HO5 := Lib.hid (kept_none HO4.out (grown_below hb45))
    have hgl5 : g < w5.heap.size := Nat.lt_of_lt_of_le hgl hb45.size
    have c5 := hA6.cell 0 rfl
    have q1 := fun w => fault_alike w 0 0
    clear hA5 hA6 hU5 hB5 HA4 hb45 HR4 HO4
    go_wp2_with (first
      | (with_reducible refine wpList_load_at rfl 74 (.tmp 8) rfl w2.heap.size (by kernel_rfl) 74 _ HA5'.out _ Try.underlying74 rfl (by kernel_rfl) ?_)
      | (with_reducible refine wpList_load_at rfl 74 (.tmp 10) rfl w4.heap.size (by kernel_rfl) 74 _ HA5.out _ Try.underlying74 rfl (by kernel_rfl) ?_))
    refine (write_any m B (laid Z n0) w3.heap.size N (.slice (some ⟨g, 0, none⟩) N N) a1 n1 p1 E1 w.heap.size w5 hn1 HN HR5.out HO5.out (H1.out.below HB5.out) L1.out hBw hws3).mono ?_
    rintro e w6 ⟨rfl, hR6, hO6, hU6⟩
    generalize puts (laid Z n0) E1 n1 = f1 at *
    have HB6 := Lib.hid (hU6.to HB5.out HB5.out.size (fun b h => by
      rcases h with h | h
      · omega
      · have : g = b := by simpa [Value.ownBlock] using h
        omega))
    have HR6 := Lib.hid hR6
    have HO6 := Lib.hid hO6
    have hs6 := hU6.size
    have hm6 := hR6.c.lt
    have hB6 := hR6.d.lt
    have hg6 : g < w6.heap.size := by omega
    clear hR6 hO6 hU6 c5 HA5 HA5' HR5 HO5
    go_wp2_with fail
    refine (Clone_any m B f1 w6 HR6.out).mono ?_
    rintro e w7 ⟨d, B2, rfl, hR7, hd7, hB27, hb7⟩
    have HRm7 := Lib.hid (HR6.out.below hb7)
    have HRd7 := Lib.hid hR7
    have HO7 := Lib.hid (kept_none HO6.out (grown_below hb7))
    have HB7 := Lib.hid (step_below HB6.out hb7)
    have hs7 := hb7.size
    have hw7 := HB7.out.size
    have hd7l := hR7.c.lt
    have hB27l := hR7.d.lt
    clear hR7 hb7 HR6 HO6
    have hnews : ∀ j u, (bys f1 N)[j]? = some u → (w7.alloc (.cells #[] 5)).cell? ((⟨g, 0, none⟩ : Addr).add j) = some u := (kept_none HO7.out (grown_below ((Below.refl _ w7).alloc (Nat.le_refl _) (.cells #[] 5)))).cells (g := g) rfl
    have hszx : w7.heap.size ≤ (w7.alloc (.cells #[] 5)).heap.size := by simp
    go_wp2_with (at_builtin; go_loud (refine wpList_append_own _ rfl _ _ 77 rfl w7.heap.size 5 i1 (.int .u8 0) 1 1 Try.underlying77 hj hy0 hy1 hy2 rfl (by decide) _ 0 [] rfl (World.ownsRow_made w7 #[] 0 (Nat.le_refl _) (Nat.zero_le _) rfl) ⟨g, 0, none⟩ N N (bys f1 N) rfl (bys_len f1 N) hnews (bys_one f1 N) hmx hbx hszx ?_))
    intro v8 w8 hO8 hg8 _
    obtain ⟨A8, cap8, rfl, _⟩ := own_form hO8
    have hb78 : Below w7.heap.size w7 w8 := ((Below.refl _ w7).alloc (Nat.le_refl _) (.cells #[] 5)).grown hg8 hszx (fun k h => by
      have : w7.heap.size = k := by simpa [Value.ownBlock] using h
      omega)
    have HO8 := Lib.hid hO8
    have hob : ∀ b, (Value.slice A8 N cap8).ownBlock = some b → w7.heap.size ≤ b := fun b hb => (own_lt hO8 hb).2
    have HOB := Lib.hid hob
    have HRm8 := Lib.hid (HRm7.out.below hb78)
    have HRd8 := Lib.hid (HRd7.out.below hb78)
    have HOw8 := Lib.hid (kept_none HO7.out (grown_below hb78))
    have HB8 := Lib.hid (step_below HB7.out hb78)
    clear hO8 hg8 hb78 hnews hszx hob HRm7 HRd7 HO7
    go_wp2_with fail
    refine (write_any d B2 f1 w7.heap.size N (.slice A8 N cap8) a2 n2 p2 E2 w.heap.size w8 hn2 HN HRd8.out HO8.out (H2.out.below HB8.out) L2.out (by omega) hw7).mono ?_
    rintro e w9 ⟨rfl, hR9, hO9, hU9⟩
    generalize puts f1 E2 n2 = f2 at *
    have hno : ∀ x, x < w7.heap.size → x ≠ B2 → ¬ WS B2 (.slice A8 N cap8) x := fun x hx hne h => by
      rcases h with h | h
      · exact hne h
      · have := HOB.out x h; omega
    have HRd9 := Lib.hid hR9
    have HOd9 := Lib.hid hO9
    have HRm9 := Lib.hid (HRm8.out.upd hU9 (hno m (by omega) (by omega)) (hno B (by omega) (by omega)))
    have HOw9 := Lib.hid (own_upd HOw8.out hU9 (fun b hb h => by
      have hgb : g = b := by simpa [Value.ownBlock] using hb
      exact hno b (by omega) (by omega) h))
    have HB9 := Lib.hid (hU9.to HB8.out HB8.out.size (fun b h => by
      rcases h with h | h
      · omega
      · have := HOB.out b h; omega))
    clear hR9 hO9 hU9 hno HRm8 HRd8 HOw8 HO8
    go_wp2_with fail
    refine (alike_any m B f1 (some ⟨g, 0, none⟩) N N w9 HN HRm9.out (own_brb HOw9.out)).mono ?_
    rintro e w10 ⟨rfl, hb10⟩
    have HR10 := Lib.hid (HRm9.out.below hb10)
    have HRd10 := Lib.hid (HRd9.out.below hb10)
    have HOw10 := Lib.hid (kept_none HOw9.out (grown_below hb10))
    have HOd10 := Lib.hid (kept_none HOd9.out (grown_below hb10))
    have HB10 := Lib.hid (step_below HB9.out hb10)
    clear hb10 HRm9 HRd9 HOw9 HOd9
    go_wp2_with fail
    refine (alike_any d B2 f2 A8 N cap8 w10 HN HRd10.out (own_brb HOd10.out)).mono ?_
    rintro e w11 ⟨rfl, hb11⟩
    have HR11 := Lib.hid (HR10.out.below hb11)
    have HRd11 := Lib.hid (HRd10.out.below hb11)
    have HOw11 := Lib.hid (kept_none HOw10.out (grown_below hb11))
    have HOd11 := Lib.hid (kept_none HOd10.out (grown_below hb11))
    have HB11 := Lib.hid (step_below HB10.out hb11)
    clear hb11 HR10 HRd10 HOw10 HOd10
    have HNM : Hid (N ≤ maxLen) := Lib.hid (by rw [Nat.zero_add] at hmx; exact hmx)
    go_wp2_with fail
    refine (Other_any _ _ f1 f2 w11 HR11.out.rm HRd11.out.rm).mono ?_
    rintro e _ ⟨he, rfl⟩
    rw [othA_N f1 f2 HN.out] at he
    subst he
    go_wp2_with fail
    refine (ROther_z (some ⟨g, 0, none⟩) A8 N N cap8 f1 f2 w11 HNM.out (own_brb HOw11.out).br (own_brb HOd11.out).br).mono ?_
    rintro e w12 ⟨rfl, hq12⟩
    have hb12 := below_drewQ hq12
    have HR12 := Lib.hid (HR11.out.below hb12)
    have HRd12 := Lib.hid (HRd11.out.below hb12)
    have HOw12 := Lib.hid (kept_none HOw11.out (grown_below hb12))
    have HOd12 := Lib.hid (kept_none HOd11.out (grown_below hb12))
    have HB12 := Lib.hid (step_below HB11.out hb12)
    have hoo : (othZ f1 f2 N == othZ f1 f2 N) = true := by simp
    clear hb12 hq12 HR11 HRd11 HOw11 HOd11
    generalize othZ f1 f2 N = oz at *
    go_wp2_with fail
    refine (Same_any _ _ f1 f2 w12 HR12.out.rm HRd12.out.rm).mono ?_
    rintro e _ ⟨he, rfl⟩
    rw [sameZ_N f1 f2 HN.out] at he
    subst he
    go_wp2_with fail
    refine (Same_by (some ⟨g, 0, none⟩) A8 N N cap8 f1 f2 w12 HNM.out (own_brb HOw12.out).br (own_brb HOd12.out).br).mono ?_
    rintro e w13 ⟨rfl, hq13⟩
    have HB13 := Lib.hid (step_below HB12.out (below_drewQ hq13))
    have hee : (eqN f1 f2 N == eqN f1 f2 N) = true := by simp
    clear hq13
    generalize eqN f1 f2 N = ez at *
    go_wp2
    go_ret
    exact ⟨rfl, HB13.out⟩
end Go.Proofs.Ytgkbpdcedighcaa
