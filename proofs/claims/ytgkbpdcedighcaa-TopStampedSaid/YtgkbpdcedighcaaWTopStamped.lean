/-
  The walk of the law TopStamped.
-/
import Derived.Test.YtgkbpdcedighcaaClockS
import Derived.Test.YtgkbpdcedighcaaAppend
import Derived.Test.YtgkbpdcedighcaaOctetC
namespace Go.Proofs.Ytgkbpdcedighcaa
open Go.RowKit Go.Sort

theorem infoBool : (Try.prog.info? 4).map (fun i => (i.zero, i.size, i.bytes)) = some (some (.bool false), 1, 1) := by kernel_rfl

/-- The stamps by the bits of b. -/
theorem tm_bits (now : Int) (fast : Bool) (b : Int) (k : Nat) : tm now fast (fun i => bitB b i) k = now + len fast false * (k + pcB b k) := by
  induction k with
  | zero => simp [tm, pcB]
  | succ k ih =>
    simp only [tm, pcB, ih]
    have e : len fast (bitB b k) = len fast false * (1 + if bitB b k = true then 1 else 0) := by cases bitB b k <;> cases fast <;> rfl
    rw [e, Int.add_assoc, ← Int.mul_add]
    congr 2
    push_cast
    omega
theorem pcB_none (b : Int) (k : Nat) (h : ∀ j : Nat, j < k → bitB b j = false) : pcB b k = 0 := by
  induction k with
  | zero => rfl
  | succ k ih => simp only [pcB]; rw [ih fun j hj => h j (by omega), h k (by omega)]; rfl
theorem pcB_some (b : Int) (j k : Nat) (hj : j < k) (h : bitB b j = true) : 1 ≤ pcB b k := by
  induction k with
  | zero => omega
  | succ k ih =>
    simp only [pcB]
    rcases Nat.lt_or_ge j k with hlt | hge
    · have := ih hlt; split <;> omega
    · obtain rfl : j = k := by omega
      have := (pcB_bd b j).1
      rw [h]; simp; omega

set_option maxRecDepth 100000 in
set_option maxHeartbeats 2000000 in
theorem TopStamped_walk (w : World) (b : Int) (wb : (Lit.int .u8 b).wf = true) (now : Int) (wn : (Lit.int .u32 now).wf = true) (fast : Bool) :
    Calls Try.prog 14 #[.int .u8 b, .int .u32 now, .bool fast] w fun e w' => e = .returned (.bool true) ∧ Below w.heap.size w w' := by
  have hn := wf_bounds_u32 wn
  have hb := wf_bounds_u8 wb
  clear wn wb
  obtain ⟨i0, hi, hz0, hz1, hz2⟩ := info_parts infoBool
  have HI := Lib.hid (And.intro hi (And.intro hz0 (And.intro hz1 hz2)))
  clear hi hz0 hz1 hz2
  go_enter Try.func14, Try.ntmps14
  go_wp2_with fail
  refine (Bit_any 1 0 _ (by decide) (by decide)).mono ?_
  rintro e w' ⟨rfl, rfl⟩
  rw [show bitB 1 0 = true from rfl]
  go_wp2_with fail
  go_loopw [7, 8] (fun x i wr => ∃ k : Nat, k ≤ 8 ∧ i = .int .i64 k ∧ Hid (wr.ownsRow w.heap.size 4 1 x k ((List.range k).map fun i : Nat => .bool (bitB b i))) ∧ Hid (Below w.heap.size w wr)) (fun _ i _ => 8 - (intOf i).toNat)
  case atStart => exact ⟨0, Nat.zero_le _, rfl, Lib.hid (own_nil _ _ _ _), Lib.hid (Below.refl _ _)⟩
  case round =>
    obtain ⟨k, hk, rfl, HO, HB⟩ := hrel
    by_cases hlt : k < 8
    · go_wp2_with fail
      refine (Bit_any b k _ hb.1 hb.2).mono ?_
      rintro e w' ⟨rfl, rfl⟩
      obtain ⟨hi, hz0, hz1, hz2⟩ := HI.out
      have hsz := HB.out.size
      go_wp2_with (at_builtin; refine wpList_append_own _ rfl _ _ 39 rfl w.heap.size 4 i0 (.bool false) 1 1 Try.underlying39 hi hz0 hz1 hz2 rfl (by decide) _ _ _ rfl (HO.out.alloc _) ⟨wr.heap.size, 0, none⟩ 1 1 [.bool (bitB b k)] rfl rfl ?c1 ?c2 ?c3 ?c4 ?c5 ?_)
      case c1 => exact cell_one_new _ _ _
      case c2 => intro u hu; simp at hu; subst hu; rfl
      case c3 => unfold maxLen; omega
      case c4 => omega
      case c5 => simp; omega
      intro v' w6 hO6 hg6 _
      have hs := (own_snoc (n := k) (f := fun i : Nat => .bool (bitB b i)) hO6)
      have HO6 := Lib.hid hs
      have hB5a : Below w.heap.size w (wr.alloc (.cells #[.bool (bitB b k)] 4)) := HB.out.alloc HB.out.size _
      have HB6 := Lib.hid (hB5a.grown hg6 (by simp; omega) (fun b hb => (HO.out.lt b hb).1))
      clear hs hB5a hO6 hg6 hi hz0 hz1 hz2
      go_wp2
      go_roundw
      case rel => exact ⟨k + 1, by omega, by go_num, HO6, HB6⟩
      case measure => simp [intOf]; omega
    · obtain rfl : k = 8 := by omega
      clear hlt hk
      obtain ⟨A, vcap, rfl, hv1, hv2⟩ := own_form HO.out
      have hS : ∀ i, i < 8 → ∃ g off, A = some ⟨g, off, none⟩ ∧ g < wr.heap.size ∧ wr.cell? ⟨g, off + i, none⟩ = some (.bool (bitB b i)) := fun i hi => by
        obtain ⟨g, cap, he, _, _, hg, hc⟩ := own_cell HO.out hi
        simp only [Value.slice.injEq] at he
        exact ⟨g, 0, he.1, hg, by simpa using hc⟩
      have HS := Lib.hid hS
      clear hS
      have hpc := pcB_bd b 8
      have hlen : len fast false = 3 ∨ len fast false = 12 := by cases fast <;> decide
      have hstop : tm now fast (fun i => bitB b i) 8 = now + len fast false * (8 + pcB b 8) := by rw [tm_bits]; rfl
      have HST := Lib.hid hstop
      clear hstop
      go_wp2_with fail
      refine (Stamps_in now fast A 8 vcap (fun i => bitB b i) wr (by omega) hn.1 (by omega) _ HST.out HS.out).mono ?_
      rintro e w4 ⟨v4, rfl, hO4, hB4'⟩
      obtain ⟨A4, c4, rfl, hc4, hc4'⟩ := own_form hO4
      have HO4 := Lib.hid hO4
      have HB4 := Lib.hid (step_below HB.out hB4')
      clear hO4 hB4' HB HO HS
      go_wp2_with fail
      refine (Length_any fast false _).mono ?_
      rintro e w5 ⟨rfl, hB5'⟩
      have HO5 := Lib.hid (own_below HO4.out hB5' (fun b hb => (HO4.out.lt b hb).2))
      have HB5 := Lib.hid (step_below HB4.out hB5')
      clear hB5' HB4 HO4
      have hfs := firstB_spec b 8 0
      have HTM0 : ∀ i : Nat, tm now fast (fun i => bitB b i) i = now + len fast false * (i + pcB b i) := fun i => tm_bits now fast b i
      have HTM := Lib.hid HTM0
      clear HTM0
      generalize len fast false = L at *
      generalize hG : firstB b 8 0 = G at hfs
      have HG := Lib.hid hG
      have HFS := Lib.hid hfs
      clear hG hfs
      rcases hlen with rfl | rfl
      · go_wp2_with fail
        refine (Count_any b _ hb.1 hb.2).mono ?_
        rintro e w' ⟨rfl, rfl⟩
        go_wp2_with fail
        refine (First_any b _ hb.1 hb.2).mono ?_
        rintro e w' ⟨rfl, rfl⟩
        rw [HG.out]
        go_wp2_with fail
        go_loop [13] (fun i => ∃ k : Nat, k ≤ 8 ∧ i = .int .i64 k) (fun i => 8 - (intOf i).toNat)
        case atStart => exact ⟨0, Nat.zero_le _, rfl⟩
        case round =>
          obtain ⟨k, hk, rfl⟩ := hrel
          by_cases hlt : k < 8
          · obtain ⟨b4, cap4, he4, -, -, -, hx4⟩ := own_cell HO5.out hlt
            simp only [Value.slice.injEq] at he4
            obtain ⟨rfl, -, rfl⟩ := he4
            have hx := HTM.out k
            have hpk := pcB_bd b k
            generalize tm now fast (fun i => bitB b i) k = x at hx hx4
            rcases HFS.out with ⟨hG, hnone⟩ | ⟨j, hG, hj0, hj8, hbj, hmin⟩
            · have hG1 : G < 0 := by omega
              clear hG
              have h0 := pcB_none b k fun i hi => hnone i (by omega) (by omega)
              obtain rfl : x = now + 3 * (k : Int) := by rw [h0] at hx; omega
              clear hx h0 hnone
              go_wp2
              go_round
              case rel => exact ⟨k + 1, by omega, by go_num⟩
              case measure => simp [intOf]; omega
            · have hG1 : G ≤ (j : Int) := by omega
              have hG2 : (j : Int) ≤ G := by omega
              clear hG
              by_cases hkj : j < k
              · have h1 := pcB_some b j k hkj hbj
                have hx2 : now + 3 * (k : Int) + 3 ≤ x := by omega
                clear hx h1 hmin
                go_wp2
                go_round
                case rel => exact ⟨k + 1, by omega, by go_num⟩
                case measure => simp [intOf]; omega
              · have hx2 : now + 3 * (k : Int) ≤ x := by omega
                clear hx hmin
                go_wp2
                go_round
                case rel => exact ⟨k + 1, by omega, by go_num⟩
                case measure => simp [intOf]; omega
          · go_wp2
            go_ret
            exact ⟨rfl, HB5.out⟩
      · go_wp2_with fail
        refine (Count_any b _ hb.1 hb.2).mono ?_
        rintro e w' ⟨rfl, rfl⟩
        go_wp2_with fail
        refine (First_any b _ hb.1 hb.2).mono ?_
        rintro e w' ⟨rfl, rfl⟩
        rw [HG.out]
        go_wp2_with fail
        go_loop [13] (fun i => ∃ k : Nat, k ≤ 8 ∧ i = .int .i64 k) (fun i => 8 - (intOf i).toNat)
        case atStart => exact ⟨0, Nat.zero_le _, rfl⟩
        case round =>
          obtain ⟨k, hk, rfl⟩ := hrel
          by_cases hlt : k < 8
          · obtain ⟨b4, cap4, he4, -, -, -, hx4⟩ := own_cell HO5.out hlt
            simp only [Value.slice.injEq] at he4
            obtain ⟨rfl, -, rfl⟩ := he4
            have hx := HTM.out k
            have hpk := pcB_bd b k
            generalize tm now fast (fun i => bitB b i) k = x at hx hx4
            rcases HFS.out with ⟨hG, hnone⟩ | ⟨j, hG, hj0, hj8, hbj, hmin⟩
            · have hG1 : G < 0 := by omega
              clear hG
              have h0 := pcB_none b k fun i hi => hnone i (by omega) (by omega)
              obtain rfl : x = now + 12 * (k : Int) := by rw [h0] at hx; omega
              clear hx h0 hnone
              go_wp2
              go_round
              case rel => exact ⟨k + 1, by omega, by go_num⟩
              case measure => simp [intOf]; omega
            · have hG1 : G ≤ (j : Int) := by omega
              have hG2 : (j : Int) ≤ G := by omega
              clear hG
              by_cases hkj : j < k
              · have h1 := pcB_some b j k hkj hbj
                have hx2 : now + 12 * (k : Int) + 12 ≤ x := by omega
                clear hx h1 hmin
                go_wp2
                go_round
                case rel => exact ⟨k + 1, by omega, by go_num⟩
                case measure => simp [intOf]; omega
              · have hx2 : now + 12 * (k : Int) ≤ x := by omega
                clear hx hmin
                go_wp2
                go_round
                case rel => exact ⟨k + 1, by omega, by go_num⟩
                case measure => simp [intOf]; omega
          · go_wp2
            go_ret
            exact ⟨rfl, HB5.out⟩
end Go.Proofs.Ytgkbpdcedighcaa
