/-
  The walk of mix.Of.
-/
import Derived.Test.YtgkbpdcedighcacPsgV
namespace Go.Proofs.Ytgkbpdcedighcac
open Go.RowKit Go.Sort NoiseP

theorem vflat_snoc (n : Nat) (V : Nat → Vo) (v : Vo) : vflat n V ++ v.cs = vflat (n + 1) fun j => if j = n then v else V j := by
  have hl : v.cs.length = 4 := rfl
  apply List.ext_getElem?
  intro j
  have hlen : (vflat n V).length = n * 4 := by simp [vflat]
  rw [List.getElem?_append, hlen]
  by_cases h1 : j < n * 4
  · rw [if_pos h1, show j = j / 4 * 4 + j % 4 by omega, vflat_get (by omega) (by omega), vflat_get (by omega) (by omega)]
    simp only [show ¬ j / 4 = n by omega, if_false]
  · rw [if_neg h1]
    by_cases h2 : j < n * 4 + 4
    · rw [vcs_get v (show j - n * 4 < 4 by omega), show j = n * 4 + (j - n * 4) by omega, vflat_get (by omega) (by omega)]
      simp only [if_true, show n * 4 + (j - n * 4) - n * 4 = j - n * 4 by omega]
    · rw [List.getElem?_eq_none (by omega), List.getElem?_eq_none (by simp [vflat]; omega)]
theorem vflat_extract {n : Nat} {V : Nat → Vo} {i : Nat} (hi : i < n) : (vflat n V).toArray.extract (i * 4) (i * 4 + 4) = (V i).cs.toArray := by
  have hlen : (vflat n V).length = n * 4 := by simp [vflat]
  apply Array.ext_getElem?
  intro j
  by_cases hj : j < 4
  · rw [Array.getElem?_extract_of_lt (by simp [hlen]; omega), List.getElem?_toArray, vcs_get _ hj]
    have h := vflat_get (n := n) (V := V) hi hj
    obtain ⟨h1, h2⟩ := List.getElem?_eq_some_iff.1 h
    simp [h2]
  · rw [Array.getElem?_eq_none (by simp; omega), Array.getElem?_eq_none (by show 4 ≤ j; omega)]

theorem own_vos {w : World} {base n : Nat} {e : TypeId} {v : Value} {V : Nat → Vo} (h : w.ownsRow base e 4 v n (vflat n V)) (hV : ∀ i, i < n → (V i).Ok) : ∃ a cap, v = .slice a n cap ∧ Vos w a n V := by
  have hcs := fun g => h.cells (g := g)
  rcases h.2 with ⟨rfl, rfl⟩ | ⟨b, cap, cur, rfl, hb, hh, hnc, hm, hsz, htake⟩
  · exact ⟨none, 0, rfl, fun i hi => by omega, hV⟩
  · refine ⟨_, cap, rfl, fun i hi => ⟨b, 0, rfl, (Array.getElem?_eq_some_iff.1 hh).1, fun j u hu => ?_⟩, hV⟩
    have hj : j < 4 := by
      rcases Nat.lt_or_ge j 4 with h | h
      · exact h
      · rw [List.getElem?_eq_none (by show 4 ≤ j; omega)] at hu; cases hu
    have h1 := hcs b rfl (i * 4 + j) u (by rw [vflat_get hi hj]; rw [vcs_get _ hj] at hu; exact hu)
    rw [part_addr] at h1
    rw [Nat.add_assoc]
    exact h1

theorem sumZ_congr {f g : Nat → Int} (n : Nat) (h : ∀ i, i < n → f i = g i) : sumZ f n = sumZ g n := by
  induction n with
  | zero => rfl
  | succ n ih => rw [sumZ, sumZ, ih fun i hi => h i (by omega), h n (by omega)]
/-- Those that are heard. -/
def kept (v : Vo) : Bool := decide (v.vo ≠ 0) || decide (v.le ≠ 0) || decide (v.ri ≠ 0)
def heard (V : Nat → Vo) (f : Vo → Int) (i : Nat) : Int := if kept (V i) then f (V i) else 0

theorem info_voice : (Try.prog.info? 32).map (fun i => (i.zero, i.size, i.bytes)) = some (some (.agg #[.int .u8 0, .int .u8 0, .int .u8 0, .int .u8 0]), 4, 4) := by kernel_rfl

theorem cells_new4 (w : World) (cs : Array Value) (e : TypeId) : ∀ j u, cs.toList[j]? = some u → (w.alloc (.cells cs e)).cell? ((⟨w.heap.size, 0, none⟩ : Addr).add j) = some u := fun j u hu => by
  rw [part_addr, Nat.zero_add]
  exact (At.new w cs e).cell j hu

set_option maxRecDepth 100000 in
set_option maxHeartbeats 8000000 in
/-- What comes of the voices that were told. -/
theorem Of_core (v0 : Value) (V : Nat → Vo) (hV : ∀ i, i < 6 → (V i).Ok) (L R : Nat) (hL : L < 256) (hR : R < 256) (w : World)
    (hvo : Calls Try.prog 70 #[v0] w fun e w' => e = .returned (.agg (vflat 6 V).toArray) ∧ Below w.heap.size w w')
    (hmn : ∀ w', Below w.heap.size w w' → Calls Try.prog 71 #[v0] w' fun e w'' => e = .returned (.tuple #[.int .u8 (L : Int), .int .u8 (R : Int)]) ∧ Below w'.heap.size w' w'') :
    Calls Try.prog 27 #[v0] w fun e w' => e = .returned (.tuple #[.int .i64 (sumZ (heard V fun v => v.l L) 6), .int .i64 (sumZ (heard V fun v => v.r R) 6)]) ∧ Below w.heap.size w w' := by
  have HV := Lib.hid hV
  have HMN := Lib.hid hmn
  clear hV hmn
  obtain ⟨i0, hi0⟩ := Option.map_eq_some_iff.1 info_voice
  have HI := Lib.hid hi0
  clear hi0
  go_enter Try.func27, Try.ntmps27
  go_wp2_with fail
  refine hvo.mono ?_
  rintro e w1 ⟨rfl, hB1⟩
  have HB1 := Lib.hid hB1
  clear hB1 hvo
  have HIX : Hid (∀ (k : Nat), k < 6 → ∀ w, (Instr.index 123 (.agg (vflat 6 V).toArray) (.int .i64 (k : Int))).run Try.prog w = .ok (.agg (V k).cs.toArray) w) := Lib.hid fun k hk w => by
    have h := index_agg (P := Try.prog) 123 32 6 (vflat 6 V).toArray .i64 k _ 4 Try.underlying123 Try.underlying32 rfl (by kernel_rfl) (by omega) w
    rw [h, Int.toNat_natCast, vflat_extract hk]
  generalize (vflat 6 V).toArray = arr at *
  have HSW0 : w.heap.size ≤ w1.heap.size := HB1.out.size
  generalize hS : w1.heap.size = S at *
  have HSW := Lib.hid HSW0
  clear HSW0
  go_wp2
  go_loopw [4, 11] (fun v i wr => ∃ (k m : Nat) (U : Nat → Vo), k ≤ 6 ∧ m ≤ k ∧ i = .int .i64 k ∧ Hid (wr.ownsRow S 32 4 v m (vflat m U)) ∧ Hid (∀ i, i < m → (U i).Ok) ∧ Hid (sumZ (fun i => (U i).l L) m = sumZ (heard V fun v => v.l L) k ∧ sumZ (fun i => (U i).r R) m = sumZ (heard V fun v => v.r R) k) ∧ Hid (Below w.heap.size w wr) ∧ S ≤ wr.heap.size) (fun _ i _ => 6 - (intOf i).toNat)
  case atStart => exact ⟨0, 0, fun _ => Vo.none, by omega, by omega, rfl, Lib.hid ⟨rfl, .inl ⟨rfl, rfl⟩⟩, Lib.hid fun i hi => by omega, Lib.hid ⟨rfl, rfl⟩, HB1, by omega⟩
  case round =>
    clear HB1 hS
    obtain ⟨k, m, U, hk, hm, rfl, HO, HU, HSM, HB, hS⟩ := hrel
    by_cases hlt : k < 6
    · have hix := HIX.out k hlt
      have hvk := HV.out k hlt
      have HVK : Hid (V k = V k) := Lib.hid rfl
      generalize hvv : V k = vk at hix hvk
      obtain ⟨lv, vo, le, ri⟩ := vk
      have HVV := Lib.hid hvv
      clear hvv HVK
      rw [show (Vo.mk lv vo le ri).cs.toArray = #[.int .u8 (lv : Int), .int .u8 (vo : Int), .int .u8 (le : Int), .int .u8 (ri : Int)] from rfl] at hix
      have HOK := Lib.hid hvk
      clear hvk
      have hone : ∀ u ∈ ([.int .u8 (lv : Int), .int .u8 (vo : Int), .int .u8 (le : Int), .int .u8 (ri : Int)] : List Value), u.oneCell' = true := by
        intro v hv; simp only [List.mem_cons, List.not_mem_nil, or_false] at hv; rcases hv with rfl | rfl | rfl | rfl <;> rfl
      have HNE := Lib.hid hone
      clear hone
      by_cases hkp : kept ⟨lv, vo, le, ri⟩ = true
      · have h3 : (((vo : Int) != 0) = true) ∨ (((vo : Int) != 0) = false ∧ ((le : Int) != 0) = true) ∨ (((vo : Int) != 0) = false ∧ ((le : Int) != 0) = false ∧ ((ri : Int) != 0) = true) := by
          unfold kept at hkp
          simp only [Bool.or_eq_true, decide_eq_true_eq] at hkp
          simp only [bne_iff_ne, bne_eq_false_iff_eq]
          omega
        have HKP := Lib.hid hkp
        clear hkp
        obtain ⟨hi, hzz⟩ := HI.out
        have hz0 : i0.zero = some (.agg #[.int .u8 0, .int .u8 0, .int .u8 0, .int .u8 0]) := congrArg Prod.fst hzz
        have hz1 : i0.size = 4 := congrArg (fun p => p.2.1) hzz
        have hz2 : i0.bytes = 4 := congrArg (fun p => p.2.2) hzz
        clear hzz
        have hO := HO.out
        have hnews : ∀ o1 j u, ([.int .u8 (lv : Int), .int .u8 (vo : Int), .int .u8 (le : Int), .int .u8 (ri : Int)] : List Value)[j]? = some u → ((wr.alloc o1).alloc (.cells #[.int .u8 (lv : Int), .int .u8 (vo : Int), .int .u8 (le : Int), .int .u8 (ri : Int)] 32)).cell? ((⟨wr.heap.size + 1, 0, none⟩ : Addr).add j) = some u := fun o1 j u hu => by
          have h := cells_new4 (wr.alloc o1) #[.int .u8 (lv : Int), .int .u8 (vo : Int), .int .u8 (le : Int), .int .u8 (ri : Int)] 32 j u hu
          rwa [alloc_size] at h
        rcases h3 with q1 | ⟨q1, q2⟩ | ⟨q1, q2, q3⟩
        all_goals
          go_wp2_with (at_builtin; refine wpList_append_own _ rfl _ _ 26 rfl S 32 i0 (.agg #[.int .u8 0, .int .u8 0, .int .u8 0, .int .u8 0]) 4 4 Try.underlying26 hi hz0 hz1 hz2 rfl (by decide) _ _ _ rfl ((hO.alloc _).alloc _) ⟨wr.heap.size + 1, 0, none⟩ 1 1 [.int .u8 (lv : Int), .int .u8 (vo : Int), .int .u8 (le : Int), .int .u8 (ri : Int)] rfl rfl (hnews _) HNE.out (by unfold maxLen; omega) (by omega) (by simp; omega) ?_)
          intro v' w4 hO4 hg4 _
          have hB3 : Below w.heap.size w ((wr.alloc (.cells #[.int .u8 (lv : Int), .int .u8 (vo : Int), .int .u8 (le : Int), .int .u8 (ri : Int)] 32)).alloc (.cells #[.int .u8 (lv : Int), .int .u8 (vo : Int), .int .u8 (le : Int), .int .u8 (ri : Int)] 32)) := (HB.out.alloc HB.out.size _).alloc (by have := HB.out.size; simp; omega) _
          have HB4 := Lib.hid (hB3.grown hg4 (by have := HB.out.size; simp; omega) (fun b hb => by have := (HO.out.lt b hb).1; have := HSW.out; omega))
          have hS4 : S ≤ w4.heap.size := by have := hg4.size; simp at this; omega
          have HO4 : Hid (w4.ownsRow S 32 4 v' (m + 1) (vflat (m + 1) fun j => if j = m then ⟨lv, vo, le, ri⟩ else U j)) := Lib.hid (by rw [← vflat_snoc]; exact hO4)
          have HU4 : Hid (∀ i, i < m + 1 → (if i = m then (⟨lv, vo, le, ri⟩ : Vo) else U i).Ok) := Lib.hid fun i hi => by
            by_cases him : i = m
            · rw [if_pos him]; exact HOK.out
            · rw [if_neg him]; exact HU.out i (by omega)
          have HSM4 : Hid (sumZ (fun i => (if i = m then (⟨lv, vo, le, ri⟩ : Vo) else U i).l L) (m + 1) = sumZ (heard V fun v => v.l L) (k + 1) ∧ sumZ (fun i => (if i = m then (⟨lv, vo, le, ri⟩ : Vo) else U i).r R) (m + 1) = sumZ (heard V fun v => v.r R) (k + 1)) := Lib.hid (by
            refine ⟨?_, ?_⟩
            · show sumZ _ m + _ = sumZ _ k + heard V _ k
              rw [sumZ_congr (g := fun i => (U i).l L) m (fun i hi => by rw [if_neg (by omega)]), HSM.out.1, heard, HVV.out, if_pos HKP.out]; simp only [if_true]
            · show sumZ _ m + _ = sumZ _ k + heard V _ k
              rw [sumZ_congr (g := fun i => (U i).r R) m (fun i hi => by rw [if_neg (by omega)]), HSM.out.2, heard, HVV.out, if_pos HKP.out]; simp only [if_true])
          clear hO4 hg4 hB3 hnews hO hi hz0 hz1 hz2 HO HU HSM HB
          go_wp2
          go_roundw
          case rel => exact ⟨k + 1, m + 1, _, by omega, by omega, by go_num, HO4, HU4, HSM4, HB4, hS4⟩
          case measure => simp [intOf]; omega
      · have h3 : ((vo : Int) != 0) = false ∧ ((le : Int) != 0) = false ∧ ((ri : Int) != 0) = false := by
          unfold kept at hkp
          simp only [Bool.or_eq_true, decide_eq_true_eq] at hkp
          simp only [bne_eq_false_iff_eq]
          omega
        obtain ⟨q1, q2, q3⟩ := h3
        have HSM4 : Hid (sumZ (fun i => (U i).l L) m = sumZ (heard V fun v => v.l L) (k + 1) ∧ sumZ (fun i => (U i).r R) m = sumZ (heard V fun v => v.r R) (k + 1)) := Lib.hid (by
          refine ⟨?_, ?_⟩
          · show sumZ _ m = sumZ _ k + heard V _ k
            rw [HSM.out.1, heard, HVV.out, if_neg hkp, Int.add_zero]
          · show sumZ _ m = sumZ _ k + heard V _ k
            rw [HSM.out.2, heard, HVV.out, if_neg hkp, Int.add_zero])
        clear hkp
        have HO3 : Hid ((wr.alloc (.cells #[.int .u8 (lv : Int), .int .u8 (vo : Int), .int .u8 (le : Int), .int .u8 (ri : Int)] 32)).ownsRow S 32 4 u4 m (vflat m U)) := Lib.hid (HO.out.alloc _)
        have HB3 : Hid (Below w.heap.size w (wr.alloc (.cells #[.int .u8 (lv : Int), .int .u8 (vo : Int), .int .u8 (le : Int), .int .u8 (ri : Int)] 32))) := Lib.hid (HB.out.alloc HB.out.size _)
        have hS3 : S ≤ (wr.alloc (.cells #[.int .u8 (lv : Int), .int .u8 (vo : Int), .int .u8 (le : Int), .int .u8 (ri : Int)] 32)).heap.size := by simp; omega
        go_wp2
        go_roundw
        case rel => exact ⟨k + 1, m, U, by omega, by omega, by go_num, HO3, HU, HSM4, HB3, hS3⟩
        case measure => simp [intOf]; omega
    · obtain rfl : k = 6 := by omega
      obtain ⟨a, cap, rfl, hVos⟩ := own_vos HO.out HU.out
      go_wp2_with fail
      refine (HMN.out wr HB.out).mono ?_
      rintro e w4 ⟨rfl, hb4⟩
      have hV4 := hVos.below hb4
      have HB4 := Lib.hid (step_below HB.out hb4)
      clear hVos hb4 HO HB
      have hal := All_any L R a m cap U w4 hV4 hL hR (by omega)
      rw [HSM.out.1, HSM.out.2] at hal
      clear hV4
      go_wp2_with fail
      refine hal.mono ?_
      rintro e w5 ⟨rfl, hb5⟩
      go_wp2
      go_ret2
      exact ⟨rfl, step_below HB4.out hb5⟩

/-- What both sides make of six channels. -/
def PS.left (y : PS) : Int := sumZ (heard y.vo fun v => v.l (y.mn / 16)) 6
def PS.right (y : PS) : Int := sumZ (heard y.vo fun v => v.r (y.mn % 16)) 6
theorem Of_P (g : Nat) (c b : Nat → Nat) (y : PS) (w : World) (h : GP w g c b y) (hy : y.Ok) :
    Calls Try.prog 27 #[.pointer (some ⟨g, 0, none⟩)] w fun e w' => e = .returned (.tuple #[.int .i64 y.left, .int .i64 y.right]) ∧ Below w.heap.size w w' := by
  have hm := hy.mn
  exact Of_core _ y.vo (PS.vo_ok hy) (y.mn / 16) (y.mn % 16) (by omega) (by omega) w (Voices_P g c b y w h hy) fun w' hb =>
    (Main_P g c b y w' (h.below hb) hy).mono fun _ _ ⟨h1, n, h2⟩ => ⟨h1, by rw [h2]; exact ⟨rfl, rfl, rfl, Nat.le_refl _, fun _ _ => rfl⟩⟩
theorem Of_nil (w : World) : Calls Try.prog 27 #[.pointer none] w fun e w' => e = .returned (.tuple #[.int .i64 0, .int .i64 0]) ∧ Below w.heap.size w w' :=
  Of_core _ (fun _ => Vo.none) (fun _ _ => ⟨by decide, by decide, by decide, by decide⟩) 0 0 (by omega) (by omega) w (Voices_nil w) fun w' _ =>
    (Main_nil w').mono fun _ _ ⟨h1, h2⟩ => ⟨h1, by rw [← h2]; exact Below.refl _ _⟩
end Go.Proofs.Ytgkbpdcedighcac
