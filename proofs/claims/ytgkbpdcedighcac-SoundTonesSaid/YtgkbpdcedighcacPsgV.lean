/-
  The walks of psg: depth, Main, Voices. Printed by gen_psgv.py.
-/
import Derived.Test.YtgkbpdcedighcacPsg
import Derived.Test.YtgkbpdcedighcacMixT
import Derived.Test.YtgkbpdcedighcacIndex
namespace Go.Proofs.Ytgkbpdcedighcac
open Go.RowKit Go.Sort NoiseP

def depT (r : Nat) : Int := if r = 0 then 0 else if r = 1 then 1 else if r = 2 then 16 else 256
theorem depth_P (g : Nat) (c b : Nat → Nat) (y : PS) (w : World) (h : GP w g c b y) (hy : y.Ok) : Calls Try.prog 109 #[.pointer (some ⟨g, 0, none⟩)] w fun e w' => e = .returned (.int .i64 (depT (y.bd % 4))) ∧ Below w.heap.size w w' := by
  have hg := h.g
  have e1 := u8_and3 y.bd hy.bd
  have hr : y.bd % 4 = 0 ∨ y.bd % 4 = 1 ∨ y.bd % 4 = 2 ∨ y.bd % 4 = 3 := by omega
  have c8 : w.cell? ⟨g, 8, none⟩ = some (.int .u8 (y.bd : Int)) := hg.cell 8 rfl
  have hne := hg.lt
  have c8n := fun o => (hg.alloc o).cell 8 (v := .int .u8 (y.bd : Int)) rfl
  clear h hy hg
  generalize y.bd % 4 = r at *
  rcases hr with rfl | rfl | rfl | rfl
  all_goals
    go_enter Try.func109, Try.ntmps109
    go_wp2
    go_ret
    exact ⟨rfl, (Below.refl _ _).alloc (Nat.le_refl _) _⟩

theorem Main_nil (w : World) : Calls Try.prog 71 #[.pointer none] w fun e w' => e = .returned (.tuple #[.int .u8 0, .int .u8 0]) ∧ w = w' := by
  go_enter Try.func71, Try.ntmps71
  go_wp2_with fail
  refine (is_nilP w).mono ?_
  rintro e _ ⟨rfl, rfl⟩
  go_wp2
  go_ret2
  exact ⟨rfl, rfl⟩
theorem Main_P (g : Nat) (c b : Nat → Nat) (y : PS) (w : World) (h : GP w g c b y) (hy : y.Ok) : Calls Try.prog 71 #[.pointer (some ⟨g, 0, none⟩)] w fun e w' => e = .returned (.tuple #[.int .u8 ((y.mn / 16 : Nat) : Int), .int .u8 ((y.mn % 16 : Nat) : Int)]) ∧ ∃ n, w' = w.drewN n := by
  have c7 : w.cell? ⟨g, 7, none⟩ = some (.int .u8 (y.mn : Int)) := h.g.cell 7 rfl
  have e1 := u8_and15' y.mn hy.mn
  have e2 : (y.mn : Int) / 16 = ((y.mn / 16 : Nat) : Int) := by omega
  have HG := Lib.hid h
  clear h hy
  generalize y.mn % 16 = q at *
  generalize y.mn / 16 = r at *
  go_enter Try.func71, Try.ntmps71
  go_wp2_with fail
  refine (is_P g c b y w HG.out).mono ?_
  rintro e _ ⟨rfl, rfl⟩
  go_wp2_with fail
  refine wp_region_quiet_lit (by kernel_rfl) (by kernel_rfl) ?_
  repeat (go_big_quiet_step ((fail)))
  refine wpQuiet_nil ?_
  intro _ hw'
  obtain ⟨nq, rfl⟩ := hw'
  go_wp2
  go_ret2
  exact ⟨rfl, nq, rfl⟩

theorem lvW_nat (co to : Nat) (ny : Bool) (wv : Nat → Nat) (pl s : Nat) (h1 : to < 32) (h2 : ∀ i, wv i < 32) : 0 ≤ lvW co to ny wv pl s ∧ lvW co to ny wv pl s < 32 := by
  have := h2 pl
  unfold lvW levN
  split
  · omega
  · split
    · omega
    · split <;> omega
/-- A voice as it is told. -/
def CS.vo (x : CS) : Vo := ⟨(lvW x.co x.to x.ny x.wv x.pl x.s).toNat, x.co % 32, x.ba / 16, x.ba % 16⟩
def Vo.none : Vo := ⟨0, 0, 0, 0⟩
def PS.vo (y : PS) (i : Nat) : Vo := if 128 ≤ (y.x i).co ∧ ¬ (i = 1 ∧ y.bd % 4 ≠ 0) then (y.x i).vo else Vo.none
theorem CS.vo_ok {x : CS} (h : x.Ok) : x.vo.Ok := by
  have h1 := lvW_nat x.co x.to x.ny x.wv x.pl x.s h.to h.wv
  have h2 := h.ba
  exact ⟨by show (lvW x.co x.to x.ny x.wv x.pl x.s).toNat < 256; omega, by show x.co % 32 < 256; omega, by show x.ba / 16 < 256; omega, by show x.ba % 16 < 256; omega⟩
theorem PS.vo_ok {y : PS} (h : y.Ok) (i : Nat) (hi : i < 6) : (y.vo i).Ok := by
  unfold PS.vo
  split
  · exact CS.vo_ok (h.x i hi)
  · exact ⟨by decide, by decide, by decide, by decide⟩

/-- A row of voices, flat. -/
def vcell (v : Vo) (m : Nat) : Value := if m = 0 then .int .u8 (v.lv : Int) else if m = 1 then .int .u8 (v.vo : Int) else if m = 2 then .int .u8 (v.le : Int) else .int .u8 (v.ri : Int)
def vflat (n : Nat) (V : Nat → Vo) : List Value := rowF (n * 4) fun j => vcell (V (j / 4)) (j % 4)
theorem vflat_one (n : Nat) (V : Nat → Vo) : ∀ v ∈ vflat n V, v.oneCell' = true := rowF_all fun i _ => by
  unfold vcell
  repeat' split
  all_goals rfl
theorem vcs_get (v : Vo) {m : Nat} (h : m < 4) : v.cs[m]? = some (vcell v m) := by
  have : m = 0 ∨ m = 1 ∨ m = 2 ∨ m = 3 := by omega
  rcases this with rfl | rfl | rfl | rfl <;> rfl
theorem vflat_get {n : Nat} {V : Nat → Vo} {i m : Nat} (hi : i < n) (hm : m < 4) : (vflat n V)[i * 4 + m]? = some (vcell (V i) m) := by
  unfold vflat
  rw [rowF_get (by omega), show (i * 4 + m) / 4 = i by omega, show (i * 4 + m) % 4 = m by omega]
theorem vflat_set {n : Nat} {V : Nat → Vo} {i : Nat} (hi : i < n) (v : Vo) : (vflat n V).take (i * 4) ++ v.cs ++ (vflat n V).drop (i * 4 + v.cs.length) = vflat n fun j => if j = i then v else V j := by
  have hl : v.cs.length = 4 := rfl
  rw [hl]
  apply List.ext_getElem?
  intro j
  rw [List.getElem?_append, List.getElem?_append]
  have hlen : (vflat n V).length = n * 4 := by simp [vflat]
  simp only [List.length_append, List.length_take, hl, hlen, show min (i * 4) (n * 4) = i * 4 by omega]
  by_cases h1 : j < i * 4
  · rw [if_pos (by omega), if_pos h1, List.getElem?_take, if_pos h1]
    rw [show j = j / 4 * 4 + j % 4 by omega, vflat_get (by omega) (by omega), vflat_get (by omega) (by omega)]
    simp only [show ¬ j / 4 = i by omega, if_false]
  · by_cases h2 : j < i * 4 + 4
    · rw [if_pos h2, if_neg h1]
      rw [vcs_get v (show j - i * 4 < 4 by omega), show j = i * 4 + (j - i * 4) by omega, vflat_get hi (by omega)]
      simp only [if_true, show i * 4 + (j - i * 4) - i * 4 = j - i * 4 by omega]
    · rw [if_neg h2, List.getElem?_drop, show i * 4 + 4 + (j - (i * 4 + 4)) = j by omega]
      by_cases h3 : j < n * 4
      · rw [show j = j / 4 * 4 + j % 4 by omega, vflat_get (by omega) (by omega), vflat_get (by omega) (by omega)]
        simp only [show ¬ j / 4 = i by omega, if_false]
      · rw [List.getElem?_eq_none (by omega), List.getElem?_eq_none (by simp [vflat]; omega)]
theorem vflat_ext {n : Nat} {V U : Nat → Vo} (h : ∀ i, i < n → V i = U i) : vflat n V = vflat n U := rowF_ext fun j hj => by rw [h (j / 4) (by omega)]

set_option maxRecDepth 100000 in
set_option maxHeartbeats 4000000 in
theorem Voices_nil (w : World) : Calls Try.prog 70 #[.pointer none] w fun e w' => e = .returned (.agg (vflat 6 fun _ => Vo.none).toArray) ∧ Below w.heap.size w w' := by
  go_enter Try.func70, Try.ntmps70
  go_wp2_with fail
  refine allocs2 (F := fun w => Calls _ _ _ w _) ?_
  intro w1 hA1 hA2 hB1 _
  replace hA1 : At w1 w.heap.size 123 (vflat 6 fun _ => Vo.none) := hA1
  replace hA2 : At w1 (w.heap.size + 1) 123 (vflat 6 fun _ => Vo.none) := hA2
  refine (is_nilP w1).mono ?_
  rintro e _ ⟨rfl, rfl⟩
  go_wp2_with (first
    | (with_reducible refine wpList_load_at_w (by kernel_rfl) 123 (.tmp 3) rfl (w.heap.size + 1) rfl 123 (vflat 6 fun _ => Vo.none) hA2 _ Try.underlying123 rfl (by kernel_rfl) ?_)
    | (with_reducible refine wpList_store_row rfl 123 (.tmp 2) (.tmp 11) rfl rfl w.heap.size (by kernel_rfl) (vflat 6 fun _ => Vo.none) (by kernel_rfl) 123 (vflat 6 fun _ => Vo.none) hA1 (by kernel_rfl) (by kernel_rfl) (vflat_one _ _) ?_))
  intro w3 hA3 hU3
  have hB3 := step_upd hB1 hU3 (by omega)
  go_wp2
  (try simp only [Exit.inBlock, Exit.then])
  refine bodyPost_ret (results_cell_at rfl _ _ w.heap.size 123 _ hA3 _ (by kernel_rfl) Try.underlying123 rfl (by kernel_rfl)) rfl ?_
  exact ⟨rfl, hB3⟩

def PS.part (y : PS) (k i : Nat) : Vo := if i < k then y.vo i else Vo.none

set_option maxRecDepth 100000 in
set_option maxHeartbeats 8000000 in
theorem Voices_P (g : Nat) (c b : Nat → Nat) (y : PS) (w : World) (h : GP w g c b y) (hy : y.Ok) : Calls Try.prog 70 #[.pointer (some ⟨g, 0, none⟩)] w fun e w' => e = .returned (.agg (vflat 6 y.vo).toArray) ∧ Below w.heap.size w w' := by
  have HG := Lib.hid h
  have HY := Lib.hid hy
  clear h hy
  go_enter Try.func70, Try.ntmps70
  go_wp2_with fail
  refine allocs2 (F := fun w => Calls _ _ _ w _) ?_
  intro w1 hA1 hA2 hB1 _
  replace hA1 : At w1 w.heap.size 123 (vflat 6 fun _ => Vo.none) := hA1
  replace hA2 : At w1 (w.heap.size + 1) 123 (vflat 6 (y.part 0)) := hA2
  have hG1 := HG.out.below hB1
  have hgl := HG.out.g.lt
  refine (is_P g c b y w1 hG1).mono ?_
  rintro e _ ⟨rfl, rfl⟩
  have hpa := hG1.g
  have hsz := hB1.size
  have HA1 := Lib.hid hA1
  have HA2 := Lib.hid hA2
  have HB1 := Lib.hid hB1
  have HG1 := Lib.hid hG1
  have HGW : Hid (∀ q, OwnP g c b q → ¬ q = w.heap.size + 1) := Lib.hid fun q hq => by have := HG.out.own_lt hq; omega
  clear hA1 hA2 hB1 hG1 HG
  go_wp2_with (with_reducible refine wpList_load_part (by kernel_rfl) 120 (.tmp 14) rfl g 0 6 rfl 122 (pz (fun i => ptr (c i)) y.ch y.mn y.bd) hpa (by rw [pz_len]; omega) _ Try.underlying120 rfl (by kernel_rfl) (rowF 6 fun i => ptr (c i)) rfl ?_)
  clear hpa
  have HIX : Hid (∀ (k : Nat), k < 6 → ∀ w, (Instr.index 120 (.agg (rowF 6 fun i => ptr (c i)).toArray) (.int .i64 (k : Int))).run Try.prog w = .ok (ptr (c k)) w) := Lib.hid fun k hk w =>
    index_one (P := Try.prog) 120 54 6 (rowF 6 fun i => ptr (c i)).toArray .i64 k _ 1 (ptr (c k)) Try.underlying120 Try.underlying54 rfl (by kernel_rfl) rfl (by omega) (by rw [List.getElem?_toArray]; exact rowF_get (f := fun i => ptr (c i)) hk) w
  go_loopw [16] (fun i wr => ∃ k : Nat, k ≤ 6 ∧ i = .int .i64 k ∧ Hid (GP wr g c b y) ∧ Hid (At wr w.heap.size 123 (vflat 6 fun _ => Vo.none)) ∧ Hid (At wr (w.heap.size + 1) 123 (vflat 6 (y.part k))) ∧ Hid (Below w.heap.size w wr)) (fun i _ => 6 - (intOf i).toNat)
  case atStart => exact ⟨0, by omega, rfl, HG1, HA1, HA2, HB1⟩
  case round =>
    clear HG1 HA1 HA2 HB1
    obtain ⟨k, hk, rfl, HG, HA, HO, HB⟩ := hrel
    by_cases hlt : k < 6
    · have hix := HIX.out k hlt
      rw [show ptr (c k) = .pointer (some ⟨c k, 0, none⟩) from rfl] at hix
      generalize (rowF 6 fun i => ptr (c i)).toArray = arr at *
      have hok := HY.out.x k hlt
      have hP := HG.out.x k hlt
      have hoc := hok.co
      have hoa := hok.ba
      have HNO : ∀ h : ¬ (128 ≤ (y.x k).co ∧ ¬ (k = 1 ∧ y.bd % 4 ≠ 0)), y.part k = y.part (k + 1) := fun h => by
        funext i
        unfold PS.part
        by_cases h1 : i < k
        · rw [if_pos h1, if_pos (by omega)]
        · rw [if_neg h1]
          by_cases h2 : i = k
          · subst h2; rw [if_pos (by omega), PS.vo, if_neg h]
          · rw [if_neg (by omega)]
      have HYE : ∀ h : 128 ≤ (y.x k).co ∧ ¬ (k = 1 ∧ y.bd % 4 ≠ 0), (fun j => if j = k then (y.x k).vo else y.part k j) = y.part (k + 1) := fun h => by
        funext i
        unfold PS.part
        by_cases h1 : i = k
        · subst h1; rw [if_pos rfl, if_pos (by omega), PS.vo, if_pos h]
        · rw [if_neg h1]
          by_cases h2 : i < k
          · rw [if_pos h2, if_pos (by omega)]
          · rw [if_neg h2, if_neg (by omega)]
      by_cases hon : 128 ≤ (y.x k).co
      · have hon' := decide_eq_true hon
        by_cases h1 : k = 1
        · have q1 : ((k : Int) == 1) = true := by rw [beq_iff_eq]; omega
          have H1 := Lib.hid h1
          clear h1
          by_cases hd : y.bd % 4 = 0
          · go_wp2_with fail
            refine (On_any (c k) (b k) (y.x k).fr (y.x k).be (y.x k).co (y.x k).ba (y.x k).to (y.x k).ny (y.x k).wv (y.x k).pl (y.x k).lf wr hP.c hoc).mono ?_
            rintro e _ ⟨rfl, rfl⟩
            rw [hon']
            go_wp2_with fail
            refine (depth_P g c b y wr HG.out HY.out).mono ?_
            rintro e w3 ⟨rfl, hb3⟩
            have hP3 := hP.below hb3
            have HG3 := Lib.hid (HG.out.below hb3)
            have HA3 := Lib.hid (HA.out.below hb3 HA.out.lt)
            have HO3 := Lib.hid (HO.out.below hb3 HO.out.lt)
            have HB3 := Lib.hid (step_below HB.out hb3)
            rw [hd, show depT 0 = 0 from rfl]
            clear hb3 hP HG HA HO HB
            have hye := HYE (⟨hon, fun h => h.2 hd⟩)
            have HYE2 := Lib.hid hye
            obtain ⟨r0, hr0⟩ : ∃ r, (lvW (y.x k).co (y.x k).to (y.x k).ny (y.x k).wv (y.x k).pl (y.x k).s).toNat = r := ⟨_, rfl⟩
            obtain ⟨r1, hr1⟩ : ∃ r, (y.x k).co % 32 = r := ⟨_, rfl⟩
            obtain ⟨r2, hr2⟩ : ∃ r, (y.x k).ba / 16 = r := ⟨_, rfl⟩
            obtain ⟨r3, hr3⟩ : ∃ r, (y.x k).ba % 16 = r := ⟨_, rfl⟩
            have HR0 := Lib.hid hr0
            have HR1 := Lib.hid hr1
            have HR2 := Lib.hid hr2
            have HR3 := Lib.hid hr3
            clear hye HYE HNO hr0 hr1 hr2 hr3
            go_wp2_with fail
            refine (Balance_any (c k) (b k) (y.x k).fr (y.x k).be (y.x k).co (y.x k).ba (y.x k).to (y.x k).ny (y.x k).wv (y.x k).pl (y.x k).lf w3 hP3.c hoa).mono ?_
            rintro e _ ⟨rfl, n1, rfl⟩
            rw [HR2.out, HR3.out]
            have hP4 : PC (w3.drewN n1) (c k) (b k) (y.x k) := ⟨hP3.c.drewN n1, hP3.b.drewN n1⟩
            have HG4 := Lib.hid (HG3.out.drewN n1)
            have HA4 := Lib.hid (HA3.out.drewN n1)
            have HO4 := Lib.hid (HO3.out.drewN n1)
            have HB4 : Hid (Below w.heap.size w (w3.drewN n1)) := Lib.hid ⟨HB3.out.os, HB3.out.tape, HB3.out.output, HB3.out.size, HB3.out.block⟩
            clear hP3 HG3 HA3 HO3 HB3
            generalize w3.drewN n1 = w4 at *
            have hs4 : (y.x k).s < 4294967296 := by have := hok.s; omega
            go_wp2_with fail
            refine (Level_w (c k) (b k) (y.x k).fr (y.x k).be (y.x k).co (y.x k).ba (y.x k).to (y.x k).ny (y.x k).wv (y.x k).pl (y.x k).lf w4 (y.x k).s (y.x k).l (perI (y.x k).f) hP4.c hP4.b hoc hs4 hok.pl).mono ?_
            rintro e _ ⟨rfl, n2, rfl⟩
            have hln := lvW_nat (y.x k).co (y.x k).to (y.x k).ny (y.x k).wv (y.x k).pl (y.x k).s hok.to hok.wv
            rw [← Int.toNat_of_nonneg hln.1, HR0.out]
            have hP5 : PC (w4.drewN n2) (c k) (b k) (y.x k) := ⟨hP4.c.drewN n2, hP4.b.drewN n2⟩
            have HG5 := Lib.hid (HG4.out.drewN n2)
            have HA5 := Lib.hid (HA4.out.drewN n2)
            have HO5 := Lib.hid (HO4.out.drewN n2)
            have HB5 : Hid (Below w.heap.size w (w4.drewN n2)) := Lib.hid ⟨HB4.out.os, HB4.out.tape, HB4.out.output, HB4.out.size, HB4.out.block⟩
            clear hP4 HG4 HA4 HO4 HB4 hln
            generalize w4.drewN n2 = w5 at *
            go_wp2_with fail
            refine (Volume_any (c k) (b k) (y.x k).fr (y.x k).be (y.x k).co (y.x k).ba (y.x k).to (y.x k).ny (y.x k).wv (y.x k).pl (y.x k).lf w5 hP5.c hoc).mono ?_
            rintro e _ ⟨rfl, rfl⟩
            rw [HR1.out]
            clear hP5
            have hO5 := HO5.out
            have HL : Hid ((vflat 6 (y.part k)).length = 24) := Lib.hid rfl
            have hvc : (y.x k).vo.cs = [.int .u8 (r0 : Int), .int .u8 (r1 : Int), .int .u8 (r2 : Int), .int .u8 (r3 : Int)] := by rw [← HR0.out, ← HR1.out, ← HR2.out, ← HR3.out]; rfl
            have HVC := Lib.hid hvc
            clear hvc
            have hlen : k * 4 + ([.int .u8 (r0 : Int), .int .u8 (r1 : Int), .int .u8 (r2 : Int), .int .u8 (r3 : Int)] : List Value).length ≤ (vflat 6 (y.part k)).length := by rw [HL.out]; show k * 4 + 4 ≤ 24; omega
            have hone : ∀ v ∈ ([.int .u8 (r0 : Int), .int .u8 (r1 : Int), .int .u8 (r2 : Int), .int .u8 (r3 : Int)] : List Value), v.oneCell' = true := by intro v hv; simp only [List.mem_cons, List.not_mem_nil, or_false] at hv; rcases hv with rfl | rfl | rfl | rfl <;> rfl
            have HLE := Lib.hid hlen
            have HON := Lib.hid hone
            clear hlen hone
            go_wp2_with (with_reducible refine wpList_store_part rfl 32 (.tmp 45) (.tmp 44) rfl rfl (w.heap.size + 1) (k * 4) (by kernel_rfl) [.int .u8 (r0 : Int), .int .u8 (r1 : Int), .int .u8 (r2 : Int), .int .u8 (r3 : Int)] (by kernel_rfl) 123 (vflat 6 (y.part k)) hO5 HLE.out (by kernel_rfl) HON.out ?_)
            intro w6 hA6 hU6
            rw [← HVC.out, vflat_set hlt, HYE2.out] at hA6
            have hgw : ∀ q, OwnP g c b q → ¬ q = w.heap.size + 1 := HGW.out
            have HO6 := Lib.hid hA6
            have HG6 := Lib.hid (HG5.out.upd hU6 hgw)
            have HA6 := Lib.hid (HA5.out.upd hU6 (by omega))
            have HB6 := Lib.hid (step_upd HB5.out hU6 (by omega))
            clear hA6 hU6 HG5 HA5 HO5 HB5 hO5 hgw
            go_wp2
            go_round
            case rel => exact ⟨k + 1, by omega, by go_num, HG6, HA6, HO6, HB6⟩
            case measure => simp [intOf]; omega
          · have hd0 : (depT (y.bd % 4) != 0) = true := by
              rw [bne_iff_ne]
              unfold depT
              repeat' split
              all_goals omega
            go_wp2_with fail
            refine (On_any (c k) (b k) (y.x k).fr (y.x k).be (y.x k).co (y.x k).ba (y.x k).to (y.x k).ny (y.x k).wv (y.x k).pl (y.x k).lf wr hP.c hoc).mono ?_
            rintro e _ ⟨rfl, rfl⟩
            rw [hon']
            go_wp2_with fail
            refine (depth_P g c b y wr HG.out HY.out).mono ?_
            rintro e w3 ⟨rfl, hb3⟩
            have hP3 := hP.below hb3
            have HG3 := Lib.hid (HG.out.below hb3)
            have HA3 := Lib.hid (HA.out.below hb3 HA.out.lt)
            have HO3 := Lib.hid (HO.out.below hb3 HO.out.lt)
            have HB3 := Lib.hid (step_below HB.out hb3)
            clear hb3 hP HG HA HO HB
            have hpk := HNO (fun h => h.2 ⟨H1.out, hd⟩)
            have HOn : Hid (At w3 (w.heap.size + 1) 123 (vflat 6 (y.part (k + 1)))) := Lib.hid (hpk ▸ HO3.out)
            clear HNO HYE hpk
            go_wp2
            go_round
            case rel => exact ⟨k + 1, by omega, by go_num, HG3, HA3, HOn, HB3⟩
            case measure => simp [intOf]; omega
        · have q1 : ((k : Int) == 1) = false := by rw [beq_eq_false_iff_ne]; omega
          go_wp2_with fail
          refine (On_any (c k) (b k) (y.x k).fr (y.x k).be (y.x k).co (y.x k).ba (y.x k).to (y.x k).ny (y.x k).wv (y.x k).pl (y.x k).lf wr hP.c hoc).mono ?_
          rintro e _ ⟨rfl, rfl⟩
          rw [hon']
          have hye := HYE (⟨hon, fun h => h1 h.1⟩)
          have HYE2 := Lib.hid hye
          obtain ⟨r0, hr0⟩ : ∃ r, (lvW (y.x k).co (y.x k).to (y.x k).ny (y.x k).wv (y.x k).pl (y.x k).s).toNat = r := ⟨_, rfl⟩
          obtain ⟨r1, hr1⟩ : ∃ r, (y.x k).co % 32 = r := ⟨_, rfl⟩
          obtain ⟨r2, hr2⟩ : ∃ r, (y.x k).ba / 16 = r := ⟨_, rfl⟩
          obtain ⟨r3, hr3⟩ : ∃ r, (y.x k).ba % 16 = r := ⟨_, rfl⟩
          have HR0 := Lib.hid hr0
          have HR1 := Lib.hid hr1
          have HR2 := Lib.hid hr2
          have HR3 := Lib.hid hr3
          clear hye HYE HNO hr0 hr1 hr2 hr3
          go_wp2_with fail
          refine (Balance_any (c k) (b k) (y.x k).fr (y.x k).be (y.x k).co (y.x k).ba (y.x k).to (y.x k).ny (y.x k).wv (y.x k).pl (y.x k).lf wr hP.c hoa).mono ?_
          rintro e _ ⟨rfl, n1, rfl⟩
          rw [HR2.out, HR3.out]
          have hP4 : PC (wr.drewN n1) (c k) (b k) (y.x k) := ⟨hP.c.drewN n1, hP.b.drewN n1⟩
          have HG4 := Lib.hid (HG.out.drewN n1)
          have HA4 := Lib.hid (HA.out.drewN n1)
          have HO4 := Lib.hid (HO.out.drewN n1)
          have HB4 : Hid (Below w.heap.size w (wr.drewN n1)) := Lib.hid ⟨HB.out.os, HB.out.tape, HB.out.output, HB.out.size, HB.out.block⟩
          clear hP HG HA HO HB
          generalize wr.drewN n1 = w4 at *
          have hs4 : (y.x k).s < 4294967296 := by have := hok.s; omega
          go_wp2_with fail
          refine (Level_w (c k) (b k) (y.x k).fr (y.x k).be (y.x k).co (y.x k).ba (y.x k).to (y.x k).ny (y.x k).wv (y.x k).pl (y.x k).lf w4 (y.x k).s (y.x k).l (perI (y.x k).f) hP4.c hP4.b hoc hs4 hok.pl).mono ?_
          rintro e _ ⟨rfl, n2, rfl⟩
          have hln := lvW_nat (y.x k).co (y.x k).to (y.x k).ny (y.x k).wv (y.x k).pl (y.x k).s hok.to hok.wv
          rw [← Int.toNat_of_nonneg hln.1, HR0.out]
          have hP5 : PC (w4.drewN n2) (c k) (b k) (y.x k) := ⟨hP4.c.drewN n2, hP4.b.drewN n2⟩
          have HG5 := Lib.hid (HG4.out.drewN n2)
          have HA5 := Lib.hid (HA4.out.drewN n2)
          have HO5 := Lib.hid (HO4.out.drewN n2)
          have HB5 : Hid (Below w.heap.size w (w4.drewN n2)) := Lib.hid ⟨HB4.out.os, HB4.out.tape, HB4.out.output, HB4.out.size, HB4.out.block⟩
          clear hP4 HG4 HA4 HO4 HB4 hln
          generalize w4.drewN n2 = w5 at *
          go_wp2_with fail
          refine (Volume_any (c k) (b k) (y.x k).fr (y.x k).be (y.x k).co (y.x k).ba (y.x k).to (y.x k).ny (y.x k).wv (y.x k).pl (y.x k).lf w5 hP5.c hoc).mono ?_
          rintro e _ ⟨rfl, rfl⟩
          rw [HR1.out]
          clear hP5
          have hO5 := HO5.out
          have HL : Hid ((vflat 6 (y.part k)).length = 24) := Lib.hid rfl
          have hvc : (y.x k).vo.cs = [.int .u8 (r0 : Int), .int .u8 (r1 : Int), .int .u8 (r2 : Int), .int .u8 (r3 : Int)] := by rw [← HR0.out, ← HR1.out, ← HR2.out, ← HR3.out]; rfl
          have HVC := Lib.hid hvc
          clear hvc
          have hlen : k * 4 + ([.int .u8 (r0 : Int), .int .u8 (r1 : Int), .int .u8 (r2 : Int), .int .u8 (r3 : Int)] : List Value).length ≤ (vflat 6 (y.part k)).length := by rw [HL.out]; show k * 4 + 4 ≤ 24; omega
          have hone : ∀ v ∈ ([.int .u8 (r0 : Int), .int .u8 (r1 : Int), .int .u8 (r2 : Int), .int .u8 (r3 : Int)] : List Value), v.oneCell' = true := by intro v hv; simp only [List.mem_cons, List.not_mem_nil, or_false] at hv; rcases hv with rfl | rfl | rfl | rfl <;> rfl
          have HLE := Lib.hid hlen
          have HON := Lib.hid hone
          clear hlen hone
          go_wp2_with (with_reducible refine wpList_store_part rfl 32 (.tmp 45) (.tmp 44) rfl rfl (w.heap.size + 1) (k * 4) (by kernel_rfl) [.int .u8 (r0 : Int), .int .u8 (r1 : Int), .int .u8 (r2 : Int), .int .u8 (r3 : Int)] (by kernel_rfl) 123 (vflat 6 (y.part k)) hO5 HLE.out (by kernel_rfl) HON.out ?_)
          intro w6 hA6 hU6
          rw [← HVC.out, vflat_set hlt, HYE2.out] at hA6
          have hgw : ∀ q, OwnP g c b q → ¬ q = w.heap.size + 1 := HGW.out
          have HO6 := Lib.hid hA6
          have HG6 := Lib.hid (HG5.out.upd hU6 hgw)
          have HA6 := Lib.hid (HA5.out.upd hU6 (by omega))
          have HB6 := Lib.hid (step_upd HB5.out hU6 (by omega))
          clear hA6 hU6 HG5 HA5 HO5 HB5 hO5 hgw
          go_wp2
          go_round
          case rel => exact ⟨k + 1, by omega, by go_num, HG6, HA6, HO6, HB6⟩
          case measure => simp [intOf]; omega
      · have hon' := decide_eq_false hon
        go_wp2_with fail
        refine (On_any (c k) (b k) (y.x k).fr (y.x k).be (y.x k).co (y.x k).ba (y.x k).to (y.x k).ny (y.x k).wv (y.x k).pl (y.x k).lf wr hP.c hoc).mono ?_
        rintro e _ ⟨rfl, rfl⟩
        rw [hon']
        have hpk := HNO (fun h => hon h.1)
        have HOn : Hid (At wr (w.heap.size + 1) 123 (vflat 6 (y.part (k + 1)))) := Lib.hid (hpk ▸ HO.out)
        clear HNO HYE hpk
        go_wp2
        go_round
        case rel => exact ⟨k + 1, by omega, by go_num, HG, HA, HOn, HB⟩
        case measure => simp [intOf]; omega
    · obtain rfl : k = 6 := by omega
      have hO := HO.out
      have hA := HA.out
      go_wp2_with (first
        | (with_reducible refine wpList_load_at_w (by kernel_rfl) 123 (.tmp 3) rfl (w.heap.size + 1) rfl 123 (vflat 6 (y.part 6)) hO _ Try.underlying123 rfl (by kernel_rfl) ?_)
        | (with_reducible refine wpList_store_row rfl 123 (.tmp 2) (.tmp 47) rfl rfl w.heap.size (by kernel_rfl) (vflat 6 (y.part 6)) (by kernel_rfl) 123 (vflat 6 fun _ => Vo.none) hA (by kernel_rfl) (by kernel_rfl) (vflat_one _ _) ?_))
      intro w3 hA3 hU3
      have hB3 := step_upd HB.out hU3 (Nat.le_refl _)
      have e6 : vflat 6 (y.part 6) = vflat 6 y.vo := vflat_ext fun i hi => if_pos hi
      rw [e6] at hA3
      go_wp2
      (try simp only [Exit.inBlock, Exit.then])
      refine bodyPost_ret (results_cell_at rfl _ _ w.heap.size 123 _ hA3 _ (by kernel_rfl) Try.underlying123 rfl (by kernel_rfl)) rfl ?_
      exact ⟨rfl, hB3⟩
end Go.Proofs.Ytgkbpdcedighcac
