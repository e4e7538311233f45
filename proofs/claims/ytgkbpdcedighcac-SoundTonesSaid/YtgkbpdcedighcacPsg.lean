/-
  The walks of psg: New, is, own, Write, depth, Main.
-/
import Derived.Test.YtgkbpdcedighcacWaveO
import Derived.Deep.RegionHeld3
import Derived.Deep.DrawnRows
namespace Go.Proofs.Ytgkbpdcedighcac
open Go.RowKit Go.Sort NoiseP

attribute [local go_sem ↓] Go.wp_at_zero Go.wp_at_succ

/-- The cells of six channels' object. -/
def pz (p : Nat → Value) (ch mn bd : Nat) : List Value := rowF 6 p ++ [.int .i64 (ch : Int), .int .u8 (mn : Int), .int .u8 (bd : Int)]
def ptr (c : Nat) : Value := .pointer (some ⟨c, 0, none⟩)
theorem pz_get {p : Nat → Value} {ch mn bd i : Nat} (hi : i < 6) : (pz p ch mn bd)[i]? = some (p i) := by
  unfold pz
  rw [List.getElem?_append_left (by simp [hi]), rowF_get hi]
theorem pz_set {p : Nat → Value} {ch mn bd i : Nat} (hi : i < 6) (v : Value) : (pz p ch mn bd).set i v = pz (fun j => if j = i then v else p j) ch mn bd := by
  unfold pz
  rw [List.set_append_left _ _ (by simp [hi]), rowF_set _ hi]
theorem pz_len {p : Nat → Value} {ch mn bd : Nat} : (pz p ch mn bd).length = 9 := by simp [pz]

/-- Six channels; the chosen one; both sides' loudness; what bends. -/
structure PS where
  x : Nat → CS
  ch : Nat
  mn : Nat
  bd : Nat
structure PS.Ok (y : PS) : Prop where
  x : ∀ i, i < 6 → (y.x i).Ok
  ch : y.ch < 8
  mn : y.mn < 256
  bd : y.bd < 256
/-- They lie there. -/
structure GP (w : World) (g : Nat) (c b : Nat → Nat) (y : PS) : Prop where
  g : At w g 122 (pz (fun i => ptr (c i)) y.ch y.mn y.bd)
  x : ∀ i, i < 6 → PC w (c i) (b i) (y.x i)
  inj : ∀ i j, i < 6 → j < 6 → i ≠ j → c i ≠ c j ∧ b i ≠ b j
def OwnP (g : Nat) (c b : Nat → Nat) (k : Nat) : Prop := k = g ∨ ∃ i, i < 6 ∧ (k = c i ∨ k = b i)
theorem GP.below {w w' : World} {g : Nat} {c b : Nat → Nat} {y : PS} (h : GP w g c b y) (hb : Below w.heap.size w w') : GP w' g c b y := ⟨h.g.below hb h.g.lt, fun i hi => (h.x i hi).below hb, h.inj⟩
theorem GP.drewN {w : World} {g : Nat} {c b : Nat → Nat} {y : PS} (h : GP w g c b y) (n : Nat) : GP (w.drewN n) g c b y := ⟨h.g.drewN n, fun i hi => ⟨(h.x i hi).c.drewN n, (h.x i hi).b.drewN n⟩, h.inj⟩
theorem GP.upd {w w' : World} {g : Nat} {c b : Nat → Nat} {y : PS} {S : Nat → Prop} (h : GP w g c b y) (hu : Upd S w w') (hS : ∀ k, OwnP g c b k → ¬ S k) : GP w' g c b y :=
  ⟨h.g.upd hu (hS _ (.inl rfl)), fun i hi => (h.x i hi).upd hu (hS _ (.inr ⟨i, hi, .inl rfl⟩)) (hS _ (.inr ⟨i, hi, .inr rfl⟩)), h.inj⟩
theorem GP.own_lt {w : World} {g : Nat} {c b : Nat → Nat} {y : PS} (h : GP w g c b y) {k : Nat} (hk : OwnP g c b k) : k < w.heap.size := by
  rcases hk with rfl | ⟨i, hi, rfl | rfl⟩
  · exact h.g.lt
  · exact (h.x i hi).c.lt
  · exact (h.x i hi).b.lt
/-- A turn of one channel. -/
theorem GP.one {w w' : World} {g : Nat} {c b : Nat → Nat} {y : PS} (h : GP w g c b y) {i : Nat} (hi : i < 6) {z : CS} (hu : Upd (fun k => k = c i ∨ k = b i) w w') (hz : PC w' (c i) (b i) z) :
    GP w' g c b { y with x := fun j => if j = i then z else y.x j } := by
  refine ⟨h.g.upd hu (fun k => k.elim (fun k => h.g.ne_ (h.x i hi).c (by decide) k) (fun k => h.g.ne_ (h.x i hi).b (by decide) k)), fun j hj => ?_, h.inj⟩
  show PC w' (c j) (b j) (if j = i then z else y.x j)
  by_cases hji : j = i
  · subst hji; rw [if_pos rfl]; exact hz
  · rw [if_neg hji]
    have hn := h.inj j i hj hi hji
    have h1 := (h.x j hj).c.ne_ (h.x i hi).b (by decide)
    have h2 := (h.x j hj).b.ne_ (h.x i hi).c (by decide)
    exact (h.x j hj).upd hu (fun k => k.elim hn.1 h1) (fun k => k.elim h2 hn.2)

theorem is_nilP (w : World) : Calls Try.prog 67 #[.pointer none] w fun e w' => e = .returned (.bool false) ∧ w = w' := by
  go_enter Try.func67, Try.ntmps67
  go_wp2
  go_ret
  exact ⟨rfl, rfl⟩
theorem is_P (g : Nat) (c b : Nat → Nat) (y : PS) (w : World) (h : GP w g c b y) : Calls Try.prog 67 #[.pointer (some ⟨g, 0, none⟩)] w fun e w' => e = .returned (.bool true) ∧ w = w' := by
  have c0 : w.cell? ⟨g, 0, none⟩ = some (.pointer (some ⟨c 0, 0, none⟩)) := h.g.cell 0 (pz_get (p := fun i => ptr (c i)) (by omega))
  clear h
  go_enter Try.func67, Try.ntmps67
  go_wp2
  go_ret
  exact ⟨rfl, rfl⟩

def PS.new : PS := ⟨fun _ => CS.new, 0, 0, 0⟩
theorem PS.new_ok : PS.new.Ok := ⟨fun _ _ => CS.new_ok, by show (0 : Nat) < 8; decide, by show (0 : Nat) < 256; decide, by show (0 : Nat) < 256; decide⟩

/-- While they are made: k of them. -/
def Mk (w : World) (g base : Nat) (c b : Nat → Nat) (k : Nat) : Prop :=
  At w g 122 (pz (fun i => if i < k then ptr (c i) else .pointer none) 0 0 0) ∧ (∀ i, i < k → PC w (c i) (b i) CS.new ∧ base ≤ c i ∧ base ≤ b i) ∧ ∀ i j, i < k → j < k → i ≠ j → c i ≠ c j ∧ b i ≠ b j

theorem pz_ext {p q : Nat → Value} {ch mn bd : Nat} (h : ∀ i, i < 6 → p i = q i) : pz p ch mn bd = pz q ch mn bd := by
  unfold pz
  rw [rowF_ext h]

theorem Mk.step {w w' : World} {g : Nat} {c b : Nat → Nat} {k c' b' : Nat} (h : Mk w g g c b k) (hk : k < 6) (hb : Below w.heap.size w w') (h1 : w.heap.size ≤ b') (h2 : b' < c') (h3 : PC w' c' b' CS.new) :
    Mk (w'.setCell ⟨g, k, none⟩ (ptr c')) g g (fun j => if j = k then c' else c j) (fun j => if j = k then b' else b j) (k + 1) := by
  obtain ⟨hA, hP, hi⟩ := h
  have hlt := hA.lt
  have hA2 := hA.below hb hlt
  refine ⟨((hA2.set k (ptr c')).of_eq ?_), fun i hik => ?_, fun i j hik hjk hij => ?_⟩
  · rw [pz_set hk]
    refine pz_ext fun i _ => ?_
    by_cases hik : i = k
    · subst hik; rw [if_pos rfl, if_pos (by omega)]; simp
    · rw [if_neg hik]
      by_cases hlt2 : i < k
      · rw [if_pos hlt2, if_pos (by omega)]; simp [hik]
      · rw [if_neg hlt2, if_neg (by omega)]
  · have hu := (Upd.refl (· = g) w').here (i := k) (ptr c')
    by_cases hik2 : i = k
    · subst hik2
      simp only [if_pos]
      exact ⟨h3.upd hu (by omega) (by omega), by omega, by omega⟩
    · simp only [if_neg hik2]
      obtain ⟨p1, p2, p3⟩ := hP i (by omega)
      have n1 := hA.ne_ p1.c (by decide)
      have n2 := hA.ne_ p1.b (by decide)
      exact ⟨(p1.below hb).upd hu (fun h => n1 h.symm) (fun h => n2 h.symm), p2, p3⟩
  · by_cases hik2 : i = k
    · subst hik2
      have hj := (hP j (by omega)).1
      have := hj.c.lt
      have := hj.b.lt
      simp only [if_pos, if_neg (show ¬ j = i by omega)]
      omega
    · by_cases hjk2 : j = k
      · subst hjk2
        have hj := (hP i (by omega)).1
        have := hj.c.lt
        have := hj.b.lt
        simp only [if_pos, if_neg hik2]
        omega
      · simp only [if_neg hik2, if_neg hjk2]
        exact hi i j (by omega) (by omega) hij

set_option maxRecDepth 100000 in
set_option maxHeartbeats 4000000 in
theorem PNew_any (w : World) : Calls Try.prog 23 #[] w fun e w' => ∃ g c b, e = .returned (.pointer (some ⟨g, 0, none⟩)) ∧ GP w' g c b PS.new ∧ (∀ k, OwnP g c b k → w.heap.size ≤ k) ∧ Below w.heap.size w w' := by
  go_enter Try.func23, Try.ntmps23
  go_wp2_with fail
  refine allocs1 ?_
  intro w1 hA1 hB1 _
  have HM1 : Hid (Mk w1 w.heap.size w.heap.size (fun _ => 0) (fun _ => 0) 0) := Lib.hid ⟨hA1.of_eq rfl, fun i hi => by omega, fun i j hi => by omega⟩
  have HB1 := Lib.hid hB1
  clear hA1 hB1
  generalize hG : w.heap.size = G at *
  go_loopw [5] (fun i wr => ∃ (k : Nat) (c b : Nat → Nat), k ≤ 6 ∧ i = .int .i64 k ∧ Hid (Mk wr G G c b k) ∧ Hid (Below G w wr)) (fun i _ => 6 - (intOf i).toNat)
  case atStart => exact ⟨0, _, _, by omega, rfl, HM1, HB1⟩
  case round =>
    clear HM1 HB1
    obtain ⟨k, c, b, hk, rfl, HM, HB⟩ := hrel
    by_cases hlt : k < 6
    · have hk0 : (0 : Int) ≤ (k : Int) := by omega
      have hk6 : (k : Int) < 6 := by omega
      have HA : Hid (At wr.drew G 122 (pz (fun i => if i < k then ptr (c i) else .pointer none) 0 0 0)) := Lib.hid HM.out.1
      have hGl : G < wr.drew.heap.size := HA.out.lt
      go_wp2_with fail
      go_region_held3 (fun _ => True) (trivial) (first | (go_at_call 33; refine (WNew_any _).mono ?_; rintro e w4 ⟨c', b', rfl, hb', hbc', hA', hN', hB'⟩; have q := (HA.out.below hB' hGl).cell k (pz_get hlt); have f := (HA.out.below hB' hGl).frozen k))
      have hM5 : Mk (w4.setCell ⟨G, k, none⟩ (.pointer (some ⟨c', 0, none⟩))) G G _ _ (k + 1) := Mk.step HM.out hlt ⟨hB'.os, hB'.tape, hB'.output, hB'.size, hB'.block⟩ hb' hbc' ⟨hA', hN'⟩
      have HM5 := Lib.hid hM5
      have hB4 : Below G w w4 := HB.out.trans ((show Below wr.heap.size wr w4 from ⟨hB'.os, hB'.tape, hB'.output, hB'.size, hB'.block⟩).mono (by have := HB.out.size; omega))
      have HB5 : Hid (Below G w (w4.setCell ⟨G, k, none⟩ (.pointer (some ⟨c', 0, none⟩)))) := Lib.hid (((Upd.refl (· = G) w4).here (i := k) (.pointer (some ⟨c', 0, none⟩))).to hB4 (by have : wr.heap.size ≤ w4.heap.size := hB'.size; have : G < wr.heap.size := hGl; omega) (fun b h => by omega))
      clear HA HM hM5 hA' hN' hB' q f HB hB4
      generalize w4.setCell _ _ = w5 at *
      go_wp2
      go_round
      case rel => exact ⟨k + 1, _, _, by omega, by go_num, HM5, HB5⟩
      case measure => simp [intOf]; omega
    · obtain rfl : k = 6 := by omega
      go_wp2
      go_ret
      obtain ⟨hA, hP, hi⟩ := HM.out
      refine ⟨G, c, b, rfl, ⟨hA.of_eq (pz_ext fun i hi => by rw [if_pos hi]), fun i hi => (hP i hi).1, hi⟩, ?_, hG ▸ HB.out⟩
      rintro k (rfl | ⟨i, hi, rfl | rfl⟩)
      · omega
      · have := (hP i hi).2.1; omega
      · have := (hP i hi).2.2; omega

/-- A write. -/
def PS.wr (y : PS) (reg : Nat) (v : Nat) : PS :=
  if reg % 16 = 0 then { y with ch := v % 8 }
  else if reg % 16 = 1 then { y with mn := v }
  else if reg % 16 = 9 then { y with bd := v }
  else if reg % 16 ≤ 7 ∧ y.ch < 6 ∧ (reg % 16 ≠ 7 ∨ 4 ≤ y.ch) then { y with x := fun j => if j = y.ch then (y.x y.ch).wr ((reg % 16 : Nat) : Int) v else y.x j }
  else y
theorem PS.wr_ok {y : PS} (h : y.Ok) (reg : Nat) {v : Nat} (hv : v < 256) : (y.wr reg v).Ok := by
  obtain ⟨h1, h2, h3, h4⟩ := h
  unfold PS.wr
  repeat' split
  · exact ⟨h1, Nat.mod_lt _ (by decide), h3, h4⟩
  · exact ⟨h1, h2, hv, h4⟩
  · exact ⟨h1, h2, h3, hv⟩
  · next h =>
    refine ⟨fun i hi => ?_, h2, h3, h4⟩
    show CS.Ok (if i = y.ch then _ else y.x i)
    split
    · exact CS.wr_ok (h1 _ h.2.1) _ hv
    · exact h1 i hi
  · exact ⟨h1, h2, h3, h4⟩

theorem own_P (r v : Nat) (g : Nat) (c b : Nat → Nat) (y : PS) (w : World) (h : GP w g c b y) (hy : y.Ok) (hv : v < 256) (hr : 2 ≤ r ∧ r ≤ 7) :
    Calls Try.prog 68 #[.pointer (some ⟨g, 0, none⟩), .int .i64 (r : Int), .int .u8 (v : Int)] w fun e w' => e = .returned (.tuple #[]) ∧ GP w' g c b (if y.ch < 6 ∧ (r ≠ 7 ∨ 4 ≤ y.ch) then { y with x := fun j => if j = y.ch then (y.x y.ch).wr (r : Int) v else y.x j } else y) ∧ Upd (OwnP g c b) w w' := by
  have c6 : w.cell? ⟨g, 6, none⟩ = some (.int .i64 (y.ch : Int)) := h.g.cell 6 rfl
  have hch := hy.ch
  have HG := Lib.hid h
  have HY := Lib.hid hy
  clear h hy
  by_cases h6 : y.ch < 6
  · have d6 : decide ((y.ch : Int) < 6) = true := by rw [decide_eq_true_eq]; omega
    by_cases hc : r ≠ 7 ∨ 4 ≤ y.ch
    · rw [if_pos ⟨h6, hc⟩]
      have cp : w.cell? ⟨g, y.ch, none⟩ = some (.pointer (some ⟨c y.ch, 0, none⟩)) := HG.out.g.cell y.ch (pz_get (p := fun i => ptr (c i)) h6)
      have hk0 : (0 : Int) ≤ (y.ch : Int) := by omega
      have hk6 : (y.ch : Int) < 6 := by omega
      by_cases h7 : r = 7
      · have d4 : decide (4 ≤ (y.ch : Int)) = true := by rw [decide_eq_true_eq]; omega
        subst h7
        go_enter Try.func68, Try.ntmps68
        go_wp2_with fail
        refine region_drew_tail 11 (by kernel_rfl) (by kernel_rfl) ?_
        simp only [List.take_succ_cons, List.take_zero, List.drop_succ_cons, List.drop_zero]
        repeat (go_big_quiet_step ((fail)))
        refine wpQuiet_nil ?_
        intro _ hw'
        obtain ⟨nq, rfl⟩ := hw'
        go_wp2_with fail
        refine (Write_S (c y.ch) (b y.ch) (y.x y.ch) (7 : Nat) v _ ⟨(HG.out.x y.ch h6).c.drewN nq, (HG.out.x y.ch h6).b.drewN nq⟩ (HY.out.x y.ch h6) hv).mono ?_
        rintro e w2 ⟨rfl, hP, hU⟩
        have hU0 : Upd (fun k => k = c y.ch ∨ k = b y.ch) w w2 := ((Upd.refl (fun k => k = c y.ch ∨ k = b y.ch) w).drewN nq).trans hU fun _ _ h => h
        go_wp2
        go_end0
        exact ⟨rfl, HG.out.one h6 hU0 hP, hU0.mono fun k _ h => .inr ⟨y.ch, h6, h⟩⟩
      · have d7 : ((r : Int) != 7) = true := by rw [bne_iff_ne]; omega
        go_enter Try.func68, Try.ntmps68
        go_wp2_with fail
        refine region_drew_tail 11 (by kernel_rfl) (by kernel_rfl) ?_
        simp only [List.take_succ_cons, List.take_zero, List.drop_succ_cons, List.drop_zero]
        repeat (go_big_quiet_step ((fail)))
        refine wpQuiet_nil ?_
        intro _ hw'
        obtain ⟨nq, rfl⟩ := hw'
        go_wp2_with fail
        refine (Write_S (c y.ch) (b y.ch) (y.x y.ch) r v _ ⟨(HG.out.x y.ch h6).c.drewN nq, (HG.out.x y.ch h6).b.drewN nq⟩ (HY.out.x y.ch h6) hv).mono ?_
        rintro e w2 ⟨rfl, hP, hU⟩
        have hU0 : Upd (fun k => k = c y.ch ∨ k = b y.ch) w w2 := ((Upd.refl (fun k => k = c y.ch ∨ k = b y.ch) w).drewN nq).trans hU fun _ _ h => h
        go_wp2
        go_end0
        exact ⟨rfl, HG.out.one h6 hU0 hP, hU0.mono fun k _ h => .inr ⟨y.ch, h6, h⟩⟩
    · obtain rfl : r = 7 := by omega
      have d4 : decide (4 ≤ (y.ch : Int)) = false := by rw [decide_eq_false_iff_not]; omega
      rw [if_neg (by omega)]
      go_enter Try.func68, Try.ntmps68
      go_wp2
      go_end0
      exact ⟨rfl, HG.out, Upd.refl _ _⟩
  · have d6 : decide ((y.ch : Int) < 6) = false := by rw [decide_eq_false_iff_not]; omega
    rw [if_neg (by omega)]
    go_enter Try.func68, Try.ntmps68
    go_wp2
    go_end0
    exact ⟨rfl, HG.out, Upd.refl _ _⟩

theorem i64_and15b (n : Nat) (hn : n < 256) : bits .and .i64 (n : Int) 15 = ((n % 16 : Nat) : Int) := by
  have : ∀ n : Fin 256, bits .and .i64 ((n.val : Nat) : Int) 15 = ((n.val % 16 : Nat) : Int) := by decide +kernel
  exact this ⟨n, hn⟩
theorem u8_and7 (n : Nat) (hn : n < 256) : bits .and .u8 (n : Int) 7 = ((n % 8 : Nat) : Int) := by
  have : ∀ n : Fin 256, bits .and .u8 ((n.val : Nat) : Int) 7 = ((n.val % 8 : Nat) : Int) := by decide +kernel
  exact this ⟨n, hn⟩
theorem u8_and3 (n : Nat) (hn : n < 256) : bits .and .u8 (n : Int) 3 = ((n % 4 : Nat) : Int) := by
  have : ∀ n : Fin 256, bits .and .u8 ((n.val : Nat) : Int) 3 = ((n.val % 4 : Nat) : Int) := by decide +kernel
  exact this ⟨n, hn⟩

set_option maxHeartbeats 2000000 in
theorem Write_P (reg v : Nat) (g : Nat) (c b : Nat → Nat) (y : PS) (w : World) (h : GP w g c b y) (hy : y.Ok) (hv : v < 256) (hreg : reg < 256) :
    Calls Try.prog 25 #[.pointer (some ⟨g, 0, none⟩), .int .i64 (reg : Int), .int .u8 (v : Int)] w fun e w' => e = .returned (.tuple #[]) ∧ GP w' g c b (y.wr reg v) ∧ Upd (OwnP g c b) w w' := by
  have e1 := i64_and15b reg hreg
  have e2 := u8_and7 v hv
  have hr : reg % 16 < 16 := by omega
  have hv8 : v % 8 < 8 := by omega
  have HW : Hid (y.wr reg v = if reg % 16 = 0 then { y with ch := v % 8 } else if reg % 16 = 1 then { y with mn := v } else if reg % 16 = 9 then { y with bd := v } else if reg % 16 ≤ 7 ∧ y.ch < 6 ∧ (reg % 16 ≠ 7 ∨ 4 ≤ y.ch) then { y with x := fun j => if j = y.ch then (y.x y.ch).wr ((reg % 16 : Nat) : Int) v else y.x j } else y) := Lib.hid rfl
  generalize y.wr reg v = z at *
  generalize reg % 16 = r at *
  have HE : Hid ((v % 8 : Nat) = v % 8) := Lib.hid rfl
  generalize hv8e : v % 8 = u at *
  clear hv8e
  have HG := Lib.hid h
  have HY := Lib.hid hy
  have c6 : w.cell? ⟨g, 6, none⟩ = some (.int .i64 (y.ch : Int)) := h.g.cell 6 rfl
  have c7 : w.cell? ⟨g, 7, none⟩ = some (.int .u8 (y.mn : Int)) := h.g.cell 7 rfl
  have c8 : w.cell? ⟨g, 8, none⟩ = some (.int .u8 (y.bd : Int)) := h.g.cell 8 rfl
  have f6 := h.g.frozen 6
  have f7 := h.g.frozen 7
  have f8 := h.g.frozen 8
  have fin : ∀ (i : Nat) (x : Value) (z' : PS), (pz (fun i => ptr (c i)) y.ch y.mn y.bd).set i x = pz (fun i => ptr (c i)) z'.ch z'.mn z'.bd → z'.x = y.x → GP (w.setCell ⟨g, i, none⟩ x) g c b z' ∧ Upd (OwnP g c b) w (w.setCell ⟨g, i, none⟩ x) := fun i x z' he hx => by
    have hu : Upd (· = g) w (w.setCell ⟨g, i, none⟩ x) := (Upd.refl _ _).here _
    refine ⟨⟨(HG.out.g.set i x).of_eq he, fun j hj => ?_, HG.out.inj⟩, hu.mono fun k _ h => .inl h⟩
    rw [hx]
    exact (HG.out.x j hj).upd hu (fun h => HG.out.g.ne_ (HG.out.x j hj).c (by decide) h.symm) (fun h => HG.out.g.ne_ (HG.out.x j hj).b (by decide) h.symm)
  have HFIN := Lib.hid fin
  clear fin h hy
  by_cases h0 : r = 0
  · subst h0
    rw [if_pos rfl] at HW
    go_enter Try.func25, Try.ntmps25
    go_wp2_with fail
    refine (is_P g c b y w HG.out).mono ?_
    rintro e _ ⟨rfl, rfl⟩
    go_wp2
    go_end0
    rw [HW.out]
    exact ⟨rfl, HFIN.out 6 _ { y with ch := u } rfl rfl⟩
  · have q0 : ((r : Int) == 0) = false := by rw [beq_eq_false_iff_ne]; omega
    rw [if_neg h0] at HW
    by_cases h1 : r = 1
    · subst h1
      rw [if_pos rfl] at HW
      go_enter Try.func25, Try.ntmps25
      go_wp2_with fail
      refine (is_P g c b y w HG.out).mono ?_
      rintro e _ ⟨rfl, rfl⟩
      go_wp2
      go_end0
      rw [HW.out]
      exact ⟨rfl, HFIN.out 7 _ { y with mn := v } rfl rfl⟩
    · have q1 : ((r : Int) == 1) = false := by rw [beq_eq_false_iff_ne]; omega
      rw [if_neg h1] at HW
      by_cases h9 : r = 9
      · subst h9
        rw [if_pos rfl] at HW
        go_enter Try.func25, Try.ntmps25
        go_wp2_with fail
        refine (is_P g c b y w HG.out).mono ?_
        rintro e _ ⟨rfl, rfl⟩
        go_wp2
        go_end0
        rw [HW.out]
        exact ⟨rfl, HFIN.out 8 _ { y with bd := v } rfl rfl⟩
      · have q9 : ((r : Int) == 9) = false := by rw [beq_eq_false_iff_ne]; omega
        rw [if_neg h9] at HW
        have g2 : decide (2 ≤ (r : Int)) = true := by rw [decide_eq_true_eq]; omega
        by_cases h7 : r ≤ 7
        · have g7 : decide ((r : Int) ≤ 7) = true := by rw [decide_eq_true_eq]; omega
          go_enter Try.func25, Try.ntmps25
          go_wp2_with fail
          refine (is_P g c b y w HG.out).mono ?_
          rintro e _ ⟨rfl, rfl⟩
          go_wp2_with fail
          refine (own_P r v g c b y w HG.out HY.out hv ⟨by omega, h7⟩).mono ?_
          rintro e w2 ⟨rfl, hG2, hU2⟩
          have hz : z = if y.ch < 6 ∧ (r ≠ 7 ∨ 4 ≤ y.ch) then { y with x := fun j => if j = y.ch then (y.x y.ch).wr (r : Int) v else y.x j } else y := by
            rw [HW.out]
            by_cases hc : y.ch < 6 ∧ (r ≠ 7 ∨ 4 ≤ y.ch)
            · rw [if_pos ⟨h7, hc⟩, if_pos hc]
            · rw [if_neg (fun h => hc h.2), if_neg hc]
          have HZ := Lib.hid hz
          clear hz
          go_wp2
          go_end0
          rw [HZ.out]
          exact ⟨rfl, hG2, hU2⟩
        · have g7 : decide ((r : Int) ≤ 7) = false := by rw [decide_eq_false_iff_not]; omega
          rw [if_neg (fun h => h7 h.1)] at HW
          go_enter Try.func25, Try.ntmps25
          go_wp2_with fail
          refine (is_P g c b y w HG.out).mono ?_
          rintro e _ ⟨rfl, rfl⟩
          go_wp2
          go_end0
          rw [HW.out]
          exact ⟨rfl, HG.out, Upd.refl _ _⟩
end Go.Proofs.Ytgkbpdcedighcac
