/-
  The walk of moves: Apply.
-/
import Derived.Test.YtgkbpdcedighcacMovA
import Derived.Test.YtgkbpdcedighcacBysD
namespace Go.Proofs.Ytgkbpdcedighcac
open Go.RowKit Go.Sort Go.Shelf

attribute [local go_sem] Oper.semAt_some

set_option maxRecDepth 100000 in
set_option maxHeartbeats 4000000 in
theorem Clone_by (base g N cap : Nat) (f : Nat → Nat) (w : World) (hN : N ≤ 65536) (h : w.ownsRow base 5 1 (.slice (some ⟨g, 0, none⟩) N cap) N (bys f N)) :
    Calls Try.prog 107 #[.slice (some ⟨g, 0, none⟩) N cap] w fun e w' => ∃ v, e = .returned v ∧ w'.ownsRow w.heap.size 5 1 v N (bys f N) ∧ Below w.heap.size w w' := by
  obtain ⟨i0, hi, hz0, hz1, hz2⟩ := info_parts infoBy
  have hnews : ∀ j u, (bys f N)[j]? = some u → (w.alloc (.cells #[] 5)).cell? ((⟨g, 0, none⟩ : Addr).add j) = some u := (kept_none h (grown_below ((Below.refl _ w).alloc (Nat.le_refl _) (.cells #[] 5)))).cells (g := g) rfl
  have hq := fun w => Go.Lib.run_eql_slice_nil (P := Try.prog) w 107 5 (some ⟨g, 0, none⟩) N cap 0 0 Try.underlying107
  have hszx : w.heap.size ≤ (w.alloc (.cells #[] 5)).heap.size := by simp
  have hmx : 0 + N ≤ maxLen := by unfold maxLen; omega
  have hbx : (0 + N) * 1 ≤ 140737488355328 := by omega
  clear h
  go_enter Try.func107, Try.ntmps107
  go_wp2_with (at_builtin; go_loud (refine wpList_append_own _ rfl _ _ 107 rfl w.heap.size 5 i0 (.int .u8 0) 1 1 Try.underlying107 hi hz0 hz1 hz2 rfl (by decide) _ 0 [] rfl (World.ownsRow_made w #[] 0 (Nat.le_refl _) (Nat.zero_le _) rfl) ⟨g, 0, none⟩ N cap (bys f N) rfl (bys_len f N) hnews (bys_one f N) hmx hbx hszx ?_))
  intro v' w6 hO6 hg6 _
  have hB6 : Below w.heap.size w w6 := ((Below.refl _ w).alloc (Nat.le_refl _) _).grown hg6 (by simp) (fun b hb => by injection hb with hb; subst hb; exact Nat.le_refl _)
  go_wp2
  (try simp only [Exit.inBlock, Exit.then])
  go_ret
  exact ⟨_, rfl, hO6, hB6⟩

/-- What Apply's rounds keep. -/
def PI (w : World) (O N : Nat) (v0 : Value) (f : Nat → Nat) (k a b L : Nat) (pre : List Nat) (W : World) : Prop :=
  ((∃ v, Boxed W O 107 v ∧ W.ownsRow w.heap.size 5 1 v N (bys (mvl (wyF k a) (wyT k b) f pre) N) ∧ v = v0) ∧ Bx (O + 1) k a b L W) ∧ Below w.heap.size w W
theorem pi_own (w : World) (O N : Nat) (v0 : Value) (f : Nat → Nat) (k a b L M : Nat) (hM : w.heap.size ≤ M) : OwnFrom M (PI w O N v0 f k a b L) :=
  OwnFrom.and (OwnFrom.and (Own.from (holdsRow_own w.heap.size O 107 5 1 (fun _ => N) (fun pre => bys (mvl (wyF k a) (wyT k b) f pre) N) (fun _ v => v = v0)) _) (bx_own _ _ _ _ _ _)) (ownFrom_below (Nat.le_refl _) hM)

set_option maxRecDepth 100000 in
set_option maxHeartbeats 4000000 in
theorem Apply_in (k a b L : Nat) (hk : k < 5) (ha : a < 65536) (hb : b < 65536) (h0 : 1 ≤ L) (hL : L ≤ 500) (base g N cap : Nat) (f : Nat → Nat) (w : World) (hN : Hid (N = 8192)) (h : w.ownsRow base 5 1 (.slice (some ⟨g, 0, none⟩) N cap) N (bys f N)) :
    CallsIn Fence.wide 5 Try.prog 64 #[.int .u8 (k : Int), .int .u16 (a : Int), .int .u16 (b : Int), .int .u16 (L : Int), .slice (some ⟨g, 0, none⟩) N cap] w fun e W' =>
      ∃ v, e = .returned (.tuple #[v, .int .i64 0]) ∧ W'.ownsRow w.heap.size 5 1 v N (bys (mvl (wyF k a) (wyT k b) f (List.range L)) N) ∧ Below w.heap.size w W' := by
  have hge : ¬ (5 : Int) ≤ (k : Int) := by omega
  have hn1 : ((N : Int) == 0) = false := by have := hN.out; simp; omega
  have hn2 : ¬ (65536 : Int) < (N : Int) := by have := hN.out; omega
  have hn0 : 0 < N := by have := hN.out; omega
  have KC := Clone_by base g N cap f w (by have := hN.out; omega) h
  have KW := fun w => Ways_any k a b L w
  clear h
  refine callsIn_of_wp_marks Try.func64 rfl trivial ?_ rfl
  simp only [Try.ntmps64, List.size_toArray, List.length_cons, List.length_nil, Nat.reduceAdd, Nat.reduceSub, Array.replicate_succ, Array.replicate_zero, List.push_toArray, List.append_toArray, List.nil_append, List.cons_append]
  gi_wp2_with (refine ⟨trivial, ?_⟩; gi_at_call 107; refine (callsIn_wide.2 KC).mono ?_; rintro e w2 ⟨v, rfl, hO2, hb2⟩; obtain ⟨g2, cap2, rfl, -, -, -⟩ := bys_at hO2 hn0)
  gi_wp2_with (refine ⟨trivial, ?_⟩; gi_at_call 106; refine (callsIn_wide.2 (KW _)).mono ?_; rintro e w1 ⟨rfl, hX, hb1, hs1⟩)
  have hbO : Below w2.heap.size w2 (w2.alloc (.cells #[.slice (some ⟨g2, 0, none⟩) N cap2] 107)) := (Below.refl _ w2).alloc (Nat.le_refl _) _
  have hsz : (w2.alloc (.cells #[.slice (some ⟨g2, 0, none⟩) N cap2] 107)).heap.size = w2.heap.size + 1 := by simp
  have hb21 : Below w2.heap.size w2 w1 := step_below hbO hb1
  have hBw : Below w.heap.size w w1 := step_below hb2 hb21
  have bO : Boxed w1 w2.heap.size 107 (.slice (some ⟨g2, 0, none⟩) N cap2) := (hb1.block w2.heap.size (by omega)).trans (Boxed.new w2 _ _)
  rw [hsz] at hX hs1
  have hO1 := kept_none hO2 (grown_below hb21)
  have hI0 : PI w w2.heap.size N (.slice (some ⟨g2, 0, none⟩) N cap2) f k a b L [] w1 := ⟨⟨⟨_, bO, hO1, rfl⟩, hX⟩, hBw⟩
  have hs2 := hb2.size
  have hgO : g2 < w2.heap.size := (own_lt hO2 rfl).1
  have hown := pi_own w w2.heap.size N (.slice (some ⟨g2, 0, none⟩) N cap2) f k a b L w1.heap.size (by omega)
  clear hbO hb1 bO hBw KW KC hb21 hO1 hO2
  generalize w2.heap.size = O at *
  refine wpIn_rangeFunc_ownH rfl (by omega) (gf := 125) (lb := caps (O + 1)) rfl trivial (enters_of Try.func125 (by kernel_rfl) rfl)
    (Ways_stops _ (by omega) (O + 1) k a b L hk ha hb h0 (by omega) w1 hX) bx_t (bx_b (by omega)) (Below.refl _ _) (fun _ => rfl)
    (PI w O N (.slice (some ⟨g2, 0, none⟩) N cap2) f k a b L) (fun _ _ _ => False) hown (fun _ _ _ _ _ hs _ _ => hs) hI0
    (fun x a' W => ∃ Bm, At W Bm 113 (mcs (wyF k a) (wyT k b) x) ∧ a' = { tmps := #[.int .u8 (k : Int), .int .u16 (a : Int), .int .u16 (b : Int), .int .u16 (L : Int), .slice (some ⟨g, 0, none⟩) N cap, undef, undef, undef, undef, undef, .slice none 0 0, .int .i64 0, .pointer (some ⟨O, 0, none⟩), .pointer (some ⟨Bm, 0, none⟩), .bool false, .int .u8 (k : Int), .bool false, .bool false, .slice (some ⟨g, 0, none⟩) N cap, .int .i64 (N : Int), .bool false, .bool false, .slice (some ⟨g, 0, none⟩) N cap, .int .i64 (N : Int), .bool false, .bool false, .slice (some ⟨g, 0, none⟩) N cap, .slice (some ⟨g2, 0, none⟩) N cap2, .int .u8 (k : Int), .int .u16 (a : Int), .int .u16 (b : Int), .int .u16 (L : Int), .func (.func 125) #[] (caps (O + 1)), .agg #[.int .u16 (wyF k a x : Int), .int .u16 (wyT k b x : Int)], undef, undef, undef, undef, undef, undef, undef, undef, undef, undef, undef, undef, undef, undef, undef, undef, undef, undef], defers := [] })
    (fun x a' _ X Y row hs hg hr => by
      obtain ⟨Bm, h1, h2⟩ := hs
      exact ⟨Bm, h1.grown hg (fun e => by obtain ⟨_, o, ho, hc⟩ := hr Bm e; unfold At at h1; rw [h1] at ho; cases ho; cases hc), h2⟩)
    ?assign ?body ?done ?stop
  case assign =>
    rintro l pre x W K hi2 hK
    refine regionIn_lit (fun _ => trivial) (fun ⟨_, _, h⟩ => h) rfl ?_
    have hNw : At (W.alloc (.cells #[.int .u16 0, .int .u16 0] 113)) W.heap.size 113 [.int .u16 0, .int .u16 0] := At.new W _ _
    simp only [menc, mcs]
    go_wp2_with (with_reducible refine wpList_store_row rfl 113 (.tmp 13) (.tmp 33) rfl rfl W.heap.size (by kernel_rfl) [.int .u16 (wyF k a x : Int), .int .u16 (wyT k b x : Int)] (by kernel_rfl) 113 [.int .u16 0, .int .u16 0] hNw (by kernel_rfl) (by kernel_rfl) (mone _ _) ?_)
    intro w5 hA5 hU5
    have hb5 : Below W.heap.size W w5 := step_upd ((Below.refl _ W).alloc (Nat.le_refl _) _) hU5 (Nat.le_refl _)
    exact hK _ _ (keepsFrom_below hb5) (fun h => bx_below h hb5) (ownFrom_b hown hi2 hb5) ⟨W.heap.size, hA5, rfl⟩
  case body =>
    rintro l pre x a' W hl _ ⟨⟨⟨_, hv, hrow, rfl⟩, hX2⟩, hB⟩ ⟨Bm, hM, rfl⟩ hlt
    have hF := wyF_lt k a x
    have hT := wyT_lt k b x
    have hst0 : mvl (wyF k a) (wyT k b) f (pre ++ [x]) = mv1 (wyF k a) (wyT k b) (mvl (wyF k a) (wyT k b) f pre) x := mvl_snoc _ _ _ _ _
    have HS : Hid (mvl (wyF k a) (wyT k b) f (pre ++ [x]) = fun j => if j = wyT k b x % N then mvl (wyF k a) (wyT k b) f pre (wyF k a x % N) else mvl (wyF k a) (wyT k b) f pre j) := Lib.hid (by rw [hst0, hN.out]; rfl)
    clear hst0
    have HX := Lib.hid hX2
    have HB := Lib.hid hB
    have HM := Lib.hid hM
    have hm0 : W.cell? ⟨Bm, 0, none⟩ = some (.int .u16 (wyF k a x : Int)) := hM.cell 0 rfl
    have hm1 : W.cell? ⟨Bm, 0 + 1, none⟩ = some (.int .u16 (wyT k b x : Int)) := hM.cell 1 rfl
    have hv0 := hv.cell
    have HV := Lib.hid hv
    clear hX2 hB hM hv hl hlt
    generalize mvl (wyF k a) (wyT k b) f pre = fp at *
    generalize wyF k a x = xf at *
    generalize wyT k b x = xt at *
    obtain ⟨i0, hi0⟩ : ∃ i, i = xf % N := ⟨_, rfl⟩
    obtain ⟨i1, hi1⟩ : ∃ i, i = xt % N := ⟨_, rfl⟩
    rw [← hi0, ← hi1] at HS
    have hr0 : (xf : Int).tmod (N : Int) = (i0 : Int) := by rw [Int.tmod_eq_emod_of_nonneg (by omega), hi0]; rfl
    have hr1 : (xt : Int).tmod (N : Int) = (i1 : Int) := by rw [Int.tmod_eq_emod_of_nonneg (by omega), hi1]; rfl
    have hw0 : IntKind.i64.wrap (xf : Int) = (xf : Int) := by rw [IntKind.wrap_i64]; omega
    have hw1 : IntKind.i64.wrap (xt : Int) = (xt : Int) := by rw [IntKind.wrap_i64]; omega
    have l0 : i0 < N := by rw [hi0]; exact Nat.mod_lt _ hn0
    have l1 : i1 < N := by rw [hi1]; exact Nat.mod_lt _ hn0
    clear hi0 hi1
    obtain ⟨_, _, he0, _, hc0, _⟩ := bys_at hrow l0
    obtain ⟨_, _, he1, hbg, hc1, hf1⟩ := bys_at hrow l1
    simp only [Value.slice.injEq, Option.some.injEq, Addr.mk.injEq, and_true, true_and] at he0 he1
    obtain ⟨rfl, rfl⟩ := he0
    obtain ⟨rfl, -⟩ := he1
    have HR := Lib.hid hrow
    have p0 : (0 : Int) ≤ (i0 : Int) := by omega
    have q0 : (i0 : Int) < (N : Int) := by omega
    have p1 : (0 : Int) ≤ (i1 : Int) := by omega
    have q1 : (i1 : Int) < (N : Int) := by omega
    have hnz : ¬ (N : Int) = 0 := by omega
    refine wpIn_block ?_
    refine regionIn_drew_tail 17 (fun _ => trivial) (fun ⟨_, _, h⟩ => h) rfl (by kernel_rfl) (by kernel_rfl) ?_
    simp only [List.take_succ_cons, List.take_zero, List.drop_succ_cons, List.drop_zero]
    repeat (go_big_quiet_step (fail))
    refine wpQuiet_nil ?_
    intro _ hw'
    obtain ⟨nq, rfl⟩ := hw'
    go_wp2
    have hUg : Upd (· = g2) W ((W.drewN nq).setCell ⟨g2, i1, none⟩ (.int .u8 (fp i0 : Int))) := ((Upd.refl (· = g2) W).drewN nq).here _
    have hWm : (W.drewN nq).ownsRow w.heap.size 5 1 (.slice (some ⟨g2, 0, none⟩) N cap2) N (bys fp N) := own_upd HR.out ((Upd.refl (fun _ => False) W).drewN nq) (fun _ _ h => h)
    obtain ⟨hst, _⟩ := hWm.stored i1 (.int .u8 (fp i0 : Int))
    rw [bys_set i1 (fp i0) l1] at hst
    have hk1 : ∀ i, i ≠ g2 → i < W.heap.size → ((W.drewN nq).setCell ⟨g2, i1, none⟩ (.int .u8 (fp i0 : Int))).heap[i]? = W.heap[i]? := fun i hi hlt => hUg.block i hlt hi
    have hX5 := HX.out.kept (W' := (W.drewN nq).setCell ⟨g2, i1, none⟩ (.int .u8 (fp i0 : Int))) fun i h1 h2 => hk1 i (by omega) (by have := HX.out.lt; omega)
    have hV5 : Boxed ((W.drewN nq).setCell ⟨g2, i1, none⟩ (.int .u8 (fp i0 : Int))) O 107 (.slice (some ⟨g2, 0, none⟩) N cap2) := (hk1 O (by omega) HV.out.lt).trans HV.out
    have hB5 : Below w.heap.size w ((W.drewN nq).setCell ⟨g2, i1, none⟩ (.int .u8 (fp i0 : Int))) := hUg.to HB.out HB.out.size (fun b hb => by show w.heap.size ≤ b; omega)
    exact ⟨⟨hUg.size, fun k' _ h1 h2 _ => (hk1 k' (by omega) (Array.getElem?_eq_some_iff.1 h2).1).trans h2⟩, fun _ => hX5, ⟨⟨_, hV5, by rw [HS.out]; exact hst, rfl⟩, hX5⟩, hB5⟩
  case done =>
    rintro D ys W hD rfl ⟨⟨⟨_, hv, hrow, rfl⟩, hX2⟩, hB⟩ hK
    have hc := hv.cell
    gi_wp2
    refine ⟨by simp, .inl ⟨_, _, rfl, run_takeDeferred hK, ?_⟩⟩
    exact ⟨_, results_tmp2 rfl _ _ _, _, rfl, ownsRow_putObj hrow _ hK rfl, hB.trans (belowK_b (w := w) (Nat.le_refl _) W D _ _ (by omega) hK rfl rfl)⟩
  case stop =>
    rintro D c pre W _ _ h _
    exact h.elim
end Go.Proofs.Ytgkbpdcedighcac
