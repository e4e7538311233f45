/-
  The walk of moves: All.
-/
import Derived.Test.YtgkbpdcedighcacMov
import Derived.RangeFuncBox
import Derived.Maps.AppendAt
import Derived.Shelf.Abstract
namespace Go.Proofs.Ytgkbpdcedighcac
open Go.RowKit Go.Sort Go.Shelf

attribute [local go_sem] Oper.semAt_some

theorem infoM : (Try.prog.info? 113).map (fun i => (i.zero, i.size, i.bytes)) = some (some (.agg #[.int .u16 0, .int .u16 0]), 2, 4) := by kernel_rfl

theorem keepsFrom_below {B : Nat} {W W' : World} (h : Below W.heap.size W W') : KeepsFrom B W W' := ⟨h.size, fun k _ _ hk _ => (h.block k (Array.getElem?_eq_some_iff.1 hk).1).trans hk⟩
theorem bx_below {B k a b L : Nat} {W W' : World} (h : Bx B k a b L W) (hb : Below W.heap.size W W') : Bx B k a b L W' := h.kept fun i _ hi => hb.block i (by have := h.lt; omega)
theorem ownFrom_b {β : Type} {N : Nat} {I : β → World → Prop} (hI : OwnFrom N I) {s : β} {W W' : World} (h : I s W) (hb : Below W.heap.size W W') : I s W' := hI s W W' none h ⟨hb.os, hb.tape, hb.output, hb.size, fun k hk _ => hb.block k hk⟩ (fun r e => by cases e)
/-- The boxes lie where an append to a row of moves and a store into its box have turned nothing. -/
theorem bx_app {B k a b L : Nat} {W w1 : World} {base : Nat} {v v' : Value} {n : Nat} {xs : List Value} {tmp : Obj} {O : Nat} (h : Bx B k a b L W) (hrow : W.ownsRow base 113 2 v n xs) (hg : (W.alloc tmp).grownBy w1 v.ownBlock) (hO : O < B) :
    Bx B k a b L (w1.setCell ⟨O, 0, none⟩ v') :=
  ⟨((h.k_.alloc tmp).kept hg (h.k_.not_row (by decide) hrow)).other (by omega) _, ((h.a_.alloc tmp).kept hg (h.a_.not_row (by decide) hrow)).other (by omega) _,
    ((h.b_.alloc tmp).kept hg (h.b_.not_row (by decide) hrow)).other (by omega) _, ((h.l_.alloc tmp).kept hg (h.l_.not_row (by decide) hrow)).other (by omega) _⟩

/-- What All's rounds keep. -/
def AI (w : World) (k a b L : Nat) (pre : List Nat) (W : World) : Prop :=
  ((∃ v, Boxed W w.heap.size 109 v ∧ W.ownsRow w.heap.size 113 2 v pre.length (mrow (wyF k a) (wyT k b) pre) ∧ True) ∧ Bx (w.heap.size + 1) k a b L W) ∧ Below w.heap.size w W
theorem ai_own (w : World) (k a b L N : Nat) (hN : w.heap.size ≤ N) : OwnFrom N (AI w k a b L) :=
  OwnFrom.and (OwnFrom.and (Own.from (holdsRow_own w.heap.size w.heap.size 109 113 2 (fun pre => pre.length) (fun pre => mrow (wyF k a) (wyT k b) pre) (fun _ _ => True)) _) (bx_own _ _ _ _ _ _)) (ownFrom_below (Nat.le_refl _) hN)

set_option maxRecDepth 100000 in
set_option maxHeartbeats 4000000 in
theorem All_in (k a b L : Nat) (hk : k < 5) (ha : a < 65536) (hb : b < 65536) (h0 : 1 ≤ L) (hL : L ≤ 500) (w : World) :
    CallsIn Fence.wide 5 Try.prog 62 #[.int .u8 (k : Int), .int .u16 (a : Int), .int .u16 (b : Int), .int .u16 (L : Int)] w fun e W' => ∃ v, e = .returned v ∧ W'.ownsRow w.heap.size 113 2 v L (mrow (wyF k a) (wyT k b) (List.range L)) ∧ Below w.heap.size w W' := by
  obtain ⟨i0, hi, hz0, hz1, hz2⟩ := info_parts infoM
  have hge : ¬ (5 : Int) ≤ (k : Int) := by omega
  have KW := fun w => Ways_any k a b L w
  refine callsIn_of_wp_marks Try.func62 rfl trivial ?_ rfl
  simp only [Try.ntmps62, List.size_toArray, List.length_cons, List.length_nil, Nat.reduceAdd, Nat.reduceSub, Array.replicate_succ, Array.replicate_zero, List.push_toArray, List.append_toArray, List.nil_append, List.cons_append]
  gi_wp2_with (refine ⟨trivial, ?_⟩; gi_at_call 106; refine (callsIn_wide.2 (KW _)).mono ?_; rintro e w1 ⟨rfl, hX, hb1, hs1⟩)
  have hbO : Below w.heap.size w (w.alloc (.cells #[.slice none 0 0] 109)) := (Below.refl _ w).alloc (Nat.le_refl _) _
  have hsz : (w.alloc (.cells #[.slice none 0 0] 109)).heap.size = w.heap.size + 1 := by simp
  have hBw : Below w.heap.size w w1 := step_below hbO hb1
  have bO : Boxed w1 w.heap.size 109 (.slice none 0 0) := (hb1.block w.heap.size (by omega)).trans (Boxed.new w _ _)
  rw [hsz] at hX hs1
  have hI0 : AI w k a b L [] w1 := ⟨⟨⟨_, bO, World.ownsRow_nil _ _ _ _, trivial⟩, hX⟩, hBw⟩
  have hown := ai_own w k a b L w1.heap.size (by omega)
  clear hbO hb1 bO hBw KW
  refine wpIn_rangeFunc_ownH rfl (by omega) (gf := 125) (lb := caps (w.heap.size + 1)) rfl trivial (enters_of Try.func125 (by kernel_rfl) rfl)
    (Ways_stops _ (by omega) (w.heap.size + 1) k a b L hk ha hb h0 (by omega) w1 hX) bx_t (bx_b (by omega)) (Below.refl _ _) (fun _ => rfl)
    (AI w k a b L) (fun _ _ _ => False) hown (fun _ _ _ _ _ hs _ _ => hs) hI0
    (fun x a' W => ∃ Bm, At W Bm 113 (mcs (wyF k a) (wyT k b) x) ∧ a' = { tmps := #[.int .u8 (k : Int), .int .u16 (a : Int), .int .u16 (b : Int), .int .u16 (L : Int), undef, undef, undef, undef, .slice none 0 0, .pointer (some ⟨w.heap.size, 0, none⟩), .pointer (some ⟨Bm, 0, none⟩), .int .u8 (k : Int), .bool false, .int .u8 (k : Int), .int .u16 (a : Int), .int .u16 (b : Int), .int .u16 (L : Int), .func (.func 125) #[] (caps (w.heap.size + 1)), .agg #[.int .u16 (wyF k a x : Int), .int .u16 (wyT k b x : Int)], undef, undef, undef, undef, undef], defers := [] })
    (fun x a' _ X Y row hs hg hr => by
      obtain ⟨Bm, h1, h2⟩ := hs
      exact ⟨Bm, h1.grown hg (fun e => by obtain ⟨_, o, ho, hc⟩ := hr Bm e; unfold At at h1; rw [h1] at ho; cases ho; cases hc), h2⟩)
    ?assign ?body ?done ?stop
  case assign =>
    rintro l pre x W K hi2 hK
    refine regionIn_lit (fun _ => trivial) (fun ⟨_, _, h⟩ => h) rfl ?_
    have hN : At (W.alloc (.cells #[.int .u16 0, .int .u16 0] 113)) W.heap.size 113 [.int .u16 0, .int .u16 0] := At.new W _ _
    simp only [menc, mcs]
    go_wp2_with (with_reducible refine wpList_store_row rfl 113 (.tmp 10) (.tmp 18) rfl rfl W.heap.size (by kernel_rfl) [.int .u16 (wyF k a x : Int), .int .u16 (wyT k b x : Int)] (by kernel_rfl) 113 [.int .u16 0, .int .u16 0] hN (by kernel_rfl) (by kernel_rfl) (mone _ _) ?_)
    intro w5 hA5 hU5
    have hb5 : Below W.heap.size W w5 := step_upd ((Below.refl _ W).alloc (Nat.le_refl _) _) hU5 (Nat.le_refl _)
    exact hK _ _ (keepsFrom_below hb5) (fun h => bx_below h hb5) (ownFrom_b hown hi2 hb5) ⟨W.heap.size, hA5, rfl⟩
  case body =>
    rintro l pre x a' W hl _ ⟨⟨⟨v, hv, hrow, -⟩, hX2⟩, hB⟩ ⟨Bm, hM, rfl⟩ hlt
    have hc := hv.cell
    have hlen : pre.length + 1 ≤ 500 := by omega
    have hmx : pre.length + 1 ≤ maxLen := by unfold maxLen; omega
    have hmb : (pre.length + 1) * 4 ≤ 140737488355328 := by omega
    have hszW : w.heap.size ≤ (W.alloc (.cells #[.int .u16 (wyF k a x : Int), .int .u16 (wyT k b x : Int)] 113)).heap.size := by have := hB.size; simp; omega
    have hN := At.new W #[.int .u16 (wyF k a x : Int), .int .u16 (wyT k b x : Int)] 113
    have hnews : ∀ (j : Nat) u, [Value.int .u16 (wyF k a x : Int), .int .u16 (wyT k b x : Int)][j]? = some u → (W.alloc (.cells #[.int .u16 (wyF k a x : Int), .int .u16 (wyT k b x : Int)] 113)).cell? ((⟨W.heap.size, 0, none⟩ : Addr).add j) = some u := fun j u hu => by
      rw [Addr.add_lit, Nat.zero_add]; exact hN.cell j hu
    have hrow' := mrow_snoc (wyF k a) (wyT k b) pre x
    have hne : mcs (wyF k a) (wyT k b) x = [.int .u16 (wyF k a x : Int), .int .u16 (wyT k b x : Int)] := rfl
    rw [hne] at hrow' hM
    refine wpIn_block ?_
    refine regionIn_lit (fun _ => trivial) (fun ⟨_, _, h⟩ => h) rfl ?_
    go_wp2_with (first
      | (with_reducible refine wpList_load_at rfl 113 (.tmp 10) rfl Bm (by kernel_rfl) 113 [.int .u16 (wyF k a x : Int), .int .u16 (wyT k b x : Int)] hM _ Try.underlying113 rfl (by kernel_rfl) ?_)
      | (at_builtin; go_loud (refine wpList_append_own _ rfl _ _ 109 rfl w.heap.size 113 i0 (.agg #[.int .u16 0, .int .u16 0]) 2 4 Try.underlying109 hi hz0 hz1 hz2 rfl (by decide) _ pre.length _ rfl (hrow.alloc _) ⟨W.heap.size, 0, none⟩ 1 1 [.int .u16 (wyF k a x : Int), .int .u16 (wyT k b x : Int)] rfl rfl hnews (mone _ _) hmx hmb hszW ?_)))
    intro v' w6 hO6 hg6 _
    obtain ⟨g', cap', rfl⟩ := ownsRow_succ hO6
    obtain ⟨hv1, hv2, hr2, hk2, hb2⟩ := hv.appended (by decide) hrow hB.size (Nat.le_refl _) hO6 hg6
    have hX6 := bx_app (v' := .slice (some ⟨g', 0, none⟩) (pre.length + 1) cap') (O := w.heap.size) hX2 hrow hg6 (by omega)
    have hc1 := hv1.cell
    have hf1 := hv1.frozen
    go_wp2
    exact ⟨hk2.from _, fun _ => hX6, ⟨⟨_, hv2, by rw [hrow', List.length_append]; exact hr2, trivial⟩, hX6⟩, hB.trans hb2⟩
  case done =>
    rintro D ys W hD rfl ⟨⟨⟨v, hv, hrow, -⟩, hX2⟩, hB⟩ hK
    have hc := hv.cell
    rw [List.length_range] at hrow
    gi_wp2
    refine ⟨by simp, .inl ⟨_, _, rfl, run_takeDeferred hK, ?_⟩⟩
    exact ⟨_, results_tmp rfl _ _ _, v, rfl, ownsRow_putObj hrow _ hK rfl, hB.trans (belowK_b (w := w) (Nat.le_refl _) W D _ _ (by omega) hK rfl rfl)⟩
  case stop =>
    rintro D c pre W _ _ h _
    exact h.elim
end Go.Proofs.Ytgkbpdcedighcac
