/-
  The walks of moves: way, Count, ways and the function that it hands back.
-/
import Derived.Test.YtgkbpdcedighcacMovP
import Derived.Test.YtgkbpdcedighcacRoundR
import Derived.Test.YtgkbpdcedighcacRowL
namespace Go.Proofs.Ytgkbpdcedighcac
open Go.RowKit Go.Sort

attribute [local go_sem] Oper.semAt_some

theorem mone (a b : Nat) : ∀ v ∈ [Value.int .u16 (a : Int), .int .u16 (b : Int)], v.oneCell' = true := by
  intro v hv
  simp at hv
  rcases hv with rfl | rfl <;> rfl

set_option maxRecDepth 100000 in
set_option maxHeartbeats 4000000 in
theorem Way_any (k a b n : Nat) (hk : k < 5) (ha : a < 65536) (hb : b < 65536) (hn : n < 65536) (w : World) :
    Calls Try.prog 127 #[.int .u8 (k : Int), .int .u16 (a : Int), .int .u16 (b : Int), .int .u16 (n : Int)] w fun e w' => e = .returned (.agg #[.int .u16 (wyF k a n : Int), .int .u16 (wyT k b n : Int)]) ∧ Below w.heap.size w w' := by
  obtain ⟨x, hx⟩ : ∃ x, x = wyF k a n := ⟨_, rfl⟩
  obtain ⟨y, hy⟩ : ∃ y, y = wyT k b n := ⟨_, rfl⟩
  rw [← hx, ← hy]
  unfold wyF at hx
  unfold wyT at hy
  have hb1 : Below w.heap.size w (w.alloc (.cells #[.int .u16 0, .int .u16 0] 113)) := (Below.refl _ w).alloc (Nat.le_refl _) _
  have hA := At.new w #[.int .u16 0, .int .u16 0] 113
  replace hA : At (w.alloc (.cells #[.int .u16 0, .int .u16 0] 113)) w.heap.size 113 [.int .u16 0, .int .u16 0] := hA
  have hc : k = 0 ∨ k = 1 ∨ k = 2 ∨ k = 3 ∨ k = 4 := by omega
  obtain ⟨r, hr⟩ : ∃ r, r = n % 2 := ⟨_, rfl⟩
  have hr2 : (n : Int).tmod 2 = (r : Int) := by rw [Int.tmod_eq_emod_of_nonneg (by omega), hr]; rfl
  rw [← hr] at hx hy
  rcases hc with rfl | rfl | rfl | rfl | rfl
  · have h1 : IntKind.u16.wrap ((a : Int) + (n : Int)) = (x : Int) := by rw [IntKind.wrap_u16]; simp at hx; omega
    have h2 : IntKind.u16.wrap ((b : Int) + (n : Int)) = (y : Int) := by rw [IntKind.wrap_u16]; simp at hy; omega
    clear hx hy hr
    go_enter Try.func127, Try.ntmps127
    go_wp2_with (with_reducible refine wpList_store_row rfl 113 (.tmp 8) (.tmp 18) rfl rfl w.heap.size (by kernel_rfl) [.int .u16 (x : Int), .int .u16 (y : Int)] (by kernel_rfl) 113 [.int .u16 0, .int .u16 0] hA (by kernel_rfl) (by kernel_rfl) (mone x y) ?_)
    intro w5 hA5 hU5
    have hB5 := step_upd hb1 hU5 (Nat.le_refl _)
    go_wp2
    refine bodyPost_ret (results_cell_at rfl _ _ w.heap.size 113 _ hA5 _ (by kernel_rfl) Try.underlying113 rfl (by kernel_rfl)) rfl ?_
    exact ⟨rfl, hB5⟩
  · have h1 : IntKind.u16.wrap ((a : Int) - (n : Int)) = (x : Int) := by rw [IntKind.wrap_u16]; simp at hx; omega
    have h2 : IntKind.u16.wrap ((b : Int) - (n : Int)) = (y : Int) := by rw [IntKind.wrap_u16]; simp at hy; omega
    clear hx hy hr
    go_enter Try.func127, Try.ntmps127
    go_wp2_with (with_reducible refine wpList_store_row rfl 113 (.tmp 8) (.tmp 27) rfl rfl w.heap.size (by kernel_rfl) [.int .u16 (x : Int), .int .u16 (y : Int)] (by kernel_rfl) 113 [.int .u16 0, .int .u16 0] hA (by kernel_rfl) (by kernel_rfl) (mone x y) ?_)
    intro w5 hA5 hU5
    have hB5 := step_upd hb1 hU5 (Nat.le_refl _)
    go_wp2
    refine bodyPost_ret (results_cell_at rfl _ _ w.heap.size 113 _ hA5 _ (by kernel_rfl) Try.underlying113 rfl (by kernel_rfl)) rfl ?_
    exact ⟨rfl, hB5⟩
  · have h1 : IntKind.u16.wrap ((a : Int) + (n : Int)) = (x : Int) := by rw [IntKind.wrap_u16]; simp at hx; omega

    obtain rfl : y = b := by simp at hy; omega
    clear hx hy hr
    go_enter Try.func127, Try.ntmps127
    go_wp2_with (with_reducible refine wpList_store_row rfl 113 (.tmp 8) (.tmp 34) rfl rfl w.heap.size (by kernel_rfl) [.int .u16 (x : Int), .int .u16 (y : Int)] (by kernel_rfl) 113 [.int .u16 0, .int .u16 0] hA (by kernel_rfl) (by kernel_rfl) (mone x y) ?_)
    intro w5 hA5 hU5
    have hB5 := step_upd hb1 hU5 (Nat.le_refl _)
    go_wp2
    refine bodyPost_ret (results_cell_at rfl _ _ w.heap.size 113 _ hA5 _ (by kernel_rfl) Try.underlying113 rfl (by kernel_rfl)) rfl ?_
    exact ⟨rfl, hB5⟩
  · have h1 : IntKind.u16.wrap ((a : Int) + (n : Int)) = (x : Int) := by rw [IntKind.wrap_u16]; simp at hx; omega
    have h2 : IntKind.u16.wrap ((b : Int) + (r : Int)) = (y : Int) := by rw [IntKind.wrap_u16]; simp at hy; omega
    clear hx hy hr
    go_enter Try.func127, Try.ntmps127
    go_wp2_with (with_reducible refine wpList_store_row rfl 113 (.tmp 8) (.tmp 44) rfl rfl w.heap.size (by kernel_rfl) [.int .u16 (x : Int), .int .u16 (y : Int)] (by kernel_rfl) 113 [.int .u16 0, .int .u16 0] hA (by kernel_rfl) (by kernel_rfl) (mone x y) ?_)
    intro w5 hA5 hU5
    have hB5 := step_upd hb1 hU5 (Nat.le_refl _)
    go_wp2
    refine bodyPost_ret (results_cell_at rfl _ _ w.heap.size 113 _ hA5 _ (by kernel_rfl) Try.underlying113 rfl (by kernel_rfl)) rfl ?_
    exact ⟨rfl, hB5⟩
  · have h1 : IntKind.u16.wrap ((a : Int) + (r : Int)) = (x : Int) := by rw [IntKind.wrap_u16]; simp at hx; omega
    have h2 : IntKind.u16.wrap ((b : Int) + (n : Int)) = (y : Int) := by rw [IntKind.wrap_u16]; simp at hy; omega
    clear hx hy hr
    go_enter Try.func127, Try.ntmps127
    go_wp2_with (with_reducible refine wpList_store_row rfl 113 (.tmp 8) (.tmp 52) rfl rfl w.heap.size (by kernel_rfl) [.int .u16 (x : Int), .int .u16 (y : Int)] (by kernel_rfl) 113 [.int .u16 0, .int .u16 0] hA (by kernel_rfl) (by kernel_rfl) (mone x y) ?_)
    intro w5 hA5 hU5
    have hB5 := step_upd hb1 hU5 (Nat.le_refl _)
    go_wp2
    refine bodyPost_ret (results_cell_at rfl _ _ w.heap.size 113 _ hA5 _ (by kernel_rfl) Try.underlying113 rfl (by kernel_rfl)) rfl ?_
    exact ⟨rfl, hB5⟩

theorem Count_any (L : Nat) (h0 : 1 ≤ L) (hL : L < 65536) (w : World) : Calls Try.prog 126 #[.int .u16 (L : Int)] w fun e w' => e = .returned (.int .i64 (L : Int)) ∧ w = w' := by
  have h1 : IntKind.u16.wrap ((L : Int) - 1) = ((L - 1 : Nat) : Int) := by rw [IntKind.wrap_u16]; omega
  have h2 : IntKind.i64.wrap (((L - 1 : Nat) : Int) + 1) = (L : Int) := by rw [IntKind.wrap_i64]; omega
  have h3 : IntKind.i64.wrap ((L - 1 : Nat) : Int) = ((L - 1 : Nat) : Int) := by rw [IntKind.wrap_i64]; omega
  generalize L - 1 = M at *
  go_enter Try.func126, Try.ntmps126
  go_wp2
  go_ret
  exact ⟨rfl, rfl⟩

/-- The four variables' boxes. -/
structure Bx (B k a b L : Nat) (W : World) : Prop where
  k_ : Boxed W B 5 (.int .u8 (k : Int))
  a_ : Boxed W (B + 1) 67 (.int .u16 (a : Int))
  b_ : Boxed W (B + 1 + 1) 67 (.int .u16 (b : Int))
  l_ : Boxed W (B + 1 + 1 + 1) 67 (.int .u16 (L : Int))
/-- The closure's captures. -/
def caps (B : Nat) : Array Value := #[.pointer (some ⟨B + 1 + 1 + 1, 0, none⟩), .pointer (some ⟨B, 0, none⟩), .pointer (some ⟨B + 1, 0, none⟩), .pointer (some ⟨B + 1 + 1, 0, none⟩)]
theorem Bx.kept {B k a b L : Nat} {W W' : World} (h : Bx B k a b L W) (he : ∀ i, B ≤ i → i < B + 4 → W'.heap[i]? = W.heap[i]?) : Bx B k a b L W' :=
  ⟨(he _ (by omega) (by omega)).trans h.k_, (he _ (by omega) (by omega)).trans h.a_, (he _ (by omega) (by omega)).trans h.b_, (he _ (by omega) (by omega)).trans h.l_⟩
theorem Bx.lt {B k a b L : Nat} {W : World} (h : Bx B k a b L W) : B + 3 < W.heap.size := h.l_.lt

theorem Ways_any (k a b L : Nat) (w : World) : Calls Try.prog 106 #[.int .u8 (k : Int), .int .u16 (a : Int), .int .u16 (b : Int), .int .u16 (L : Int)] w fun e w' => e = .returned (.func (.func 125) #[] (caps w.heap.size)) ∧ Bx w.heap.size k a b L w' ∧ Below w.heap.size w w' ∧ w'.heap.size = w.heap.size + 4 := by
  have hmf : ∀ (fn : Fn) (first cap : Array Value) (w : World), (Instr.makeFunc fn first cap).run Try.prog w = .ok (.func fn first cap) w := fun _ _ _ _ => rfl
  go_enter Try.func106, Try.ntmps106
  go_wp2
  go_ret
  have b0 := Boxed.new w 5 (.int .u8 (k : Int))
  have b1 := Boxed.new (w.alloc (.cells #[.int .u8 (k : Int)] 5)) 67 (.int .u16 (a : Int))
  have b2 := Boxed.new ((w.alloc (.cells #[.int .u8 (k : Int)] 5)).alloc (.cells #[.int .u16 (a : Int)] 67)) 67 (.int .u16 (b : Int))
  have b3 := Boxed.new (((w.alloc (.cells #[.int .u8 (k : Int)] 5)).alloc (.cells #[.int .u16 (a : Int)] 67)).alloc (.cells #[.int .u16 (b : Int)] 67)) 67 (.int .u16 (L : Int))
  simp only [World.size_alloc] at b1 b2 b3
  refine ⟨rfl, ⟨((b0.alloc _).alloc _).alloc _, (b1.alloc _).alloc _, b2.alloc _, b3⟩, ?_, by simp⟩
  exact ((((Below.refl _ w).alloc (Nat.le_refl _) _).alloc (by simp) _).alloc (by simp; omega) _).alloc (by simp; omega) _

/-- A move, handed over. -/
def menc (F T : Nat → Nat) (n : Nat) : Array Value := #[.agg (mcs F T n).toArray]

set_option maxRecDepth 100000 in
set_option maxHeartbeats 4000000 in
theorem Ways1_in (m : Nat) (hm : 1 ≤ m) (B k a b L l : Nat) (hk : k < 5) (ha : a < 65536) (hb : b < 65536) (h0 : 1 ≤ L) (hL : L < 65536) (J Jx : List Nat → World → Prop)
    (hY : ∀ pre x W, J pre W → pre.length < L → YieldAt Fence.wide (m - 1) Try.prog l (menc (wyF k a) (wyT k b) x) W fun e W' =>
      (e = .returned (.bool true) ∧ J (pre ++ [x]) W' ∧ (Bx B k a b L W → Bx B k a b L W')) ∨ (e = .returned (.bool false) ∧ Jx (pre ++ [x]) W'))
    (hJb : ∀ pre W W', J pre W → Below W.heap.size W W' → J pre W')
    (W : World) (hB : Bx B k a b L W) (hJ : J [] W) :
    CallsIn Fence.wide m Try.prog 125 (#[.func (.yield l) #[] #[]] ++ caps B) W fun e W' => (∃ v, e = .returned v) ∧
      ((∃ ys, ys = List.range L ∧ J ys W') ∨ (∃ pre, True ∧ Jx pre W')) := by
  have KC := fun w => Count_any L h0 hL w
  have c0 := hB.l_.cell
  refine callsIn_of_wp Try.func125 rfl trivial ?_ rfl
  simp only [caps, Try.ntmps125, List.size_toArray, List.length_cons, List.length_nil, Nat.reduceAdd, Nat.reduceSub, Array.replicate_succ, Array.replicate_zero, List.push_toArray, List.append_toArray, List.nil_append, List.cons_append]
  gi_wp2_with (refine ⟨trivial, ?_⟩; gi_at_call 126; refine (callsIn_wide.2 (KC _)).mono ?_; rintro e w' ⟨rfl, rfl⟩)
  gi_loopw [9] (fun i wr => ∃ n : Nat, n ≤ L ∧ i = .int .i64 n ∧ J (List.range n) wr ∧ Bx B k a b L wr)
    (fun i _ => L - (intOf i).toNat)
  case atStart => exact ⟨0, Nat.zero_le _, rfl, hJ, hB⟩
  case round =>
    obtain ⟨n, hn, rfl, hJs, hBs⟩ := hrel
    by_cases hlt : n < L
    · have d0 := hBs.k_.cell
      have d1 := hBs.a_.cell
      have d2 := hBs.b_.cell
      have hw : IntKind.u16.wrap (n : Int) = (n : Int) := by rw [IntKind.wrap_u16]; omega
      have KW := fun w => Way_any k a b n hk ha hb (by omega) w
      gi_wp2_with (refine ⟨trivial, ?_⟩; gi_at_call 127; refine (callsIn_wide.2 (KW _)).mono ?_; rintro e w1 ⟨rfl, hb1⟩; obtain ⟨fn, tmps, assign, body, hy, hR⟩ := hY _ n w1 (hJb _ _ _ hJs hb1) (by rw [List.length_range]; exact hlt); replace hy : (Instr.yield l #[.agg #[.int .u16 (wyF k a n : Int), .int .u16 (wyT k b n : Int)]]).run Try.prog w1 = _ := hy)
      have hBs1 := hBs.kept (W' := w1) (fun i _ hi => hb1.block i (by have := hBs.lt; omega))
      refine hR.mono ?_
      rintro e W3 (⟨rfl, hJ3, hk3⟩ | ⟨rfl, hJx3⟩)
      · have hB3 := hk3 hBs1
        gi_wp2
        go_roundw
        case rel => exact ⟨n + 1, by omega, by simp, by rw [List.range_succ]; exact hJ3, hB3⟩
        case measure => simp [intOf]; omega
      · gi_wp2
        refine bodyPost_ret (results_none rfl _ _ _) rfl ?_
        exact ⟨⟨_, rfl⟩, .inr ⟨_, trivial, hJx3⟩⟩
    · obtain rfl : n = L := by omega
      gi_wp2
      go_end0
      exact ⟨⟨_, rfl⟩, .inl ⟨_, rfl, hJs⟩⟩

theorem Ways_stops (m : Nat) (hm : 1 ≤ m) (B k a b L : Nat) (hk : k < 5) (ha : a < 65536) (hb : b < 65536) (h0 : 1 ≤ L) (hL : L < 65536) (w : World) (hw : Bx B k a b L w) :
    SeqStopsK Fence.wide m Try.prog 125 (caps B) (menc (wyF k a) (wyT k b)) (fun W W' => Bx B k a b L W → Bx B k a b L W') (fun ys => ys = List.range L) (fun _ => True) L w := fun l J Jx W hW hJ _ hY hJ0 =>
  Ways1_in m hm B k a b L l hk ha hb h0 hL J Jx hY (fun pre W1 W2 h1 h2 => hJ pre W1 W2 none h1 ⟨h2.os, h2.tape, h2.output, h2.size, fun k hk _ => h2.block k hk⟩ (fun r e => by cases e)) W
    (hw.kept fun i _ hi => hW.block i (by have := hw.lt; omega)) hJ0
theorem bx_t {B k a b L : Nat} {W1 W2 W3 : World} (h : Bx B k a b L W1 → Bx B k a b L W2) (h' : Bx B k a b L W2 → Bx B k a b L W3) : Bx B k a b L W1 → Bx B k a b L W3 := fun x => h' (h x)
theorem bx_b {B k a b L : Nat} {n : Nat} (hn : B + 4 ≤ n) (W : World) (l : Nat) (o o' : Obj) (hl : n ≤ l) (_ : W.heap[l]? = some o) (_ : o.isCells = false) (_ : o.isWalk = false) : Bx B k a b L W → Bx B k a b L (W.putObj l o') := fun x =>
  x.kept fun i _ hi => World.putObj_heap_other (by omega)
theorem bx_own {β : Type} (N B k a b L : Nat) : OwnFrom N (fun (_ : β) W => Bx B k a b L W) := fun s W W' row hs hg hr => ⟨
  boxed_own B 5 (fun _ => .int .u8 (k : Int)) s W W' row hs.k_ hg (fun r e => (hr r e).2), boxed_own _ 67 (fun _ => .int .u16 (a : Int)) s W W' row hs.a_ hg (fun r e => (hr r e).2),
  boxed_own _ 67 (fun _ => .int .u16 (b : Int)) s W W' row hs.b_ hg (fun r e => (hr r e).2), boxed_own _ 67 (fun _ => .int .u16 (L : Int)) s W W' row hs.l_ hg (fun r e => (hr r e).2)⟩
end Go.Proofs.Ytgkbpdcedighcac
