/-
  The walks of lines: New.
-/
import Derived.Test.YtgkbpdcedighcadLinesW
namespace Go.Proofs.Ytgkbpdcedighcad
open Go.RowKit Go.Sort

section
open Go
variable {P : Program}
theorem results_cell_at3 {fn : Func} {p u : Tmp} {ty : TypeId} (h : fn.results = #[.tmp u, .cell p ty]) (tmps : Array Value) (w : World) (g : Nat) (t : TypeId) (cs : List Value) (hA : At w g t cs) (d : TypeDesc)
    (hp : tmps.getD p undef = .pointer (some ⟨g, 0, none⟩)) (hu : P.underlying ty = some d) (hd : (match d with | .struct _ | .array _ _ => true | _ => false) = true) (hi : (P.info? ty).map (·.size) = some cs.length) :
    (results fn tmps).run P w = .ok (.tuple #[tmps.getD u undef, .agg cs.toArray]) w := by
  have e : (asAddr (.pointer (some ⟨g, 0, none⟩))).run P w = .ok ⟨g, 0, none⟩ w := rfl
  have hl := run_loadVar_row w g t ty cs.toArray (0, 0) d hA hu hd (by simpa using hi)
  have hs : (results fn tmps).run P w = ((asAddr (tmps.getD p undef)).run P w).andThen fun a w₁ => ((loadVar ty a).run P w₁).andThen fun v w₂ => .ok (.tuple #[tmps.getD u undef, v]) w₂ := by
    simp only [results, h]
    simp [Sem.run_bind, Result.andThen]
  rw [hs, hp]
  simp only [e, Result.andThen_ok, hl]

theorem below_drewN {b : Nat} {w w' : World} (h : RowKit.Below b w w') (n : Nat) : RowKit.Below b w (w'.drewN n) := ⟨h.os, h.tape, h.output, h.size, h.block⟩
end

section
variable (a : Option Addr) (n cap : Nat) (E : Nat → Ed) (w : World)

theorem fone (x y : Int) : ∀ v ∈ ([.int .i64 x, .int .i64 y] : List Value), v.oneCell' = true := by
  intro v hv; simp only [List.mem_cons, List.not_mem_nil, or_false] at hv; rcases hv with rfl | rfl <;> rfl

set_option maxRecDepth 100000 in
set_option maxHeartbeats 4000000 in
theorem New_bad (hE : Eds w a n E) (hn : n ≤ cap) (hz : (ckZ E n).1 ≠ 0) :
    Calls Try.prog 10 #[.slice a n cap] w fun e w' => e = .returned (.tuple #[.pointer none, .agg #[.int .i64 (ckZ E n).1, .int .i64 (ckZ E n).2]]) ∧ Below w.heap.size w w' := by
  have k1 := fun w0 (h : Below w.heap.size w w0) => Check_any a n cap E w0 (hE.below h) hn
  clear hE
  obtain ⟨⟨p, q⟩, hpq⟩ : ∃ x, ckZ E n = x := ⟨_, rfl⟩
  rw [hpq] at k1 hz ⊢
  replace hz : p ≠ 0 := hz
  clear hpq
  have hbn : Below w.heap.size w (w.alloc (.cells #[.int .i64 0, .int .i64 0] 30)) := (Below.refl _ w).alloc (Nat.le_refl _) _
  have HN : Hid (At (w.alloc (.cells #[.int .i64 0, .int .i64 0] 30)) w.heap.size 30 [.int .i64 0, .int .i64 0]) := Lib.hid (At.new w _ _)
  have hd : (p != 0) = true := by rw [bne_iff_ne]; exact hz
  go_enter Try.func10, Try.ntmps10
  go_wp2_with fail
  refine (k1 _ hbn).mono ?_
  rintro e w1 ⟨rfl, hb1⟩
  have HN1 := Lib.hid ((HN.out.below hb1 HN.out.lt).alloc (.cells #[.int .i64 0, .int .i64 0] 30))
  have hlt := HN.out.lt
  have hs1 := hb1.size
  have hA4 : At (w1.alloc (.cells #[.int .i64 0, .int .i64 0] 30)) w1.heap.size 30 [.int .i64 0, .int .i64 0] := At.new w1 _ _
  have hB1 : Below w.heap.size w (w1.alloc (.cells #[.int .i64 0, .int .i64 0] 30)) := (step_below hbn hb1).alloc (step_below hbn hb1).size _
  clear k1 hbn HN hb1
  go_wp2_with (with_reducible refine wpList_store_row rfl 30 (.tmp 4) (.tmp 6) rfl rfl w1.heap.size (by kernel_rfl) [.int .i64 p, .int .i64 q] (by kernel_rfl) 30 [.int .i64 0, .int .i64 0] hA4 (by kernel_rfl) (by kernel_rfl) (fone p q) ?_)
  intro w2 hA2 hU2
  have HN2 := Lib.hid (HN1.out.upd hU2 (by omega))
  have HB2 := Lib.hid (step_upd hB1 hU2 (by omega))
  have c4 := hA2.cell 0 rfl
  have HA2 := Lib.hid hA2
  clear hA2 hU2 hB1 HN1 hA4
  go_wp2_with fail
  refine region_drew_tail 2 (by kernel_rfl) (by kernel_rfl) ?_
  simp only [List.take_succ_cons, List.take_zero, List.drop_succ_cons, List.drop_zero]
  refine BigFrame.wpQuiet_want rfl fun K hK => ?_
  refine quiet_load_row 30 _ rfl w1.heap.size rfl 30 [.int .i64 p, .int .i64 q] _ (fun w' hw' => (by obtain ⟨k, rfl⟩ := hw'; exact HA2.out.drewN k)) Try.underlying30 rfl (by kernel_rfl) (hK _ ?_)
  clear hK K
  (conv => arg 6; whnf)
  simp only [List.setIfInBounds_toArray, List.set_cons_succ, List.set_cons_zero]
  repeat (go_big_quiet_step (fail))
  refine wpQuiet_nil ?_
  intro _ hw'
  obtain ⟨nq, rfl⟩ := hw'
  go_wp2_with (with_reducible refine wpList_store_row rfl 30 (.tmp 3) (.tmp 10) rfl rfl w.heap.size (by kernel_rfl) [.int .i64 p, .int .i64 q] (by kernel_rfl) 30 [.int .i64 0, .int .i64 0] (HN2.out.drewN nq) (by kernel_rfl) (by kernel_rfl) (fone p q) ?_)
  intro w3 hA3 hU3
  have hB3 := step_upd (below_drewN HB2.out nq) hU3 (Nat.le_refl _)
  go_wp2
  (try simp only [Exit.inBlock, Exit.then])
  refine bodyPost_ret (results_cell_at3 rfl _ _ w.heap.size 30 _ hA3 _ (by kernel_rfl) Try.underlying30 rfl (by kernel_rfl)) rfl ?_
  exact ⟨rfl, hB3⟩

set_option maxRecDepth 100000 in
set_option maxHeartbeats 4000000 in
theorem New_ok (hE : Eds w a n E) (hn : n ≤ cap) (hnil : a = none → cap = 0) (hz : (ckZ E n).1 = 0) :
    Calls Try.prog 10 #[.slice a n cap] w fun e w' => ∃ b a' cap', e = .returned (.tuple #[.pointer (some ⟨b, 0, none⟩), .agg #[.int .i64 0, .int .i64 0]]) ∧ Below w.heap.size w w' ∧ At w' b 76 (lz a' n cap' 0 (fun _ => false) false) ∧ Eds w' a' n E ∧ (∀ b' off, a' = some ⟨b', off, none⟩ → 0 < n → b' ≠ b) ∧ w.heap.size < b := by
  have k1 := fun w0 (h : Below w.heap.size w w0) => Check_any a n cap E w0 (hE.below h) hn
  have hn1 : n ≤ 1000 := by
    unfold ckZ at hz
    split at hz
    · cases hz
    · omega
  have HE := Lib.hid hE
  clear hE
  obtain ⟨⟨p, q⟩, hpq⟩ : ∃ x, ckZ E n = x := ⟨_, rfl⟩
  rw [hpq] at k1 hz
  replace hz : p = 0 := hz
  subst hz
  clear hpq
  have hbn : Below w.heap.size w (w.alloc (.cells #[.int .i64 0, .int .i64 0] 30)) := (Below.refl _ w).alloc (Nat.le_refl _) _
  have HN : Hid (At (w.alloc (.cells #[.int .i64 0, .int .i64 0] 30)) w.heap.size 30 [.int .i64 0, .int .i64 0]) := Lib.hid (At.new w _ _)
  go_enter Try.func10, Try.ntmps10
  go_wp2_with fail
  refine (k1 _ hbn).mono ?_
  rintro e w1 ⟨rfl, hb1⟩
  have HN1 := Lib.hid ((HN.out.below hb1 HN.out.lt).alloc (.cells #[.int .i64 0, .int .i64 0] 30))
  have hlt := HN.out.lt
  have hs1 := hb1.size
  have hA4 : At (w1.alloc (.cells #[.int .i64 0, .int .i64 0] 30)) w1.heap.size 30 [.int .i64 0, .int .i64 0] := At.new w1 _ _
  have hB1 : Below w.heap.size w (w1.alloc (.cells #[.int .i64 0, .int .i64 0] 30)) := (step_below hbn hb1).alloc (step_below hbn hb1).size _
  clear k1 hbn HN hb1
  go_wp2_with (with_reducible refine wpList_store_row rfl 30 (.tmp 4) (.tmp 6) rfl rfl w1.heap.size (by kernel_rfl) [.int .i64 0, .int .i64 q] (by kernel_rfl) 30 [.int .i64 0, .int .i64 0] hA4 (by kernel_rfl) (by kernel_rfl) (fone 0 q) ?_)
  intro w2 hA2 hU2
  have HN2 := Lib.hid (HN1.out.upd hU2 (by omega))
  have HB2 := Lib.hid (step_upd hB1 hU2 (by omega))
  have c4 := hA2.cell 0 rfl
  have HA2 := Lib.hid hA2
  clear hA2 hU2 hB1 HN1 hA4
  go_wp2_with fail
  refine (Clone_eds a n cap E w2 (HE.out.below HB2.out) hn1 hnil).mono ?_
  rintro e w3 ⟨a', cap', rfl, hE3, hf3, hb3⟩
  have HN3 := Lib.hid (HN2.out.below hb3 HN2.out.lt)
  have HB3 := Lib.hid (step_below HB2.out hb3)
  clear hb3 HN2 HB2
  go_wp2_with (with_reducible refine wpList_store_row rfl 30 (.tmp 3) (.tmp 15) rfl rfl w.heap.size (by kernel_rfl) [.int .i64 0, .int .i64 0] (by kernel_rfl) 30 [.int .i64 0, .int .i64 0] (HN3.out.alloc _) (by kernel_rfl) (by kernel_rfl) (fone 0 0) ?_)
  intro w4 hA4 hU4
  have hB4 := step_upd (HB3.out.alloc HB3.out.size _) hU4 (Nat.le_refl _)
  have hsz := HB3.out.size
  have hlt3 := HN3.out.lt
  have hL4 : At w4 w3.heap.size 76 (lz a' n cap' 0 (fun _ => false) false) := (At.new w3 _ _).upd hU4 (by show w3.heap.size ≠ w.heap.size; omega)
  have hE4 : Eds w4 a' n E := ⟨(hE3.below ((Below.refl _ w3).alloc (Nat.le_refl _) _)).1.upd hU4 (fun b off h1 _ => by have := hf3 b off h1; have := HA2.out.lt; show b ≠ w.heap.size; omega), hE3.2⟩
  go_wp2
  (try simp only [Exit.inBlock, Exit.then])
  refine bodyPost_ret (results_cell_at3 rfl _ _ w.heap.size 30 _ hA4 _ (by kernel_rfl) Try.underlying30 rfl (by kernel_rfl)) rfl ?_
  exact ⟨w3.heap.size, a', cap', rfl, hB4, hL4, hE4, fun b off h1 h0 => by have := hE3.1.lt h0 h1; omega, by omega⟩

end
end Go.Proofs.Ytgkbpdcedighcad
