/-
  The walk of the reference 14's Copy.
-/
import Derived.Test.YtgkbpdcedighcacWaveS
import Derived.Test.YtgkbpdcedighcacWaveE
import Derived.Deep.RegionHeld3
import Derived.Deep.DrawnRows
namespace Go.Proofs.Ytgkbpdcedighcac
open Go.RowKit Go.Sort NoiseP

attribute [local go_sem ↓] Go.wp_at_zero Go.wp_at_succ

/-- What stands while the region of Copy goes. -/
abbrev CopyS (w : World) (d g : Nat) (x : CS) (w' : World) : Prop :=
  w'.cell? ⟨d, 0, none⟩ = some (.int .i64 (x.fr : Int)) ∧ w'.cell? ⟨d, 1, none⟩ = some (.int .i64 (x.pl : Int)) ∧ w'.cell? ⟨d, 2, none⟩ = some (.int .i64 x.be) ∧ w'.cell? ⟨d, 3, none⟩ = some (.int .u8 (x.co : Int))
  ∧ w'.cell? ⟨d, 4, none⟩ = some (.int .u8 (x.ba : Int)) ∧ w'.cell? ⟨d, 5, none⟩ = some (.int .u8 (x.to : Int)) ∧ w'.rangeAt d 6 [.int .u8 (x.wv 0 : Int), .int .u8 (x.wv 1 : Int), .int .u8 (x.wv 2 : Int), .int .u8 (x.wv 3 : Int), .int .u8 (x.wv 4 : Int), .int .u8 (x.wv 5 : Int), .int .u8 (x.wv 6 : Int), .int .u8 (x.wv 7 : Int), .int .u8 (x.wv 8 : Int), .int .u8 (x.wv 9 : Int), .int .u8 (x.wv 10 : Int), .int .u8 (x.wv 11 : Int), .int .u8 (x.wv 12 : Int), .int .u8 (x.wv 13 : Int), .int .u8 (x.wv 14 : Int), .int .u8 (x.wv 15 : Int), .int .u8 (x.wv 16 : Int), .int .u8 (x.wv 17 : Int), .int .u8 (x.wv 18 : Int), .int .u8 (x.wv 19 : Int), .int .u8 (x.wv 20 : Int), .int .u8 (x.wv 21 : Int), .int .u8 (x.wv 22 : Int), .int .u8 (x.wv 23 : Int), .int .u8 (x.wv 24 : Int), .int .u8 (x.wv 25 : Int), .int .u8 (x.wv 26 : Int), .int .u8 (x.wv 27 : Int), .int .u8 (x.wv 28 : Int), .int .u8 (x.wv 29 : Int), .int .u8 (x.wv 30 : Int), .int .u8 (x.wv 31 : Int)] ∧ w'.cell? ⟨d, 38, none⟩ = some (.bool x.ny) ∧ w'.cell? ⟨d, 39, none⟩ = some (.pointer (some ⟨g, 0, none⟩)) ∧ w'.cell? ⟨d, 40, none⟩ = some (.int .i64 x.lf)
  ∧ RC w' d g x ∧ Below w.heap.size w w'
theorem CopyS.of {w w' : World} {d g : Nat} {x : CS} (h : RC w' d g x) (hb : Below w.heap.size w w') : CopyS w d g x w' := by
  have hd := h.d
  have e : wrow x.wv = [.int .u8 (x.wv 0 : Int), .int .u8 (x.wv 1 : Int), .int .u8 (x.wv 2 : Int), .int .u8 (x.wv 3 : Int), .int .u8 (x.wv 4 : Int), .int .u8 (x.wv 5 : Int), .int .u8 (x.wv 6 : Int), .int .u8 (x.wv 7 : Int), .int .u8 (x.wv 8 : Int), .int .u8 (x.wv 9 : Int), .int .u8 (x.wv 10 : Int), .int .u8 (x.wv 11 : Int), .int .u8 (x.wv 12 : Int), .int .u8 (x.wv 13 : Int), .int .u8 (x.wv 14 : Int), .int .u8 (x.wv 15 : Int), .int .u8 (x.wv 16 : Int), .int .u8 (x.wv 17 : Int), .int .u8 (x.wv 18 : Int), .int .u8 (x.wv 19 : Int), .int .u8 (x.wv 20 : Int), .int .u8 (x.wv 21 : Int), .int .u8 (x.wv 22 : Int), .int .u8 (x.wv 23 : Int), .int .u8 (x.wv 24 : Int), .int .u8 (x.wv 25 : Int), .int .u8 (x.wv 26 : Int), .int .u8 (x.wv 27 : Int), .int .u8 (x.wv 28 : Int), .int .u8 (x.wv 29 : Int), .int .u8 (x.wv 30 : Int), .int .u8 (x.wv 31 : Int)] := rfl
  rw [CopyS, ← e]
  exact ⟨hd.cell 0 rfl, hd.cell 1 rfl, hd.cell 2 rfl, hd.cell 3 rfl, hd.cell 4 rfl, hd.cell 5 rfl, fun j v hv => by
    have hj : j < 32 := by
      rcases Nat.lt_or_ge j 32 with h | h
      · exact h
      · rw [List.getElem?_eq_none (by simp [wrow]; omega)] at hv; cases hv
    rw [wrow, rowF_get hj] at hv
    cases hv
    exact hd.cell (6 + j) (cz_wave hj), hd.cell 38 rfl, hd.cell 39 rfl, hd.cell 40 rfl, h, hb⟩
theorem CopyS.step {w w' w'' : World} {d g : Nat} {x : CS} (h : CopyS w d g x w') (hb : Below w'.heap.size w' w'') : CopyS w d g x w'' := by
  obtain ⟨-, -, -, -, -, -, -, -, -, -, hr, hb0⟩ := h
  exact CopyS.of (hr.below hb) (step_below hb0 hb)

set_option maxRecDepth 100000 in
set_option maxHeartbeats 8000000 in
theorem QCopy_S (d g : Nat) (x : CS) (w : World) (h : RC w d g x) :
    Calls Try.prog 37 #[.pointer (some ⟨d, 0, none⟩)] w fun e w' => ∃ d2 g2, e = .returned (.pointer (some ⟨d2, 0, none⟩)) ∧ w.heap.size ≤ d2 ∧ w.heap.size ≤ g2 ∧ RC w' d2 g2 x ∧ Below w.heap.size w w' := by
  have hS : CopyS w d g x w.drew := CopyS.of (h.below ⟨rfl, rfl, rfl, Nat.le_refl _, fun _ _ => rfl⟩) ⟨rfl, rfl, rfl, Nat.le_refl _, fun _ _ => rfl⟩
  have HS := Lib.hid hS
  have HN0 : Hid (At w.drew g 172 (rz x.s x.l x.f)) := Lib.hid h.g
  have hu := Try.underlying66
  have hi : (Try.prog.info? 66).map (·.size) = some ([.int .u8 (x.wv 0 : Int), .int .u8 (x.wv 1 : Int), .int .u8 (x.wv 2 : Int), .int .u8 (x.wv 3 : Int), .int .u8 (x.wv 4 : Int), .int .u8 (x.wv 5 : Int), .int .u8 (x.wv 6 : Int), .int .u8 (x.wv 7 : Int), .int .u8 (x.wv 8 : Int), .int .u8 (x.wv 9 : Int), .int .u8 (x.wv 10 : Int), .int .u8 (x.wv 11 : Int), .int .u8 (x.wv 12 : Int), .int .u8 (x.wv 13 : Int), .int .u8 (x.wv 14 : Int), .int .u8 (x.wv 15 : Int), .int .u8 (x.wv 16 : Int), .int .u8 (x.wv 17 : Int), .int .u8 (x.wv 18 : Int), .int .u8 (x.wv 19 : Int), .int .u8 (x.wv 20 : Int), .int .u8 (x.wv 21 : Int), .int .u8 (x.wv 22 : Int), .int .u8 (x.wv 23 : Int), .int .u8 (x.wv 24 : Int), .int .u8 (x.wv 25 : Int), .int .u8 (x.wv 26 : Int), .int .u8 (x.wv 27 : Int), .int .u8 (x.wv 28 : Int), .int .u8 (x.wv 29 : Int), .int .u8 (x.wv 30 : Int), .int .u8 (x.wv 31 : Int)] : List Value).length := by kernel_rfl
  clear h hS
  go_enter Try.func37, Try.ntmps37
  go_wp2_with fail
  go_region_held3 (fun w' => w'.cell? ⟨d, 0, none⟩ = some (.int .i64 (x.fr : Int)) ∧ w'.cell? ⟨d, 1, none⟩ = some (.int .i64 (x.pl : Int)) ∧ w'.cell? ⟨d, 2, none⟩ = some (.int .i64 x.be) ∧ w'.cell? ⟨d, 3, none⟩ = some (.int .u8 (x.co : Int)) ∧ w'.cell? ⟨d, 4, none⟩ = some (.int .u8 (x.ba : Int)) ∧ w'.cell? ⟨d, 5, none⟩ = some (.int .u8 (x.to : Int)) ∧ w'.rangeAt d 6 [.int .u8 (x.wv 0 : Int), .int .u8 (x.wv 1 : Int), .int .u8 (x.wv 2 : Int), .int .u8 (x.wv 3 : Int), .int .u8 (x.wv 4 : Int), .int .u8 (x.wv 5 : Int), .int .u8 (x.wv 6 : Int), .int .u8 (x.wv 7 : Int), .int .u8 (x.wv 8 : Int), .int .u8 (x.wv 9 : Int), .int .u8 (x.wv 10 : Int), .int .u8 (x.wv 11 : Int), .int .u8 (x.wv 12 : Int), .int .u8 (x.wv 13 : Int), .int .u8 (x.wv 14 : Int), .int .u8 (x.wv 15 : Int), .int .u8 (x.wv 16 : Int), .int .u8 (x.wv 17 : Int), .int .u8 (x.wv 18 : Int), .int .u8 (x.wv 19 : Int), .int .u8 (x.wv 20 : Int), .int .u8 (x.wv 21 : Int), .int .u8 (x.wv 22 : Int), .int .u8 (x.wv 23 : Int), .int .u8 (x.wv 24 : Int), .int .u8 (x.wv 25 : Int), .int .u8 (x.wv 26 : Int), .int .u8 (x.wv 27 : Int), .int .u8 (x.wv 28 : Int), .int .u8 (x.wv 29 : Int), .int .u8 (x.wv 30 : Int), .int .u8 (x.wv 31 : Int)] ∧ w'.cell? ⟨d, 38, none⟩ = some (.bool x.ny) ∧ w'.cell? ⟨d, 39, none⟩ = some (.pointer (some ⟨g, 0, none⟩)) ∧ w'.cell? ⟨d, 40, none⟩ = some (.int .i64 x.lf) ∧ RC w' d g x ∧ Below w.heap.size w w') (first | with_reducible exact HS.out | with_reducible exact CopyS.step HS.out hB2 | with_reducible exact CopyS.step (CopyS.step HS.out hB2) ((Below.refl _ _).alloc (Nat.le_refl _) _)) (first | (go_at_call 87; refine (RCopy_any g x.s x.l x.f _ ?_).mono ?_; (exact HN0.out); rintro e w' ⟨g2, rfl, hg2, hN2, hB2⟩))
  refine allocs1 ?_
  intro w5 hA5 hb5 _
  go_wp2
  go_ret
  have hlt := hN2.lt
  have hb0 : Below w.heap.size w w.drew := ⟨rfl, rfl, rfl, Nat.le_refl _, fun _ _ => rfl⟩
  exact ⟨_, rfl, hB2.size, g2, hg2, ⟨hA5.of_eq rfl, hN2.below hb5 hlt⟩, step_below (step_below hb0 hB2) hb5⟩
end Go.Proofs.Ytgkbpdcedighcac
