/-
  A step of the timer's laws, as it comes in; small.
-/
import Derived.Test.YtgkbpdcedighcaaTimerR
import Derived.Test.YtgkbpdcedighcaaOpenS
namespace Go.Proofs.Ytgkbpdcedighcaa
open Go.RowKit Go.Sort

theorem ret_bool {a b : Bool} (h : a = b) : Ending.returned (.bool a) = .returned (.bool b) := by rw [h]

def IsStep (cs : List Value) : Prop := ∃ x y n, cs = [.int .u8 x, .int .u8 y, .int .i64 n] ∧ (0 ≤ x ∧ x ≤ 255) ∧ (0 ≤ y ∧ y ≤ 255) ∧ (-9223372036854775808 ≤ n ∧ n ≤ 9223372036854775807)

set_option maxRecDepth 100000 in
theorem IsStep_of {H : Type} {enc : TypeId × Value → H} {w : World} {base : Nat} {spare : Nat → Bool} {held : Bool} {m : Nat} {cs : List Value} {x : DataW H × List MemPlace}
    (h : DataW.trod enc Try.prog w base spare held m 111 cs = some x) : IsStep cs := by
  obtain ⟨hl, hf⟩ := struct_cells Try.underlying111 (by kernel_rfl) (by kernel_rfl) h
  obtain ⟨a, ha, wa⟩ := field_int Try.underlying5 (hf 0 _ rfl)
  obtain ⟨b, hb, wb⟩ := field_int Try.underlying5 (hf 1 _ rfl)
  obtain ⟨c, hc, wc⟩ := field_int Try.underlying2 (hf 2 _ rfl)
  refine ⟨a, b, c, ?_, wf_bounds_u8 wa, wf_bounds_u8 wb, wf_bounds_i64 wc⟩
  apply List.ext_getElem?
  intro i
  match i with
  | 0 => exact ha
  | 1 => exact hb
  | 2 => exact hc
  | i + 3 => rw [List.getElem?_eq_none (by rw [hl]; simp), List.getElem?_eq_none (by simp)]

/-- The steps (a, n) read as x, y, z. -/
def Steps09 (w : World) (a : Option Addr) (n : Nat) (x y z : Nat → Int) : Prop :=
  ∀ i, i < n → (0 ≤ x i ∧ x i ≤ 255) ∧ (0 ≤ y i ∧ y i ≤ 255) ∧ (-9223372036854775808 ≤ z i ∧ z i ≤ 9223372036854775807) ∧ ∃ b off, a = some ⟨b, off, none⟩ ∧ b < w.heap.size ∧
    w.cell? ⟨b, off + i * 3, none⟩ = some (.int .u8 (x i)) ∧ w.cell? ⟨b, off + i * 3 + 1, none⟩ = some (.int .u8 (y i)) ∧ w.cell? ⟨b, off + i * 3 + 2, none⟩ = some (.int .i64 (z i))

theorem steps09 {w : World} {a : Option Addr} {n cap : Nat} {F : Nat → List Value} (h : SlR w a n cap 3 IsStep F) : ∃ x y z, Steps09 w a n x y z := by
  have hex : ∀ i, ∃ t : Int × Int × Int, i < n → (0 ≤ t.1 ∧ t.1 ≤ 255) ∧ (0 ≤ t.2.1 ∧ t.2.1 ≤ 255) ∧ (-9223372036854775808 ≤ t.2.2 ∧ t.2.2 ≤ 9223372036854775807) ∧ ∃ b off, a = some ⟨b, off, none⟩ ∧ b < w.heap.size ∧
      w.cell? ⟨b, off + i * 3, none⟩ = some (.int .u8 t.1) ∧ w.cell? ⟨b, off + i * 3 + 1, none⟩ = some (.int .u8 t.2.1) ∧ w.cell? ⟨b, off + i * 3 + 2, none⟩ = some (.int .i64 t.2.2) := by
    intro i
    by_cases hi : i < n
    · obtain ⟨⟨p, q, r, he, h1, h2, h3⟩, _, b, off, ha, hb, hc⟩ := h.elem i hi
      refine ⟨(p, q, r), fun _ => ⟨h1, h2, h3, b, off, ha, hb, ?_, ?_, ?_⟩⟩
      · have := hc 0 (by omega); rwa [he] at this
      · have := hc 1 (by omega); rwa [he] at this
      · have := hc 2 (by omega); rwa [he] at this
    · exact ⟨(0, 0, 0), fun h => absurd h hi⟩
  obtain ⟨f, hf⟩ := Classical.skolem.1 hex
  exact ⟨fun i => (f i).1, fun i => (f i).2.1, fun i => (f i).2.2, hf⟩

theorem Steps09.below {w w' : World} {a : Option Addr} {n : Nat} {x y z : Nat → Int} (h : Steps09 w a n x y z) (hb : Below w.heap.size w w') : Steps09 w' a n x y z := fun i hi => by
  obtain ⟨h1, h2, h3, b, off, h4, h5, h6, h7, h8⟩ := h i hi
  exact ⟨h1, h2, h3, b, off, h4, Nat.lt_of_lt_of_le h5 hb.size, (hb.cell (p := ⟨b, _, none⟩) h5).trans h6, (hb.cell (p := ⟨b, _, none⟩) h5).trans h7, (hb.cell (p := ⟨b, _, none⟩) h5).trans h8⟩

/-- Few steps, none too far. -/
def smallB (n : Nat) (z : Nat → Int) : Bool := decide (n ≤ 60) && (List.range n).all fun i => decide (z i ≤ 4000000)

theorem smallB_spec {n : Nat} {z : Nat → Int} (h : smallB n z = true) : n ≤ 60 ∧ ∀ i, i < n → z i ≤ 4000000 := by
  unfold smallB at h
  simp only [Bool.and_eq_true, decide_eq_true_eq, List.all_eq_true, List.mem_range] at h
  exact h

set_option maxHeartbeats 1000000 in
theorem small_any (a : Option Addr) (n cap : Nat) (x y z : Nat → Int) (w : World) (h : Steps09 w a n x y z) (hm : n ≤ 9223372036854775807) :
    Calls Try.prog 35 #[.slice a n cap] w fun e w' => e = .returned (.bool (smallB n z)) ∧ w = w' := by
  have HS := Lib.hid h
  clear h
  by_cases hl : 60 < n
  · have e1 : smallB n z = false := by unfold smallB; rw [decide_eq_false (by omega)]; rfl
    rw [e1]; clear e1
    go_enter Try.func35, Try.ntmps35
    go_wp2
    go_ret
    exact ⟨rfl, rfl⟩
  · have e1 : smallB n z = (List.range n).all fun i => decide (z i ≤ 4000000) := by unfold smallB; rw [decide_eq_true (by omega)]; rfl
    have HE := Lib.hid e1
    clear e1
    obtain ⟨B, hB⟩ : ∃ B, B = smallB n z := ⟨_, rfl⟩
    rw [← hB]
    have HB := Lib.hid hB
    clear hB
    go_enter Try.func35, Try.ntmps35
    go_wp2_with fail
    go_loop [3] (fun i => ∃ k : Nat, k ≤ n ∧ i = .int .i64 k ∧ Hid (∀ j, j < k → z j ≤ 4000000)) (fun i => n - (intOf i).toNat)
    case atStart => exact ⟨0, Nat.zero_le _, rfl, Lib.hid (fun j hj => absurd hj (by omega))⟩
    case round =>
      obtain ⟨k, hk, rfl, HK⟩ := hrel
      by_cases hlt : k < n
      · obtain ⟨-, -, -, b, off, rfl, -, -, -, hc⟩ := HS.out k hlt
        by_cases hz : 4000000 < z k
        · go_wp2
          go_ret
          have hv : ((List.range n).all fun i => decide (z i ≤ 4000000)) = false := List.all_eq_false.2 ⟨k, List.mem_range.2 hlt, by simp; omega⟩
          exact ⟨ret_bool (hv.symm.trans (HE.out.symm.trans HB.out.symm)), rfl⟩
        · go_wp2
          go_round
          case rel => exact ⟨k + 1, by omega, by go_num, Lib.hid (fun j hj => by
            rcases Nat.lt_or_ge j k with h | h
            · exact HK.out j h
            · obtain rfl : j = k := by omega
              omega)⟩
          case measure => simp [intOf]; omega
      · go_wp2
        go_ret
        have hv : ((List.range n).all fun i => decide (z i ≤ 4000000)) = true := List.all_eq_true.2 fun j hj => by have := HK.out j (by have := List.mem_range.1 hj; omega); simpa using this
        exact ⟨ret_bool (hv.symm.trans (HE.out.symm.trans HB.out.symm)), rfl⟩
end Go.Proofs.Ytgkbpdcedighcaa
