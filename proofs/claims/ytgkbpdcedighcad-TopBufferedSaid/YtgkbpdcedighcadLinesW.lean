/-
  The walks of lines: a row of edges copied; New.
-/
import Derived.Test.YtgkbpdcedighcadLinesN
import Derived.Test.YtgkbpdcedighcadRowF
import Derived.Lib.SliceRun
namespace Go.Proofs.Ytgkbpdcedighcad
open Go.RowKit Go.Sort

def ecell (e : Ed) (m : Nat) : Value := if m = 0 then .int .i64 e.st else if m = 1 then .int .u8 (e.ln : Int) else .bool e.up
def eflat (n : Nat) (E : Nat → Ed) : List Value := rowF (n * 3) fun j => ecell (E (j / 3)) (j % 3)
theorem eflat_one (n : Nat) (E : Nat → Ed) : ∀ v ∈ eflat n E, v.oneCell' = true := rowF_all fun i _ => by
  unfold ecell
  repeat' split
  all_goals rfl
theorem ecs_get (e : Ed) {m : Nat} (h : m < 3) : e.cs[m]? = some (ecell e m) := by
  have : m = 0 ∨ m = 1 ∨ m = 2 := by omega
  rcases this with rfl | rfl | rfl <;> rfl
theorem eflat_get {n : Nat} {E : Nat → Ed} {i m : Nat} (hi : i < n) (hm : m < 3) : (eflat n E)[i * 3 + m]? = some (ecell (E i) m) := by
  unfold eflat
  rw [rowF_get (by omega), show (i * 3 + m) / 3 = i by omega, show (i * 3 + m) % 3 = m by omega]
theorem info_edge : (Try.prog.info? 73).map (fun i => (i.zero, i.size, i.bytes)) = some (some (.agg #[.int .i64 0, .int .u8 0, .bool false]), 3, 16) := by kernel_rfl

theorem own_eds {w : World} {base n : Nat} {e : TypeId} {v : Value} {E : Nat → Ed} (h : w.ownsRow base e 3 v n (eflat n E)) (hV : ∀ i, i < n → (E i).Ok) : ∃ a cap, v = .slice a n cap ∧ Eds w a n E ∧ (∀ b off, a = some ⟨b, off, none⟩ → base ≤ b) := by
  have hcs := fun g => h.cells (g := g)
  rcases h.2 with ⟨rfl, rfl⟩ | ⟨b, cap, cur, rfl, hb, hh, hnc, hm, hsz, htake⟩
  · exact ⟨none, 0, rfl, ⟨fun i hi => by omega, hV⟩, fun b off h => by cases h⟩
  · refine ⟨_, cap, rfl, ⟨fun i hi => ⟨b, 0, rfl, (Array.getElem?_eq_some_iff.1 hh).1, fun j u hu => ?_⟩, hV⟩, fun b' off h => by injection h with h; injection h with h; exact h ▸ hb⟩
    have hj : j < 3 := by
      rcases Nat.lt_or_ge j 3 with h | h
      · exact h
      · rw [List.getElem?_eq_none (by show 3 ≤ j; omega)] at hu; cases hu
    have h1 := hcs b rfl (i * 3 + j) u (by rw [eflat_get hi hj]; rw [ecs_get _ hj] at hu; exact hu)
    rw [part_addr] at h1
    rw [Nat.add_assoc]
    exact h1

theorem eds_flat {w : World} {a : Option Addr} {n : Nat} {E : Nat → Ed} (h : Eds w a n E) {ad : Addr} (ha : a = some ad) : ∀ j u, (eflat n E)[j]? = some u → w.cell? (ad.add j) = some u := fun j u hu => by
  have hjn : j < n * 3 := by
    rcases Nat.lt_or_ge j (n * 3) with h | h
    · exact h
    · rw [List.getElem?_eq_none (by simp [eflat]; omega)] at hu; cases hu
  obtain ⟨b, off, h1, _, h3⟩ := h.1 (j / 3) (by omega)
  rw [ha] at h1
  injection h1 with h1
  subst h1
  rw [part_addr]
  rw [show j = j / 3 * 3 + j % 3 by omega, eflat_get (by omega) (by omega)] at hu
  have h4 := h3 (j % 3) u (by rw [ecs_get _ (by omega)]; exact hu)
  rw [show off + j = off + j / 3 * 3 + j % 3 by omega]
  exact h4

set_option maxRecDepth 100000 in
set_option maxHeartbeats 4000000 in
theorem Clone_eds (a : Option Addr) (n cap : Nat) (E : Nat → Ed) (w : World) (hE : Eds w a n E) (hn : n ≤ 1000) (hnil : a = none → cap = 0) :
    Calls Try.prog 37 #[.slice a n cap] w fun e w' => ∃ a' cap', e = .returned (.slice a' n cap') ∧ Eds w' a' n E ∧ (∀ b off, a' = some ⟨b, off, none⟩ → w.heap.size ≤ b) ∧ Below w.heap.size w w' := by
  have HE := Lib.hid hE
  cases a with
  | none =>
    obtain rfl : cap = 0 := hnil rfl
    obtain rfl : n = 0 := by
      rcases Nat.eq_zero_or_pos n with h | h
      · exact h
      · obtain ⟨b, off, h1, _⟩ := hE.1 0 h; cases h1
    clear hE hnil
    have hq := fun w => Go.Lib.run_eql_slice_nil (P := Try.prog) w 22 73 none 0 0 0 0 Try.underlying22
    go_enter Try.func37, Try.ntmps37
    go_wp2
    (try simp only [Exit.inBlock, Exit.then])
    go_ret
    exact ⟨none, 0, rfl, HE.out, fun b off h => by (cases h), Below.refl _ _⟩
  | some ad =>
    obtain ⟨i0, hi0⟩ := Option.map_eq_some_iff.1 info_edge
    obtain ⟨hi, hzz⟩ := hi0
    have hz0 : i0.zero = some (.agg #[.int .i64 0, .int .u8 0, .bool false]) := congrArg Prod.fst hzz
    have hz1 : i0.size = 3 := congrArg (fun p => p.2.1) hzz
    have hz2 : i0.bytes = 16 := congrArg (fun p => p.2.2) hzz
    clear hzz hE hnil
    have hnews := eds_flat (w := w.alloc (.cells #[] 73)) (HE.out.below ((Below.refl _ w).alloc (Nat.le_refl _) _)) rfl
    have hlen : (eflat n E).length = n * 3 := by simp [eflat]
    have hq := fun w => Go.Lib.run_eql_slice_nil (P := Try.prog) w 22 73 (some ad) n cap 0 0 Try.underlying22
    go_enter Try.func37, Try.ntmps37
    go_wp2_with (at_builtin; go_loud (refine wpList_append_own _ rfl _ _ 22 rfl w.heap.size 73 i0 (.agg #[.int .i64 0, .int .u8 0, .bool false]) 3 16 Try.underlying22 hi hz0 hz1 hz2 rfl (by decide) _ 0 [] rfl (World.ownsRow_made w #[] 0 (Nat.le_refl _) (Nat.zero_le _) rfl) ad n cap (eflat n E) rfl hlen hnews (eflat_one n E) (by unfold maxLen; omega) (by omega) (by simp) ?_))
    intro v' w6 hO6 hg6 _
    obtain ⟨a', cap', rfl, he6, hb6⟩ := own_eds hO6 HE.out.2
    have hB6 : Below w.heap.size w w6 := ((Below.refl _ w).alloc (Nat.le_refl _) _).grown hg6 (by simp) (fun b hb => by injection hb with hb; subst hb; exact Nat.le_refl _)
    clear hO6 hg6
    go_wp2
    (try simp only [Exit.inBlock, Exit.then])
    go_ret
    exact ⟨a', cap', rfl, he6, hb6, hB6⟩
end Go.Proofs.Ytgkbpdcedighcad
