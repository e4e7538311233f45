/-
  The drawn region of the reference's Pieces, by its invariant. Printed by gen_refp.py.
-/
import Derived.Test.YtgkbpdcedighcaaPcs
import Derived.Test.YtgkbpdcedighcaaByRow
import Derived.Test.YtgkbpdcedighcaaRegionI
namespace Go.Proofs.Ytgkbpdcedighcaa
open Go.RowKit Go.Sort

theorem wp_fun56 {P : Program} {c : Code} {Q : Exit → Act → World → Prop} {d : List Deferred} {w : World} {t0 t1 t2 t3 t4 t5 t6 t7 t8 t9 t10 t11 t12 t13 t14 t15 t16 t17 t18 t19 t20 t21 t22 t23 t24 t25 t26 t27 t28 t29 t30 t31 t32 t33 t34 t35 t36 t37 t38 t39 t40 t41 t42 t43 t44 t45 t46 t47 t48 t49 t50 t51 t52 t53 t54 t55 : Value} (h : ∀ s : Nat → Value, c.wp P Q ⟨#[t0, t1, t2, t3, t4, t5, s 6, s 7, s 8, s 9, s 10, s 11, s 12, s 13, s 14, s 15, s 16, s 17, s 18, s 19, s 20, s 21, s 22, s 23, s 24, s 25, s 26, s 27, s 28, s 29, s 30, s 31, s 32, s 33, s 34, s 35, s 36, s 37, s 38, s 39, s 40, s 41, s 42, s 43, s 44, s 45, s 46, s 47, s 48, s 49, s 50, s 51, s 52, s 53, s 54, t55], d⟩ w) : c.wp P Q ⟨#[t0, t1, t2, t3, t4, t5, t6, t7, t8, t9, t10, t11, t12, t13, t14, t15, t16, t17, t18, t19, t20, t21, t22, t23, t24, t25, t26, t27, t28, t29, t30, t31, t32, t33, t34, t35, t36, t37, t38, t39, t40, t41, t42, t43, t44, t45, t46, t47, t48, t49, t50, t51, t52, t53, t54, t55], d⟩ w :=
  h (fun i => (#[t0, t1, t2, t3, t4, t5, t6, t7, t8, t9, t10, t11, t12, t13, t14, t15, t16, t17, t18, t19, t20, t21, t22, t23, t24, t25, t26, t27, t28, t29, t30, t31, t32, t33, t34, t35, t36, t37, t38, t39, t40, t41, t42, t43, t44, t45, t46, t47, t48, t49, t50, t51, t52, t53, t54, t55] : Array Value).getD i undef)

structure RpW (w0 w1 : World) (base g cp c : Nat) (st ln : Nat → Nat) (sl : Nat → Value) (f : Nat → Nat) (l11 l12 l15 : Bool) (x41 x42 : Value) (wr : World) : Prop where
  pre : l12 = false → Below w1.heap.size w1 wr ∧ (l11 = true → ∃ b, x41 = .slice (some ⟨b, 0, none⟩) 1 1 ∧ At wr b 5 [.int .u8 (f (st c + ln c) : Int)])
  mid : l12 = true → l15 = false → ∃ A5 cap5 w2, x42 = .slice A5 (ln c + 1) cap5 ∧ PcsAt 101 5 w2 base (.slice (some ⟨g, 0, none⟩) (c + 1) cp) ⟨c + 1, st, ln⟩ sl f ∧ Below w1.heap.size w1 w2 ∧
    wr.ownsRow base 5 1 x42 (ln c + 1) (byRow f (st c) (ln c) ++ [.int .u8 (f (st c + ln c) : Int)]) ∧ w2.grownBy wr (sl c).ownBlock ∧ (x42.ownBlock = (sl c).ownBlock ∨ x42.ownBlock = some w2.heap.size)
  fin : l15 = true → PcsAt 101 5 wr base (.slice (some ⟨g, 0, none⟩) (c + 1) cp) ⟨c + 1, st, fun i => if i = c then ln i + 1 else ln i⟩ (fun i => if i = c then x42 else sl i) f ∧ Below base w0 wr

def RpI (w0 w1 : World) (base g cp c b1 o1 n cap k : Nat) (st ln : Nat → Nat) (sl : Nat → Value) (f : Nat → Nat) (s : Nat → Value) (L : Nat → Bool) (a : Act) (wr : World) : Prop :=
  ∃ x30 x31 x32 x33 x34 x35 x36 x37 x38 x39 x40 x41 x42 x43 x44 : Value, a = ⟨#[.slice (some ⟨b1, o1, none⟩) n cap, undef, .slice none 0 0, .slice (some ⟨g, 0, none⟩) (c + 1) cp, .int .i64 (k : Int), .int .i64 (c : Int), s 6, s 7, s 8, s 9, s 10, s 11, s 12, s 13, s 14, s 15, s 16, s 17, s 18, s 19, s 20, s 21, s 22, s 23, s 24, s 25, s 26, s 27, s 28, s 29, x30, x31, x32, x33, x34, x35, x36, x37, x38, x39, x40, x41, x42, x43, x44, s 45, s 46, s 47, s 48, s 49, s 50, s 51, s 52, s 53, s 54, undef], []⟩ ∧ (L 0 = true → x30 = .slice (some ⟨g, 0, none⟩) (c + 1) cp) ∧ (L 1 = true → x31 = .int .i64 (c : Int)) ∧ (L 2 = true → x32 = .slice (some ⟨g, 0, none⟩) (c + 1) cp) ∧ (L 3 = true → x33 = .int .i64 (c : Int)) ∧
    (L 4 = true → x34 = .pointer (some ⟨g, c * 2, none⟩)) ∧ (L 5 = true → x35 = .pointer (some ⟨g, c * 2 + 1, none⟩)) ∧ (L 6 = true → x36 = sl c) ∧ (L 7 = true → x37 = .slice (some ⟨b1, o1, none⟩) n cap) ∧ (L 8 = true → x38 = .int .i64 (k : Int)) ∧
    (L 9 = true → x39 = .pointer (some ⟨b1, o1 + k, none⟩)) ∧ (L 10 = true → x40 = .int .u8 (f (st c + ln c) : Int)) ∧ (L 13 = true → x43 = .pointer (some ⟨g, c * 2, none⟩)) ∧ (L 14 = true → x44 = .pointer (some ⟨g, c * 2 + 1, none⟩)) ∧
    (L 11 = true → L 10 = true) ∧ (L 12 = true → L 6 = true ∧ L 11 = true) ∧ (L 15 = true → L 12 = true) ∧ RpW w0 w1 base g cp c st ln sl f (L 11) (L 12) (L 15) x41 x42 wr
end Go.Proofs.Ytgkbpdcedighcaa
