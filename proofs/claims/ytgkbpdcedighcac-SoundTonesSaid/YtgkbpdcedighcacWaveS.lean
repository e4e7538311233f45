/-
  A channel's state in the reference; a bend.
-/
import Derived.Test.YtgkbpdcedighcacWaveO
import Derived.Test.YtgkbpdcedighcacWaveB
import Derived.Test.YtgkbpdcedighcacRWaveG
namespace Go.Proofs.Ytgkbpdcedighcac
open Go.RowKit Go.Sort NoiseP

def CS.q (x : CS) (g : Nat) : List Value := cz g x.fr x.be x.co x.ba x.to x.ny x.wv x.pl x.lf
def CS.r (x : CS) : List Value := rz x.s x.l x.f

/-- The reference's channel. -/
structure RC (w : World) (d g : Nat) (x : CS) : Prop where
  d : At w d 129 (x.q g)
  g : At w g 172 x.r
theorem RC.below {w w' : World} {c b : Nat} {x : CS} (h : RC w c b x) (hb : Below w.heap.size w w') : RC w' c b x := ⟨h.d.below hb h.d.lt, h.g.below hb h.g.lt⟩
theorem RC.upd {w w' : World} {c b : Nat} {x : CS} {S : Nat → Prop} (h : RC w c b x) (hu : Upd S w w') (hc : ¬ S c) (hb : ¬ S b) : RC w' c b x := ⟨h.d.upd hu hc, h.g.upd hu hb⟩
/-- They are apart. -/
theorem PC.ne {w : World} {c b d g : Nat} {x y : CS} (h : PC w c b x) (k : RC w d g y) : c ≠ d ∧ c ≠ g ∧ b ≠ d ∧ b ≠ g := ⟨h.c.ne_ k.d (by decide), h.c.ne_ k.g (by decide), h.b.ne_ k.d (by decide), h.b.ne_ k.g (by decide)⟩

/-- A bend. -/
def CS.bend (x : CS) (d : Int) : CS := { x with be := holdW d }
theorem CS.bend_ok {x : CS} (h : x.Ok) (d : Int) : (x.bend d).Ok := ⟨h.fr, holdW_le d, h.co, h.ba, h.to, h.pl, h.lf, h.wv, h.s, h.l, h.f⟩

theorem QWrite_S (d g : Nat) (x : CS) (reg : Int) (v : Nat) (w : World) (h : RC w d g x) (hx : x.Ok) (hv : v < 256) :
    Calls Try.prog 69 #[.pointer (some ⟨d, 0, none⟩), .int .i64 reg, .int .u8 (v : Int)] w fun e w' => e = .returned (.tuple #[]) ∧ RC w' d g (x.wr reg v) ∧ Upd (fun k => k = d ∨ k = g) w w' := by
  have hne : g ≠ d := h.g.ne_ h.d (by decide)
  obtain ⟨hc, hb⟩ := h
  unfold CS.q at hc
  unfold CS.wr
  have fin : ∀ {e : Ending} {w' : World} {y : CS}, y.r = x.r → (e = .returned (.tuple #[]) ∧ At w' d 129 (y.q g) ∧ Upd (· = d) w w') → e = .returned (.tuple #[]) ∧ RC w' d g y ∧ Upd (fun k => k = d ∨ k = g) w w' := by
    rintro e w' y hy ⟨he, h1, h2⟩
    exact ⟨he, ⟨h1, hy ▸ hb.upd h2 hne⟩, h2.mono fun _ _ h => .inl h⟩
  split
  · next h => subst h; exact (QWrite2 d g x.fr x.be x.co x.ba x.to x.ny x.wv x.pl x.lf w v hc hx.fr hv).mono fun _ _ h => by refine fin ?_ h; rfl
  · split
    · next h => subst h; exact (QWrite3 d g x.fr x.be x.co x.ba x.to x.ny x.wv x.pl x.lf w v hc hx.fr hv).mono fun _ _ h => by refine fin ?_ h; rfl
    · split
      · next h => subst h; exact (QWrite4 d g x.fr x.be x.co x.ba x.to x.ny x.wv x.pl x.lf w v hc hv).mono fun _ _ h => by refine fin ?_ h; rfl
      · split
        · next h => subst h; exact (QWrite5 d g x.fr x.be x.co x.ba x.to x.ny x.wv x.pl x.lf w v hc).mono fun _ _ h => by refine fin ?_ h; rfl
        · split
          · next h =>
            subst h
            split
            · next ht => exact (QWrite6_told d g x.fr x.be x.co x.ba x.to x.ny x.wv x.pl x.lf w v hc hx.co hv ht).mono fun _ _ h => by refine fin ?_ h; rfl
            · next ht => exact (QWrite6_wave d g x.fr x.be x.co x.ba x.to x.ny x.wv x.pl x.lf w v hc hx.co hv (by omega) hx.pl).mono fun _ _ h => by refine fin ?_ h; rfl
          · split
            · next h =>
              subst h
              exact (QWrite7 d g x.fr x.be x.co x.ba x.to x.ny x.wv x.pl x.lf w v x.s x.l x.f hc hb hv).mono fun _ _ ⟨h1, h2, h3, h4⟩ => ⟨h1, ⟨h2, h3⟩, h4⟩
            · exact (QWrite_other d w reg v ⟨‹_›, ‹_›, ‹_›, ‹_›, ‹_›, ‹_›⟩).mono fun _ _ ⟨h1, h2⟩ => ⟨h1, h2 ▸ ⟨hc, hb⟩, h2 ▸ Upd.refl _ _⟩

theorem QGo_S (d g : Nat) (x : CS) (n : Int) (w : World) (h : RC w d g x) (hx : x.Ok) (hn : 0 ≤ n ∧ n ≤ 1099511627776) :
    Calls Try.prog 83 #[.pointer (some ⟨d, 0, none⟩), .int .i64 n] w fun e w' => e = .returned (.tuple #[]) ∧ RC w' d g (x.go n) ∧ Upd (fun k => k = d ∨ k = g) w w' :=
  (QGo_any d g x.fr x.be x.co x.ba x.to x.ny x.wv x.pl x.lf w x.s x.l x.f n h.d hx.fr hx.be hx.co hx.pl hx.lf hn h.g hx.s hx.l hx.f).mono fun _ _ ⟨h1, h2, h3, h4⟩ => ⟨h1, ⟨h2, h3⟩, h4⟩

theorem Bend_S (c b : Nat) (x : CS) (d : Int) (w : World) (h : PC w c b x) :
    Calls Try.prog 77 #[.pointer (some ⟨c, 0, none⟩), .int .i64 d] w fun e w' => e = .returned (.tuple #[]) ∧ PC w' c b (x.bend d) ∧ Upd (fun k => k = c ∨ k = b) w w' := by
  have hne : b ≠ c := h.b.ne_ h.c (by decide)
  exact (Bend_any c b x.fr x.be x.co x.ba x.to x.ny x.wv x.pl x.lf w d h.c).mono fun _ _ ⟨h1, h2, h3⟩ => ⟨h1, ⟨h2, h.b.upd h3 hne⟩, h3.mono fun _ _ h => .inl h⟩
end Go.Proofs.Ytgkbpdcedighcac
