/-
  A channel's state; what a write, clocks make of it in the program.
-/
import Derived.Test.YtgkbpdcedighcacWaveG
namespace Go.Proofs.Ytgkbpdcedighcac
open Go.RowKit Go.Sort NoiseP

theorem step_updS {w w' w0 : World} {S : Nat → Prop} (hb : Below w0.heap.size w0 w) (hu : Upd S w w') (hle : ∀ k, S k → w0.heap.size ≤ k) : Below w0.heap.size w0 w' := hu.to hb hb.size hle

structure CS where
  fr : Nat
  be : Int
  co : Nat
  ba : Nat
  to : Nat
  ny : Bool
  wv : Nat → Nat
  pl : Nat
  lf : Int
  s : Nat
  l : Int
  f : Int

structure CS.Ok (x : CS) : Prop where
  fr : x.fr < 4096
  be : -4096 ≤ x.be ∧ x.be ≤ 4096
  co : x.co < 256
  ba : x.ba < 256
  to : x.to < 32
  pl : x.pl < 32
  lf : 1 ≤ x.lf ∧ x.lf ≤ 4096
  wv : ∀ i, x.wv i < 32
  s : x.s < 262144
  l : 1 ≤ x.l ∧ x.l ≤ 1984
  f : 0 ≤ x.f ∧ x.f ≤ 255

def CS.w (x : CS) (b : Nat) : List Value := wz b x.fr x.be x.co x.ba x.to x.ny x.wv x.pl x.lf
def CS.n (x : CS) : List Value := nz x.s x.l (perI x.f)
/-- The program's channel. -/
structure PC (w : World) (c b : Nat) (x : CS) : Prop where
  c : At w c 138 (x.w b)
  b : At w b 175 x.n
theorem PC.below {w w' : World} {c b : Nat} {x : CS} (h : PC w c b x) (hb : Below w.heap.size w w') : PC w' c b x := ⟨h.c.below hb h.c.lt, h.b.below hb h.b.lt⟩
theorem PC.upd {w w' : World} {c b : Nat} {x : CS} {S : Nat → Prop} (h : PC w c b x) (hu : Upd S w w') (hc : ¬ S c) (hb : ¬ S b) : PC w' c b x := ⟨h.c.upd hu hc, h.b.upd hu hb⟩
def CS.new : CS := ⟨0, 0, 0, 0, 0, false, fun _ => 0, 0, 4096, 1, perI 0, 0⟩
theorem CS.new_ok : CS.new.Ok := ⟨by decide, by decide, by decide, by decide, by decide, by decide, by decide, fun _ => by show (0 : Nat) < 32; decide, by decide, perI_pos 0, by decide⟩

/-- A write. -/
def CS.wr (x : CS) (reg : Int) (v : Nat) : CS :=
  if reg = 2 then { x with fr := x.fr / 256 * 256 + v }
  else if reg = 3 then { x with fr := v % 16 * 256 + x.fr % 256 }
  else if reg = 4 then { x with co := v, pl := if v / 64 = 1 then 0 else x.pl }
  else if reg = 5 then { x with ba := v }
  else if reg = 6 then if x.co / 64 % 2 = 1 then { x with to := v % 32 } else { x with wv := fun i => if i = x.pl then v % 32 else x.wv i, pl := (x.pl + 1) % 32 }
  else if reg = 7 then { x with ny := decide (128 ≤ v), f := v }
  else x
theorem CS.wr_ok {x : CS} (h : x.Ok) (reg : Int) {v : Nat} (hv : v < 256) : (x.wr reg v).Ok := by
  obtain ⟨h1, h2, h3, h4, h5, h6, h7, h8, h9, h10, h11⟩ := h
  unfold CS.wr
  repeat' split
  · exact ⟨by show x.fr / 256 * 256 + v < 4096; omega, h2, h3, h4, h5, h6, h7, h8, h9, h10, h11⟩
  · exact ⟨by show v % 16 * 256 + x.fr % 256 < 4096; omega, h2, h3, h4, h5, h6, h7, h8, h9, h10, h11⟩
  · exact ⟨h1, h2, hv, h4, h5, by show (0 : Nat) < 32; omega, h7, h8, h9, h10, h11⟩
  · exact ⟨h1, h2, hv, h4, h5, h6, h7, h8, h9, h10, h11⟩
  · exact ⟨h1, h2, h3, hv, h5, h6, h7, h8, h9, h10, h11⟩
  · exact ⟨h1, h2, h3, h4, Nat.mod_lt _ (by omega), h6, h7, h8, h9, h10, h11⟩
  · exact ⟨h1, h2, h3, h4, h5, Nat.mod_lt _ (by omega), h7, fun i => by show (if i = x.pl then v % 32 else x.wv i) < 32; split; exact Nat.mod_lt _ (by omega); exact h8 i, h9, h10, h11⟩
  · exact ⟨h1, h2, h3, h4, h5, h6, h7, h8, h9, h10, by show 0 ≤ (v : Int) ∧ (v : Int) ≤ 255; omega⟩
  · exact ⟨h1, h2, h3, h4, h5, h6, h7, h8, h9, h10, h11⟩

/-- Clocks. -/
def CS.go (x : CS) (n : Int) : CS := { x with pl := wgPl x.co x.pl x.lf (perW x.fr x.be) n, lf := wgLf x.co x.lf (perW x.fr x.be) n, s := nsS x.ny x.s x.l (perI x.f) n, l := nsL x.ny x.l (perI x.f) n }
theorem CS.go_ok {x : CS} (h : x.Ok) {n : Int} (hn : 0 ≤ n) : (x.go n).Ok := by
  obtain ⟨h1, h2, h3, h4, h5, h6, h7, h8, h9, h10, h11⟩ := h
  have hp := perI_pos x.f
  refine ⟨h1, h2, h3, h4, h5, wgPl_lt _ _ _ _ _ h6, wgLf_le _ _ _ _ h7 (perW_pos _ _) hn, h8, ?_, ?_, h11⟩
  · show nsS _ _ _ _ _ < _
    unfold nsS
    split
    · exact goS_lt _ _ _ _ h9
    · exact h9
  · show 1 ≤ nsL _ _ _ _ ∧ nsL _ _ _ _ ≤ 1984
    unfold nsL
    split
    · exact ⟨goL_pos _ _ _ hp.1, goL_le _ _ _ hn hp.1 h10.2 hp.2⟩
    · exact h10

theorem Write_S (c b : Nat) (x : CS) (reg : Int) (v : Nat) (w : World) (h : PC w c b x) (hx : x.Ok) (hv : v < 256) :
    Calls Try.prog 43 #[.pointer (some ⟨c, 0, none⟩), .int .i64 reg, .int .u8 (v : Int)] w fun e w' => e = .returned (.tuple #[]) ∧ PC w' c b (x.wr reg v) ∧ Upd (fun k => k = c ∨ k = b) w w' := by
  have hne : b ≠ c := h.b.ne_ h.c (by decide)
  obtain ⟨hc, hb⟩ := h
  unfold CS.w at hc
  unfold CS.wr
  have fin : ∀ {e : Ending} {w' : World} {y : CS}, y.n = x.n → (e = .returned (.tuple #[]) ∧ At w' c 138 (y.w b) ∧ Upd (· = c) w w') → e = .returned (.tuple #[]) ∧ PC w' c b y ∧ Upd (fun k => k = c ∨ k = b) w w' := by
    rintro e w' y hy ⟨he, h1, h2⟩
    exact ⟨he, ⟨h1, hy ▸ hb.upd h2 hne⟩, h2.mono fun _ _ h => .inl h⟩
  split
  · next h => subst h; exact (Write2 c b x.fr x.be x.co x.ba x.to x.ny x.wv x.pl x.lf w v hc hx.fr hv).mono fun _ _ h => by refine fin ?_ h; rfl
  · split
    · next h => subst h; exact (Write3 c b x.fr x.be x.co x.ba x.to x.ny x.wv x.pl x.lf w v hc hx.fr hv).mono fun _ _ h => by refine fin ?_ h; rfl
    · split
      · next h => subst h; exact (Write4 c b x.fr x.be x.co x.ba x.to x.ny x.wv x.pl x.lf w v hc hv).mono fun _ _ h => by refine fin ?_ h; rfl
      · split
        · next h => subst h; exact (Write5 c b x.fr x.be x.co x.ba x.to x.ny x.wv x.pl x.lf w v hc).mono fun _ _ h => by refine fin ?_ h; rfl
        · split
          · next h =>
            subst h
            split
            · next ht => exact (Write6_told c b x.fr x.be x.co x.ba x.to x.ny x.wv x.pl x.lf w v hc hx.co hv ht).mono fun _ _ h => by refine fin ?_ h; rfl
            · next ht => exact (Write6_wave c b x.fr x.be x.co x.ba x.to x.ny x.wv x.pl x.lf w v hc hx.co hv (by omega) hx.pl).mono fun _ _ h => by refine fin ?_ h; rfl
          · split
            · next h =>
              subst h
              exact (Write7 c b x.fr x.be x.co x.ba x.to x.ny x.wv x.pl x.lf w v x.s x.l (perI x.f) hc hb hv).mono fun _ _ ⟨h1, h2, h3, h4⟩ => ⟨h1, ⟨h2, h3⟩, h4⟩
            · exact (Write_other c b x.fr x.be x.co x.ba x.to x.ny x.wv x.pl x.lf w reg v hc ⟨‹_›, ‹_›, ‹_›, ‹_›, ‹_›, ‹_›⟩).mono fun _ _ ⟨h1, h2⟩ => ⟨h1, h2 ▸ ⟨hc, hb⟩, h2 ▸ Upd.refl _ _⟩

theorem Go_S (c b : Nat) (x : CS) (n : Int) (w : World) (h : PC w c b x) (hx : x.Ok) (hn : 0 ≤ n ∧ n ≤ 1099511627776) :
    Calls Try.prog 39 #[.pointer (some ⟨c, 0, none⟩), .int .i64 n] w fun e w' => e = .returned (.tuple #[]) ∧ PC w' c b (x.go n) ∧ Upd (fun k => k = c ∨ k = b) w w' := by
  have hne : b ≠ c := h.b.ne_ h.c (by decide)
  obtain ⟨hc, hb⟩ := h
  unfold CS.w at hc
  have hp := perI_pos x.f
  cases hny : x.ny
  · rw [hny] at hc
    refine (Go_quiet c b x.fr x.be x.co x.ba x.to x.wv x.pl x.lf w n hc hx.fr hx.be hx.co hx.pl hx.lf hn).mono fun _ _ ⟨h1, h2, h3⟩ => ⟨h1, ⟨?_, ?_⟩, h3.mono fun _ _ h => .inl h⟩
    · unfold CS.go CS.w; rw [hny]; exact h2
    · have h4 := hb.upd h3 hne
      unfold CS.go CS.n nsS nsL; rw [hny]; exact h4
  · rw [hny] at hc
    refine (Go_noisy c b x.fr x.be x.co x.ba x.to x.wv x.pl x.lf w x.s x.l (perI x.f) n hc hx.fr hx.be hx.co hx.pl hx.lf hn hb hx.s hx.l hp).mono fun _ _ ⟨h1, h2, h3, h4⟩ => ⟨h1, ⟨?_, ?_⟩, h4⟩
    · unfold CS.go CS.w; rw [hny]; exact h2
    · unfold CS.go CS.n nsS nsL; rw [hny]; exact h3

end Go.Proofs.Ytgkbpdcedighcac
