/-
  The walk of the reference's Pieces.
-/
import Derived.Test.YtgkbpdcedighcaaPcs
import Derived.Test.YtgkbpdcedighcaaByRow
import Derived.Test.YtgkbpdcedighcaaRefI
namespace Go.Proofs.Ytgkbpdcedighcaa
open Go.RowKit Go.Sort

/-- One piece more, with one byte. -/
theorem PcsAt.snoc1 {PT U8 : TypeId} {w w' : World} {base : Nat} {v : Value} {p : PL} {sl : Nat → Value} {f : Nat → Nat} (h : PcsAt PT U8 w base v p sl f) (hne : PT ≠ U8) {v' s : Value} {n : Nat}
    (hrow : w'.ownsRow base PT 2 v' (p.c + 1) (pcsRow p.st sl p.c ++ [.int .i64 (n : Int), s])) (hg : w.grownBy w' v.ownBlock) (hs : w.ownsRow base U8 1 s 1 [.int .u8 (f n : Int)]) (hf : ∀ i b, i < p.c → (sl i).ownBlock = some b → s.ownBlock ≠ some b) :
    PcsAt PT U8 w' base v' ⟨p.c + 1, fun i => if i = p.c then n else p.st i, fun i => if i = p.c then 1 else p.ln i⟩ (fun i => if i = p.c then s else sl i) f := by
  refine ⟨?_, fun i hi => ?_, fun i j b hi hj hij hb => ?_⟩
  · show w'.ownsRow base PT 2 v' (p.c + 1) (pcsRow (fun i => if i = p.c then n else p.st i) (fun i => if i = p.c then s else sl i) p.c ++ [.int .i64 ((if p.c = p.c then n else p.st p.c : Nat) : Int), if p.c = p.c then s else sl p.c])
    rw [if_pos rfl, if_pos rfl, pcsRow_ext (st' := p.st) (sl' := sl) fun i hi => ⟨if_neg (by omega), if_neg (by omega)⟩]
    exact hrow
  · replace hi : i < p.c + 1 := hi
    show w'.ownsRow base U8 1 (if i = p.c then s else sl i) (if i = p.c then 1 else p.ln i) (byRow f (if i = p.c then n else p.st i) (if i = p.c then 1 else p.ln i))
    have key : ∀ {x : Value} {l : Nat} {xs : List Value}, w.ownsRow base U8 1 x l xs → w'.ownsRow base U8 1 x l xs := fun {x l xs} hx => hx.kept hg (by
      cases hs : x.ownBlock with
      | none => exact .inl rfl
      | some b => exact .inr fun hv => own_ne2 h.row hx hne hv.symm hs)
    by_cases he : i = p.c
    · rw [if_pos he, if_pos he, if_pos he]
      exact key hs
    · rw [if_neg he, if_neg he, if_neg he]
      exact key (h.each i (by omega))
  · replace hi : i < p.c + 1 := hi
    replace hj : j < p.c + 1 := hj
    replace hb : (if i = p.c then s else sl i).ownBlock = some b := hb
    show (if j = p.c then s else sl j).ownBlock ≠ some b
    by_cases h1 : j = p.c
    · rw [if_pos h1]
      rw [if_neg (by omega)] at hb
      exact hf i b (by omega) hb
    · rw [if_neg h1]
      by_cases h2 : i = p.c
      · rw [if_pos h2] at hb
        intro hx
        exact hf j b (by omega) hx hb
      · rw [if_neg h2] at hb
        exact h.apart i j b (by omega) (by omega) hij hb

set_option maxRecDepth 100000 in
set_option maxHeartbeats 4000000 in
theorem RPieces_any (A : Option Addr) (n cap : Nat) (f : Nat → Nat) (w : World) (hn : n ≤ 8192) (hA : BR w A n f) (hlt : ∀ b off, A = some ⟨b, off, none⟩ → b < w.heap.size) :
    Calls Try.prog 75 #[.slice A n cap] w fun e w' => ∃ v sl, e = .returned v ∧ PcsAt 101 5 w' w.heap.size v (pcs f n) sl f ∧ Below w.heap.size w w' := by
  have HA := Lib.hid hA
  have HL := Lib.hid hlt
  clear hA hlt
  obtain ⟨i0, hi0⟩ := Option.map_eq_some_iff.1 infoPc
  obtain ⟨hi, hzz⟩ := hi0
  have hz0 : i0.zero = some (.agg #[.int .i64 0, .slice none 0 0]) := congrArg Prod.fst hzz
  have hz1 : i0.size = 2 := congrArg (fun p => p.2.1) hzz
  have hz2 : i0.bytes = 32 := congrArg (fun p => p.2.2) hzz
  clear hzz
  obtain ⟨i1, hi1⟩ := Option.map_eq_some_iff.1 infoBy
  obtain ⟨hj, hyy⟩ := hi1
  have hy0 : i1.zero = some (.int .u8 0) := congrArg Prod.fst hyy
  have hy1 : i1.size = 1 := congrArg (fun p => p.2.1) hyy
  have hy2 : i1.bytes = 1 := congrArg (fun p => p.2.2) hyy
  clear hyy
  go_enter Try.func75, Try.ntmps75
  go_wp2_with fail
  go_loopw [3, 4] (fun v i wr => ∃ (k : Nat) (sl : Nat → Value), k ≤ n ∧ i = .int .i64 k ∧ Hid (PcsAt 101 5 wr w.heap.size v (pcs f k) sl f) ∧ Hid (Below w.heap.size w wr)) (fun _ i _ => n - (intOf i).toNat)
  case atStart => exact ⟨0, fun _ => .slice none 0 0, Nat.zero_le _, rfl, Lib.hid (PcsAt.nil _ _ _ _ _ _ _ _), Lib.hid (Below.refl _ _)⟩
  case round =>
    obtain ⟨k, sl, hk, rfl, HPC, HB⟩ := hrel
    by_cases hlt : k < n
    · obtain ⟨b1, o1, rfl, c1w⟩ := HA.out.at_ hlt
      have hb1 := HL.out b1 o1 rfl
      have HBC : Hid (∀ (i : Nat) (x : Value) (w' : World), Below w.heap.size w w' → w.cell? ⟨b1, o1 + i, none⟩ = some x → w'.cell? ⟨b1, o1 + i, none⟩ = some x) := Lib.hid fun i x w' hB hc => (hB.cell (p := ⟨b1, o1 + i, none⟩) hb1).trans hc
      have c1 := HBC.out k _ _ HB.out c1w
      have hk0 : (0 : Int) ≤ (k : Int) := by omega
      have hkn : (k : Int) < (n : Int) := by omega
      have C1W := Lib.hid c1w
      clear c1w
      by_cases hz : f k = 0
      · have HF : Hid (pcs f (k + 1) = pcs f k) := Lib.hid (pcs_zero hz)
        rw [hz] at c1
        clear hz
        go_wp2
        go_roundw
        case rel => exact ⟨k + 1, sl, by omega, by go_num, (by rw [HF.out]; exact HPC), HB⟩
        case measure => simp [intOf]; omega
      · have hd : ((f k : Int) == 0) = false := by rw [beq_eq_false_iff_ne]; omega
        cases ho : opn f k with
        | true =>
          obtain ⟨k', hk', hz2⟩ : ∃ k', k = k' + 1 ∧ f k' ≠ 0 := by
            match k, ho with
            | k' + 1, ho => exact ⟨k', rfl, of_decide_eq_true ho⟩
          have hkm : (k : Int) - 1 = (k' : Int) := by omega
          have hkp : (0 : Int) < (k : Int) := by omega
          have hk10 : (0 : Int) ≤ (k' : Int) := by omega
          have hk1n : (k' : Int) < (n : Int) := by omega
          obtain ⟨b1', o1', he1, c2w⟩ := HA.out.at_ (i := k') (by omega)
          simp only [Option.some.injEq, Addr.mk.injEq, and_true] at he1
          obtain ⟨rfl, rfl⟩ := he1
          have c2 := HBC.out k' _ _ HB.out c2w
          have hd2 : ((f k' : Int) != 0) = true := by rw [bne_iff_ne]; omega
          clear c2w
          obtain ⟨c, st, ln, hp0, hst, hck, hp1⟩ := pcs_step hz ho
          have HX : Hid ((pcs f (k + 1)).c = c + 1 ∧ ∀ i, i < c + 1 → (pcs f (k + 1)).st i = st i ∧ (pcs f (k + 1)).ln i = if i = c then ln i + 1 else ln i) := Lib.hid (by
            rw [hp1]
            refine ⟨rfl, fun i hi => ⟨rfl, ?_⟩⟩
            show (if i + 1 = c + 1 then ln i + 1 else ln i) = _
            by_cases he : i = c
            · rw [if_pos (by omega), if_pos he]
            · rw [if_neg (by omega), if_neg he])
          rw [hp0] at HPC
          clear hp0 hp1 ho
          have HFK : Hid (f k = f (st c + ln c)) := Lib.hid (by rw [hst])
          obtain ⟨g, cp, rfl, hgb, c3, c4⟩ := HPC.out.last
          have hlc : ln c ≤ 8192 := by omega
          have hc8 : c ≤ 8192 := by omega
          clear hz hst hz2 hk'
          have hsz := HB.out.size
          have hci : (0 : Int) ≤ (c : Int) := by omega
          have hcj : (c : Int) < ((c + 1 : Nat) : Int) := by omega
          have hce : ((c + 1 : Nat) : Int) - 1 = (c : Int) := by omega
          go_wp2_with fail
          refine wp_fun56 fun s => ?_
          have HQ := HPC
          have HG : Hid (g < wr.heap.size) := Lib.hid (own_lt HQ.out.row rfl).1
          have HL1 : Hid (b1 < wr.heap.size) := Lib.hid (by omega)
          have C4 := Lib.hid c4
          have C1 : Hid (wr.cell? ⟨b1, o1 + k, none⟩ = some (.int .u8 (f (st c + ln c) : Int))) := Lib.hid (by rw [← HFK.out]; exact c1)
          clear c1 c2 c3 c4 hd hd2
          refine region_inv (RpI w wr w.heap.size g cp c b1 o1 n cap k st ln sl f s) (by kernel_rfl) (by kernel_rfl) ?i0 ?steps ?iend
          case i0 =>
            intro L hL
            refine ⟨_, _, _, _, _, _, _, _, _, _, _, _, _, _, _, rfl, fun h => (by rw [hL 0 (by decide)] at h; cases h), fun h => (by rw [hL 1 (by decide)] at h; cases h), fun h => (by rw [hL 2 (by decide)] at h; cases h), fun h => (by rw [hL 3 (by decide)] at h; cases h), fun h => (by rw [hL 4 (by decide)] at h; cases h), fun h => (by rw [hL 5 (by decide)] at h; cases h), fun h => (by rw [hL 6 (by decide)] at h; cases h), fun h => (by rw [hL 7 (by decide)] at h; cases h), fun h => (by rw [hL 8 (by decide)] at h; cases h), fun h => (by rw [hL 9 (by decide)] at h; cases h), fun h => (by rw [hL 10 (by decide)] at h; cases h), fun h => (by rw [hL 13 (by decide)] at h; cases h), fun h => (by rw [hL 14 (by decide)] at h; cases h), fun h => (by rw [hL 11 (by decide)] at h; cases h), fun h => (by rw [hL 12 (by decide)] at h; cases h), fun h => (by rw [hL 15 (by decide)] at h; cases h), ⟨fun _ => ⟨⟨rfl, rfl, rfl, Nat.le_refl _, fun _ _ => rfl⟩, fun h => (by rw [hL 11 (by decide)] at h; cases h)⟩, fun h => (by rw [hL 12 (by decide)] at h; cases h), fun h => (by rw [hL 15 (by decide)] at h; cases h)⟩⟩
          case steps =>
            simp only [InvSteps]
            refine ⟨?s0, ?s1, ?s2, ?s3, ?s4, ?s5, ?s6, ?s7, ?s8, ?s9, ?s10, ?s11, ?s12, ?s13, ?s14, ?s15, trivial⟩
            case s0 =>
              intro L a wr hi hd hI
              obtain ⟨x30, x31, x32, x33, x34, x35, x36, x37, x38, x39, x40, x41, x42, x43, x44, rfl, h0, h1, h2, h3, h4, h5, h6, h7, h8, h9, h10, h13, h14, e11, e12, e15, hW⟩ := hI
              have E11 := Lib.hid e11
              have E12 := Lib.hid e12
              have E15 := Lib.hid e15
              clear e11 e12 e15
              dsimp only
              go_wp2_with fail
              exact ⟨_, x31, x32, x33, x34, x35, x36, x37, x38, x39, x40, x41, x42, x43, x44, rfl, fun _ => rfl, h1, h2, h3, h4, h5, h6, h7, h8, h9, h10, h13, h14, E11.out, E12.out, E15.out, hW⟩
            case s1 =>
              intro L a wr hi hd hI
              obtain ⟨x30, x31, x32, x33, x34, x35, x36, x37, x38, x39, x40, x41, x42, x43, x44, rfl, h0, h1, h2, h3, h4, h5, h6, h7, h8, h9, h10, h13, h14, e11, e12, e15, hW⟩ := hI
              have E11 := Lib.hid e11
              have E12 := Lib.hid e12
              have E15 := Lib.hid e15
              clear e11 e12 e15
              dsimp only
              go_wp2_with fail
              exact ⟨x30, _, x32, x33, x34, x35, x36, x37, x38, x39, x40, x41, x42, x43, x44, rfl, h0, fun _ => rfl, h2, h3, h4, h5, h6, h7, h8, h9, h10, h13, h14, E11.out, E12.out, E15.out, hW⟩
            case s2 =>
              intro L a wr hi hd hI
              obtain ⟨x30, x31, x32, x33, x34, x35, x36, x37, x38, x39, x40, x41, x42, x43, x44, rfl, h0, h1, h2, h3, h4, h5, h6, h7, h8, h9, h10, h13, h14, e11, e12, e15, hW⟩ := hI
              have E11 := Lib.hid e11
              have E12 := Lib.hid e12
              have E15 := Lib.hid e15
              clear e11 e12 e15
              dsimp only
              go_wp2_with fail
              exact ⟨x30, x31, _, x33, x34, x35, x36, x37, x38, x39, x40, x41, x42, x43, x44, rfl, h0, h1, fun _ => rfl, h3, h4, h5, h6, h7, h8, h9, h10, h13, h14, E11.out, E12.out, E15.out, hW⟩
            case s3 =>
              intro L a wr hi hd hI
              obtain ⟨x30, x31, x32, x33, x34, x35, x36, x37, x38, x39, x40, x41, x42, x43, x44, rfl, h0, h1, h2, h3, h4, h5, h6, h7, h8, h9, h10, h13, h14, e11, e12, e15, hW⟩ := hI
              have E11 := Lib.hid e11
              have E12 := Lib.hid e12
              have E15 := Lib.hid e15
              clear e11 e12 e15
              dsimp only
              go_wp2_with fail
              exact ⟨x30, x31, x32, _, x34, x35, x36, x37, x38, x39, x40, x41, x42, x43, x44, rfl, h0, h1, h2, fun _ => rfl, h4, h5, h6, h7, h8, h9, h10, h13, h14, E11.out, E12.out, E15.out, hW⟩
            case s4 =>
              intro L a wr hi hd hI
              obtain ⟨x30, x31, x32, x33, x34, x35, x36, x37, x38, x39, x40, x41, x42, x43, x44, rfl, h0, h1, h2, h3, h4, h5, h6, h7, h8, h9, h10, h13, h14, e11, e12, e15, hW⟩ := hI
              obtain ⟨d2, d3, -⟩ := hd
              obtain rfl := h2 d2
              obtain rfl := h3 d3
              have E11 := Lib.hid e11
              have E12 := Lib.hid e12
              have E15 := Lib.hid e15
              clear e11 e12 e15
              dsimp only
              go_wp2_with fail
              exact ⟨x30, x31, _, _, _, x35, x36, x37, x38, x39, x40, x41, x42, x43, x44, rfl, h0, h1, fun _ => rfl, fun _ => rfl, fun _ => rfl, h5, h6, h7, h8, h9, h10, h13, h14, E11.out, E12.out, E15.out, hW⟩
            case s5 =>
              intro L a wr hi hd hI
              obtain ⟨x30, x31, x32, x33, x34, x35, x36, x37, x38, x39, x40, x41, x42, x43, x44, rfl, h0, h1, h2, h3, h4, h5, h6, h7, h8, h9, h10, h13, h14, e11, e12, e15, hW⟩ := hI
              obtain ⟨d4, -⟩ := hd
              obtain rfl := h4 d4
              have E11 := Lib.hid e11
              have E12 := Lib.hid e12
              have E15 := Lib.hid e15
              clear e11 e12 e15
              dsimp only
              go_wp2_with fail
              exact ⟨x30, x31, x32, x33, _, _, x36, x37, x38, x39, x40, x41, x42, x43, x44, rfl, h0, h1, h2, h3, fun _ => rfl, fun _ => rfl, h6, h7, h8, h9, h10, h13, h14, E11.out, E12.out, E15.out, hW⟩
            case s6 =>
              intro L a wr hi hd hI
              obtain ⟨x30, x31, x32, x33, x34, x35, x36, x37, x38, x39, x40, x41, x42, x43, x44, rfl, h0, h1, h2, h3, h4, h5, h6, h7, h8, h9, h10, h13, h14, e11, e12, e15, hW⟩ := hI
              obtain ⟨d5, -⟩ := hd
              obtain rfl := h5 d5
              have hl12 : L 12 = false := by
                cases h : L 12 with
                | false => rfl
                | true => rw [(e12 h).1] at hi; cases hi
              have hcell := (((hW.pre hl12).1.cell (p := ⟨g, c * 2 + 1, none⟩) HG.out).trans C4.out)
              have E11 := Lib.hid e11
              have E12 := Lib.hid e12
              have E15 := Lib.hid e15
              clear e11 e12 e15
              dsimp only
              go_wp2_with fail
              exact ⟨x30, x31, x32, x33, x34, _, _, x37, x38, x39, x40, x41, x42, x43, x44, rfl, h0, h1, h2, h3, h4, fun _ => rfl, fun _ => rfl, h7, h8, h9, h10, h13, h14, E11.out, fun h => ⟨rfl, (E12.out h).2⟩, E15.out, hW⟩
            case s7 =>
              intro L a wr hi hd hI
              obtain ⟨x30, x31, x32, x33, x34, x35, x36, x37, x38, x39, x40, x41, x42, x43, x44, rfl, h0, h1, h2, h3, h4, h5, h6, h7, h8, h9, h10, h13, h14, e11, e12, e15, hW⟩ := hI
              have E11 := Lib.hid e11
              have E12 := Lib.hid e12
              have E15 := Lib.hid e15
              clear e11 e12 e15
              dsimp only
              go_wp2_with fail
              exact ⟨x30, x31, x32, x33, x34, x35, x36, _, x38, x39, x40, x41, x42, x43, x44, rfl, h0, h1, h2, h3, h4, h5, h6, fun _ => rfl, h8, h9, h10, h13, h14, E11.out, E12.out, E15.out, hW⟩
            case s8 =>
              intro L a wr hi hd hI
              obtain ⟨x30, x31, x32, x33, x34, x35, x36, x37, x38, x39, x40, x41, x42, x43, x44, rfl, h0, h1, h2, h3, h4, h5, h6, h7, h8, h9, h10, h13, h14, e11, e12, e15, hW⟩ := hI
              have E11 := Lib.hid e11
              have E12 := Lib.hid e12
              have E15 := Lib.hid e15
              clear e11 e12 e15
              dsimp only
              go_wp2_with fail
              exact ⟨x30, x31, x32, x33, x34, x35, x36, x37, _, x39, x40, x41, x42, x43, x44, rfl, h0, h1, h2, h3, h4, h5, h6, h7, fun _ => rfl, h9, h10, h13, h14, E11.out, E12.out, E15.out, hW⟩
            case s9 =>
              intro L a wr hi hd hI
              obtain ⟨x30, x31, x32, x33, x34, x35, x36, x37, x38, x39, x40, x41, x42, x43, x44, rfl, h0, h1, h2, h3, h4, h5, h6, h7, h8, h9, h10, h13, h14, e11, e12, e15, hW⟩ := hI
              obtain ⟨d7, d8, -⟩ := hd
              obtain rfl := h7 d7
              obtain rfl := h8 d8
              have E11 := Lib.hid e11
              have E12 := Lib.hid e12
              have E15 := Lib.hid e15
              clear e11 e12 e15
              dsimp only
              go_wp2_with fail
              exact ⟨x30, x31, x32, x33, x34, x35, x36, _, _, _, x40, x41, x42, x43, x44, rfl, h0, h1, h2, h3, h4, h5, h6, fun _ => rfl, fun _ => rfl, fun _ => rfl, h10, h13, h14, E11.out, E12.out, E15.out, hW⟩
            case s10 =>
              intro L a wr hi hd hI
              obtain ⟨x30, x31, x32, x33, x34, x35, x36, x37, x38, x39, x40, x41, x42, x43, x44, rfl, h0, h1, h2, h3, h4, h5, h6, h7, h8, h9, h10, h13, h14, e11, e12, e15, hW⟩ := hI
              obtain ⟨d9, -⟩ := hd
              obtain rfl := h9 d9
              have hl12 : L 12 = false := by
                cases h : L 12 with
                | false => rfl
                | true => rw [e11 (e12 h).2] at hi; cases hi
              have hcell := (((hW.pre hl12).1.cell (p := ⟨b1, o1 + k, none⟩) HL1.out).trans C1.out)
              have E11 := Lib.hid e11
              have E12 := Lib.hid e12
              have E15 := Lib.hid e15
              clear e11 e12 e15
              dsimp only
              go_wp2_with fail
              exact ⟨x30, x31, x32, x33, x34, x35, x36, x37, x38, _, _, x41, x42, x43, x44, rfl, h0, h1, h2, h3, h4, h5, h6, h7, h8, fun _ => rfl, fun _ => rfl, h13, h14, fun _ => rfl, E12.out, E15.out, hW⟩
            case s11 =>
              intro L a wr hi hd hI
              obtain ⟨x30, x31, x32, x33, x34, x35, x36, x37, x38, x39, x40, x41, x42, x43, x44, rfl, h0, h1, h2, h3, h4, h5, h6, h7, h8, h9, h10, h13, h14, e11, e12, e15, hW⟩ := hI
              obtain ⟨d10, -⟩ := hd
              obtain rfl := h10 d10
              have hl12 : L 12 = false := by
                cases h : L 12 with
                | false => rfl
                | true => rw [(e12 h).2] at hi; cases hi
              have hl15 : L 15 = false := by
                cases h : L 15 with
                | false => rfl
                | true => rw [e15 h] at hl12; cases hl12
              have E11 := Lib.hid e11
              have E12 := Lib.hid e12
              have E15 := Lib.hid e15
              clear e11 e12 e15
              dsimp only
              go_wp2_with fail
              exact ⟨x30, x31, x32, x33, x34, x35, x36, x37, x38, x39, _, _, x42, x43, x44, rfl, h0, h1, h2, h3, h4, h5, h6, h7, h8, h9, fun _ => rfl, h13, h14, fun _ => d10, fun h => ⟨(E12.out h).1, rfl⟩, E15.out, ⟨fun h => ⟨(hW.pre h).1.alloc (hW.pre h).1.size _, fun _ => ⟨_, rfl, At.new wr _ _⟩⟩, fun h => (by replace h : L 12 = true := h; rw [hl12] at h; cases h), fun h => (by replace h : L 15 = true := h; rw [hl15] at h; cases h)⟩⟩
            case s12 =>
              intro L a wr hi hd hI
              obtain ⟨x30, x31, x32, x33, x34, x35, x36, x37, x38, x39, x40, x41, x42, x43, x44, rfl, h0, h1, h2, h3, h4, h5, h6, h7, h8, h9, h10, h13, h14, e11, e12, e15, hW⟩ := hI
              obtain ⟨d6, d11, -⟩ := hd
              obtain rfl := h6 d6
              obtain ⟨hB2, hx⟩ := hW.pre hi
              obtain ⟨b, rfl, hA2⟩ := hx d11
              have hl15 : L 15 = false := by
                cases h : L 15 with
                | false => rfl
                | true => rw [e15 h] at hi; cases hi
              have hP2 := HQ.out.below hB2
              have hE2 : wr.ownsRow w.heap.size 5 1 (sl c) (ln c) (byRow f (st c) (ln c)) := hP2.each c (by show c < c + 1; omega)
              have hws2 := Nat.le_trans HB.out.size hB2.size
              have E11 := Lib.hid e11
              have E12 := Lib.hid e12
              have E15 := Lib.hid e15
              clear e11 e12 e15
              dsimp only
              go_wp2_with (at_builtin; go_loud (refine wpList_append_own_at _ rfl _ _ 77 rfl w.heap.size 5 i1 (.int .u8 0) 1 1 Try.underlying77 hj hy0 hy1 hy2 rfl (by decide) _ (ln c) _ rfl hE2 ⟨b, 0, none⟩ 1 1 [.int .u8 (f (st c + ln c) : Int)] rfl rfl (fun j u hj => by rw [addr_add, Nat.zero_add]; exact hA2.cell j hj) (by intro u hu; simp at hu; subst hu; rfl) (by unfold maxLen; omega) (by omega) hws2 ?_))
              intro v5 w5 hO5 hg5 _ hat5
              obtain ⟨A5, cap5, rfl, _⟩ := own_form hO5
              go_wp2_with fail
              exact ⟨x30, x31, x32, x33, x34, x35, _, x37, x38, x39, x40, _, _, x43, x44, rfl, h0, h1, h2, h3, h4, h5, fun _ => rfl, h7, h8, h9, h10, h13, h14, E11.out, fun _ => ⟨d6, d11⟩, fun h => (by replace h : L 15 = true := h; rw [hl15] at h; cases h), ⟨fun h => (by cases h), fun _ _ => ⟨A5, cap5, wr, rfl, hP2, hB2, hO5, hg5, hat5⟩, fun h => (by replace h : L 15 = true := h; rw [hl15] at h; cases h)⟩⟩
            case s13 =>
              intro L a wr hi hd hI
              obtain ⟨x30, x31, x32, x33, x34, x35, x36, x37, x38, x39, x40, x41, x42, x43, x44, rfl, h0, h1, h2, h3, h4, h5, h6, h7, h8, h9, h10, h13, h14, e11, e12, e15, hW⟩ := hI
              obtain ⟨d0, d1, -⟩ := hd
              obtain rfl := h0 d0
              obtain rfl := h1 d1
              have E11 := Lib.hid e11
              have E12 := Lib.hid e12
              have E15 := Lib.hid e15
              clear e11 e12 e15
              dsimp only
              go_wp2_with fail
              exact ⟨_, _, x32, x33, x34, x35, x36, x37, x38, x39, x40, x41, x42, _, x44, rfl, fun _ => rfl, fun _ => rfl, h2, h3, h4, h5, h6, h7, h8, h9, h10, fun _ => rfl, h14, E11.out, E12.out, E15.out, hW⟩
            case s14 =>
              intro L a wr hi hd hI
              obtain ⟨x30, x31, x32, x33, x34, x35, x36, x37, x38, x39, x40, x41, x42, x43, x44, rfl, h0, h1, h2, h3, h4, h5, h6, h7, h8, h9, h10, h13, h14, e11, e12, e15, hW⟩ := hI
              obtain ⟨d13, -⟩ := hd
              obtain rfl := h13 d13
              have E11 := Lib.hid e11
              have E12 := Lib.hid e12
              have E15 := Lib.hid e15
              clear e11 e12 e15
              dsimp only
              go_wp2_with fail
              exact ⟨x30, x31, x32, x33, x34, x35, x36, x37, x38, x39, x40, x41, x42, _, _, rfl, h0, h1, h2, h3, h4, h5, h6, h7, h8, h9, h10, fun _ => rfl, fun _ => rfl, E11.out, E12.out, E15.out, hW⟩
            case s15 =>
              intro L a wr hi hd hI
              obtain ⟨x30, x31, x32, x33, x34, x35, x36, x37, x38, x39, x40, x41, x42, x43, x44, rfl, h0, h1, h2, h3, h4, h5, h6, h7, h8, h9, h10, h13, h14, e11, e12, e15, hW⟩ := hI
              obtain ⟨d14, d12, -⟩ := hd
              obtain rfl := h14 d14
              obtain ⟨A5, cap5, w2, rfl, hP2, hB2, hO5, hg5, hat5⟩ := hW.mid d12 hi
              obtain ⟨m1, m2⟩ := hP2.mid pcne hg5
              have hM := hP2.more pcne hO5 hg5 hat5
              have hbs : ∀ b, (sl c).ownBlock = some b → w.heap.size ≤ b := fun b hb => (own_lt (hP2.each c (by show c < c + 1; omega)) hb).2
              have hB5 := (((HB.out.trans (hB2.mono HB.out.size)).grown hg5 (Nat.le_trans HB.out.size hB2.size) hbs).setCell (p := ⟨g, c * 2 + 1, none⟩) hgb (.slice A5 (ln c + 1) cap5))
              have E11 := Lib.hid e11
              have E12 := Lib.hid e12
              have E15 := Lib.hid e15
              clear e11 e12 e15
              dsimp only
              go_wp2_with fail
              exact ⟨x30, x31, x32, x33, x34, x35, x36, x37, x38, x39, x40, x41, _, x43, _, rfl, h0, h1, h2, h3, h4, h5, h6, h7, h8, h9, h10, h13, fun _ => rfl, E11.out, E12.out, fun _ => d12, ⟨fun h => (by replace h : L 12 = false := h; rw [d12] at h; cases h), fun _ h => (by cases h), fun _ => ⟨hM, hB5⟩⟩⟩
          case iend =>
            intro a w' hI
            obtain ⟨x30, x31, x32, x33, x34, x35, x36, x37, x38, x39, x40, x41, x42, x43, x44, rfl, h0, h1, h2, h3, h4, h5, h6, h7, h8, h9, h10, h13, h14, e11, e12, e15, hW⟩ := hI
            obtain ⟨hM, hB5⟩ := hW.fin rfl
            have HM := Lib.hid hM
            have HB5 := Lib.hid hB5
            clear hW hM hB5 h0 h1 h2 h3 h4 h5 h6 h7 h8 h9 h10 h13 h14 e11 e12 e15
            go_wp2
            go_roundw
            case rel => exact ⟨k + 1, fun i => if i = c then x42 else sl i, by omega, by go_num, Lib.hid (HM.out.ext HX.out.1 fun i hi => ⟨(HX.out.2 i hi).1, (HX.out.2 i hi).2, rfl⟩), HB5⟩
            case measure => simp [intOf]; omega
        | false =>
          have HB0 := HB
          have hp1 := pcs_next hz ho
          obtain ⟨_, _, _, _, h5⟩ := pcs_ok f k
          have hsz0 := HB.out.size
          have hba : Below wr.heap.size wr ((wr.alloc (.cells #[.int .u8 (f k : Int)] 5)).alloc (.cells #[.int .i64 (k : Int), .slice (some ⟨wr.heap.size, 0, none⟩) 1 1] 101)) := ((Below.refl _ wr).alloc (Nat.le_refl _) _).alloc (by simp) _
          have HPA := Lib.hid (HPC.out.below hba)
          have HR0 : Hid (((wr.alloc (.cells #[.int .u8 (f k : Int)] 5)).alloc (.cells #[.int .i64 (k : Int), .slice (some ⟨wr.heap.size, 0, none⟩) 1 1] 101)).ownsRow w.heap.size 101 2 u3 (pcs f k).c (pcsRow (pcs f k).st sl (pcs f k).c)) := Lib.hid HPA.out.row
          have HS1 : Hid (((wr.alloc (.cells #[.int .u8 (f k : Int)] 5)).alloc (.cells #[.int .i64 (k : Int), .slice (some ⟨wr.heap.size, 0, none⟩) 1 1] 101)).ownsRow w.heap.size 5 1 (.slice (some ⟨wr.heap.size, 0, none⟩) 1 1) 1 [.int .u8 (f k : Int)]) := Lib.hid (kept_none (World.ownsRow_lit (e := 5) (size := 1) wr #[.int .u8 (f k : Int)] 1 hsz0 (by unfold maxLen; omega) rfl) (grown_below ((Below.refl _ _).alloc (Nat.le_refl _) _)))
          have HSF : Hid (∀ i b, i < (pcs f k).c → (sl i).ownBlock = some b → (Value.slice (some ⟨wr.heap.size, 0, none⟩) 1 1).ownBlock ≠ some b) := Lib.hid fun i b hi hb hx => by
            have h1 := (own_lt (HPC.out.each i hi) hb).1
            have h2 : wr.heap.size = b := by simpa [Value.ownBlock] using hx
            omega
          have HBA := Lib.hid (HB.out.trans (hba.mono hsz0))
          have HP1 := Lib.hid hp1
          have HNW : Hid (∀ j u, [Value.int .i64 (k : Int), .slice (some ⟨wr.heap.size, 0, none⟩) 1 1][j]? = some u → ((wr.alloc (.cells #[.int .u8 (f k : Int)] 5)).alloc (.cells #[.int .i64 (k : Int), .slice (some ⟨wr.heap.size, 0, none⟩) 1 1] 101)).cell? ((⟨wr.heap.size + 1, 0, none⟩ : Addr).add j) = some u) := Lib.hid fun j u hj => by
            rw [addr_add, Nat.zero_add]
            exact (At.fresh _ #[.int .i64 (k : Int), .slice (some ⟨wr.heap.size, 0, none⟩) 1 1] _ _ (by simp)).cell j hj
          clear hp1 hba
          generalize pcs f k = pk at *
          obtain ⟨c, st0, ln0⟩ := pk
          replace h5 : c ≤ k := h5
          have hfin : ∀ v4 w4, w4.ownsRow w.heap.size 101 2 v4 (c + 1) (pcsRow st0 sl c ++ [.int .i64 (k : Int), .slice (some ⟨wr.heap.size, 0, none⟩) 1 1]) → ((wr.alloc (.cells #[.int .u8 (f k : Int)] 5)).alloc (.cells #[.int .i64 (k : Int), .slice (some ⟨wr.heap.size, 0, none⟩) 1 1] 101)).grownBy w4 u3.ownBlock →
              PcsAt 101 5 w4 w.heap.size v4 (pcs f (k + 1)) (fun i => if i = c then .slice (some ⟨wr.heap.size, 0, none⟩) 1 1 else sl i) f ∧ Below w.heap.size w w4 := fun v4 w4 hO4 hg4 => by
            have hbs4 : ∀ b, u3.ownBlock = some b → w.heap.size ≤ b := fun b hb => (own_lt HR0.out hb).2
            refine ⟨?_, HBA.out.grown hg4 HBA.out.size hbs4⟩
            have := HPA.out.snoc1 pcne hO4 hg4 HS1.out HSF.out
            rw [HP1.out]
            exact this
          have HFN := Lib.hid hfin
          clear hfin HPA HS1 HSF HBA HP1 HPC HB
          have hlen9 : (c + 1) * 32 ≤ 140737488355328 := by omega
          have hml9 : c + 1 ≤ maxLen := by unfold maxLen; omega
          have hsz9 : w.heap.size ≤ ((wr.alloc (.cells #[.int .u8 (f k : Int)] 5)).alloc (.cells #[.int .i64 (k : Int), .slice (some ⟨wr.heap.size, 0, none⟩) 1 1] 101)).heap.size := by simp; omega
          by_cases hk00 : k = 0
          · have hkp : ¬ (0 : Int) < (k : Int) := by omega
            clear hk00 ho hz
            go_wp2_with (at_builtin; go_loud (refine wpList_append_own _ rfl _ _ 70 rfl w.heap.size 101 i0 (.agg #[.int .i64 0, .slice none 0 0]) 2 32 Try.underlying70 hi hz0 hz1 hz2 rfl (by decide) _ c _ rfl HR0.out ⟨wr.heap.size + 1, 0, none⟩ 1 1 [.int .i64 (k : Int), .slice (some ⟨wr.heap.size, 0, none⟩) 1 1] rfl rfl HNW.out (by intro u hu; simp at hu; rcases hu with rfl | rfl <;> rfl) hml9 hlen9 hsz9 ?_))
            intro v4 w4 hO4 hg4 _
            obtain ⟨hPf, hBf⟩ := HFN.out v4 w4 hO4 hg4
            have HPf := Lib.hid hPf
            have HBf := Lib.hid hBf
            clear hPf hBf hO4 hg4 c1
            go_wp2
            go_roundw
            case rel => exact ⟨k + 1, _, by omega, by go_num, HPf, HBf⟩
            case measure => simp [intOf]; omega
          · obtain ⟨k', hk', hz2⟩ : ∃ k', k = k' + 1 ∧ f k' = 0 := by
              match k, ho, hk00 with
              | k' + 1, ho, _ => exact ⟨k', rfl, Classical.not_not.1 (of_decide_eq_false ho)⟩
            have hkm : (k : Int) - 1 = (k' : Int) := by omega
            have hkp : (0 : Int) < (k : Int) := by omega
            have hk10 : (0 : Int) ≤ (k' : Int) := by omega
            have hk1n : (k' : Int) < (n : Int) := by omega
            obtain ⟨b1', o1', he1, c2w⟩ := HA.out.at_ (i := k') (by omega)
            simp only [Option.some.injEq, Addr.mk.injEq, and_true] at he1
            obtain ⟨rfl, rfl⟩ := he1
            have c2 := HBC.out k' _ _ HB0.out c2w
            rw [hz2] at c2
            clear c2w hk00 ho hz hk' hz2
            go_wp2_with (at_builtin; go_loud (refine wpList_append_own _ rfl _ _ 70 rfl w.heap.size 101 i0 (.agg #[.int .i64 0, .slice none 0 0]) 2 32 Try.underlying70 hi hz0 hz1 hz2 rfl (by decide) _ c _ rfl HR0.out ⟨wr.heap.size + 1, 0, none⟩ 1 1 [.int .i64 (k : Int), .slice (some ⟨wr.heap.size, 0, none⟩) 1 1] rfl rfl HNW.out (by intro u hu; simp at hu; rcases hu with rfl | rfl <;> rfl) hml9 hlen9 hsz9 ?_))
            intro v4 w4 hO4 hg4 _
            obtain ⟨hPf, hBf⟩ := HFN.out v4 w4 hO4 hg4
            have HPf := Lib.hid hPf
            have HBf := Lib.hid hBf
            clear hPf hBf hO4 hg4 c1
            go_wp2
            go_roundw
            case rel => exact ⟨k + 1, _, by omega, by go_num, HPf, HBf⟩
            case measure => simp [intOf]; omega
    · obtain rfl : k = n := by omega
      go_wp2
      go_ret
      exact ⟨_, sl, rfl, HPC.out, HB.out⟩
end Go.Proofs.Ytgkbpdcedighcaa
