/-
  The walk of the law SoundLater.
-/
import Derived.Test.YtgkbpdcedighcacSndAB
import Derived.Test.YtgkbpdcedighcacOpenS
import Derived.Test.YtgkbpdcedighcacOpenA
namespace Go.Proofs.Ytgkbpdcedighcac
open Go.RowKit Go.Sort NoiseP

def IsAc (cs : List Value) : Prop := ∃ a : Ac, cs = a.cs ∧ a.Ok
set_option maxRecDepth 100000 in
theorem IsAc_of {H : Type} {enc : TypeId × Value → H} {w : World} {base : Nat} {spare : Nat → Bool} {held : Bool} {m : Nat} {cs : List Value} {x : DataW H × List MemPlace}
    (h : DataW.trod enc Try.prog w base spare held m 82 cs = some x) : IsAc cs := by
  obtain ⟨hl, hf⟩ := struct_cells Try.underlying82 (by kernel_rfl) (by kernel_rfl) h
  obtain ⟨a, ha, wa⟩ := field_int Try.underlying2 (hf 0 _ rfl)
  obtain ⟨b, hb, wb⟩ := field_int Try.underlying60 (hf 1 _ rfl)
  obtain ⟨c, hc, wc⟩ := field_int Try.underlying5 (hf 2 _ rfl)
  obtain ⟨d, hd⟩ := field_bool Try.underlying4 (hf 3 _ rfl)
  obtain ⟨e, he, we⟩ := field_int Try.underlying5 (hf 4 _ rfl)
  have h1 := wf_bounds_u32 wb
  have h2 := wf_bounds_u8 wc
  have h3 := wf_bounds_u8 we
  refine ⟨⟨a, b.toNat, c.toNat, d, e.toNat⟩, ?_, by show b.toNat < 4294967296; omega, by show e.toNat < 256; omega⟩
  show cs = [.int .i64 a, .int .u32 ((b.toNat : Nat) : Int), .int .u8 ((c.toNat : Nat) : Int), .bool d, .int .u8 ((e.toNat : Nat) : Int)]
  rw [Int.toNat_of_nonneg h1.1, Int.toNat_of_nonneg h2.1, Int.toNat_of_nonneg h3.1]
  replace hl : cs.length = 5 := hl
  apply List.ext_getElem?
  intro i
  match i with
  | 0 => exact ha
  | 1 => exact hb
  | 2 => exact hc
  | 3 => exact hd
  | 4 => exact he
  | i + 5 => rw [List.getElem?_eq_none (by rw [hl]; omega), List.getElem?_eq_none (by simp)]

theorem acs_of {w : World} {a : Option Addr} {n cap : Nat} {F : Nat → List Value} (h : SlR w a n cap 5 IsAc F) : ∃ E, Acs w a n E := by
  have hex : ∀ i, ∃ v : Ac, i < n → F i = v.cs ∧ v.Ok := fun i => by
    by_cases hi : i < n
    · obtain ⟨v, h1, h2⟩ := (h.elem i hi).1
      exact ⟨v, fun _ => ⟨h1, h2⟩⟩
    · exact ⟨⟨0, 0, 0, false, 0⟩, fun h => absurd h hi⟩
  obtain ⟨V, hV⟩ := Classical.skolem.1 hex
  refine ⟨V, fun i hi => ?_, fun i hi => (hV i hi).2⟩
  obtain ⟨_, hl, b, off, h1, h2, h3⟩ := h.elem i hi
  refine ⟨b, off, h1, h2, fun j v hv => ?_⟩
  have hj : j < 5 := by
    rcases Nat.lt_or_ge j 5 with h | h
    · exact h
    · rw [List.getElem?_eq_none (by show 5 ≤ j; omega)] at hv; cases hv
  rw [Nat.add_assoc, h3 j hj, (hV i hi).1]
  exact hv

/-- The cells of accesses. -/
def acRow (F : Nat → Ac) : Nat → List Value
  | 0 => []
  | k + 1 => acRow F k ++ (F k).cs
theorem acRow_length (F : Nat → Ac) : ∀ k, (acRow F k).length = k * 5
  | 0 => rfl
  | k + 1 => by rw [acRow, List.length_append, acRow_length F k]; show k * 5 + 5 = _; omega
theorem acRow_ext {F G : Nat → Ac} : ∀ {k : Nat}, (∀ i, i < k → F i = G i) → acRow F k = acRow G k
  | 0, _ => rfl
  | k + 1, h => by rw [acRow, acRow, acRow_ext (k := k) fun i hi => h i (by omega), h k (by omega)]
theorem acRow_get {F : Nat → Ac} : ∀ {k i j : Nat}, i < k → j < 5 → (acRow F k)[i * 5 + j]? = (F i).cs[j]?
  | k + 1, i, j, h, hj => by
    rw [acRow]
    by_cases hi : i < k
    · rw [List.getElem?_append_left (by rw [acRow_length]; omega)]
      exact acRow_get hi hj
    · obtain rfl : i = k := by omega
      rw [List.getElem?_append_right (by rw [acRow_length]; omega), acRow_length, show i * 5 + j - i * 5 = j by omega]
theorem acs_one (a : Ac) : ∀ u ∈ a.cs, u.oneCell' = true := by
  intro u hu
  simp only [Ac.cs, List.mem_cons, List.not_mem_nil, or_false] at hu
  rcases hu with rfl | rfl | rfl | rfl | rfl <;> rfl
theorem acRow_one (F : Nat → Ac) : ∀ k, ∀ u ∈ acRow F k, u.oneCell' = true
  | 0, u, hu => by cases hu
  | k + 1, u, hu => by
    rw [acRow, List.mem_append] at hu
    rcases hu with hu | hu
    · exact acRow_one F k u hu
    · exact acs_one _ u hu
theorem own_acs {w : World} {base n cap : Nat} {A : Option Addr} {F : Nat → Ac} (h : w.ownsRow base 82 5 (.slice A n cap) n (acRow F n)) (hF : ∀ i, i < n → (F i).Ok) : Acs w A n F := by
  refine ⟨fun i hi => ?_, hF⟩
  rcases h.2 with ⟨_, h0⟩ | ⟨b, cp, cur, he, hb, hh, _⟩
  · omega
  · simp only [Value.slice.injEq] at he
    obtain ⟨rfl, -, rfl⟩ := he
    refine ⟨b, 0, rfl, (Array.getElem?_eq_some_iff.1 hh).1, fun j v hv => ?_⟩
    have hj : j < 5 := by
      rcases Nat.lt_or_ge j 5 with h | h
      · exact h
      · rw [List.getElem?_eq_none (by show 5 ≤ j; omega)] at hv; cases hv
    rw [Nat.zero_add]
    exact (h.cellAt _ (by omega)).trans ((acRow_get hi hj).trans hv)

theorem wpList_append_rows {P : Program} {w : World} {ops : Array Oper} {rest : List Oper} {o : Oper} {a : Act} {Q : Exit → Act → World → Prop} (hgd : o.guard = none) (s x : Operand) (t : TypeId)
    (ho : o.op = .call { callee := .builtin .append, args := #[s, x], argTypes := #[t, t] })
    (base : Nat) (e : TypeId) (i : TypeInfo) (z : Value) (size bytes : Nat) (ht : P.underlying t = some (.slice e)) (hi : P.info? e = some i) (hz : i.zero = some z)
    (hsize : i.size = size) (hby : i.bytes = bytes) (hzs : z.cells.size = size) (hsz : 0 < size)
    (v : Value) (n : Nat) (xs : List Value) (hs : a.eval s = v) (hown : w.ownsRow base e size v n xs)
    (A : Option Addr) (m c : Nat) (news : List Value) (hx : a.eval x = .slice A m c) (hnil : A = none → m = 0 ∧ c = 0) (hl : news.length = m * size) (hnews : ∀ ad, A = some ad → ∀ j u, news[j]? = some u → w.cell? (ad.add j) = some u) (h1 : ∀ u ∈ news, u.oneCell' = true)
    (h63 : n + m ≤ maxLen) (hbytes : (n + m) * bytes ≤ 140737488355328) (hbase : base ≤ w.heap.size)
    (h : ∀ v' w', w'.ownsRow base e size v' (n + m) (xs ++ news) → w.grownBy w' v.ownBlock → wpList P ops Q rest (a.put o.dst v') w') :
    wpList P ops Q (o :: rest) a w := by
  cases A with
  | some ad => exact wpList_append_own _ hgd s x t ho base e i z size bytes ht hi hz hsize hby hzs hsz v n xs hs hown ad m c news hx hl (hnews ad rfl) h1 h63 hbytes hbase fun v' w' a b _ => h v' w' a b
  | none =>
    obtain ⟨rfl, rfl⟩ := hnil rfl
    have hn : news = [] := List.eq_nil_of_length_eq_zero (by simpa using hl)
    subst hn
    refine wpList_plain hgd fun K hK => ?_
    have hr := run_append_owned_none (P := P) w base t o.type e i size ht hi v n xs hown
    unfold Oper.wp execOp
    simp only [ho, resolve, invoke, builtin, Sem.run_bind, Sem.run_pure, Result.andThen_ok, List.map_toArray, List.map_cons, List.map_nil, hs, hx, hr]
    exact hK _ _ (h v w (by simpa using hown) (World.grownBy.refl w _))

theorem infoAc : (Try.prog.info? 82).map (fun i => (i.zero, i.size, i.bytes)) = some (some (.agg #[.int .i64 0, .int .u32 0, .int .u8 0, .bool false, .int .u8 0]), 5, 16) := by kernel_rfl

set_option maxRecDepth 100000 in
set_option maxHeartbeats 16000000 in
theorem SoundLater_walk (w : World) (a0 : Option Addr) (n0 p0 : Nat) (F0 : Nat → List Value) (s0 : SlR w a0 n0 p0 5 IsAc F0) (a1 : Option Addr) (n1 p1 : Nat) (F1 : Nat → List Value) (s1 : SlR w a1 n1 p1 5 IsAc F1)
    (every : Int) (_hev : (Lit.int .i64 every).wf = true) (n : Int) (_hnn : (Lit.int .i64 n).wf = true) :
    Calls Try.prog 12 #[.slice a0 n0 p0, .slice a1 n1 p1, .int .i64 every, .int .i64 n] w fun e w' => e = .returned (.bool true) ∧ Below w.heap.size w w' := by
  have hle0 := s0.le
  have hnil0 : a0 = none → n0 = 0 ∧ p0 = 0 := fun h => by have := s0.nil h; omega
  obtain ⟨E0, hE0⟩ := acs_of s0
  obtain ⟨E1, hE1⟩ := acs_of s1
  have H0 := Lib.hid hE0
  have H1 := Lib.hid hE1
  have HNIL := Lib.hid hnil0
  have HL0 : Hid (∀ b off, a0 = some ⟨b, off, none⟩ → 0 < n0 → b < w.heap.size) := Lib.hid fun b off h h0 => hE0.1.lt h0 h
  clear s0 s1 hE0 hE1 _hev _hnn hnil0
  by_cases g0 : 200 < n0
  · go_enter Try.func12, Try.ntmps12
    go_wp2_with fail
    refine (live37_any w).mono ?_
    rintro e w1 ⟨rfl, hB1⟩
    go_wp2
    (try simp only [Exit.inBlock, Exit.then])
    go_ret
    exact ⟨rfl, hB1⟩
  by_cases g1 : 200 < n1
  · go_enter Try.func12, Try.ntmps12
    go_wp2_with fail
    refine (live37_any w).mono ?_
    rintro e w1 ⟨rfl, hB1⟩
    go_wp2
    (try simp only [Exit.inBlock, Exit.then])
    go_ret
    exact ⟨rfl, hB1⟩
  by_cases g2 : every < 1
  · go_enter Try.func12, Try.ntmps12
    go_wp2_with fail
    refine (live37_any w).mono ?_
    rintro e w1 ⟨rfl, hB1⟩
    go_wp2
    (try simp only [Exit.inBlock, Exit.then])
    go_ret
    exact ⟨rfl, hB1⟩
  by_cases g3 : 600 < every
  · go_enter Try.func12, Try.ntmps12
    go_wp2_with fail
    refine (live37_any w).mono ?_
    rintro e w1 ⟨rfl, hB1⟩
    go_wp2
    (try simp only [Exit.inBlock, Exit.then])
    go_ret
    exact ⟨rfl, hB1⟩
  by_cases g4 : n < 0
  · go_enter Try.func12, Try.ntmps12
    go_wp2_with fail
    refine (live37_any w).mono ?_
    rintro e w1 ⟨rfl, hB1⟩
    go_wp2
    (try simp only [Exit.inBlock, Exit.then])
    go_ret
    exact ⟨rfl, hB1⟩
  by_cases g5 : 100 < n
  · go_enter Try.func12, Try.ntmps12
    go_wp2_with fail
    refine (live37_any w).mono ?_
    rintro e w1 ⟨rfl, hB1⟩
    go_wp2
    (try simp only [Exit.inBlock, Exit.then])
    go_ret
    exact ⟨rfl, hB1⟩
  obtain ⟨n, rfl⟩ : ∃ k : Nat, n = k := ⟨n.toNat, by omega⟩
  have hn100 : n ≤ 100 := by omega
  have hn0' : n0 ≤ 200 := by omega
  have hn1' : n1 ≤ 200 := by omega
  have hev1 : 1 ≤ every := by omega
  have hev6 : every ≤ 600 := by omega
  obtain ⟨i0, hi0⟩ := Option.map_eq_some_iff.1 infoAc
  obtain ⟨hi, hzz⟩ := hi0
  have hz0 : i0.zero = some (.agg #[.int .i64 0, .int .u32 0, .int .u8 0, .bool false, .int .u8 0]) := congrArg Prod.fst hzz
  have hz1 : i0.size = 5 := congrArg (fun p => p.2.1) hzz
  have hz2 : i0.bytes = 16 := congrArg (fun p => p.2.2) hzz
  clear hzz
  obtain ⟨z, hz⟩ : ∃ z, z = every * (n : Int) := ⟨_, rfl⟩
  have hzb : 0 ≤ every * (n : Int) ∧ every * (n : Int) ≤ 60000 := by
    constructor
    · exact Int.mul_nonneg (by omega) (by omega)
    · calc every * (n : Int) ≤ 600 * (n : Int) := Int.mul_le_mul_of_nonneg_right (by omega) (by omega)
        _ ≤ 60000 := by omega
  have hmul : IntKind.i64.wrap (every * (n : Int)) = z := by rw [hz, IntKind.wrap_i64]; omega
  have HZK : Hid (∀ k : Nat, k < n → every * (k : Int) ≤ z) := Lib.hid fun k hk => by rw [hz]; exact Int.mul_le_mul_of_nonneg_left (by omega) (by omega)
  clear hz hzb g2 g3 g4 g5
  go_enter Try.func12, Try.ntmps12
  go_wp2_with fail
  refine (live37_any w).mono ?_
  rintro e w1 ⟨rfl, hB1⟩
  have HB1 := Lib.hid hB1
  have HA1 := Lib.hid (H0.out.below hB1)
  clear hB1
  have hszx : w1.heap.size ≤ (w1.alloc (.cells #[] 82)).heap.size := by simp
  have HAX := Lib.hid (HA1.out.below ((Below.refl _ w1).alloc (Nat.le_refl _) (.cells #[] 82)))
  have hnews : ∀ ad, a0 = some ad → ∀ j u, (acRow E0 n0)[j]? = some u → (w1.alloc (.cells #[] 82)).cell? (ad.add j) = some u := fun ad had j u hj => by
    have hjl : j < n0 * 5 := by
      rcases Nat.lt_or_ge j (n0 * 5) with h | h
      · exact h
      · rw [List.getElem?_eq_none (by rw [acRow_length]; exact h)] at hj; cases hj
    obtain ⟨b, off, he, _, hc⟩ := HAX.out.1 (j / 5) (by omega)
    rw [had] at he
    injection he with he
    subst he
    rw [addr_add, show off + j = off + j / 5 * 5 + j % 5 by omega]
    refine hc (j % 5) u ?_
    rw [← acRow_get (F := E0) (k := n0) (i := j / 5) (by omega) (by omega), show j / 5 * 5 + j % 5 = j by omega]
    exact hj
  go_wp2_with (at_builtin; go_loud (refine wpList_append_rows rfl _ _ 80 rfl w1.heap.size 82 i0 _ 5 16 Try.underlying80 hi hz0 hz1 hz2 rfl (by decide) _ 0 [] rfl (World.ownsRow_made w1 #[] 0 (Nat.le_refl _) (Nat.zero_le _) rfl) a0 n0 p0 (acRow E0 n0) rfl HNIL.out (acRow_length E0 n0) hnews (acRow_one E0 n0) (by unfold maxLen; omega) (by omega) hszx ?_))
  intro v2 w2 hO2 hg2
  have HO2 : Hid (w2.ownsRow w1.heap.size 82 5 v2 n0 (acRow E0 n0)) := Lib.hid (by simpa using hO2)
  have hb2 : Below w1.heap.size w1 w2 := ((Below.refl _ w1).alloc (Nat.le_refl _) (.cells #[] 82)).grown hg2 hszx (fun k h => by
    have : w1.heap.size = k := by simpa [Value.ownBlock] using h
    omega)
  have HB2 := Lib.hid (step_below HB1.out hb2)
  have hs12 := hb2.size
  have hs1 := HB1.out.size
  clear hO2 hg2 hb2 hnews hszx HAX HA1
  go_wp2_with fail
  go_loopw [10, 11] (fun v i wr => ∃ (k m : Nat) (F : Nat → Ac), k ≤ n1 ∧ i = .int .i64 (k : Int) ∧ n0 ≤ m ∧ m ≤ n0 + k ∧ Hid (wr.ownsRow w1.heap.size 82 5 v m (acRow F m)) ∧ Hid (∀ j, j < n0 → F j = E0 j) ∧ Hid (∀ j, n0 ≤ j → j < m → z < (F j).st) ∧ Hid (∀ j, j < m → (F j).Ok) ∧ w1.heap.size ≤ wr.heap.size ∧ Hid (Below w.heap.size w wr)) (fun _ i _ => n1 - (intOf i).toNat)
  case atStart => exact ⟨0, n0, E0, by omega, rfl, by omega, by omega, HO2, Lib.hid fun _ _ => rfl, Lib.hid fun j h1 h2 => by omega, Lib.hid H0.out.2, hs12, HB2⟩
  case round =>
    clear HO2 HB2
    obtain ⟨k, m, F, hk, rfl, hm1, hm2, HV, HF, HG, HOK, hws, HB⟩ := hrel
    by_cases hlt : k < n1
    · obtain ⟨b, off, rfl, hbw, hc⟩ := (H1.out.below HB.out).1 k hlt
      have hok := H1.out.2 k hlt
      have HOK1 := Lib.hid hok
      have HCL : Hid (CellsAt wr b (off + k * 5) [.int .i64 (E1 k).st, .int .u32 ((E1 k).ad : Int), .int .u8 ((E1 k).ex : Int), .bool (E1 k).wr, .int .u8 ((E1 k).da : Int)]) := Lib.hid hc
      have c0 : wr.cell? ⟨b, off + k * 5, none⟩ = some (.int .i64 (E1 k).st) := hc 0 _ rfl
      have hk0 : (0 : Int) ≤ (k : Int) := by omega
      have hkn : (k : Int) < (n1 : Int) := by omega
      clear hc hok
      by_cases hst : z < (E1 k).st
      · have hst' : decide (z < (E1 k).st) = true := decide_eq_true hst
        have HST0 := Lib.hid hst
        have HE : Hid ((E1 k).cs = [.int .i64 (E1 k).st, .int .u32 ((E1 k).ad : Int), .int .u8 ((E1 k).ex : Int), .bool (E1 k).wr, .int .u8 ((E1 k).da : Int)]) := Lib.hid rfl
        have hone := acs_one (E1 k)
        rw [HE.out] at hone
        have HSK : Hid (∀ x : Ac, x = E1 k → z < x.st) := Lib.hid fun x hx => hx ▸ hst
        generalize (E1 k).st = st at *
        generalize (E1 k).ad = ad at *
        generalize (E1 k).ex = ex at *
        generalize (E1 k).wr = wb at *
        generalize (E1 k).da = da at *
        have HVA : Hid ((wr.alloc (.cells #[.int .i64 st, .int .u32 (ad : Int), .int .u8 (ex : Int), .bool wb, .int .u8 (da : Int)] 82)).ownsRow w1.heap.size 82 5 u10 m (acRow F m)) := Lib.hid (kept_none HV.out (grown_below ((Below.refl _ _).alloc (Nat.le_refl _) _)))
        have hsz : w1.heap.size ≤ (wr.alloc (.cells #[.int .i64 st, .int .u32 (ad : Int), .int .u8 (ex : Int), .bool wb, .int .u8 (da : Int)] 82)).heap.size := by
          simp; omega
        have hml : m + 1 ≤ maxLen := by unfold maxLen; omega
        have hb16 : (m + 1) * 16 ≤ 140737488355328 := by omega
        go_wp2_with (first
          | (with_reducible refine wpList_load_cells (by kernel_rfl) 82 (.tmp 65) rfl b (off + k * 5) rfl _ HCL.out _ Try.underlying82 rfl (by kernel_rfl) ?_)
          | (at_builtin; go_loud (refine wpList_append_own _ rfl _ _ 80 rfl w1.heap.size 82 i0 _ 5 16 Try.underlying80 hi hz0 hz1 hz2 rfl (by decide) _ m _ rfl HVA.out ⟨wr.heap.size, 0, none⟩ 1 1 [.int .i64 st, .int .u32 (ad : Int), .int .u8 (ex : Int), .bool wb, .int .u8 (da : Int)] rfl rfl (fun j u hj => by rw [addr_add, Nat.zero_add]; exact (At.new wr #[.int .i64 st, .int .u32 (ad : Int), .int .u8 (ex : Int), .bool wb, .int .u8 (da : Int)] _).cell j hj) hone hml hb16 hsz ?_)))
        intro v5 w5 hO5 hg5 _
        have HB5 := Lib.hid ((HB.out.alloc HB.out.size (.cells #[.int .i64 st, .int .u32 (ad : Int), .int .u8 (ex : Int), .bool wb, .int .u8 (da : Int)] 82)).grown hg5 (Nat.le_trans hs1 hsz) (fun b hb => Nat.le_trans hs1 (own_lt' HVA.out hb)))
        have hs5 := Nat.le_trans hsz hg5.size
        have HV5 : Hid (w5.ownsRow w1.heap.size 82 5 v5 (m + 1) (acRow (fun j => if j = m then E1 k else F j) (m + 1))) := Lib.hid (by
          rw [acRow, acRow_ext (G := F) fun i hi => if_neg (by omega), if_pos rfl, HE.out]
          exact hO5)
        clear hO5 hg5 HVA HB HV HCL c0
        go_wp2
        go_roundw
        case rel =>
          refine ⟨k + 1, m + 1, fun j => if j = m then E1 k else F j, by omega, by go_num, by omega, by omega, HV5, Lib.hid fun j hj => ?_, Lib.hid fun j h1 h2 => ?_, Lib.hid fun j hj => ?_, hs5, HB5⟩
          · show (if j = m then E1 k else F j) = _
            rw [if_neg (by omega)]; exact HF.out j hj
          · show z < (if j = m then E1 k else F j).st
            by_cases he : j = m
            · rw [if_pos he]; exact HSK.out _ rfl
            · rw [if_neg he]; exact HG.out j h1 (by omega)
          · show (if j = m then E1 k else F j).Ok
            by_cases he : j = m
            · rw [if_pos he]; exact HOK1.out
            · rw [if_neg he]; exact HOK.out j (by omega)
        case measure => simp [intOf]; omega
      · have hst' : decide (z < (E1 k).st) = false := decide_eq_false hst
        generalize (E1 k).st = st at *
        go_wp2
        go_roundw
        case rel => exact ⟨k + 1, m, F, by omega, by go_num, by omega, by omega, HV, HF, HG, HOK, hws, HB⟩
        case measure => simp [intOf]; omega
    · have hkn : ¬ (k : Int) < (n1 : Int) := by omega
      obtain ⟨A2, cap2, rfl, hcc⟩ := own_form HV.out
      have HAL := Lib.hid (own_acs HV.out HOK.out)
      have HML : Hid (∀ b off, A2 = some ⟨b, off, none⟩ → 0 < m → b < wr.heap.size) := Lib.hid fun b off h h0 => HAL.out.1.lt h0 h
      have HHM : Hid (∀ k, k ≤ n → hear F m every k = hear E0 n0 every k) := Lib.hid (hear_more E0 F n0 m every n HF.out (fun j h1 h2 k hk => Int.lt_of_le_of_lt (HZK.out k hk) (HG.out j h1 h2)) hm1)
      have hcap2 := hcc.1
      go_wp2_with fail
      refine (Hear_ok a0 n0 p0 E0 every n wr (H0.out.below HB.out) hle0 (fun b off h h0 => Nat.lt_of_lt_of_le (HL0.out b off h h0) HB.out.size) (by omega) (by omega)).mono ?_
      rintro e w3 ⟨⟨va, rfl, hOa⟩, hb3⟩
      obtain ⟨Aa, capa, rfl, _⟩ := own_form hOa
      have HPa := Lib.hid (pr_read hOa)
      have HB3 := Lib.hid (step_below HB.out hb3)
      have HAL3 := Lib.hid (HAL.out.below hb3)
      have hs3 := hb3.size
      clear hOa hb3 HAL HV
      go_wp2_with fail
      refine (Hear_ok A2 m cap2 F every n w3 HAL3.out hcap2 (fun b off h h0 => Nat.lt_of_lt_of_le (HML.out b off h h0) hs3) (by omega) (by omega)).mono ?_
      rintro e w4 ⟨⟨vb, rfl, hOb⟩, hb4⟩
      obtain ⟨Ab, capb, rfl, _⟩ := own_form hOb
      have HPb := Lib.hid (pr_read hOb)
      have HPa4 := Lib.hid (HPa.out.below hb4)
      have HB4 := Lib.hid (step_below HB3.out hb4)
      have hnn2 : ((n : Int) != (n : Int)) = false := by simp
      clear hOb hb4 HPa HAL3 HB3
      go_wp2_with fail
      go_loopw [16] (fun i wr => ∃ k : Nat, k ≤ n ∧ i = .int .i64 (k : Int) ∧ Hid (∃ q, wr = w4.drewN q)) (fun i _ => n - (intOf i).toNat)
      case atStart => exact ⟨0, by omega, rfl, Lib.hid ⟨0, rfl⟩⟩
      case round =>
        obtain ⟨j, hj, rfl, HQ⟩ := hrel
        obtain ⟨q, hq⟩ := HQ.out
        have hbq : Below w4.heap.size w4 wr := by rw [hq]; exact ⟨rfl, rfl, rfl, Nat.le_refl _, fun _ _ => rfl⟩
        have HW := Lib.hid hq
        have HPA := Lib.hid (HPa4.out.below hbq)
        have HPB := Lib.hid (HPb.out.below hbq)
        have HBW := Lib.hid (step_below HB4.out hbq)
        clear hq HQ hbq
        by_cases hjt : j < n
        · obtain ⟨ba, oa, rfl, hla, hca⟩ := HPA.out j hjt
          obtain ⟨bb, ob, rfl, hlb, hcb⟩ := HPB.out j hjt
          have hx : heL F m every j = heL E0 n0 every j ∧ heR F m every j = heR E0 n0 every j := by
            unfold heL heR
            rw [HHM.out (j + 1) (by omega)]
            exact ⟨rfl, rfl⟩
          have hca' : CellsAt wr ba (oa + j * 2) [.int .i64 (heL E0 n0 every j), .int .i64 (heR E0 n0 every j)] := hca
          have hcb' : CellsAt wr bb (ob + j * 2) [.int .i64 (heL F m every j), .int .i64 (heR F m every j)] := hcb
          rw [hx.1, hx.2] at hcb'
          have HCA := Lib.hid hca'
          have HCB := Lib.hid hcb'
          clear hca hcb hca' hcb' hx
          have hj0 : (0 : Int) ≤ (j : Int) := by omega
          have hjn : (j : Int) < (n : Int) := by omega
          generalize heL E0 n0 every j = x0 at *
          generalize heR E0 n0 every j = x1 at *
          have qn := fun w => neq_pair x0 x1 w
          go_wp2_with fail
          refine wp_region_quiet_lit (by kernel_rfl) (by kernel_rfl) ?_
          iterate 3 go_big_quiet_step (fail)
          go_big_quiet_want
          rename_i K hK
          refine quiet_load_cells 87 _ rfl ba (oa + j * 2) rfl _ _ (fun w' hw' => (by obtain ⟨k, rfl⟩ := hw'; exact HCA.out)) Try.underlying87 rfl (by kernel_rfl) (hK _ ?_)
          clear hK K
          (conv => arg 6; whnf)
          simp only [List.setIfInBounds_toArray, List.set_cons_succ, List.set_cons_zero]
          iterate 3 go_big_quiet_step (fail)
          go_big_quiet_want
          rename_i K hK
          refine quiet_load_cells 87 _ rfl bb (ob + j * 2) rfl _ _ (fun w' hw' => (by obtain ⟨k, rfl⟩ := hw'; exact HCB.out)) Try.underlying87 rfl (by kernel_rfl) (hK _ ?_)
          clear hK K
          (conv => arg 6; whnf)
          simp only [List.setIfInBounds_toArray, List.set_cons_succ, List.set_cons_zero]
          go_big_quiet_step (fail)
          refine wpQuiet_nil ?_
          intro _ hw'
          obtain ⟨nq, rfl⟩ := hw'
          go_wp2
          go_roundw
          case rel => exact ⟨j + 1, by omega, by go_num, Lib.hid ⟨q + nq, by rw [HW.out, World.drewN_drewN]⟩⟩
          case measure => simp [intOf]; omega
        · have hjn : ¬ (j : Int) < (n : Int) := by omega
          go_wp2
          go_ret
          exact ⟨rfl, HBW.out⟩
end Go.Proofs.Ytgkbpdcedighcac
