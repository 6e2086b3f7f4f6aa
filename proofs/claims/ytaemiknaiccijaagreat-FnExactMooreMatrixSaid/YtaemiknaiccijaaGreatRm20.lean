/- Lemmas and contracts of functions, for the laws: The program's numbers of rests, and its polynomials with a number. -/
import Derived.Test.YtaemiknaiccijaaGreatRm19
import Derived.Test.YtaemiknaiccijaaGreatRm9
import Derived.Test.YtaemiknaiccijaaGreatRm18
import Derived.Laws.BytesArg
set_option linter.unusedVariables false
set_option linter.unusedSimpArgs false
namespace Go.Proofs.YtaemiknaiccijaaGreat
open Go.RowKit

theorem normF_range {p most : Int} (lo : 2 ≤ p) (hi : p ≤ 7) (hm : 0 ≤ most) : ∀ n out, 1 ≤ out → out ≤ 7 * most + 7 → 1 ≤ normF p most n out ∧ normF p most n out ≤ 7 * most + 7
  | 0, out, h1, h2 => ⟨h1, h2⟩
  | n + 1, out, h1, h2 => by
    rw [normF]
    split
    · exact ⟨h1, h2⟩
    · have a1 : 1 * 1 ≤ out * p := Int.mul_le_mul h1 (by omega) (by decide) (by omega)
      have a2 : out * p ≤ most * 7 := Int.mul_le_mul (by omega) hi (by omega) hm
      exact normF_range lo hi hm n _ (by omega) (by omega)
def NoRel (p most : Int) (n0 : Nat) (w : World) (f : Nat) (vo i : Value) (wr : World) : Prop :=
  ∃ (k : Nat) (out : Int), f + k = n0 ∧ vo = .int .i64 out ∧ i = .int .i64 k ∧ 1 ≤ out ∧ out ≤ 7 * most + 7 ∧ normF p most f out = normI p n0 most ∧ w = wr

set_option maxHeartbeats 400000 in
theorem norm_any (p most : Int) (n : Nat) (lo : 2 ≤ p) (hi : p ≤ 7) (hn : n ≤ 1000) (hm : 0 ≤ most) (hm2 : most ≤ 1099511627776) (w : World) :
    Calls Tryz.prog 105 #[.int .i64 p, .int .i64 n, .int .i64 most] w fun e w' => e = .returned (.int .i64 (normI p n most)) ∧ w = w' := by
  go_enter Tryz.func105, Tryz.ntmps105
  go_wp2
  go_loopg [7, 9] n (fun f vo i wr => NoRel p most n w f vo i wr)
  case atStart => exact ⟨0, 1, rfl, rfl, rfl, by decide, by omega, rfl, rfl⟩
  case round =>
    obtain ⟨k, out, hf, rfl, rfl, h1, h2, hno, rfl⟩ := hrel
    have HN := Lib.hid hno
    clear hno
    by_cases hk : k = n
    · have t1 : decide ((k : Int) < (n : Int)) = false := decide_eq_false (by omega)
      have g0 : gk = 0 := by omega
      subst g0
      have G : Hid (out = normI p n most) := Lib.hid HN.out
      clear hk
      go_wp2
      go_ret
      exact ⟨ret_int G.out, rfl⟩
    · have t1 : decide ((k : Int) < (n : Int)) = true := decide_eq_true (by omega)
      obtain ⟨f, rfl⟩ : ∃ f, gk = f + 1 := ⟨gk - 1, by omega⟩
      by_cases hb : most < out
      · have G : Hid (out = normI p n most) := Lib.hid (by rw [← HN.out, normF, if_pos hb])
        have t2 : decide (most < out) = true := decide_eq_true hb
        have t3 : decide (out > most) = true := decide_eq_true hb
        clear hk
        go_wp2
        go_ret
        exact ⟨ret_int G.out, rfl⟩
      · have G : Hid (normF p most f (out * p) = normI p n most) := Lib.hid (by rw [← HN.out, normF, if_neg hb])
        have a1 : 1 * 1 ≤ out * p := Int.mul_le_mul h1 (by omega) (by decide) (by omega)
        have a2 : out * p ≤ most * 7 := Int.mul_le_mul (by omega) hi (by omega) hm
        have a3 : 1 ≤ out * p ∧ out * p ≤ 7 * most + 7 := by omega
        have t2 : decide (most < out) = false := decide_eq_false hb
        have t3 : decide (out > most) = false := decide_eq_false hb
        clear hk a1 a2
        go_wp2
        go_roundg f
        case measure => omega
        case rel => exact ⟨k + 1, out * p, by omega, by go_num, by go_num, a3.1, a3.2, G.out, rfl⟩

theorem numr_cut {p : Int} (hp : 2 ≤ p) (n i : Nat) (hi : i ≤ 64) (h0 : n / p.toNat ^ i = 0) (h1 : i = 0 ∨ n / p.toNat ^ (i - 1) ≠ 0) : tab i (dig p n) = numr p n := by
  refine nz_ext (fun m hm => ?_) (rowN_nz _ _) fun j => ?_
  · rw [tab_length] at hm
    subst hm
    rw [at0_tab_lt _ (by omega)]
    have h2 : n / p.toNat ^ m ≠ 0 := by rcases h1 with h | h; omega; simpa using h
    have h3 : n / p.toNat ^ m < p.toNat := by
      rw [Nat.pow_succ, ← Nat.div_div_eq_div_mul] at h0
      exact (Nat.div_eq_zero_iff_lt (by omega)).1 h0
    unfold dig
    rw [Nat.mod_eq_of_lt h3]
    omega
  · rw [numr, at0_rowN, at0_tab]
    by_cases hj : j < i
    · rw [if_pos hj, if_pos (by omega)]
    · rw [if_neg hj]
      split
      · unfold dig
        have : n / p.toNat ^ j = 0 := by
          rw [show j = i + (j - i) by omega, Nat.pow_add, ← Nat.div_div_eq_div_mul, h0, Nat.zero_div]
        rw [this]; simp
      · rfl
theorem intBlk_own {w0 w : World} {A : Option Addr} {n cap : Nat} {L : List Int} (O : Own w0 w (.slice A n cap) L) (a : Addr) (ha : A = some a) : IntBlk w a.block := by
  rcases O.2.1.2 with ⟨e, _⟩ | ⟨g, cap', cur, e, _, hg, _⟩
  · cases e; cases ha
  · cases e; cases ha; exact ⟨cur, (0, 0), hg⟩
def NuRel (p : Int) (n0 : Nat) (w : World) (f : Nat) (x vo : Value) (wr : World) : Prop :=
  ∃ (i : Nat) (A : Option Addr) (cap : Nat), f + i = 61 ∧ x = .int .i64 ((n0 / p.toNat ^ i : Nat) : Int) ∧ vo = .slice A i cap ∧ (i = 0 ∨ n0 / p.toNat ^ (i - 1) ≠ 0) ∧ Own w wr (.slice A i cap) (tab i (dig p n0))

set_option maxRecDepth 100000 in
set_option maxHeartbeats 400000 in
theorem numbered_any (p : Int) (n0 : Nat) (lo : 2 ≤ p) (hi : p ≤ 7) (hn : n0 < 2 ^ 60) (w : World) :
    Calls Tryz.prog 106 #[.int .i64 p, .int .i64 n0] w fun e w' => Row (numr p n0) w e w' ∧ ∀ A n cap, e = .returned (.slice A n cap) → ∀ a, A = some a → IntBlk w' a.block := by
  have HN := Lib.hid hn
  have p0 : p ≠ 0 := by omega
  clear hn
  go_enter Tryz.func106, Tryz.ntmps106
  go_wp2
  go_loopg [1, 5] 61 (fun f x vo wr => NuRel p n0 w f x vo wr)
  case atStart => exact ⟨0, none, 0, rfl, by simp, rfl, .inl rfl, Own.nil (Ext.refl w)⟩
  case round =>
    obtain ⟨i, A, cap, hf, rfl, rfl, hl, O⟩ := hrel
    have HL := Lib.hid hl
    clear hl
    by_cases hq : n0 / p.toNat ^ i = 0
    · have G : Hid (tab i (dig p n0) = numr p n0) := Lib.hid (numr_cut lo n0 i (by omega) hq HL.out)
      rw [hq]
      clear hq
      rw [G.out] at O
      go_wp2
      go_ret
      exact ⟨⟨A, cap, ret_slice (row_of_own O).2, (row_of_own O).1, O.ext⟩, fun A' n' cap' e a ha => by cases e; exact intBlk_own O a ha⟩
    · have hi60 := dig_bound lo n0 i HN.out hq
      have q1 : 1 ≤ n0 / p.toNat ^ i := Nat.pos_of_ne_zero hq
      have hs : Hid (n0 / p.toNat ^ i / p.toNat = n0 / p.toNat ^ (i + 1)) := Lib.hid (by rw [Nat.div_div_eq_div_mul, Nat.pow_succ])
      have HQ := Lib.hid hq
      have u1 : n0 / p.toNat ^ i < 1152921504606846976 := Nat.lt_of_le_of_lt (Nat.div_le_self _ _) HN.out
      have DD : Hid (dig p n0 i = ((n0 / p.toNat ^ i : Nat) : Int) % p) := Lib.hid (by
        have h : (p.toNat : Int) = p := by omega
        rw [← h]; unfold dig; simp)
      have TT : Hid (tab i (dig p n0) ++ [dig p n0 i] = tab (i + 1) (dig p n0)) := Lib.hid (tab_succ _ _).symm
      have TL : Hid ((tab i (dig p n0)).length = i) := Lib.hid (tab_length _ _)
      clear hq
      generalize hN : n0 / p.toNat ^ i = N at *
      have hv : Hid ((N : Int) / p = ((N / p.toNat : Nat) : Int)) := Lib.hid (by
        have h : (p.toNat : Int) = p := by omega
        rw [Int.natCast_ediv, h])
      have HNN := Lib.hid hN
      have qb : 0 ≤ (N : Int) / p ∧ (N : Int) / p ≤ N := ⟨Int.ediv_nonneg (by omega) (by omega), Int.ediv_le_self _ (by omega)⟩
      have r := emod_range (N : Int) p (by omega)
      clear hN
      go_wp2_with (first | ((with_reducible show wpList _ _ _ _ _ _); apply wplApp; exact rfl; exact rfl; exact Tryz.underlying52; exact O.next ((Ext.refl _).alloc _); exact TL.out; exact rfl; exact rfl; exact cell_new _ _ _; omega))
      clear O
      intro A' cap' w' O
      rw [← DD.out, TT.out] at O
      go_wp2
      go_roundg (gk - 1)
      case measure => omega
      case rel => exact ⟨i + 1, A', cap', by omega, by rw [← hs.out, ← hv.out], by go_num, .inr (by rw [Nat.add_sub_cancel, HNN.out]; exact HQ.out), O⟩

end Go.Proofs.YtaemiknaiccijaaGreat

/- A row of bytes that a call owns: it may be appended to. -/
namespace Go.Proofs.YtaemiknaiccijaaGreat
open Go.RowKit

theorem infoByte3 : (Tryz.prog.info? 5).map (fun i => (i.zero, i.size, i.bytes)) = some (some (.int .u8 0), 1, 1) := by kernel_rfl
/-- A slice of bytes, at A, reads as L. -/
def BytesAt (w : World) (A : Option Addr) (L : List Int) : Prop :=
  L.length ≤ 1000000 ∧ (0 < L.length → ∃ b o, A = some ⟨b, o, none⟩ ∧ ∀ j, j < L.length → w.cell? ⟨b, o + j, none⟩ = some (.int .u8 (at0 L j)))
theorem BytesAt.nil (w : World) (A : Option Addr) : BytesAt w A [] := ⟨by simp, fun h => absurd h (by simp)⟩
/-- Since w0 nothing that was there has turned, and v is a row of this call's own that holds L. -/
def OwB (w0 w : World) (v : Value) (L : List Int) : Prop :=
  Ext w0 w ∧ w.ownsRow w0.heap.size 5 1 v L.length (L.map (Value.int .u8)) ∧ L.length ≤ 1000000
theorem OwB.nil {w0 w : World} (h : Ext w0 w) : OwB w0 w (.slice none 0 0) [] := ⟨h, World.ownsRow_nil _ _ _ _, by simp⟩
theorem OwB.ext {w0 w : World} {v : Value} {L : List Int} (h : OwB w0 w v L) : Ext w0 w := h.1
theorem OwB.next {w0 w w' : World} {v : Value} {L : List Int} (h : OwB w0 w v L) (hE : Ext w w') : OwB w0 w' v L := by
  refine ⟨h.1.tr hE, ?_, h.2.2⟩
  have hl := h.2.1.lt
  refine h.2.1.kept (row := none) ⟨hE.os, hE.tape, hE.output, hE.size, fun k hk _ => hE.block k hk⟩ ?_
  cases e : v.ownBlock <;> simp
theorem OwB.row {w0 w : World} {v : Value} {L : List Int} (h : OwB w0 w v L) : ∃ A cap, v = .slice A L.length cap ∧ BytesAt w A L := by
  rcases h.2.1.2 with ⟨rfl, hn⟩ | ⟨g, cap, cur, rfl, hb, hg, h1, h2, h3, h4⟩
  · rw [List.eq_nil_of_length_eq_zero hn]
    exact ⟨none, 0, rfl, BytesAt.nil _ _⟩
  · refine ⟨_, cap, rfl, h.2.2, fun _ => ⟨g, 0, rfl, fun j hj => ?_⟩⟩
    have := h.2.1.cells (g := g) rfl j (.int .u8 (at0 L j)) (by
      rw [List.getElem?_map, List.getElem?_eq_getElem hj]
      simp [at0, hj])
    rw [Addr.add_lit] at this
    exact this

section
variable {ops : Array Oper} {rest : List Oper} {o : Oper} {a : Act} {w w0 : World} {Q : Exit → Act → World → Prop}
/-- append of one number to a row of this call's own (ty: the slice's type). -/
theorem wplAppB {ty : TypeId} (s x : Operand) (ho : o.op = .call { callee := .builtin .append, args := #[s, x], argTypes := #[ty, ty] }) (hgd : o.guard = none) (ht : Tryz.prog.underlying ty = some (.slice 5))
    {v : Value} {L : List Int} {y : Int} {ad : Addr} {c : Nat} {n : Nat} (hO : OwB w0 w v L) (hn : L.length = n) (hs : a.eval s = v) (hx : a.eval x = .slice (some ad) 1 c) (hy : w.cell? ad = some (.int .u8 y)) (hm : n < 1000000)
    (h : ∀ A cap w', OwB w0 w' (.slice A (n + 1) cap) (L ++ [y]) → wpList Tryz.prog ops Q rest (a.put o.dst (.slice A (n + 1) cap)) w') : wpList Tryz.prog ops Q (o :: rest) a w := by
  subst hn
  obtain ⟨i, h1, h2, h3, h4⟩ := info_parts infoByte3
  refine wpList_append_own w hgd s x ty ho w0.heap.size 5 i (.int .u8 0) 1 1 ht h1 h2 h3 h4 rfl (by decide) v L.length (L.map (Value.int .u8)) hs hO.2.1 ad 1 c [.int .u8 y] hx rfl ?_ ?_ ?_ ?_ hO.1.size ?_
  · intro j u hj
    cases j with
    | zero =>
      simp only [List.getElem?_cons_zero, Option.some.injEq] at hj
      subst hj
      rw [show ad.add 0 = ad by cases ad; unfold Addr.add; split <;> simp_all]
      exact hy
    | succ j => simp at hj
  · intro u hu; simp at hu; subst hu; rfl
  · simp only [maxLen]; omega
  · omega
  · intro v' w' hown hg _
    have hO' : OwB w0 w' v' (L ++ [y]) := by
      refine ⟨Below.grown hO.1 hg hO.1.size fun k hk => (hO.2.1.lt k hk).1, ?_, by simp; omega⟩
      simpa using hown
    obtain ⟨A, cap, rfl, _⟩ := hO'.row
    rw [List.length_append] at hO' ⊢
    exact h A cap w' hO'
end


end Go.Proofs.YtaemiknaiccijaaGreat

/- The program's letter, and products in a field of rests. -/
namespace Go.Proofs.YtaemiknaiccijaaGreat
open Go.RowKit

theorem cellE {w w' : World} {a : Addr} {v : Value} (h : w.cell? a = some v) (hE : Ext w w') : w'.cell? a = some v :=
  (hE.cell (World.block_lt_of_cell? w _ h)).trans h
theorem cell_of {w : World} {g j : Nat} {cs : Array Value} {T : TypeId} {v : Value} (h : w.heap[g]? = some (.cells cs T (0, 0))) (hv : cs[j]? = some v) : w.cell? ⟨g, j, none⟩ = some v := by
  rw [cell_of_row _ _ _ _ _ _ h, hv]
theorem letter_any (w : World) : Calls Tryz.prog 78 #[] w (Row [0, 1] w) := by
  go_enter Tryz.func78, Tryz.ntmps78
  go_wp2
  go_ret
  exact ⟨_, 2, rfl, (Ints.new w 2 [0, 1]).row' (by decide), (Ext.refl w).alloc _⟩

set_option maxRecDepth 100000 in
set_option maxHeartbeats 1000000 in
theorem product_any (p : Int) (M A B : Option Addr) (cm ca cb : Nat) (m a b : List Int) (hp : PrimeP p) (hm : Can p m) (ha : Can p a) (hb : Can p b) (lm : m.length ≤ 500) (la : a.length ≤ 500) (lb : b.length ≤ 500) (hne : 0 < m.length) (w : World) (rm : RowAt w M m) (ra : RowAt w A a) (rb : RowAt w B b) :
    Calls Tryz.prog 58 #[.agg #[.int .i64 p, .slice M m.length cm], .slice A a.length ca, .slice B b.length cb] w (Row (mulI p a b m) w) := by
  have HP := Lib.hid hp
  have HM := Lib.hid hm
  have HA := Lib.hid ha
  have HB := Lib.hid hb
  have RM := Lib.hid rm
  have RA := Lib.hid ra
  have RB := Lib.hid rb
  have lo := hp.lo
  have hi := hp.hi
  have P1 := Lib.hid (mulr_can (show 0 < p by omega) a b)
  have Q1 := mulr_le p a b
  clear hp hm ha hb rm ra rb
  go_enter Tryz.func58, Tryz.ntmps58
  go_wp2
  obtain ⟨w1, g, hw, hg, C0, C1, E1⟩ : ∃ w1 g, w1 = w.alloc (.cells #[.int .i64 p, .slice M m.length cm] 54) ∧ g = w.heap.size ∧ w1.cell? ⟨g, 0, none⟩ = some (.int .i64 p) ∧ w1.cell? ⟨g, 1, none⟩ = some (.slice M m.length cm) ∧ Ext w w1 :=
    ⟨_, _, rfl, rfl, cell_of (heap_alloc_new _ _) rfl, cell_of (heap_alloc_new _ _) rfl, (Ext.refl w).alloc _⟩
  rw [← hw, ← hg]
  clear hw hg
  refine region_ext 9 (by kernel_rfl) (by kernel_rfl) (by kernel_rfl) [] [eqv (.pointer (some ⟨g, 0, none⟩)), eqv (.int .i64 p), eqv (.pointer (some ⟨g, 0, none⟩)), eqv (.int .i64 p), eqv (.slice A a.length ca), eqv (.slice B b.length cb), isRow (mulr p a b), eqv (.pointer (some ⟨g, 1, none⟩)), eqv (.slice M m.length cm)]
    ⟨mono_eqv _, mono_eqv _, mono_eqv _, mono_eqv _, mono_eqv _, mono_eqv _, mono_row _, mono_eqv _, mono_eqv _, trivial⟩ (fun vals => ?_) (fun vals w9 hE9 hS9 hN9 => ?_)
  · simp only [List.take_succ_cons, List.take_zero]
    refine ⟨fun w8 hE8 hk => doesK_plain rfl fun K hK => ?_, ?_⟩
    · go_simp
      (try go_bits)
      exact hK _ _ rfl (Ext.refl _) rfl
    simp only [Act.put, List.setIfInBounds_toArray, List.set_cons_zero, List.set_cons_succ]
    refine ⟨fun w8 hE8 hk => doesK_plain rfl fun K hK => ?_, ?_⟩
    · have k0 : vals 0 = .pointer (some ⟨g, 0, none⟩) := hk 0 (by decide) (by kernel_rfl)
      have c8 := cellE C0 hE8
      go_simp
      (try go_bits)
      exact hK _ _ rfl (Ext.refl _) rfl
    simp only [Act.put, List.setIfInBounds_toArray, List.set_cons_zero, List.set_cons_succ]
    refine ⟨fun w8 hE8 hk => doesK_plain rfl fun K hK => ?_, ?_⟩
    · go_simp
      (try go_bits)
      exact hK _ _ rfl (Ext.refl _) rfl
    simp only [Act.put, List.setIfInBounds_toArray, List.set_cons_zero, List.set_cons_succ]
    refine ⟨fun w8 hE8 hk => doesK_plain rfl fun K hK => ?_, ?_⟩
    · have k2 : vals 2 = .pointer (some ⟨g, 0, none⟩) := hk 2 (by decide) (by kernel_rfl)
      have c8 := cellE C0 hE8
      go_simp
      (try go_bits)
      exact hK _ _ rfl (Ext.refl _) rfl
    simp only [Act.put, List.setIfInBounds_toArray, List.set_cons_zero, List.set_cons_succ]
    refine ⟨fun w8 hE8 hk => doesK_plain rfl fun K hK => ?_, ?_⟩
    · go_simp
      (try go_bits)
      exact hK _ _ rfl (Ext.refl _) rfl
    simp only [Act.put, List.setIfInBounds_toArray, List.set_cons_zero, List.set_cons_succ]
    refine ⟨fun w8 hE8 hk => doesK_plain rfl fun K hK => ?_, ?_⟩
    · go_simp
      (try go_bits)
      exact hK _ _ rfl (Ext.refl _) rfl
    simp only [Act.put, List.setIfInBounds_toArray, List.set_cons_zero, List.set_cons_succ]
    refine ⟨fun w8 hE8 hk => doesK_plain rfl fun K hK => ?_, ?_⟩
    · have k3 : vals 3 = .int .i64 p := hk 3 (by decide) (by kernel_rfl)
      have k4 : vals 4 = .slice A a.length ca := hk 4 (by decide) (by kernel_rfl)
      have k5 : vals 5 = .slice B b.length cb := hk 5 (by decide) (by kernel_rfl)
      go_simp
      refine (times_any p A B ca cb a b lo hi HA.out.inp HB.out.inp (by omega) (by omega) _ (RA.out.below (E1.tr hE8)) (RB.out.below (E1.tr hE8))).mono ?_
      rintro e7 w7 ⟨A7, c7, rfl, R7, hE7⟩
      exact hK _ _ ⟨A7, c7, rfl, R7⟩ hE7 rfl
    simp only [Act.put, List.setIfInBounds_toArray, List.set_cons_zero, List.set_cons_succ]
    refine ⟨fun w8 hE8 hk => doesK_plain rfl fun K hK => ?_, ?_⟩
    · go_simp
      (try go_bits)
      exact hK _ _ rfl (Ext.refl _) rfl
    simp only [Act.put, List.setIfInBounds_toArray, List.set_cons_zero, List.set_cons_succ]
    refine ⟨fun w8 hE8 hk => doesK_plain rfl fun K hK => ?_, ?_⟩
    · have k7 : vals 7 = .pointer (some ⟨g, 1, none⟩) := hk 7 (by decide) (by kernel_rfl)
      have c8 := cellE C1 hE8
      go_simp
      (try go_bits)
      exact hK _ _ rfl (Ext.refl _) rfl
    exact trivial
  simp only [List.take_succ_cons, List.take_zero, List.drop_succ_cons, List.drop_zero, preAct, Nat.reduceAdd, Act.put, List.setIfInBounds_toArray, List.set_cons_zero, List.set_cons_succ]
  have k0 : vals 0 = .pointer (some ⟨g, 0, none⟩) := hS9 0 (by decide) 
  have k1 : vals 1 = .int .i64 p := hS9 1 (by decide) 
  have k2 : vals 2 = .pointer (some ⟨g, 0, none⟩) := hS9 2 (by decide) 
  have k3 : vals 3 = .int .i64 p := hS9 3 (by decide) 
  have k4 : vals 4 = .slice A a.length ca := hS9 4 (by decide) 
  have k5 : vals 5 = .slice B b.length cb := hS9 5 (by decide) 
  obtain ⟨A6, c6, k6, r6⟩ : isRow (mulr p a b) (vals 6) _ := hS9 6 (by decide) 
  have k7 : vals 7 = .pointer (some ⟨g, 1, none⟩) := hS9 7 (by decide) 
  have k8 : vals 8 = .slice M m.length cm := hS9 8 (by decide) 
  simp only [k0, k1, k2, k3, k4, k5, k6, k7, k8]
  clear hN9 hS9 k0 k1 k2 k3 k4 k5 k6 k7 k8
  go_wp2_with (first | (go_at_call 89; (with_reducible refine (rest_any p A6 M c6 cm (mulr p a b) m HP.out P1.out HM.out (by omega) (by omega) hne _ r6 (RM.out.below (E1.tr hE9))).mono ?_); rintro e w2 ⟨A2, k2, rfl, R2, E2⟩))
  go_ret
  exact ⟨A2, k2, rfl, R2, E1.tr (hE9.tr E2)⟩

/-- A row's text, as numbers of bytes: the leading coefficient first. -/
def txt (L : List Int) : List Int := if L.length = 0 then [48] else L.reverse.map (48 + ·)
def revTo (L : List Int) (k : Nat) : List Int := tab k fun j => 48 + at0 L (L.length - 1 - j)
theorem revTo_end (L : List Int) (h : L.length ≠ 0) : revTo L L.length = txt L := by
  unfold txt
  rw [if_neg h]
  refine list_ext0 (by simp [revTo, tab_length]) fun j hj => ?_
  rw [revTo, tab_length] at hj
  rw [revTo, at0_tab_lt _ hj]
  simp [at0, hj, List.getElem?_reverse, show L.length - 1 - j < L.length by omega]
def TxRel (L : List Int) (w : World) (f : Nat) (vo i : Value) (wr : World) : Prop :=
  ∃ (k : Nat) (A : Option Addr) (cap : Nat), f + k = L.length ∧ i = .int .i64 ((f : Int) - 1) ∧ vo = .slice A k cap ∧ OwB w wr (.slice A k cap) (revTo L k)
theorem bytes_of_own {w0 w : World} {A : Option Addr} {n cap : Nat} {L : List Int} (h : OwB w0 w (.slice A n cap) L) : BytesAt w A L ∧ n = L.length := by
  obtain ⟨A', cap', e, hr⟩ := h.row
  cases e
  exact ⟨hr, rfl⟩

set_option maxRecDepth 100000 in
set_option maxHeartbeats 1000000 in
theorem text_any (A : Option Addr) (ca : Nat) (a : List Int) (hb : ∀ j, 0 ≤ at0 a j ∧ at0 a j ≤ 9) (hm : a.length ≤ 1000) (w : World) (ra : RowAt w A a) :
    Calls Tryz.prog 109 #[.slice A a.length ca] w fun e w' => e = .returned (.string (strOfNums (txt a))) ∧ Ext w w' := by
  have RA := Lib.hid ra
  have HB := Lib.hid hb
  clear ra hb
  by_cases h0 : a.length = 0
  · have t1 : ((a.length : Int) == 0) = true := by simp [h0]
    have G : Hid (txt a = [48]) := Lib.hid (if_pos h0)
    clear h0
    go_enter Tryz.func109, Tryz.ntmps109
    go_wp2
    go_ret
    exact ⟨by rw [G.out]; rfl, Ext.refl _⟩
  · have t1 : ((a.length : Int) == 0) = false := by rw [beq_eq_false_iff_ne]; omega
    have GE := Lib.hid (revTo_end a h0)
    go_enter Tryz.func109, Tryz.ntmps109
    go_wp2
    go_loopg [3, 4] a.length (fun f vo i wr => TxRel a w f vo i wr)
    case atStart => exact ⟨0, none, 0, rfl, rfl, rfl, OwB.nil (Ext.refl w)⟩
    case round =>
      obtain ⟨k, A', cap', hf, rfl, rfl, O⟩ := hrel
      by_cases k0 : gk = 0
      · subst k0
        rw [show ((0 : Nat) : Int) - 1 = -1 from rfl]
        have G : Hid (revTo a k = txt a) := Lib.hid (by rw [show k = a.length by omega, GE.out])
        rw [G.out] at O
        have BO := bytes_of_own O
        have E := O.ext
        obtain ⟨b, o, rfl, hc⟩ := BO.1.2 (by omega)
        have CV : Hid (∀ dst, Tryz.prog.underlying dst = some .string → (convert 132 dst (.slice (some ⟨b, o, none⟩) k cap')).run Tryz.prog wr = .ok (.string (strOfNums (txt a))) wr) :=
          Lib.hid (run_convert_bytes_arg wr 132 5 Tryz.underlying132 Tryz.underlying5 b o k cap' (txt a) BO.2.symm fun i hi => hc i (by omega))
        have CV2 := CV.out 9 Tryz.underlying9
        clear BO hc
        go_wp2
        go_ret
        exact ⟨rfl, E⟩
      · obtain ⟨f, rfl⟩ : ∃ f, gk = f + 1 := ⟨gk - 1, by omega⟩
        rw [show ((f + 1 : Nat) : Int) - 1 = (f : Int) by omega]
        obtain ⟨b, o, rfl, _, hc⟩ := (RA.out.below O.ext).place (by omega)
        have c1 := hc f (by omega)
        have b1 := HB.out f
        have TT : Hid (revTo a k ++ [48 + at0 a f] = revTo a (k + 1)) := Lib.hid (by
          unfold revTo; rw [tab_succ, show a.length - 1 - k = f by omega])
        have TL : Hid ((revTo a k).length = k) := Lib.hid (tab_length _ _)
        clear hc k0
        go_wp2_with (first | ((with_reducible show wpList _ _ _ _ _ _); apply wplAppB; exact rfl; exact rfl; exact Tryz.underlying132; exact O.next ((Ext.refl _).alloc _); exact TL.out; exact rfl; exact rfl; exact cell_new _ _ _; omega))
        clear O
        intro A2 cap2 w' O
        rw [TT.out] at O
        go_wp2
        go_roundg f
        case measure => omega
        case rel => exact ⟨k + 1, A2, cap2, by omega, by go_num, by go_num, O⟩

end Go.Proofs.YtaemiknaiccijaaGreat

/- A slice of whatever elements that a call owns: it may be appended to. -/
namespace Go.Proofs.YtaemiknaiccijaaGreat
open Go.RowKit

/-- Since w0 nothing that was there has turned, and v is a slice of n elements (of s cells each) of this call's own that holds the cells V. -/
def OwV (e : TypeId) (s : Nat) (w0 w : World) (v : Value) (n : Nat) (V : List Value) : Prop :=
  Ext w0 w ∧ w.ownsRow w0.heap.size e s v n V ∧ n ≤ 1000000
theorem OwV.nil {e : TypeId} {s : Nat} {w0 w : World} (h : Ext w0 w) : OwV e s w0 w (.slice none 0 0) 0 [] := ⟨h, World.ownsRow_nil _ _ _ _, by simp⟩
section
variable {e : TypeId} {s : Nat} {w0 w w' : World} {v : Value} {n : Nat} {V : List Value}
theorem OwV.ext (h : OwV e s w0 w v n V) : Ext w0 w := h.1
theorem OwV.next (h : OwV e s w0 w v n V) (hE : Ext w w') : OwV e s w0 w' v n V := by
  refine ⟨h.1.tr hE, ?_, h.2.2⟩
  refine h.2.1.kept (row := none) ⟨hE.os, hE.tape, hE.output, hE.size, fun k hk _ => hE.block k hk⟩ ?_
  cases e : v.ownBlock <;> simp
theorem OwV.slice (h : OwV e s w0 w v n V) : ∃ A cap, v = .slice A n cap ∧ n ≤ cap ∧ (0 < n → ∃ g, A = some ⟨g, 0, none⟩ ∧ w0.heap.size ≤ g ∧ g < w.heap.size ∧ ∀ j u, V[j]? = some u → w.cell? ⟨g, j, none⟩ = some u) := by
  rcases h.2.1.2 with ⟨rfl, hn⟩ | ⟨g, cap, cur, rfl, hb, hg, h1, h2, h3, h4⟩
  · subst hn; exact ⟨none, 0, rfl, Nat.le_refl _, fun h => by omega⟩
  · refine ⟨_, cap, rfl, h1, fun _ => ⟨g, rfl, hb, (Array.getElem?_eq_some_iff.1 hg).1, fun j u hj => ?_⟩⟩
    have := h.2.1.cells (g := g) rfl j u hj
    rwa [Addr.add_lit, Nat.zero_add] at this
end
section
variable {ops : Array Oper} {rest : List Oper} {o : Oper} {a : Act} {w w0 : World} {Q : Exit → Act → World → Prop}
theorem wplAppV {ty e : TypeId} {sz by_ : Nat} {z : Value} (s x : Operand) (ho : o.op = .call { callee := .builtin .append, args := #[s, x], argTypes := #[ty, ty] }) (hgd : o.guard = none) (ht : Tryz.prog.underlying ty = some (.slice e))
    (hi : (Tryz.prog.info? e).map (fun i => (i.zero, i.size, i.bytes)) = some (some z, sz, by_)) (hz : z.cells.size = sz) (hp : 0 < sz) (hby : by_ ≤ 1000)
    {v : Value} {n : Nat} {V : List Value} {ad : Addr} {c : Nat} (news : List Value) (hO : OwV e sz w0 w v n V) (hs : a.eval s = v) (hx : a.eval x = .slice (some ad) 1 c) (hl : news.length = sz) (hnews : ∀ j u, news[j]? = some u → w.cell? (ad.add j) = some u) (h1c : ∀ u ∈ news, u.oneCell' = true) (hm : n < 1000000)
    (h : ∀ A cap w', OwV e sz w0 w' (.slice A (n + 1) cap) (n + 1) (V ++ news) → Ext w0 w' → w.grownBy w' v.ownBlock → wpList Tryz.prog ops Q rest (a.put o.dst (.slice A (n + 1) cap)) w') : wpList Tryz.prog ops Q (o :: rest) a w := by
  obtain ⟨i, h1, h2, h3, h4⟩ := info_parts hi
  refine wpList_append_own w hgd s x ty ho w0.heap.size e i z sz by_ ht h1 h2 h3 h4 hz hp v n V hs hO.2.1 ad 1 c news hx (by omega) hnews h1c ?_ ?_ hO.1.size ?_
  · simp only [maxLen]; omega
  · have : (n + 1) * by_ ≤ 1000000 * 1000 := Nat.mul_le_mul (by omega) hby
    omega
  · intro v' w' hown hg _
    have hE : Ext w0 w' := Below.grown hO.1 hg hO.1.size fun k hk => (hO.2.1.lt k hk).1
    have hO' : OwV e sz w0 w' v' (n + 1) (V ++ news) := ⟨hE, hown, by omega⟩
    obtain ⟨A, cap, rfl, _⟩ := hO'.slice
    exact h A cap w' hO' hE hg
end

end Go.Proofs.YtaemiknaiccijaaGreat

/- The program's list of all monic polynomials of a degree. -/
namespace Go.Proofs.YtaemiknaiccijaaGreat
open Go.RowKit

/-- A slice of rows, at A, reads as Ls. -/
def Rows (w : World) (A : Option Addr) (Ls : List (List Int)) : Prop :=
  Ls.length ≤ 1000000 ∧ (0 < Ls.length → ∃ b o, A = some ⟨b, o, none⟩ ∧ ∀ i L, Ls[i]? = some L → ∃ v, w.cell? ⟨b, o + i, none⟩ = some v ∧ Rv w v L)
theorem Rows.below {w w' : World} {A : Option Addr} {Ls : List (List Int)} (h : Rows w A Ls) (hE : Ext w w') : Rows w' A Ls :=
  ⟨h.1, fun hn => by
    obtain ⟨b, o, e, hc⟩ := h.2 hn
    refine ⟨b, o, e, fun i L hL => ?_⟩
    obtain ⟨v, h1, h2⟩ := hc i L hL
    exact ⟨v, cellE h1 hE, h2.below hE⟩⟩
theorem rowAt_grown {w w' : World} {A : Option Addr} {L : List Int} {row : Option Nat} (h : RowAt w A L) (hg : w.grownBy w' row) (hne : ∀ a, A = some a → some a.block ≠ row) : RowAt w' A L :=
  ⟨h.1, fun hn => by
    obtain ⟨b, o, e, hc⟩ := h.2 hn
    exact ⟨b, o, e, fun j hj => hg.cell (hc j hj) (show some b ≠ row from hne _ e)⟩, fun a ha hn => by
    have hl := (h.ib a ha hn).lt
    obtain ⟨cs, fr, h1⟩ := h.ib a ha hn
    exact ⟨cs, fr, (hg.block _ hl (hne a ha)).trans h1⟩⟩
/-- A value that is a row in a block of whole numbers. -/
def RvI (w : World) (v : Value) (L : List Int) : Prop := ∃ A cap, v = .slice A L.length cap ∧ RowAt w A L ∧ ∀ a, A = some a → IntBlk w a.block
theorem RvI.below {w w' : World} {v : Value} {L : List Int} (h : RvI w v L) (hE : Ext w w') : RvI w' v L := by
  obtain ⟨A, cap, e, hr, hi⟩ := h
  refine ⟨A, cap, e, hr.below hE, fun a ha => ?_⟩
  obtain ⟨cs, fr, hb⟩ := hi a ha
  exact ⟨cs, fr, (hE.block _ (hi a ha).lt).trans hb⟩
/-- A row stays where a slice of another kind of elements grows. -/
theorem RvI.grown {w w' w0 : World} {v vo : Value} {L : List Int} {e : TypeId} {s n : Nat} {V : List Value} (h : RvI w v L) (hO : OwV e s w0 w vo n V) (he : e ≠ 2) (hg : w.grownBy w' vo.ownBlock) : RvI w' v L := by
  obtain ⟨A, cap, rfl, hr, hi⟩ := h
  have off : ∀ a, A = some a → some a.block ≠ vo.ownBlock := fun a ha hb => by
    obtain ⟨cs, fr, h1⟩ := hi a ha
    rcases hO.2.1.2 with ⟨rfl, _⟩ | ⟨g, cap', cur, rfl, _, h2, _⟩
    · cases hb
    · have : a.block = g := Option.some.inj hb
      rw [this, h2] at h1
      simp only [Option.some.injEq, Obj.cells.injEq] at h1
      exact he h1.2.1
  refine ⟨A, cap, rfl, rowAt_grown hr hg off, fun a ha => ?_⟩
  obtain ⟨cs, fr, h1⟩ := hi a ha
  exact ⟨cs, fr, (hg.block _ (hi a ha).lt (off a ha)).trans h1⟩
theorem Rv.grown {w w' w0 : World} {v vo : Value} {L : List Int} {e : TypeId} {s n : Nat} {V : List Value} (h : Rv w v L) (hO : OwV e s w0 w vo n V) (he : e ≠ 2) (hg : w.grownBy w' vo.ownBlock) : Rv w' v L := by
  obtain ⟨A, cap, rfl, hr⟩ := h
  by_cases h0 : L.length = 0
  · rw [List.eq_nil_of_length_eq_zero h0]
    exact ⟨A, cap, rfl, RowAt.nil _ _⟩
  · obtain ⟨A', cap', e', r', _⟩ := RvI.grown ⟨A, cap, rfl, hr, fun a ha => hr.ib a ha (by omega)⟩ hO he hg
    exact ⟨A', cap', e', r'⟩
def monI (p : Int) (N k : Nat) : List (List Int) := (List.range k).map fun j => numr p (N + j)
theorem infoRow : (Tryz.prog.info? 52).map (fun i => (i.zero, i.size, i.bytes)) = some (some (.slice none 0 0), 1, 24) := by kernel_rfl

theorem cells_one (w : World) (v : Value) (T : TypeId) : ∀ j u, [v][j]? = some u → (w.alloc (.cells #[v] T)).cell? ((⟨w.heap.size, 0, none⟩ : Addr).add j) = some u := by
  intro j u hj
  cases j with
  | zero =>
    simp only [List.getElem?_cons_zero, Option.some.injEq] at hj
    subst hj
    rw [Addr.add_lit]
    exact cell_new w v T
  | succ j => simp at hj
section
variable {ops : Array Oper} {rest : List Oper} {o : Oper} {a : Act} {w w0 : World} {Q : Exit → Act → World → Prop}
theorem wplAppRw (s x : Operand) (ho : o.op = .call { callee := .builtin .append, args := #[s, x], argTypes := #[60, 60] }) (hgd : o.guard = none)
    {v : Value} {n : Nat} {V : List Value} {ad : Addr} {c m c2 : Nat} {A2 : Option Addr} (hO : OwV 52 1 w0 w v n V) (hs : a.eval s = v) (hx : a.eval x = .slice (some ad) 1 c) (hy : w.cell? ad = some (.slice A2 m c2)) (hm : n < 1000000)
    (h : ∀ A cap w', OwV 52 1 w0 w' (.slice A (n + 1) cap) (n + 1) (V ++ [.slice A2 m c2]) → w.grownBy w' v.ownBlock → wpList Tryz.prog ops Q rest (a.put o.dst (.slice A (n + 1) cap)) w') : wpList Tryz.prog ops Q (o :: rest) a w :=
  wplAppV s x ho hgd Tryz.underlying60 infoRow rfl (by decide) (by decide) [.slice A2 m c2] hO hs hx rfl (by
    intro j u hj
    cases j with
    | zero =>
      simp only [List.getElem?_cons_zero, Option.some.injEq] at hj
      subst hj
      rw [show ad.add 0 = ad by cases ad; unfold Addr.add; split <;> simp_all]
      exact hy
    | succ j => simp at hj) (by intro u hu; simp at hu; subst hu; rfl) hm fun A cap w' h1 _ h3 => h A cap w' h1 h3
end
def MoRel (p : Int) (N : Nat) (w : World) (f : Nat) (vo i : Value) (wr : World) : Prop :=
  ∃ (k : Nat) (V : List Value), f + k = N ∧ i = .int .i64 k ∧ (∃ A cap, vo = .slice A k cap) ∧ OwV 52 1 w wr vo k V ∧ V.length = k ∧ ∀ j v, V[j]? = some v → RvI wr v (numr p (N + j))

set_option maxRecDepth 100000 in
set_option maxHeartbeats 1000000 in
theorem monics_any (p : Int) (n N : Nat) (lo : 2 ≤ p) (hi : p ≤ 7) (hn : n ≤ 1000) (hN : normI p n 343 = (N : Int)) (hN2 : N ≤ 3000) (w : World) :
    Calls Tryz.prog 75 #[.int .i64 p, .int .i64 n] w fun e w' => ∃ A cap, e = .returned (.slice A N cap) ∧ Rows w' A (monI p N N) ∧ Ext w w' := by
  have HN := Lib.hid hN
  clear hN
  go_enter Tryz.func75, Tryz.ntmps75
  go_wp2_with (first | (go_at_call 105; (with_reducible refine (norm_any p 343 n lo hi hn (by decide) (by decide) _).mono ?_); rintro e w' ⟨rfl, rfl⟩; rw [HN.out]))
  go_loopg [6, 12] N (fun f vo i wr => MoRel p N w f vo i wr)
  case atStart => exact ⟨0, [], rfl, rfl, ⟨none, 0, rfl⟩, OwV.nil (Ext.refl w), rfl, fun j v h => by simp at h⟩
  case round =>
    obtain ⟨k, V, hf, rfl, ⟨A, cap, rfl⟩, O, hV, hR⟩ := hrel
    have HR := Lib.hid hR
    have HV := Lib.hid hV
    clear hR hV
    by_cases hk : k < N
    · have t1 : decide ((k : Int) < (N : Int)) = true := decide_eq_true (by omega)
      have NB' := numbered_any p (N + k) lo hi (Nat.lt_of_lt_of_le (show N + k < 10000 by omega) (by decide))
      rw [Int.natCast_add] at NB'
      have NB := Lib.hid NB'
      clear NB'
      go_wp2_with (first | (go_at_call 106; (with_reducible refine (NB.out _).mono ?_); rintro e w2 ⟨⟨A2, c2, rfl, R2, E2⟩, F2⟩; replace F2 := F2 _ _ _ rfl) | ((with_reducible show wpList _ _ _ _ _ _); apply wplAppRw; exact rfl; exact rfl; exact (O.next E2).next ((Ext.refl _).alloc _); exact rfl; exact rfl; exact cell_new _ _ _; omega))
      have O2 := (O.next E2).next ((Ext.refl w2).alloc (.cells #[.slice A2 (numr p (N + k)).length c2] 52))
      intro A3 c3 w3 O3 G3
      have NR : RvI w3 (.slice A2 (numr p (N + k)).length c2) (numr p (N + k)) := (RvI.below ⟨A2, c2, rfl, R2, F2⟩ ((Ext.refl w2).alloc _)).grown O2 (by decide) G3
      have HR3 : Hid (∀ j v, (V ++ [.slice A2 (numr p (N + k)).length c2])[j]? = some v → RvI w3 v (numr p (N + j))) := Lib.hid (by
        intro j v hv
        rcases Nat.lt_or_ge j V.length with h | h
        · rw [List.getElem?_append_left h] at hv
          exact (((HR.out j v hv).below E2).below ((Ext.refl w2).alloc _)).grown O2 (by decide) G3
        · rw [List.getElem?_append_right h] at hv
          have : j = k := by
            have := (List.getElem?_eq_some_iff.1 hv).1
            have := HV.out
            simp at *
            omega
          subst this
          rw [HV.out, Nat.sub_self, List.getElem?_cons_zero] at hv
          cases hv
          exact NR)
      clear O O2 G3 NR
      go_wp2
      go_roundg (gk - 1)
      case measure => omega
      case rel => exact ⟨k + 1, _, by omega, by go_num, ⟨A3, c3, by go_num⟩, O3, by rw [List.length_append, HV.out]; rfl, HR3.out⟩
    · have t1 : decide ((k : Int) < (N : Int)) = false := decide_eq_false (by omega)
      have kN : Hid (k = N) := Lib.hid (by omega)
      go_wp2
      go_ret
      refine ⟨A, cap, ret_slice kN.out, ⟨by rw [monI, List.length_map, List.length_range]; omega, fun hn => ?_⟩, O.ext⟩
      rw [monI, List.length_map, List.length_range] at hn
      obtain ⟨A', cap', e, _, hs⟩ := O.slice
      cases e
      obtain ⟨g, rfl, _, _, hc⟩ := hs (by have := kN.out; omega)
      refine ⟨g, 0, rfl, fun i L hL => ?_⟩
      rw [monI, List.getElem?_map, Option.map_eq_some_iff] at hL
      obtain ⟨j, hj, rfl⟩ := hL
      have hi : i < N := by simpa using (List.getElem?_eq_some_iff.1 hj).1
      have : j = i := by
        rw [List.getElem?_range hi] at hj
        exact (Option.some.inj hj).symm
      subst this
      have hV : j < V.length := by have := HV.out; have := kN.out; omega
      obtain ⟨A4, c4, e4, r4, _⟩ := HR.out j V[j] (List.getElem?_eq_getElem hV)
      exact ⟨V[j], by rw [Nat.zero_add]; exact hc j _ (List.getElem?_eq_getElem hV), A4, c4, e4, r4⟩

end Go.Proofs.YtaemiknaiccijaaGreat

/- The program's divisions as often as they go. -/
namespace Go.Proofs.YtaemiknaiccijaaGreat
open Go.RowKit

def StRel (p : Int) (a0 b : List Int) (w : World) (f : Nat) (va vk : Value) (wr : World) : Prop :=
  ∃ (a : List Int) (k : Nat), a.length ≤ f ∧ f ≤ 100 ∧ k + f ≤ 100 ∧ 0 < a.length ∧ Can p a ∧ stripF p b f a k = stripI p a0 b ∧ vk = .int .i64 k ∧ Rv wr va a ∧ Ext w wr

set_option maxRecDepth 100000 in
set_option maxHeartbeats 1000000 in
theorem strip_any (p : Int) (A B : Option Addr) (ca cb : Nat) (a0 b : List Int) (hp : PrimeP p) (ha : Can p a0) (hb : Can p b) (la : a0.length ≤ 100) (lb : b.length ≤ 100) (na : 0 < a0.length) (nb : 2 ≤ b.length) (w : World) (ra : RowAt w A a0) (rb : RowAt w B b) :
    Calls Tryz.prog 127 #[.int .i64 p, .slice A a0.length ca, .slice B b.length cb] w fun e w' => ∃ v, e = .returned (.tuple #[v, .int .i64 (stripI p a0 b).2]) ∧ Rv w' v (stripI p a0 b).1 ∧ Ext w w' := by
  have HP := Lib.hid hp
  have HA := Lib.hid ha
  have HB := Lib.hid hb
  have RA := Lib.hid ra
  have RB := Lib.hid rb
  have lo := hp.lo
  clear hp ha hb ra rb
  go_enter Tryz.func127, Tryz.ntmps127
  go_wp2
  go_loopg [1, 8] a0.length (fun f va vk wr => StRel p a0 b w f va vk wr)
  case atStart => exact ⟨a0, 0, Nat.le_refl _, la, by omega, na, HA.out, rfl, rfl, ⟨A, ca, rfl, RA.out⟩, Ext.refl w⟩
  case round =>
    obtain ⟨a, k, l1, l2, l3, l4, hc, hs, rfl, ⟨Aa, ka, rfl, Ra⟩, E⟩ := hrel
    have HC := Lib.hid hc
    have HS := Lib.hid hs
    have RAa := Lib.hid Ra
    have D := Lib.hid (divide_any p Aa B ka cb a b HP.out hc HB.out (by omega) (by omega) (by omega) wr Ra (RB.out.below E))
    clear hc hs Ra
    obtain ⟨f, rfl⟩ : ∃ f, gk = f + 1 := ⟨gk - 1, by omega⟩
    by_cases hr : (dr p a b).length = 0
    · have t1 : decide ((((dr p a b).length : Nat) : Int) > 0) = false := decide_eq_false (by omega)
      have hab : b.length ≤ a.length := by
        rcases Nat.lt_or_ge a.length b.length with h | h
        · have dz : dn a b = 0 := by unfold dn; omega
          have : dr p a b = a := by
            refine nz_ext (rowN_nz _ _) HC.out.nz fun j => ?_
            rw [at0_dr p a b (by omega), dz]; rfl
          rw [this] at hr; omega
        · exact h
      have LQ := dq_len HP.out HC.out HB.out (by omega) hab
      have lq1 : (dq p a b).length ≤ f := by omega
      have lq2 : 0 < (dq p a b).length := by omega
      have CQ := Lib.hid (dq_can (show 0 < p by omega) a b)
      have HS2 : Hid (stripF p b f (dq p a b) (k + 1) = stripI p a0 b) := Lib.hid (by rw [← HS.out, stripF, if_pos hr])
      have hr0 : (dr p a b).length < 1 := by omega
      clear LQ hr
      go_wp2_with (first | (go_at_call 116; (with_reducible refine D.out.mono ?_); rintro e w2 ⟨Aq, kq, Ar, kr, rfl, RQ, RR, E2⟩))
      go_roundg f
      case measure => omega
      case rel => exact ⟨dq p a b, k + 1, lq1, by omega, by omega, lq2, CQ.out, HS2.out, by go_num, ⟨Aq, kq, rfl, RQ⟩, E.tr E2⟩
    · have t1 : decide ((((dr p a b).length : Nat) : Int) > 0) = true := decide_eq_true (by omega)
      have G : Hid (stripI p a0 b = (a, k)) := Lib.hid (by rw [← HS.out, stripF, if_neg hr])
      go_wp2_with (first | (go_at_call 116; (with_reducible refine D.out.mono ?_); rintro e w2 ⟨Aq, kq, Ar, kr, rfl, RQ, RR, E2⟩))
      go_ret2
      rw [G.out]
      exact ⟨_, rfl, ⟨Aa, ka, rfl, RAa.out.below E2⟩, E.tr E2⟩

end Go.Proofs.YtaemiknaiccijaaGreat

/- The program's search for a divisor of a degree. -/
namespace Go.Proofs.YtaemiknaiccijaaGreat
open Go.RowKit

def WdRel (p : Int) (a : List Int) (N n : Nat) (w : World) (f : Nat) (vk : Value) (wr : World) : Prop :=
  ∃ j : Nat, f + j = N ∧ vk = .int .i64 ((N : Int) + (j : Int)) ∧ wdF p a N f j = withDegI p a n ∧ Ext w wr

set_option maxRecDepth 100000 in
set_option maxHeartbeats 1000000 in
theorem withDegree_any (p : Int) (A : Option Addr) (ca : Nat) (a : List Int) (n : Nat) (hp : PrimeP p) (ha : Can p a) (la : a.length ≤ 100) (na : 0 < a.length) (hn : n ≤ 100) (w : World) (ra : RowAt w A a) :
    Calls Tryz.prog 126 #[.int .i64 p, .slice A a.length ca, .int .i64 n] w (Row (withDegI p a n) w) := by
  have HP := Lib.hid hp
  have HA := Lib.hid ha
  have RA := Lib.hid ra
  have lo := hp.lo
  have hi := hp.hi
  clear hp ha ra
  by_cases h1 : a.length = n + 1
  · have G : Hid (withDegI p a n = scal p a (invP p (lc a))) := Lib.hid (if_pos h1)
    have t1 : ((a.length : Int) - 1 == (n : Int)) = true := by simp; omega
    have hl := HA.out.last na
    rw [show at0 a (a.length - 1) = lc a from rfl] at hl
    have hinv := invP_range (x := lc a) HP.out
    have LD := lead_any A ca a w RA.out
    rw [show lead a = lc a from if_neg (by omega)] at LD
    have LDM := Lib.hid LD
    have BA := Lib.hid (can_isB HA.out hi)
    clear LD h1
    go_enter Tryz.func126, Tryz.ntmps126
    go_wp2_with (first | (go_at_call 79; (with_reducible refine (degree_any A a.length ca (by omega) _).mono ?_); rintro e w' ⟨rfl, rfl⟩) | (go_at_call 107; (with_reducible refine LDM.out.mono ?_); rintro e w2 ⟨rfl, rfl⟩) | (go_at_call 125; (with_reducible refine (inverse_any p (lc a) lo hi (by omega) hl.2 _).mono ?_); rintro e w' ⟨rfl, rfl⟩) | (go_at_call 124; (with_reducible refine (scale_any p (invP p (lc a)) A ca a lo hi (by omega) (by omega) BA.out _ RA.out).mono ?_); rintro e w2 ⟨A2, k2, rfl, R2, E2⟩))
    go_ret
    rw [G.out]
    exact ⟨A2, k2, rfl, R2, E2⟩
  · have t1 : ((a.length : Int) - 1 == (n : Int)) = false := by rw [beq_eq_false_iff_ne]; omega
    have NR := normF_range lo hi (most := 1099511627776) (by decide) n 1 (by decide) (by decide)
    obtain ⟨N, hN⟩ : ∃ N : Nat, normI p n 1099511627776 = (N : Int) := ⟨(normI p n 1099511627776).toNat, by have : normI p n 1099511627776 = normF p 1099511627776 n 1 := rfl; omega⟩
    have N1 : 1 ≤ N ∧ N ≤ 8000000000000 := by have : normI p n 1099511627776 = normF p 1099511627776 n 1 := rfl; omega
    have G : Hid (wdF p a N N 0 = withDegI p a n) := Lib.hid (by unfold withDegI; rw [if_neg h1, hN]; rfl)
    have HN := Lib.hid hN
    clear hN NR h1
    go_enter Tryz.func126, Tryz.ntmps126
    go_wp2_with (first | (go_at_call 79; (with_reducible refine (degree_any A a.length ca (by omega) _).mono ?_); rintro e w' ⟨rfl, rfl⟩) | (go_at_call 105; (with_reducible refine (norm_any p 1099511627776 n lo hi (by omega) (by decide) (by decide) _).mono ?_); rintro e w' ⟨rfl, rfl⟩; rw [HN.out]))
    go_loopg [8] N (fun f vk wr => WdRel p a N n w f vk wr)
    case atStart => exact ⟨0, rfl, by simp, G.out, Ext.refl w⟩
    case round =>
      obtain ⟨j, hf, rfl, hs, E⟩ := hrel
      have HS := Lib.hid hs
      clear hs
      by_cases hj : j < N
      · obtain ⟨f, rfl⟩ : ∃ f, gk = f + 1 := ⟨gk - 1, by omega⟩
        have s1 : decide ((N : Int) + (j : Int) < 2 * (N : Int)) = true := decide_eq_true (by omega)
        have u60 : N + j < 2 ^ 60 := Nat.lt_of_lt_of_le (show N + j < 20000000000000 by omega) (by decide)
        have NB' := numbered_any p (N + j) lo hi u60
        rw [Int.natCast_add] at NB'
        have NB := Lib.hid NB'
        have NP := numr_pos lo (show N + j ≠ 0 by omega) u60
        have NL := numr_le p (N + j)
        have NC := Lib.hid (numr_can (show 0 < p by omega) (N + j))
        clear NB' u60
        by_cases hr : (dr p a (numr p (N + j))).length = 0
        · have G2 : Hid (numr p (N + j) = withDegI p a n) := Lib.hid (by rw [← HS.out, wdF, if_pos hr])
          have s2 : (((dr p a (numr p (N + j))).length : Int) == 0) = true := by simpa using hr
          go_wp2_with (first | (go_at_call 106; (with_reducible refine (NB.out _).mono ?_); rintro e w2 ⟨⟨A2, c2, rfl, R2, E2⟩, F2⟩; clear F2) | (go_at_call 89; (with_reducible refine (rest_any p A A2 ca c2 a (numr p (N + j)) HP.out HA.out NC.out (by omega) (by omega) NP _ (RA.out.below (E.tr E2)) R2).mono ?_); rintro e w3 ⟨A3, c3, rfl, R3, E3⟩))
          go_ret
          rw [← G2.out]
          exact ⟨A2, c2, rfl, R2.below E3, E.tr (E2.tr E3)⟩
        · have G2 : Hid (wdF p a N f (j + 1) = withDegI p a n) := Lib.hid (by rw [← HS.out, wdF, if_neg hr])
          have s2 : (((dr p a (numr p (N + j))).length : Int) == 0) = false := by rw [beq_eq_false_iff_ne]; omega
          go_wp2_with (first | (go_at_call 106; (with_reducible refine (NB.out _).mono ?_); rintro e w2 ⟨⟨A2, c2, rfl, R2, E2⟩, F2⟩; clear F2) | (go_at_call 89; (with_reducible refine (rest_any p A A2 ca c2 a (numr p (N + j)) HP.out HA.out NC.out (by omega) (by omega) NP _ (RA.out.below (E.tr E2)) R2).mono ?_); rintro e w3 ⟨A3, c3, rfl, R3, E3⟩))
          go_roundg f
          case measure => omega
          case rel => exact ⟨j + 1, by omega, by go_num, G2.out, E.tr (E2.tr E3)⟩
      · have s1 : decide ((N : Int) + (j : Int) < 2 * (N : Int)) = false := decide_eq_false (by omega)
        have g0 : gk = 0 := by omega
        subst g0
        have G2 : Hid (a = withDegI p a n) := Lib.hid (by rw [← HS.out]; rfl)
        go_wp2
        go_ret
        rw [← G2.out]
        exact ⟨A, ca, rfl, RA.out.below E, E⟩

end Go.Proofs.YtaemiknaiccijaaGreat
