/- Lemmas and contracts of functions, for the laws on curves: A region that hands two polynomials on, in whatever order: two reads, then two stores, of which the first may come ahead of the second read. -/
import Derived.Test.YtaemiknaiccijaaGreatPp1
import Derived.Laws.AppendOwn
import Derived.Deep.LoopGhost
set_option linter.unusedVariables false
set_option linter.unusedSimpArgs false
namespace Go.Proofs.YtaemiknaiccijaaGreat
open Go.RowKit

def rdy (ops : Array Oper) (a b c d : Bool) : List Nat := Region.ready .any ops #[a, b, c, d]
def twoB (ops : Array Oper) : Bool :=
  rdy ops false false false false == [0, 1] && rdy ops true false false false == [1, 2] && rdy ops false true false false == [0] && rdy ops true true false false == [2] && rdy ops true false true false == [1] &&
    rdy ops true true true false == [3] && rdy ops true true true true == []

theorem eval_tmp (a : Act) (t : Tmp) : a.eval (.tmp t) = a.tmps[t]?.getD undef := by simp [Act.eval]
theorem wpOp_plain {P : Program} {ops : Array Oper} {Q : Exit → Act → World → Prop} {i : Nat} {K : Act → World → Prop} {a : Act} {w : World} {o : Oper} (ho : ops[i]? = some o) (hg : o.guard = none) (h : o.wp P a w K Q) : wpOp P ops Q i K a w := by
  unfold wpOp
  simp only [ho]
  rw [if_pos (by simp [Region.wanted, hg])]
  exact .inl h
theorem wp_store_arr {o : Oper} {a : Act} {w : World} {K : Act → World → Prop} {Q : Exit → Act → World → Prop} (x y : Operand) (ho : o.op = .store 25 x y) {g : Nat} {T : TypeId} {old l : List Int} (hg : Arr w g T old)
    (hx : a.eval x = .pointer (some ⟨g, 0, none⟩)) (hy : a.eval y = .agg (u8s l)) (hold : old.length = 64) (hl : l.length = 64) (h : K (a.put o.dst undef) (w.setRow g (u8s l))) : o.wp Tryz.prog a w K Q := by
  unfold Oper.wp execOp
  simp only [ho, hx, hy, Instr.storeAt, Instr.sureAddr, Sem.run_bind, Sem.run_pure, Result.andThen_ok, run_store_arr hg hold hl infoPoly]
  exact h
theorem wp_load_arr {o : Oper} {a : Act} {w : World} {K : Act → World → Prop} {Q : Exit → Act → World → Prop} (x : Operand) (ho : o.op = .load 25 x) {g : Nat} {T : TypeId} {l : List Int} (hg : Arr w g T l) (hx : a.eval x = .pointer (some ⟨g, 0, none⟩)) (hl : l.length = 64)
    (h : K (a.put o.dst (.agg (u8s l))) w) : o.wp Tryz.prog a w K Q :=
  wp_load_row _ x ho g hx T _ (0, 0) _ hg Tryz.underlying25 rfl (by rw [infoPoly, u8s_size, hl]) h

/-- Two worlds that differ at two blocks alone. -/
structure Two (w w' : World) (p q : Nat) : Prop where
  os : w'.os = w.os
  tape : w'.tape = w.tape
  output : w'.output = w.output
  size : w'.heap.size = w.heap.size
  block : ∀ k, k ≠ p → k ≠ q → w'.heap[k]? = w.heap[k]?
theorem Two.arr {w w' : World} {p q g : Nat} {T : TypeId} {l : List Int} (h : Two w w' p q) (ha : Arr w g T l) (h1 : g ≠ p) (h2 : g ≠ q) : Arr w' g T l := (h.block g h1 h2).trans ha
theorem Two.ext {a w w' : World} {p q : Nat} (h : Two w w' p q) (hE : Ext a w) (h1 : a.heap.size ≤ p) (h2 : a.heap.size ≤ q) : Ext a w' :=
  ⟨h.os.trans hE.os, h.tape.trans hE.tape, h.output.trans hE.output, by rw [h.size]; exact hE.size, fun k hk => (h.block k (by omega) (by omega)).trans (hE.block k hk)⟩

theorem region_two {id : Nat} {Q : Exit → Act → World → Prop} {tm : Array Value} {w : World} {o0 o1 o2 o3 : Oper} {d0 d1 : Tmp} (hm : Tryz.prog.follows .mixedOrders = true) (hB : twoB #[o0, o1, o2, o3] = true)
    (x0 x1 p2 p3 : Operand) (h0 : o0.op = .load 25 x0) (h1 : o1.op = .load 25 x1) (h2 : o2.op = .store 25 p2 (.tmp d0)) (h3 : o3.op = .store 25 p3 (.tmp d1))
    (g0 : o0.guard = none) (g1 : o1.guard = none) (g2 : o2.guard = none) (g3 : o3.guard = none) (e0 : o0.dst = some d0) (e1 : o1.dst = some d1) (e2 : o2.dst = none) (e3 : o3.dst = none)
    {a b p q : Nat} {T0 T1 T2 T3 : TypeId} {la lb lp lq : List Int} (A0 : Arr w a T0 la) (A1 : Arr w b T1 lb) (A2 : Arr w p T2 lp) (A3 : Arr w q T3 lq)
    (z0 : la.length = 64) (z1 : lb.length = 64) (z2 : lp.length = 64) (z3 : lq.length = 64) (nb : b ≠ p) (npq : p ≠ q)
    (hs0 : d0 < tm.size) (hs1 : d1 < tm.size) (hne : d0 ≠ d1)
    (ev : ∀ tm' : Array Value, (∀ t, t ≠ d0 → t ≠ d1 → tm'[t]? = tm[t]?) → (Act.mk tm' []).eval x0 = .pointer (some ⟨a, 0, none⟩) ∧ (Act.mk tm' []).eval x1 = .pointer (some ⟨b, 0, none⟩) ∧ (Act.mk tm' []).eval p2 = .pointer (some ⟨p, 0, none⟩) ∧ (Act.mk tm' []).eval p3 = .pointer (some ⟨q, 0, none⟩))
    (h : ∀ w', Two w w' p q → Arr w' p T2 la → Arr w' q T3 lb → Q .normal ⟨(tm.setIfInBounds d0 (.agg (u8s la))).setIfInBounds d1 (.agg (u8s lb)), []⟩ w') :
    (Code.region id #[o0, o1, o2, o3] true).wp Tryz.prog Q ⟨tm, []⟩ w := by
  unfold twoB rdy at hB
  simp only [Bool.and_eq_true, beq_iff_eq] at hB
  obtain ⟨⟨⟨⟨⟨⟨r0, r1⟩, r2⟩, r3⟩, r4⟩, r5⟩, r6⟩ := hB
  refine wp_region_any hm ?_
  obtain ⟨w1, hw1⟩ : ∃ w1, w1 = ({ w with drawn := w.drawn + 1 } : World) := ⟨_, rfl⟩
  have B0 : Arr w1 a T0 la := by rw [hw1]; exact A0
  have B1 : Arr w1 b T1 lb := by rw [hw1]; exact A1
  have B2 : Arr w1 p T2 lp := by rw [hw1]; exact A2
  have B3 : Arr w1 q T3 lq := by rw [hw1]; exact A3
  have ww : Two w w1 p q := by rw [hw1]; exact ⟨rfl, rfl, rfl, rfl, fun _ _ _ => rfl⟩
  rw [← hw1]
  show wpAny Tryz.prog .any #[o0, o1, o2, o3] Q 4 #[false, false, false, false] ⟨tm, []⟩ w1
  have same : ∀ (v0 v1 : Value) t, t ≠ d0 → t ≠ d1 → ((tm.setIfInBounds d0 v0).setIfInBounds d1 v1)[t]? = tm[t]? := fun v0 v1 t h0 h1 => by
    rw [Array.getElem?_setIfInBounds_ne (Ne.symm h1), Array.getElem?_setIfInBounds_ne (Ne.symm h0)]
  have same0 : ∀ (v0 : Value) t, t ≠ d0 → t ≠ d1 → (tm.setIfInBounds d0 v0)[t]? = tm[t]? := fun v0 t h0 h1 => by rw [Array.getElem?_setIfInBounds_ne (Ne.symm h0)]
  have same1 : ∀ (v1 : Value) t, t ≠ d0 → t ≠ d1 → (tm.setIfInBounds d1 v1)[t]? = tm[t]? := fun v1 t h0 h1 => by rw [Array.getElem?_setIfInBounds_ne (Ne.symm h1)]
  have comm : (tm.setIfInBounds d1 (.agg (u8s lb))).setIfInBounds d0 (.agg (u8s la)) = (tm.setIfInBounds d0 (.agg (u8s la))).setIfInBounds d1 (.agg (u8s lb)) := by
    apply Array.ext_getElem?
    intro t
    by_cases x0 : t = d0
    · subst x0
      rw [Array.getElem?_setIfInBounds_self_of_lt (by simpa using hs0), Array.getElem?_setIfInBounds_ne (Ne.symm hne), Array.getElem?_setIfInBounds_self_of_lt hs0]
    · by_cases x1 : t = d1
      · subst x1
        rw [Array.getElem?_setIfInBounds_ne hne, Array.getElem?_setIfInBounds_self_of_lt hs1, Array.getElem?_setIfInBounds_self_of_lt (by simpa using hs1)]
      · rw [Array.getElem?_setIfInBounds_ne (Ne.symm x0), Array.getElem?_setIfInBounds_ne (Ne.symm x1), Array.getElem?_setIfInBounds_ne (Ne.symm x1), Array.getElem?_setIfInBounds_ne (Ne.symm x0)]
  have op0 : ∀ {Q K a w}, o0.wp Tryz.prog a w K Q → wpOp Tryz.prog #[o0, o1, o2, o3] Q 0 K a w := fun h => wpOp_plain rfl g0 h
  have op1 : ∀ {Q K a w}, o1.wp Tryz.prog a w K Q → wpOp Tryz.prog #[o0, o1, o2, o3] Q 1 K a w := fun h => wpOp_plain rfl g1 h
  have op2 : ∀ {Q K a w}, o2.wp Tryz.prog a w K Q → wpOp Tryz.prog #[o0, o1, o2, o3] Q 2 K a w := fun h => wpOp_plain rfl g2 h
  have op3 : ∀ {Q K a w}, o3.wp Tryz.prog a w K Q → wpOp Tryz.prog #[o0, o1, o2, o3] Q 3 K a w := fun h => wpOp_plain rfl g3 h
  -- the last store
  have last : ∀ w2, Two w w2 p q → Arr w2 p T2 la → Arr w2 q T3 lq → wpAny Tryz.prog .any #[o0, o1, o2, o3] Q 1 #[true, true, true, false] ⟨(tm.setIfInBounds d0 (.agg (u8s la))).setIfInBounds d1 (.agg (u8s lb)), []⟩ w2 := fun w2 t2 C2 C3 => by
    refine wpAny_all r5 (by simp) fun i hi => ?_
    obtain rfl : i = 3 := by simpa using hi
    have he := ev _ (same (.agg (u8s la)) (.agg (u8s lb)))
    refine op3 (wp_store_arr p3 (.tmp d1) h3 C3 he.2.2.2 (by rw [eval_tmp, Array.getElem?_setIfInBounds_self_of_lt (by simpa using hs1)]; rfl) z3 z1 ?_)
    rw [e3]
    refine wpAny_done r6 (h _ ?_ (C2.setRow_other npq _) C3.setRow) _
    exact ⟨t2.os, t2.tape, t2.output, by simp [t2.size], fun k k1 k2 => (Go.setRow_other w2 q k _ k2).trans (t2.block k k1 k2)⟩
  -- both read, the first store next
  have mid : wpAny Tryz.prog .any #[o0, o1, o2, o3] Q 2 #[true, true, false, false] ⟨(tm.setIfInBounds d0 (.agg (u8s la))).setIfInBounds d1 (.agg (u8s lb)), []⟩ w1 := by
    refine wpAny_all r3 (by simp) fun i hi => ?_
    obtain rfl : i = 2 := by simpa using hi
    have he := ev _ (same (.agg (u8s la)) (.agg (u8s lb)))
    refine op2 (wp_store_arr p2 (.tmp d0) h2 B2 he.2.2.1 (by rw [eval_tmp, Array.getElem?_setIfInBounds_ne (Ne.symm hne), Array.getElem?_setIfInBounds_self_of_lt hs0]; rfl) z2 z0 ?_)
    rw [e2]
    exact last _ ⟨ww.os, ww.tape, ww.output, by simp [ww.size], fun k k1 k2 => (Go.setRow_other w1 p k _ k1).trans (ww.block k k1 k2)⟩ B2.setRow (B3.setRow_other (Ne.symm npq) _)
  refine wpAny_all r0 (by simp) fun i hi => ?_
  have hi' : i = 0 ∨ i = 1 := by simpa using hi
  rcases hi' with rfl | rfl
  · have he := ev tm (fun _ _ _ => rfl)
    refine op0 (wp_load_arr x0 h0 B0 he.1 z0 ?_)
    rw [e0]
    refine wpAny_all r1 (by simp) fun i hi => ?_
    have hi' : i = 1 ∨ i = 2 := by simpa using hi
    rcases hi' with rfl | rfl
    · have he := ev _ (same0 (.agg (u8s la)))
      refine op1 (wp_load_arr x1 h1 B1 he.2.1 z1 ?_)
      rw [e1]
      exact mid
    · have he := ev _ (same0 (.agg (u8s la)))
      refine op2 (wp_store_arr p2 (.tmp d0) h2 B2 he.2.2.1 (by rw [eval_tmp]; show (tm.setIfInBounds d0 (.agg (u8s la)))[d0]?.getD undef = _; rw [Array.getElem?_setIfInBounds_self_of_lt hs0]; rfl) z2 z0 ?_)
      rw [e2]
      refine wpAny_all r4 (by simp) fun i hi => ?_
      obtain rfl : i = 1 := by simpa using hi
      refine op1 (wp_load_arr x1 h1 (B1.setRow_other nb _) he.2.1 z1 ?_)
      rw [e1]
      exact last _ ⟨ww.os, ww.tape, ww.output, by simp [ww.size], fun k k1 k2 => (Go.setRow_other w1 p k _ k1).trans (ww.block k k1 k2)⟩ B2.setRow (B3.setRow_other (Ne.symm npq) _)
  · have he := ev tm (fun _ _ _ => rfl)
    refine op1 (wp_load_arr x1 h1 B1 he.2.1 z1 ?_)
    rw [e1]
    refine wpAny_all r2 (by simp) fun i hi => ?_
    obtain rfl : i = 0 := by simpa using hi
    have he := ev _ (same1 (.agg (u8s lb)))
    refine op0 (wp_load_arr x0 h0 B0 he.1 z0 ?_)
    rw [e0]
    show wpAny Tryz.prog .any #[o0, o1, o2, o3] Q 2 #[true, true, false, false] ⟨(tm.setIfInBounds d1 (.agg (u8s lb))).setIfInBounds d0 (.agg (u8s la)), []⟩ w1
    rw [comm]
    exact mid

end Go.Proofs.YtaemiknaiccijaaGreat

/- The reference's long division. -/
namespace Go.Proofs.YtaemiknaiccijaaGreat
open Go.RowKit

/-- Where a division stands when k steps are left. -/
structure DivSt (p c : Int) (b : Nat → Int) (m N : Nat) (a : Nat → Int) (k : Nat) (f q : Nat → Int) : Prop where
  rest : ∀ t, dR p c b m k f t = dR p c b m N a t
  below : ∀ s, s < k → q s = 0
  quo : ∀ s, (if s < k then dQ p c b m k f s else q s) = dQ p c b m N a s
  rng : ∀ t, 0 ≤ f t ∧ f t < p
theorem DivSt.start {p c : Int} {b a : Nat → Int} {m N : Nat} (h : ∀ t, 0 ≤ a t ∧ a t < p) : DivSt p c b m N a N a (fun _ => 0) :=
  ⟨fun _ => rfl, fun _ _ => rfl, fun s => by split; rfl; rw [dQ_out _ _ (by omega)], h⟩
theorem DivSt.step {p c : Int} (hp : 0 < p) {b a : Nat → Int} {m N k : Nat} {f q : Nat → Int} (h : DivSt p c b m N a (k + 1) f q) :
    DivSt p c b m N a k (dstep p c b m f k) (fun s => if s = k then qd p c m f k else q s) := by
  refine ⟨fun t => by rw [← h.rest t]; rfl, fun s hs => ?_, fun s => ?_, dstep_range hp h.rng⟩
  · show (if s = k then _ else q s) = 0
    rw [if_neg (by omega)]; exact h.below s (by omega)
  · have := h.quo s
    by_cases e : s = k
    · subst e
      rw [if_pos (by omega)] at this
      rw [if_neg (by omega), ← this]
      show (if s = s then _ else q s) = dQ p c b m (s + 1) f s
      rw [if_pos rfl, dQ_same]
    · by_cases e2 : s < k
      · rw [if_pos (by omega)] at this
        rw [if_pos e2, ← this, dQ_ne e]
      · rw [if_neg (by omega)] at this
        rw [if_neg e2]
        show (if s = k then _ else q s) = _
        rw [if_neg e, this]
/-- Inside a step: the first j coefficients are struck. -/
def dpart (p c : Int) (b : Nat → Int) (m : Nat) (f : Nat → Int) (s j : Nat) : Nat → Int := fun t =>
  if s ≤ t ∧ t < s + j then (f t - qd p c m f s * b (t - s)) % p else f t
theorem dpart_zero (p c : Int) (b : Nat → Int) (m : Nat) (f : Nat → Int) (s : Nat) : dpart p c b m f s 0 = f := by
  funext t; unfold dpart; rw [if_neg (by omega)]
theorem dpart_end (p c : Int) (b : Nat → Int) (m : Nat) (f : Nat → Int) (s : Nat) : dpart p c b m f s (m + 1) = dstep p c b m f s := by
  funext t; unfold dpart dstep
  by_cases h : s ≤ t ∧ t ≤ s + m
  · rw [if_pos h, if_pos ⟨h.1, by omega⟩]
  · rw [if_neg h, if_neg (by omega)]
theorem dpart_none {p c : Int} {b : Nat → Int} {m : Nat} {f : Nat → Int} {s : Nat} (hr : ∀ t, 0 ≤ f t ∧ f t < p) (h : qd p c m f s = 0) (j : Nat) : dpart p c b m f s j = dstep p c b m f s := by
  funext t; unfold dpart dstep
  rw [h]
  have := hr t
  have e : (f t - 0 * b (t - s)) % p = f t := by rw [Int.zero_mul, Int.sub_zero, Int.emod_eq_of_lt this.1 this.2]
  rw [e]
  split <;> split <;> rfl
theorem dpart_step {p c : Int} {b : Nat → Int} {m : Nat} {f : Nat → Int} {s j : Nat} (h : s + j < 64) :
    (tab 64 (dpart p c b m f s j)).set (s + j) ((f (s + j) - qd p c m f s * b j) % p) = tab 64 (dpart p c b m f s (j + 1)) := by
  rw [tab_set 64 _ _ _ h]
  refine tab_congr fun t _ => ?_
  unfold dpart
  by_cases e : t = s + j
  · subst e
    rw [if_pos rfl, if_pos ⟨by omega, by omega⟩, show s + j - s = j by omega]
  · rw [if_neg e]
    by_cases h2 : s ≤ t ∧ t < s + j
    · rw [if_pos h2, if_pos ⟨h2.1, by omega⟩]
    · rw [if_neg h2, if_neg (by omega)]
theorem dpart_at (p c : Int) (b : Nat → Int) (m : Nat) (f : Nat → Int) (s j : Nat) : dpart p c b m f s j (s + j) = f (s + j) := by
  unfold dpart; rw [if_neg (by omega)]

def DivOut (p : Int) (a b : List Int) (w : World) (g m : Nat) (i : Value) (wr : World) : Prop :=
  ∃ (k : Nat) (n : Int) (f q : Nat → Int), i = .int .i64 n ∧ (n = (k : Int) - 1 + m ∨ (k = 0 ∧ n < m)) ∧ -1 ≤ n ∧ n ≤ 63 ∧ DivSt p (invP p (lc b)) (at0 b) m (dn a b) (at0 a) k f q ∧
    Arr wr w.heap.size 25 (tab 64 f) ∧ Arr wr (w.heap.size + 1) 25 (pad b) ∧ Arr wr (w.heap.size + 2) 25 zeros64 ∧ Arr wr (w.heap.size + 3) 25 zeros64 ∧ Arr wr g 25 (tab 64 q) ∧ Ext w wr
def DivIn (p : Int) (b : List Int) (w : World) (g m k : Nat) (f q : Nat → Int) (i : Value) (wr : World) : Prop :=
  ∃ j : Nat, j ≤ m + 1 ∧ i = .int .i64 j ∧ Arr wr w.heap.size 25 (tab 64 (dpart p (invP p (lc b)) (at0 b) m f k j)) ∧ Arr wr (w.heap.size + 1) 25 (pad b) ∧ Arr wr (w.heap.size + 2) 25 zeros64 ∧ Arr wr (w.heap.size + 3) 25 zeros64 ∧
    Arr wr g 25 (tab 64 q) ∧ Ext w wr

set_option maxRecDepth 100000 in
set_option maxHeartbeats 1000000 in
theorem l01Divide_any (p : Int) (a b : List Int) (hp : PrimeP p) (ha : Can p a) (hb : Can p b) (la : a.length ≤ 64) (lb : b.length ≤ 64) (hne : 0 < b.length) (w : World) :
    Calls Tryz.prog 47 #[.int .i64 p, .agg (u8s (pad a)), .agg (u8s (pad b))] w fun e w' =>
      e = .returned (.tuple #[.agg (u8s (pad (dq p a b))), .agg (u8s (pad (dr p a b)))]) ∧ Ext w w' := by
  obtain ⟨m, hm⟩ : ∃ m, b.length = m + 1 := ⟨b.length - 1, by omega⟩
  have HA := Lib.hid ha
  have HB := Lib.hid hb
  have HP := Lib.hid hp
  have HM := Lib.hid hm
  have lm : m ≤ 63 := by omega
  have PL := Lib.hid (pad_length a)
  have QL := Lib.hid (pad_length b)
  have LB := Lib.hid lb
  have hlc := hb.last hne
  have elc : lc b = at0 b m := by unfold lc; rw [hm]; rfl
  rw [show at0 b (b.length - 1) = lc b from rfl] at hlc
  have hinv := invP_range (x := lc b) hp
  have hlo := hp.lo
  have hhi := hp.hi
  have ELC := Lib.hid elc
  clear ha hb hp hm hne elc lb
  have hz := zlit
  obtain ⟨w1, hw1⟩ : ∃ w1, w1 = allocs w 25 [pad a, pad b, zeros64, zeros64] := ⟨_, rfl⟩
  have A1 : Arr w1 w.heap.size 25 (pad a) := by rw [hw1]; exact allocs_arr _ _ 0 rfl
  have A2 : Arr w1 (w.heap.size + 1) 25 (pad b) := by rw [hw1]; exact allocs_arr _ _ 1 rfl
  have A3 : Arr w1 (w.heap.size + 2) 25 zeros64 := by rw [hw1]; exact allocs_arr _ _ 2 rfl
  have A4 : Arr w1 (w.heap.size + 3) 25 zeros64 := by rw [hw1]; exact allocs_arr _ _ 3 rfl
  have E1 : Ext w w1 := by rw [hw1]; exact allocs_ext _ _ _ _ (Ext.refl w)
  have S1 : w1.heap.size = w.heap.size + 4 := by rw [hw1, allocs_size]; rfl
  simp only [allocs] at hw1
  have HW := hw1.symm
  clear hw1
  go_enter Tryz.func47, Tryz.ntmps47
  go_wp2_with (first | (refine wplL _ rfl rfl A2 rfl QL.out ?_) | (go_at_call 49; refine (l01Deg_pad b m HB.out.nz LB.out (by have := HM.out; omega) _).mono ?_; rintro e w2 ⟨rfl, E2⟩) | (refine wplW _ _ rfl rfl (Arr.new _ _ zeros64) rfl rfl zeros64_length zeros64_length ?_))
  clear HW
  intro w3 G3 Z3 B5
  have S2 := E2.size
  have B1 := ((A1.ext E2).alloc _).grown G3 (by omega)
  have B2 := ((A2.ext E2).alloc _).grown G3 (by omega)
  have B3 := ((A3.ext E2).alloc _).grown G3 (by omega)
  have B4 := ((A4.ext E2).alloc _).grown G3 (by omega)
  have E3 : Ext w w3 := ((E1.tr E2).alloc _).grown G3 (by omega)
  have hg : w.heap.size + 4 ≤ w2.heap.size := by omega
  generalize w2.heap.size = g at *
  clear A1 A2 A3 A4 E1 E2 S1 S2 G3 Z3
  have c1 := B2.cell m (by rw [QL.out]; omega)
  rw [at0_pad b LB.out, ← ELC.out] at c1
  go_wp2_with (first | (go_at_call 82; refine (l01Inverse_any p (lc b) HP.out hlc.1 hlc.2 _).mono ?_; rintro e w4 ⟨rfl, rfl⟩) | (refine wplL _ rfl rfl B1 rfl PL.out ?_) | (go_at_call 49; refine (l01Deg_pad a _ HA.out.nz la rfl _).mono ?_; rintro e w4 ⟨rfl, E4⟩))
  have S4 := E4.size
  have D0 : ∀ t, 0 ≤ at0 a t ∧ at0 a t < p := HA.out.inp
  have t0 : Hid (pad a = tab 64 (at0 a)) := Lib.hid rfl
  have g1 := B5.lt
  have LA := Lib.hid la
  clear la c1
  go_loopw [11] (fun i wr => DivOut p a b w g m i wr) (fun i _ => (intOf i + 1).toNat)
  case atStart =>
    refine ⟨dn a b, (a.length : Int) - 1, at0 a, fun _ => 0, rfl, ?_, by omega, by have := LA.out; omega, DivSt.start D0, by rw [← t0.out]; exact B1.ext E4, B2.ext E4, B3.ext E4, B4.ext E4, by rw [← zeros64_tab]; exact B5.ext E4, E3.tr E4⟩
    have := HM.out
    unfold dn
    omega
  case round =>
    obtain ⟨k, n, f, q, rfl, hn, n1, n2, hst, C1, C2, C3, C4, C5, hE⟩ := hrel
    have HST := Lib.hid hst
    clear B1 B2 B3 B4 B5 E3 E4 hst
    by_cases hk : k = 0
    · subst hk
      have tm : decide ((m : Int) ≤ n) = false := by simp; omega
      have hq : Hid (tab 64 q = pad (dq p a b)) := Lib.hid (tab_congr fun s _ => by
        rw [at0_dq, show b.length - 1 = m by have := HM.out; omega, ← HST.out.quo s, if_neg (by omega)])
      have hr : Hid (tab 64 f = pad (dr p a b)) := Lib.hid (tab_congr fun s _ => by
        rw [at0_dr p a b (by have := HM.out; omega), show b.length - 1 = m by have := HM.out; omega, ← HST.out.rest s]
        rfl)
      rw [hq.out] at C5
      rw [hr.out] at C1
      go_wp2
      refine region_two (by kernel_rfl) (by kernel_rfl) _ _ _ _ rfl rfl rfl rfl rfl rfl rfl rfl rfl rfl rfl rfl C5 C1 C3 C4 (pad_length _) (pad_length _) zeros64_length zeros64_length (by omega) (by omega) (Nat.le_of_ble_eq_true rfl) (Nat.le_of_ble_eq_true rfl) (by decide) (fun tm' hsame => ?_) (fun w5 T5 P5 Q5 => ?_)
      · refine ⟨?_, ?_, ?_, ?_⟩
        all_goals (rw [eval_tmp, hsame _ (by decide) (by decide)]; rfl)
      · simp only [List.setIfInBounds_toArray, List.set_cons_zero, List.set_cons_succ]
        go_wp2
        exact bodyPost_ret (res_cc rfl rfl rfl P5 (pad_length _) Q5 (pad_length _) Tryz.underlying25 infoPoly) rfl ⟨rfl, T5.ext hE (by omega) (by omega)⟩
    · obtain ⟨k', rfl⟩ : ∃ k', k = k' + 1 := ⟨k - 1, by omega⟩
      obtain rfl : n = (k' : Int) + m := by omega
      clear hn hk
      have tm : decide ((m : Int) ≤ (k' : Int) + m) = true := by simp; omega
      have c1 := C1.cell (k' + m) (by rw [tab_length]; omega)
      rw [at0_tab_lt _ (by omega)] at c1
      have r1 := HST.out.rng (k' + m)
      have r2 := mulB (K := 7) (C := 7) (by decide) (show -7 ≤ f (k' + m) by omega) (by omega) hinv.1 (by omega)
      have r3 : 0 ≤ f (k' + m) * invP p (lc b) := Int.mul_nonneg r1.1 hinv.1
      have r4 := emod_range (f (k' + m) * invP p (lc b)) p (by omega)
      have f5 := C5.free k'
      have c5 := C5.cell k' (by rw [tab_length]; omega)
      have hp0 : p ≠ 0 := by omega
      have eq : Hid (f (k' + m) * invP p (lc b) % p = qd p (invP p (lc b)) m f k') := Lib.hid rfl
      go_wp2
      have hE2 : Ext w (wr.setCell ⟨g, k', none⟩ (.int .u8 (f (k' + m) * invP p (lc b) % p))) := hE.set (by simp; omega) _
      have D1 := C1.other (a := ⟨g, k', none⟩) (v := .int .u8 (f (k' + m) * invP p (lc b) % p)) (by simp; omega)
      have D2 := C2.other (a := ⟨g, k', none⟩) (v := .int .u8 (f (k' + m) * invP p (lc b) % p)) (by simp; omega)
      have D3 := C3.other (a := ⟨g, k', none⟩) (v := .int .u8 (f (k' + m) * invP p (lc b) % p)) (by simp; omega)
      have D4 := C4.other (a := ⟨g, k', none⟩) (v := .int .u8 (f (k' + m) * invP p (lc b) % p)) (by simp; omega)
      have D5 := C5.set k' (f (k' + m) * invP p (lc b) % p)
      rw [tab_set 64 _ _ _ (by omega)] at D5
      clear C1 C2 C3 C4 C5 hE c1 f5 c5 r1 r2 r3
      generalize f (k' + m) * invP p (lc b) % p = x at *
      generalize wr.setCell ⟨g, k', none⟩ (.int .u8 x) = wr2 at *
      go_loopw [13] (fun i wr => DivIn p b w g m k' f (fun j => if j = k' then x else q j) i wr) (fun i _ => 64 - (intOf i).toNat)
      case atStart => exact ⟨0, by omega, rfl, by rw [dpart_zero]; exact D1, D2, D3, D4, D5, hE2⟩
      case round =>
        obtain ⟨j, hj, rfl, C1, C2, C3, C4, C5, hE⟩ := hrel
        clear D1 D2 D3 D4 D5 hE2
        -- the step is at its end
        have fin : (x = 0 ∨ j = m + 1) → tab 64 (dpart p (invP p (lc b)) (at0 b) m f k' j) = tab 64 (dstep p (invP p (lc b)) (at0 b) m f k') := by
          intro h
          rcases h with h | h
          · rw [dpart_none HST.out.rng (by rw [← eq.out, h])]
          · rw [h, dpart_end]
        have fin2 : tab 64 (fun j => if j = k' then x else q j) = tab 64 (fun s => if s = k' then qd p (invP p (lc b)) m f k' else q s) := by rw [eq.out]
        have FIN := Lib.hid fin
        have FIN2 := Lib.hid fin2
        clear fin fin2
        by_cases hj2 : j ≤ m
        · by_cases hx0 : x = 0
          · have tz : (x != 0) = false := by rw [hx0]; rfl
            have HX0 := Lib.hid hx0
            clear hx0
            go_wp2
            go_roundw
            case rel =>
              refine ⟨k', (k' : Int) + m - 1, _, _, by go_num, .inl (by omega), by omega, by omega, HST.out.step (by omega), ?_, C2, C3, C4, ?_, hE⟩
              · rw [← FIN.out (.inl HX0.out)]; exact C1
              · rw [← FIN2.out]; exact C5
            case measure => simp [intOf]; omega
          · have tz : (x != 0) = true := by simpa using hx0
            clear hx0
            have c1 := C1.cell (k' + j) (by rw [tab_length]; omega)
            rw [at0_tab_lt _ (by omega), dpart_at] at c1
            have f1 := C1.free (k' + j)
            have c2 := C2.cell j (by rw [QL.out]; omega)
            rw [at0_pad b LB.out] at c2
            have r1 := HST.out.rng (k' + j)
            have r2 := HB.out.inp j
            have r3 := mulB (K := 7) (C := 7) (by decide) (show -7 ≤ x by omega) (by omega) r2.1 (by omega)
            have r5 := tmodB (f (k' + j) - x * at0 b j) p hlo hhi
            have i1 : 0 ≤ (k' : Int) + (j : Int) := by omega
            have i2 : (k' : Int) + (j : Int) < 64 := by omega
            have i3 : ((k' : Int) + (j : Int)).toNat = k' + j := by omega
            have i4 : (j : Int) < 64 := by omega
            have G := Lib.hid (go_mod (f (k' + j) - x * at0 b j) p (by omega))
            have r6 := emod_range (f (k' + j) - x * at0 b j) p (by omega)
            go_wp2
            refine wp_region_still_tail 27 (by kernel_rfl) (by kernel_rfl) ?_
            simp only [List.take_succ_cons, List.take_zero, List.drop_succ_cons, List.drop_zero]
            repeat (refine wpStill_step (fun K hK => ?_); go_simp; (try go_bits); refine hK _ ?_; clear hK K)
            refine wpStill_nil ?_
            change wpList _ _ _ _ _ wr.drew
            go_wp2
            go_roundw
            case rel =>
              refine ⟨j + 1, by omega, by go_num, ?_, (C2.other (by simp)).drew, (C3.other (by simp)).drew, (C4.other (by simp)).drew, (C5.other (by simp; omega)).drew, (hE.set (by simp) _).drew⟩
              rw [← dpart_step (by omega), ← eq.out]
              have := (C1.set (k' + j) ((f (k' + j) - x * at0 b j) % p)).drew
              rw [G.out, Int.emod_eq_of_lt r6.1 (by omega)]
              exact this
            case measure => simp [intOf]; omega
        · have hj3 : j = m + 1 := by omega
          have HJ := Lib.hid hj3
          have tz : decide ((j : Int) ≤ m) = false := by simp; omega
          clear hj3
          go_wp2
          go_roundw
          case rel =>
            refine ⟨k', (k' : Int) + m - 1, _, _, by go_num, .inl (by omega), by omega, by omega, HST.out.step (by omega), ?_, C2, C3, C4, ?_, hE⟩
            · rw [← FIN.out (.inr HJ.out)]; exact C1
            · rw [← FIN2.out]; exact C5
          case measure => simp [intOf]; omega

end Go.Proofs.YtaemiknaiccijaaGreat

/- Greatest common divisors with their factors, products by a modulus, powers by a modulus: functions on rows. No program in sight. -/
namespace Go.Proofs.YtaemiknaiccijaaGreat

def scal (p : Int) (a : List Int) (c : Int) : List Int := comb p [] a c
/-- The chain of divisions: a, b are two rests in a row; u, x and v, y their factors. -/
def bezF (p : Int) : Nat → List Int → List Int → List Int → List Int → List Int → List Int → List Int × List Int × List Int
  | 0, a, _, u, _, v, _ => (a, u, v)
  | n + 1, a, b, u, x, v, y => if b.length = 0 then (a, u, v) else
      bezF p n b (dr p a b) x (comb p u (mulr p (dq p a b) x) (-1)) y (comb p v (mulr p (dq p a b) y) (-1))
def bez0 (p : Int) (a b : List Int) : List Int × List Int × List Int := bezF p (b.length + 1) a b [1] [] [] [1]
def bezD (p : Int) (a b : List Int) : List Int := scal p (bez0 p a b).1 (invP p (lc (bez0 p a b).1))
def bezU (p : Int) (a b : List Int) : List Int := scal p (bez0 p a b).2.1 (invP p (lc (bez0 p a b).1))
def bezV (p : Int) (a b : List Int) : List Int := scal p (bez0 p a b).2.2 (invP p (lc (bez0 p a b).1))

structure BezInv (p : Int) (a b u x v y : List Int) : Prop where
  ca : Can p a
  cb : Can p b
  cu : Can p u
  cx : Can p x
  cv : Can p v
  cy : Can p y
  la : a.length ≤ 64
  lb : b.length ≤ 64
  lu : u.length ≤ 64
  lx : x.length ≤ 64
  lv : v.length ≤ 64
  ly : y.length ≤ 64
  ax : a.length + x.length ≤ 65
  ay : a.length + y.length ≤ 65
  bu : b.length + u.length ≤ 65
  bv : b.length + v.length ≤ 65
  ne : a.length ≠ 0 ∨ b.length ≠ 0

theorem can_one {p : Int} (hp : 1 < p) : Can p [1] := by
  refine ⟨fun j => ?_, fun n h => ?_⟩
  · unfold at0
    cases j with
    | zero => simp; omega
    | succ j => simp; omega
  · have : n = 0 := by simpa using h
    subst this
    decide
theorem BezInv.start {p : Int} (hp : PrimeP p) {a b : List Int} (ha : Can p a) (hb : Can p b) (la : a.length ≤ 64) (lb : b.length ≤ 64) (hne : a.length ≠ 0 ∨ b.length ≠ 0) : BezInv p a b [1] [] [] [1] := by
  have h := hp.lo
  refine ⟨ha, hb, can_one (by omega), can_nil (by omega), can_nil (by omega), can_one (by omega), la, lb, by simp, by simp, by simp, by simp, by simp; omega, by simp; omega, by simp; omega, by simp; omega, hne⟩
theorem mulr_len (p : Int) (a b : List Int) (n : Nat) (h : a.length + b.length ≤ n + 1) : (mulr p a b).length ≤ n := by
  by_cases ha : a.length = 0
  · rw [List.eq_nil_of_length_eq_zero ha, mulr_nil_left]; simp
  · have := mulr_le p a b
    omega
theorem BezInv.step {p : Int} (hp : PrimeP p) {a b u x v y : List Int} (h : BezInv p a b u x v y) (hb : b.length ≠ 0) :
    BezInv p b (dr p a b) x (comb p u (mulr p (dq p a b) x) (-1)) y (comb p v (mulr p (dq p a b) y) (-1)) := by
  have hlo := hp.lo
  have h1 := dq_le p a b
  have h2 := dr_lt hp h.cb (by omega) (a := a)
  have h3 := dr_le p a b
  obtain ⟨ca, cb, cu, cx, cv, cy, la, lb, lu, lx, lv, ly, ax, ay, bu, bv, ne⟩ := h
  have h4 : (comb p u (mulr p (dq p a b) x) (-1)).length ≤ 65 - b.length := by
    have k1 := comb_le p u (mulr p (dq p a b) x) (-1)
    have k2 : (mulr p (dq p a b) x).length ≤ 65 - b.length := by
      by_cases hq : (dq p a b).length = 0
      · rw [List.eq_nil_of_length_eq_zero hq, mulr_nil_left]; simp
      · exact mulr_len p _ _ _ (by omega)
    omega
  have h5 : (comb p v (mulr p (dq p a b) y) (-1)).length ≤ 65 - b.length := by
    have k1 := comb_le p v (mulr p (dq p a b) y) (-1)
    have k2 : (mulr p (dq p a b) y).length ≤ 65 - b.length := by
      by_cases hq : (dq p a b).length = 0
      · rw [List.eq_nil_of_length_eq_zero hq, mulr_nil_left]; simp
      · exact mulr_len p _ _ _ (by omega)
    omega
  exact ⟨cb, dr_can (by omega) ca.inp, cx, comb_can (by omega) _ _ _, cy, comb_can (by omega) _ _ _, lb, by omega, lx, by omega, ly, by omega, by omega, by omega, by omega, by omega, .inl hb⟩
theorem BezInv.qx {p : Int} {a b u x v y : List Int} (h : BezInv p a b u x v y) (hb : b.length ≠ 0) : (dq p a b).length ≤ 64 ∧ ((dq p a b).length = 0 ∨ x.length = 0 ∨ (dq p a b).length + x.length ≤ 65) ∧ ((dq p a b).length = 0 ∨ y.length = 0 ∨ (dq p a b).length + y.length ≤ 65) := by
  have h1 := dq_le p a b
  have := h.la
  have := h.ax
  have := h.ay
  omega
theorem BezInv.mx {p : Int} (hp : PrimeP p) {a b u x v y : List Int} (h : BezInv p a b u x v y) (hb : b.length ≠ 0) : (mulr p (dq p a b) x).length ≤ 64 ∧ (mulr p (dq p a b) y).length ≤ 64 := by
  have h1 := dq_le p a b
  have := h.ax
  have := h.ay
  exact ⟨mulr_len p _ _ _ (by have := h.lx; omega), mulr_len p _ _ _ (by have := h.ly; omega)⟩
theorem bezF_step (p : Int) (n : Nat) (a b u x v y : List Int) (hb : b.length ≠ 0) :
    bezF p (n + 1) a b u x v y = bezF p n b (dr p a b) x (comb p u (mulr p (dq p a b) x) (-1)) y (comb p v (mulr p (dq p a b) y) (-1)) := by
  rw [bezF, if_neg hb]
theorem bezF_stop (p : Int) (n : Nat) (a b u x v y : List Int) (hb : b.length = 0) : bezF p n a b u x v y = (a, u, v) := by
  cases n with
  | zero => rfl
  | succ n => rw [bezF, if_pos hb]
/-- What the chain ends in keeps what it began with. -/
theorem BezInv.last {p : Int} (hp : PrimeP p) : ∀ n a b u x v y, BezInv p a b u x v y → b.length < n → ∃ x' y', BezInv p (bezF p n a b u x v y).1 [] (bezF p n a b u x v y).2.1 x' (bezF p n a b u x v y).2.2 y'
  | 0, _, _, _, _, _, _, _, h => absurd h (by omega)
  | n + 1, a, b, u, x, v, y, h, hl => by
    by_cases hb : b.length = 0
    · rw [bezF_stop _ _ _ _ _ _ _ _ hb]
      have : b = [] := List.eq_nil_of_length_eq_zero hb
      subst this
      exact ⟨x, y, h⟩
    · rw [bezF_step _ _ _ _ _ _ _ _ hb]
      exact BezInv.last hp n _ _ _ _ _ _ (h.step hp hb) (by have := dr_lt hp h.cb (by omega) (a := a); omega)
theorem bez0_inv {p : Int} (hp : PrimeP p) {a b : List Int} (ha : Can p a) (hb : Can p b) (la : a.length ≤ 64) (lb : b.length ≤ 64) (hne : a.length ≠ 0 ∨ b.length ≠ 0) :
    Can p (bez0 p a b).1 ∧ Can p (bez0 p a b).2.1 ∧ Can p (bez0 p a b).2.2 ∧ (bez0 p a b).1.length ≤ 64 ∧ (bez0 p a b).2.1.length ≤ 64 ∧ (bez0 p a b).2.2.length ≤ 64 ∧ 0 < (bez0 p a b).1.length := by
  obtain ⟨x', y', h⟩ := BezInv.last hp (b.length + 1) a b [1] [] [] [1] (BezInv.start hp ha hb la lb hne) (by omega)
  refine ⟨h.ca, h.cu, h.cv, h.la, h.lu, h.lv, ?_⟩
  have := h.ne
  simp at this
  exact List.length_pos_iff.2 this

theorem scal_can {p : Int} (hp : 0 < p) (a : List Int) (c : Int) : Can p (scal p a c) := comb_can hp _ _ _
theorem scal_le (p : Int) (a : List Int) (c : Int) : (scal p a c).length ≤ a.length := by have := comb_le p [] a c; simpa [scal] using this
theorem at0_scal (p : Int) (a : List Int) (c : Int) (j : Nat) : at0 (scal p a c) j = c * at0 a j % p := by rw [scal, at0_comb, at0_nil]; simp

/-- The greatest common divisor; 0 of two zeros. -/
def gcdr (p : Int) (a b : List Int) : List Int := if a.length = 0 ∧ b.length = 0 then [] else bezD p a b
theorem gcdr_can {p : Int} (hp : 0 < p) (a b : List Int) : Can p (gcdr p a b) := by
  unfold gcdr; split
  · exact can_nil hp
  · exact scal_can hp _ _

theorem gcdr_le {p : Int} (hp : PrimeP p) {a b : List Int} (ha : Can p a) (hb : Can p b) (la : a.length ≤ 64) (lb : b.length ≤ 64) : (gcdr p a b).length ≤ 64 := by
  unfold gcdr; split
  · simp
  · have := bez0_inv hp ha hb la lb (by omega)
    exact Nat.le_trans (scal_le _ _ _) this.2.2.2.1

/-! ### by a modulus -/
/-- T times a rest by m. -/
def upr (p : Int) (a m : List Int) : List Int :=
  if m.length = 1 then [] else rowN (m.length - 1) fun i => ((if i = 0 then 0 else at0 a (i - 1)) - at0 a (m.length - 2) * invP p (lc m) % p * at0 m i) % p
/-- Products by m, from the leading coefficient of b down. -/
def mmF (p : Int) (a b m : List Int) : Nat → List Int → List Int
  | 0, out => out
  | n + 1, out => mmF p a b m n (dr p (comb p (upr p out m) a (at0 b n)) m)
def mulm (p : Int) (a b m : List Int) : List Int := mmF p a b m b.length []
/-- Powers by m, by squares. -/
def pwF (p : Int) (m : List Int) : Nat → Nat → List Int → List Int → List Int
  | 0, _, out, _ => out
  | f + 1, k, out, sq => if k = 0 then out else pwF p m f (k / 2) (if k % 2 = 1 then mulm p out sq m else out) (mulm p sq sq m)
def powM (p : Int) (a : List Int) (k : Nat) (m : List Int) : List Int := pwF p m k k (dr p [1] m) (dr p a m)

theorem upr_can {p : Int} (hp : 0 < p) (a m : List Int) : Can p (upr p a m) := by
  unfold upr; split
  · exact can_nil hp
  · exact can_rowN hp fun _ _ => emod_range _ _ hp
theorem upr_lt (p : Int) (a m : List Int) (hm : 0 < m.length) : (upr p a m).length < m.length := by
  unfold upr; split
  · simpa using hm
  · have := rowN_le (m.length - 1) fun i => ((if i = 0 then 0 else at0 a (i - 1)) - at0 a (m.length - 2) * invP p (lc m) % p * at0 m i) % p
    omega
theorem mmF_spec {p : Int} (hp : PrimeP p) {a b m : List Int} (hm : Can p m) (hne : 0 < m.length) : ∀ n out, Can p out → out.length < m.length → Can p (mmF p a b m n out) ∧ (mmF p a b m n out).length < m.length
  | 0, out, h1, h2 => ⟨h1, h2⟩
  | n + 1, out, h1, h2 => mmF_spec hp hm hne n _ (dr_can (by have := hp.lo; omega) (comb_can (by have := hp.lo; omega) _ _ _).inp) (dr_lt hp hm hne)
theorem mulm_spec {p : Int} (hp : PrimeP p) (a b : List Int) {m : List Int} (hm : Can p m) (hne : 0 < m.length) : Can p (mulm p a b m) ∧ (mulm p a b m).length < m.length :=
  mmF_spec hp hm hne _ _ (can_nil (by have := hp.lo; omega)) hne

theorem pwF_zero (p : Int) (m : List Int) (f : Nat) (out sq : List Int) : pwF p m f 0 out sq = out := by
  cases f with
  | zero => rfl
  | succ f => rw [pwF, if_pos rfl]
theorem pwF_step (p : Int) (m : List Int) (f k : Nat) (out sq : List Int) (hk : k ≠ 0) : pwF p m (f + 1) k out sq = pwF p m f (k / 2) (if k % 2 = 1 then mulm p out sq m else out) (mulm p sq sq m) := by
  rw [pwF, if_neg hk]
theorem pwF_spec {p : Int} (hp : PrimeP p) {m : List Int} (hm : Can p m) (hne : 0 < m.length) : ∀ f k out sq, Can p out → out.length < m.length → Can p sq → sq.length < m.length → Can p (pwF p m f k out sq) ∧ (pwF p m f k out sq).length < m.length
  | 0, _, out, _, h1, h2, _, _ => ⟨h1, h2⟩
  | f + 1, k, out, sq, h1, h2, h3, h4 => by
    by_cases hk : k = 0
    · rw [hk, pwF_zero]; exact ⟨h1, h2⟩
    · rw [pwF_step _ _ _ _ _ _ hk]
      have a := mulm_spec hp sq sq hm hne
      have b := mulm_spec hp out sq hm hne
      refine pwF_spec hp hm hne f _ _ _ ?_ ?_ a.1 a.2
      · split
        · exact b.1
        · exact h1
      · split
        · exact b.2
        · exact h2
theorem powM_spec {p : Int} (hp : PrimeP p) {a m : List Int} (ha : Can p a) (hm : Can p m) (hne : 0 < m.length) (k : Nat) : Can p (powM p a k m) ∧ (powM p a k m).length < m.length := by
  have lo := hp.lo
  exact pwF_spec hp hm hne k k _ _ (dr_can (by omega) (can_one (by omega)).inp) (dr_lt hp hm hne) (dr_can (by omega) ha.inp) (dr_lt hp hm hne)
theorem can_tee {p : Int} (hp : 1 < p) : Can p [0, 1] := by
  refine ⟨fun j => ?_, fun n h => ?_⟩
  · unfold at0
    match j with
    | 0 => simp; omega
    | 1 => simp; omega
    | j + 2 => simp; omega
  · have : n = 1 := by simpa using h.symm
    subst this
    decide
/-- The reference's test for irreducible polynomials: cnt Frobenius powers are still to be held against m. -/
def irrF (p : Int) (m : List Int) : Nat → List Int → Bool
  | 0, _ => true
  | c + 1, pw => (gcdr p m (comb p (powM p pw p.toNat m) [0, 1] (-1))).length == 1 && irrF p m c (powM p pw p.toNat m)
def irrS (p : Int) (m : List Int) : Bool := decide (2 ≤ m.length) && irrF p m ((m.length - 1) / 2) (dr p [0, 1] m)
/-- The digits of a number, and the polynomial with this number. -/
def dig (p : Int) (n j : Nat) : Int := ((n / p.toNat ^ j % p.toNat : Nat) : Int)
def numr (p : Int) (n : Nat) : List Int := rowN 64 (dig p n)
theorem dig_range {p : Int} (hp : 0 < p) (n j : Nat) : 0 ≤ dig p n j ∧ dig p n j < p := by
  unfold dig
  have := Nat.mod_lt (n / p.toNat ^ j) (show p.toNat > 0 by omega)
  omega
theorem numr_can {p : Int} (hp : 0 < p) (n : Nat) : Can p (numr p n) := can_rowN hp fun j _ => dig_range hp n j
theorem numr_le (p : Int) (n : Nat) : (numr p n).length ≤ 64 := rowN_le _ _
theorem pad_numr (p : Int) (n : Nat) : pad (numr p n) = tab 64 (dig p n) := tab_congr fun j hj => by rw [numr, at0_rowN, if_pos hj]
/-- A value by a modulus, from the leading coefficient of d down. -/
def atF (p : Int) (d x m : List Int) : Nat → List Int → List Int
  | 0, out => out
  | n + 1, out => atF p d x m n (comb p (mulm p out x m) [1] (at0 d n))
def atr (p : Int) (d x m : List Int) : List Int := atF p d x m d.length []
theorem atF_spec {p : Int} (hp : PrimeP p) (d x : List Int) {m : List Int} (hm : Can p m) (hne : 0 < m.length) (lm : m.length ≤ 64) : ∀ n out, Can p out → out.length ≤ 64 → Can p (atF p d x m n out) ∧ (atF p d x m n out).length ≤ 64
  | 0, out, h1, h2 => ⟨h1, h2⟩
  | n + 1, out, h1, h2 => by
    have lo := hp.lo
    have a := mulm_spec hp out x hm hne
    have b := comb_le p (mulm p out x m) [1] (at0 d n)
    exact atF_spec hp d x hm hne lm n _ (comb_can (by omega) _ _ _) (by simp at b; omega)
theorem atr_spec {p : Int} (hp : PrimeP p) (d x : List Int) {m : List Int} (hm : Can p m) (hne : 0 < m.length) (lm : m.length ≤ 64) : Can p (atr p d x m) ∧ (atr p d x m).length ≤ 64 :=
  atF_spec hp d x hm hne lm _ _ (can_nil (by have := hp.lo; omega)) (by simp)
/-- The number of points over one place of the line; e tells the field. -/
def ptS (p : Int) (d m : List Int) (e k : Nat) : Int :=
  if (atr p d (numr p k) m).length = 0 then 1 else if powM p (atr p d (numr p k) m) e m == [1] then 2 else 0
def cntS (p : Int) (d m : List Int) (e n : Nat) : Int := 1 + sumN n (ptS p d m e)
theorem ptS_range (p : Int) (d m : List Int) (e k : Nat) : 0 ≤ ptS p d m e k ∧ ptS p d m e k ≤ 2 := by
  unfold ptS; split
  · omega
  · split <;> omega
theorem sumN_range {f : Nat → Int} (h : ∀ k, 0 ≤ f k ∧ f k ≤ 2) : ∀ n : Nat, 0 ≤ sumN n f ∧ sumN n f ≤ 2 * n
  | 0 => by simp [sumN]
  | n + 1 => by
    have a := sumN_range h n
    have b := h n
    rw [sumN]
    omega
/-- The field of p p elements: the first irreducible polynomial of the degree 2. -/
def fldC (p : Int) : Nat := if p = 5 then 2 else 1
def fld (p : Int) : List Int := [(fldC p : Int), 0, 1]
def fldAt : Nat → List Int
  | 0 => [0, 0, 1]
  | j + 1 => [(j : Int), 0, 1]
/-- The derivative. -/
def derr (p : Int) (a : List Int) : List Int := rowN 63 fun i => ((i : Int) + 1) % p * at0 a (i + 1) % p

end Go.Proofs.YtaemiknaiccijaaGreat

/- The reference's 1 and T, its rests, and its checks of lists of polynomials. -/
namespace Go.Proofs.YtaemiknaiccijaaGreat
open Go.RowKit

theorem zsize : (u8s zeros64).size = 64 := by rw [u8s_size, zeros64_length]
theorem zne : ¬ u8s zeros64 = #[] := fun h => by have := congrArg Array.size h; rw [zsize] at this; simp at this
theorem zset0 : (u8s zeros64).setIfInBounds 0 (.int .u8 0) = u8s zeros64 := by rw [u8s_set]; rfl
theorem zset1 : (u8s zeros64).setIfInBounds 0 (.int .u8 1) = u8s (pad [1]) := by rw [u8s_set]; rfl
theorem zset2 : (u8s zeros64).setIfInBounds 1 (.int .u8 1) = u8s (pad [0, 1]) := by rw [u8s_set]; rfl

set_option maxRecDepth 100000 in
set_option maxHeartbeats 400000 in
theorem l01One_any (w : World) : Calls Tryz.prog 48 #[] w fun e w' => e = .returned (.agg (u8s (pad [1]))) ∧ Ext w w' := by
  have hz := zlit
  have h1 := zsize
  have h2 := zset1
  go_enter Tryz.func48, Tryz.ntmps48
  go_wp2_with (first | (refine wplW _ _ rfl rfl (Arr.new _ _ zeros64) rfl rfl zeros64_length (pad_length _) ?_))
  intro w3 G3 Z3 B
  go_wp2
  exact bodyPost_ret (res_c rfl rfl B (pad_length _) Tryz.underlying25 infoPoly) rfl ⟨rfl, ((Ext.refl w).alloc _).grown G3 (Nat.le_refl _)⟩

set_option maxRecDepth 100000 in
set_option maxHeartbeats 400000 in
theorem l01T_any (w : World) : Calls Tryz.prog 117 #[] w fun e w' => e = .returned (.agg (u8s (pad [0, 1]))) ∧ Ext w w' := by
  have hz := zlit
  have h1 := zsize
  have h2 := zset0
  have h3 := zset2
  go_enter Tryz.func117, Tryz.ntmps117
  go_wp2_with (first | (refine wplW _ _ rfl rfl (Arr.new _ _ zeros64) rfl rfl zeros64_length (pad_length _) ?_))
  intro w3 G3 Z3 B
  go_wp2
  exact bodyPost_ret (res_c rfl rfl B (pad_length _) Tryz.underlying25 infoPoly) rfl ⟨rfl, ((Ext.refl w).alloc _).grown G3 (Nat.le_refl _)⟩

set_option maxRecDepth 100000 in
set_option maxHeartbeats 400000 in
theorem l01Mod_any (p : Int) (a b : List Int) (hp : PrimeP p) (ha : Can p a) (hb : Can p b) (la : a.length ≤ 64) (lb : b.length ≤ 64) (hne : 0 < b.length) (w : World) :
    Calls Tryz.prog 28 #[.int .i64 p, .agg (u8s (pad a)), .agg (u8s (pad b))] w fun e w' => e = .returned (.agg (u8s (pad (dr p a b)))) ∧ Ext w w' := by
  have hz := zlit
  obtain ⟨w1, hw1⟩ : ∃ w1, w1 = allocs w 25 [pad a, pad b, zeros64] := ⟨_, rfl⟩
  have A1 : Arr w1 w.heap.size 25 (pad a) := by rw [hw1]; exact allocs_arr _ _ 0 rfl
  have A2 : Arr w1 (w.heap.size + 1) 25 (pad b) := by rw [hw1]; exact allocs_arr _ _ 1 rfl
  have A3 : Arr w1 (w.heap.size + 2) 25 zeros64 := by rw [hw1]; exact allocs_arr _ _ 2 rfl
  have E1 : Ext w w1 := by rw [hw1]; exact allocs_ext _ _ _ _ (Ext.refl w)
  have S1 : w1.heap.size = w.heap.size + 3 := by rw [hw1, allocs_size]; rfl
  simp only [allocs] at hw1
  have HW := hw1.symm
  clear hw1
  have D := l01Divide_any p a b hp ha hb la lb hne
  have HD := Lib.hid D
  clear D ha hb hne
  go_enter Tryz.func28, Tryz.ntmps28
  go_wp2_with (first | (refine wplL _ rfl rfl A1 rfl (pad_length _) ?_) | (refine wplL _ rfl rfl A2 rfl (pad_length _) ?_) | (go_at_call 47; refine (HD.out _).mono ?_; rintro e w2 ⟨rfl, E2⟩) | (refine wplW _ _ rfl rfl ((Arr.new _ _ zeros64).alloc _) rfl rfl zeros64_length (pad_length _) ?_))
  clear HW
  intro w3 G3 Z3 B1
  have S2 := E2.size
  have B3 := (((A3.ext E2).alloc _).alloc _).grown G3 (by omega)
  have B2 : Arr w3 (w2.heap.size + 1) 25 zeros64 := by
    have := (Arr.new (w2.alloc (.cells (u8s zeros64) 25)) 25 zeros64).grown G3 (by simp)
    simpa using this
  have E3 : Ext w w3 := (((E1.tr E2).alloc _).alloc _).grown G3 (by omega)
  go_wp2_with (first | (refine wplW _ _ rfl rfl B2 rfl rfl zeros64_length (pad_length _) ?_))
  intro w4 G4 Z4 C2
  have C3 := B3.grown G4 (by omega)
  have E4 := E3.grown G4 (by omega)
  go_wp2_with (first | (refine wplL _ rfl rfl C2 rfl (pad_length _) ?_) | (refine wplW _ _ rfl rfl C3 rfl rfl zeros64_length (pad_length _) ?_))
  intro w5 G5 Z5 D3
  go_wp2
  exact bodyPost_ret (res_c rfl rfl D3 (pad_length _) Tryz.underlying25 infoPoly) rfl ⟨rfl, E4.grown G5 (by omega)⟩

def monicB (a : List Int) : Bool := decide (0 < a.length) && lc a == 1
set_option maxRecDepth 100000 in
set_option maxHeartbeats 400000 in
theorem l01Monic_any (a : List Int) (hz : NZ a) (la : a.length ≤ 64) (w : World) :
    Calls Tryz.prog 110 #[.agg (u8s (pad a))] w fun e w' => e = .returned (.bool (monicB a)) ∧ Ext w w' := by
  have HZ := Lib.hid hz
  clear hz
  have A1 : Arr (w.alloc (.cells (u8s (pad a)) 25)) w.heap.size 25 (pad a) := Arr.new _ _ _
  go_enter Tryz.func110, Tryz.ntmps110
  go_wp2_with (first | (refine wplL _ rfl rfl A1 rfl (pad_length _) ?_))
  by_cases z : a.length = 0
  · have F : Hid (monicB a = false) := Lib.hid (by simp [monicB, z])
    refine (l01Deg_pad a (-1) HZ.out la (by omega) _).mono ?_
    rintro e w2 ⟨rfl, E2⟩
    clear z
    go_wp2
    go_ret
    exact ⟨ret_bool F.out.symm, ((Ext.refl w).alloc _).tr E2⟩
  · obtain ⟨m, hm⟩ : ∃ m, a.length = m + 1 := ⟨a.length - 1, by omega⟩
    have F : Hid (monicB a = (at0 a m == 1)) := Lib.hid (by simp [monicB, lc, hm])
    refine (l01Deg_pad a m HZ.out la (by omega) _).mono ?_
    rintro e w2 ⟨rfl, E2⟩
    have B1 := A1.ext E2
    have c1 := B1.cell m (by rw [pad_length]; omega)
    rw [at0_pad a la] at c1
    have i1 : m < 64 := by omega
    clear z hm
    go_wp2
    all_goals
      go_ret
      exact ⟨ret_bool F.out.symm, ((Ext.refl w).alloc _).tr E2⟩

end Go.Proofs.YtaemiknaiccijaaGreat

/- Memory that holds arrays of the call's own, told as a list of blocks with what they hold: laws for what is laid, read and written. -/
namespace Go.Proofs.YtaemiknaiccijaaGreat
open Go.RowKit

/-- Since w0 nothing old has turned; these blocks are new, they are apart, and each holds its array. -/
structure Hp (w0 w : World) (L : List (Nat × List Int)) : Prop where
  ext : Ext w0 w
  arr : ∀ x ∈ L, Arr w x.1 25 x.2
  len : ∀ x ∈ L, x.2.length = 64
  low : ∀ x ∈ L, w0.heap.size ≤ x.1
  nd : (L.map (·.1)).Nodup

section
variable {w0 w w' : World} {L : List (Nat × List Int)}
theorem Hp.start (w : World) : Hp w w [] := ⟨Ext.refl w, by simp, by simp, by simp, by simp⟩
theorem Hp.next (h : Hp w0 w L) (hE : Ext w w') : Hp w0 w' L := ⟨h.ext.tr hE, fun x hx => (h.arr x hx).ext hE, h.len, h.low, h.nd⟩
theorem Hp.at_ (h : Hp w0 w L) (i : Nat) {g : Nat} {l : List Int} (hi : L[i]? = some (g, l)) : Arr w g 25 l := h.arr (g, l) (List.mem_of_getElem? hi)
theorem Hp.len_ (h : Hp w0 w L) (i : Nat) {g : Nat} {l : List Int} (hi : L[i]? = some (g, l)) : l.length = 64 := h.len (g, l) (List.mem_of_getElem? hi)
theorem Hp.low_ (h : Hp w0 w L) (i : Nat) {g : Nat} {l : List Int} (hi : L[i]? = some (g, l)) : w0.heap.size ≤ g := h.low (g, l) (List.mem_of_getElem? hi)
theorem Hp.lt_ (h : Hp w0 w L) {x : Nat × List Int} (hx : x ∈ L) : x.1 < w.heap.size := (h.arr x hx).lt
theorem Hp.cell (h : Hp w0 w L) (i : Nat) {g : Nat} {l : List Int} (hi : L[i]? = some (g, l)) (j : Nat) (hj : j < 64) : w.cell? ⟨g, j, none⟩ = some (.int .u8 (at0 l j)) := (h.at_ i hi).cell j (by rw [h.len_ i hi]; exact hj)
theorem Hp.free (h : Hp w0 w L) (i : Nat) {g : Nat} {l : List Int} (hi : L[i]? = some (g, l)) (j : Nat) : w.frozen? ⟨g, j, none⟩ = false := (h.at_ i hi).free j
/-- One more block. -/
theorem Hp.add (h : Hp w0 w L) {g : Nat} {l : List Int} (ha : Arr w g 25 l) (hl : l.length = 64) (hlow : w0.heap.size ≤ g) (hn : ∀ x ∈ L, x.1 ≠ g) : Hp w0 w ((g, l) :: L) := by
  refine ⟨h.ext, fun x hx => ?_, fun x hx => ?_, fun x hx => ?_, ?_⟩
  · rcases List.mem_cons.1 hx with rfl | hx
    · exact ha
    · exact h.arr x hx
  · rcases List.mem_cons.1 hx with rfl | hx
    · exact hl
    · exact h.len x hx
  · rcases List.mem_cons.1 hx with rfl | hx
    · exact hlow
    · exact h.low x hx
  · rw [List.map_cons, List.nodup_cons]
    refine ⟨fun hm => ?_, h.nd⟩
    obtain ⟨x, hx, he⟩ := List.mem_map.1 hm
    exact hn x hx he
/-- A block that lies behind all that there was at w. -/
theorem Hp.addNew (h : Hp w0 w L) (hE : Ext w w') {g : Nat} {l : List Int} (ha : Arr w' g 25 l) (hl : l.length = 64) (hg : w.heap.size ≤ g) : Hp w0 w' ((g, l) :: L) :=
  (h.next hE).add ha hl (Nat.le_trans h.ext.size hg) fun x hx => by have := h.lt_ hx; omega
theorem Hp.addNew2 (h : Hp w0 w L) (hE : Ext w w') {g g' : Nat} {l l' : List Int} (ha : Arr w' g 25 l) (hl : l.length = 64) (hg : w.heap.size ≤ g) (ha' : Arr w' g' 25 l') (hl' : l'.length = 64) (hg' : w.heap.size ≤ g') (hne : g ≠ g') : Hp w0 w' ((g', l') :: (g, l) :: L) :=
  (h.addNew hE ha hl hg).add ha' hl' (Nat.le_trans h.ext.size hg') fun x hx => by
    rcases List.mem_cons.1 hx with rfl | hx
    · exact hne
    · have := h.lt_ hx; omega
theorem Hp.tail {x : Nat × List Int} (h : Hp w0 w (x :: L)) : Hp w0 w L :=
  ⟨h.ext, fun y hy => h.arr y (List.mem_cons_of_mem _ hy), fun y hy => h.len y (List.mem_cons_of_mem _ hy), fun y hy => h.low y (List.mem_cons_of_mem _ hy), (List.nodup_cons.1 h.nd).2⟩
theorem Hp.drop : ∀ (n : Nat) {L : List (Nat × List Int)}, Hp w0 w L → Hp w0 w (L.drop n)
  | 0, _, h => h
  | n + 1, [], h => h
  | n + 1, x :: L, h => Hp.drop n h.tail
theorem Hp.alloc (h : Hp w0 w L) {l : List Int} (hl : l.length = 64) : Hp w0 (w.alloc (.cells (u8s l) 25)) ((w.heap.size, l) :: L) :=
  h.addNew ((Ext.refl w).alloc _) (Arr.new _ _ _) hl (Nat.le_refl _)
theorem nodup_apart {L : List (Nat × List Int)} (hn : (L.map (·.1)).Nodup) {i j : Nat} {x y : Nat × List Int} (hi : L[i]? = some x) (hj : L[j]? = some y) (hne : i ≠ j) : x.1 ≠ y.1 := by
  intro e
  have h1 : (L.map (·.1))[i]? = some x.1 := by simp [hi]
  have h2 : (L.map (·.1))[j]? = some x.1 := by simp [hj, e]
  have hl := (List.getElem?_eq_some_iff.1 h1).1
  exact hne ((List.getElem?_inj hl hn).1 (h1.trans h2.symm))
/-- What one block holds has turned. -/
theorem Hp.put (h : Hp w0 w L) (i : Nat) {g : Nat} {old l : List Int} (hi : L[i]? = some (g, old)) (hl : l.length = 64) (hg : w.grownBy w' (some g)) (ha : Arr w' g 25 l) : Hp w0 w' (L.set i (g, l)) := by
  have hil := (List.getElem?_eq_some_iff.1 hi).1
  have key : ∀ x ∈ L.set i (g, l), x = (g, l) ∨ (x ∈ L ∧ x.1 ≠ g) := fun x hx => by
    obtain ⟨j, hj, rfl⟩ := List.mem_iff_getElem.1 hx
    rw [List.getElem_set]
    by_cases e : i = j
    · rw [if_pos e]; exact .inl rfl
    · rw [if_neg e]
      have hj' : j < L.length := by simpa using hj
      exact .inr ⟨List.getElem_mem _, nodup_apart h.nd (List.getElem?_eq_getElem hj') hi (Ne.symm e)⟩
  refine ⟨h.ext.grown hg (h.low_ i hi), fun x hx => ?_, fun x hx => ?_, fun x hx => ?_, ?_⟩
  · rcases key x hx with rfl | ⟨h1, h2⟩
    · exact ha
    · exact (h.arr x h1).grown hg h2
  · rcases key x hx with rfl | ⟨h1, _⟩
    · exact hl
    · exact h.len x h1
  · rcases key x hx with rfl | ⟨h1, _⟩
    · exact h.low_ i hi
    · exact h.low x h1
  · have : (L.set i (g, l)).map (·.1) = L.map (·.1) := by
      rw [List.map_set]
      apply List.ext_getElem?
      intro j
      rw [List.getElem?_set]
      split
      · rename_i e
        subst e
        have h2 := (List.getElem?_eq_some_iff.1 hi).2
        simp [hil, h2]
      · rfl
    rw [this]; exact h.nd
theorem Hp.setCell (h : Hp w0 w L) (i : Nat) {g : Nat} {l : List Int} (hi : L[i]? = some (g, l)) (j : Nat) (x : Int) : Hp w0 (w.setCell ⟨g, j, none⟩ (.int .u8 x)) (L.set i (g, l.set j x)) :=
  h.put i hi (by rw [List.length_set]; exact h.len_ i hi) ⟨rfl, rfl, rfl, by simp [World.setCell], fun k _ hk => heap_setCell_other w _ k _ (fun e => hk (by rw [e]))⟩ ((h.at_ i hi).set j x)
theorem Hp.drew (h : Hp w0 w L) : Hp w0 w.drew L := h.next (Ext.refl w).drew
theorem Hp.two (h : Hp w0 w L) {p q : Nat} {lp lq a b : List Int} (i j : Nat) (hi : L[i]? = some (p, lp)) (hj : L[j]? = some (q, lq)) (hij : i ≠ j) (ha : a.length = 64) (hb : b.length = 64) (t : Two w w' p q) (P : Arr w' p 25 a) (Q : Arr w' q 25 b) : Ext w0 w' :=
  t.ext h.ext (h.low_ i hi) (h.low_ j hj)
end

section
variable {ops : Array Oper} {rest : List Oper} {o : Oper} {a : Act} {w0 w : World} {Q : Exit → Act → World → Prop} {L : List (Nat × List Int)}
theorem hpLoad (i : Nat) {x : Operand} {g : Nat} {l : List Int} (F : Hp w0 w L) (ho : o.op = .load 25 x) (hgd : o.guard = none) (hx : a.eval x = .pointer (some ⟨g, 0, none⟩)) (hi : L[i]? = some (g, l))
    (h : wpList Tryz.prog ops Q rest (a.put o.dst (.agg (u8s l))) w) : wpList Tryz.prog ops Q (o :: rest) a w :=
  wplL x ho hgd (F.at_ i hi) hx (F.len_ i hi) h
theorem hpStore (i : Nat) {x y : Operand} {g : Nat} {old l : List Int} (F : Hp w0 w L) (ho : o.op = .store 25 x y) (hgd : o.guard = none) (hx : a.eval x = .pointer (some ⟨g, 0, none⟩)) (hy : a.eval y = .agg (u8s l)) (hi : L[i]? = some (g, old)) (hl : l.length = 64)
    (h : ∀ w', Hp w0 w' (L.set i (g, l)) → wpList Tryz.prog ops Q rest (a.put o.dst undef) w') : wpList Tryz.prog ops Q (o :: rest) a w :=
  wplW x y ho hgd (F.at_ i hi) hx hy (F.len_ i hi) hl fun w' hg _ ha => h w' (F.put i hi hl hg ha)
theorem zeroPoly : (Tryz.prog.info? 25).map (·.zero) = some (some (.agg (u8s zeros64))) := by kernel_rfl
theorem run_zeroPoly (w : World) : (zeroValue 25).run Tryz.prog w = .ok (.agg (u8s zeros64)) w := by
  have h := zeroPoly
  cases hi : Tryz.prog.info? 25 with
  | none => rw [hi] at h; cases h
  | some i =>
    rw [hi] at h
    have hz : i.zero = some (.agg (u8s zeros64)) := by simpa using h
    simp [zeroValue, typeInfo, hi, hz]
theorem hpAlloc (F : Hp w0 w L) (ho : o.op = .alloc 25) (hgd : o.guard = none)
    (h : ∀ g w', Hp w0 w' ((g, zeros64) :: L) → wpList Tryz.prog ops Q rest (a.put o.dst (.pointer (some ⟨g, 0, none⟩))) w') : wpList Tryz.prog ops Q (o :: rest) a w :=
  wpList_plain hgd fun K hK => by
    unfold Oper.wp execOp
    have hz := run_zeroPoly w
    simp only [ho, Instr.alloc, newVar, newRow, newObj, Sem.run_bind, Sem.run_pure, hz, Result.andThen_ok, Value.cells]
    exact hK _ _ (h _ _ (F.alloc zeros64_length))
theorem hpBox {x : Operand} {l : List Int} (F : Hp w0 w L) (ho : o.op = .box 25 x) (hgd : o.guard = none) (hx : a.eval x = .agg (u8s l)) (hl : l.length = 64)
    (h : ∀ g w', Hp w0 w' ((g, l) :: L) → wpList Tryz.prog ops Q rest (a.put o.dst (.pointer (some ⟨g, 0, none⟩))) w') : wpList Tryz.prog ops Q (o :: rest) a w :=
  wpList_plain hgd fun K hK => by
    unfold Oper.wp execOp
    simp only [ho, hx, Instr.box, newVar, newRow, newObj, Sem.run_bind, Sem.run_pure, Result.andThen_ok, Value.cells]
    exact hK _ _ (h _ _ (F.alloc hl))
/-- One block's array is exchanged. -/
inductive Upd (g : Nat) (l : List Int) : List (Nat × List Int) → List (Nat × List Int) → Prop
  | head {o : List Int} {r : List (Nat × List Int)} : Upd g l ((g, o) :: r) ((g, l) :: r)
  | tail {x : Nat × List Int} {r r' : List (Nat × List Int)} : Upd g l r r' → Upd g l (x :: r) (x :: r')
theorem Upd.set {g : Nat} {l : List Int} {L L' : List (Nat × List Int)} (h : Upd g l L L') : ∃ (i : Nat) (o : List Int), L[i]? = some (g, o) ∧ L' = L.set i (g, l) := by
  induction h with
  | head => exact ⟨0, _, rfl, rfl⟩
  | tail _ ih =>
    obtain ⟨i, o, h1, h2⟩ := ih
    exact ⟨i + 1, o, by simpa using h1, by rw [h2, List.set_cons_succ]⟩
inductive Has (g : Nat) (l : List Int) : List (Nat × List Int) → Prop
  | head {r : List (Nat × List Int)} : Has g l ((g, l) :: r)
  | tail {x : Nat × List Int} {r : List (Nat × List Int)} : Has g l r → Has g l (x :: r)
theorem Has.get {g : Nat} {l : List Int} {L : List (Nat × List Int)} (h : Has g l L) : ∃ i : Nat, L[i]? = some (g, l) := by
  induction h with
  | head => exact ⟨0, rfl⟩
  | tail _ ih =>
    obtain ⟨i, h1⟩ := ih
    exact ⟨i + 1, by simpa using h1⟩
theorem hpLd {x : Operand} {g : Nat} {l : List Int} (F : Hp w0 w L) (ho : o.op = .load 25 x) (hw : Region.wanted o (yielded ops a.tmps) = true) (hx : a.eval x = .pointer (some ⟨g, 0, none⟩)) (hi : Has g l L)
    (h : wpList Tryz.prog ops Q rest (a.put o.dst (.agg (u8s l))) w) : wpList Tryz.prog ops Q (o :: rest) a w := by
  obtain ⟨i, hi⟩ := hi.get
  unfold wpList
  rw [if_pos hw]
  exact .inl (wp_load_row _ x ho g hx _ _ (0, 0) _ (F.at_ i hi) Tryz.underlying25 rfl (by rw [infoPoly, u8s_size, F.len_ i hi]) h)
theorem hpSt {L' : List (Nat × List Int)} {x y : Operand} {g : Nat} {l : List Int} (F : Hp w0 w L) (ho : o.op = .store 25 x y) (hgd : o.guard = none) (hx : a.eval x = .pointer (some ⟨g, 0, none⟩)) (hy : a.eval y = .agg (u8s l)) (hu : Upd g l L L') (hl : l.length = 64)
    (h : ∀ w', Hp w0 w' L' → wpList Tryz.prog ops Q rest (a.put o.dst undef) w') : wpList Tryz.prog ops Q (o :: rest) a w := by
  obtain ⟨i, old, hi, rfl⟩ := hu.set
  exact hpStore i F ho hgd hx hy hi hl h
end

theorem l01Times_ok (p : Int) (a b : List Int) (hp : PrimeP p) (ha : Can p a) (hb : Can p b) (la : a.length ≤ 64) (lb : b.length ≤ 64) (h : a.length = 0 ∨ b.length = 0 ∨ a.length + b.length ≤ 65) (w : World) :
    Calls Tryz.prog 112 #[.int .i64 p, .agg (u8s (pad a)), .agg (u8s (pad b))] w fun e w' => e = .returned (.tuple #[.agg (u8s (pad (mulr p a b))), .bool true]) ∧ Ext w w' :=
  (l01Times_any p a b hp ha hb la lb w).mono fun _ _ ⟨h1, h2⟩ => ⟨by rw [h1]; unfold timesV; rw [if_pos h], h2⟩
theorem sAdd_pad (p : Int) (a b : List Int) (k : Int) (la : a.length ≤ 64) (lb : b.length ≤ 64) : sAdd p (pad a) (pad b) k = pad (comb p a b k) :=
  tab_congr fun j _ => by rw [at0_pad a la, at0_pad b lb, at0_comb]
theorem l01Add_pad (p k : Int) (a b : List Int) (hp : PrimeP p) (ha : Can p a) (hb : Can p b) (la : a.length ≤ 64) (lb : b.length ≤ 64) (hk : -1000 ≤ k) (hk2 : k ≤ 1000) (w : World) :
    Calls Tryz.prog 50 #[.int .i64 p, .agg (u8s (pad a)), .agg (u8s (pad b)), .int .i64 k] w fun e w' => e = .returned (.agg (u8s (pad (comb p a b k)))) ∧ Ext w w' := by
  have lo := hp.lo
  have hi := hp.hi
  refine (l01Add_any p k (pad a) (pad b) (pad_length a) (pad_length b) lo hi hk hk2 ((ha.inp.pad (by omega)).b (by omega)) ((hb.inp.pad (by omega)).b (by omega)) w).mono fun _ _ ⟨h1, h2⟩ => ⟨by rw [h1, sAdd_pad p a b k la lb], h2⟩
theorem l01Add_zero (p k : Int) (b : List Int) (hp : PrimeP p) (hb : Can p b) (lb : b.length ≤ 64) (hk : -1000 ≤ k) (hk2 : k ≤ 1000) (w : World) :
    Calls Tryz.prog 50 #[.int .i64 p, .agg (u8s zeros64), .agg (u8s (pad b)), .int .i64 k] w fun e w' => e = .returned (.agg (u8s (pad (comb p [] b k)))) ∧ Ext w w' := by
  rw [← pad_nil]
  exact l01Add_pad p k [] b hp (can_nil (by have := hp.lo; omega)) hb (by simp) lb hk hk2 w

end Go.Proofs.YtaemiknaiccijaaGreat

/- The program's small functions on numbers and rows. -/
namespace Go.Proofs.YtaemiknaiccijaaGreat
open Go.RowKit

set_option maxHeartbeats 400000 in
theorem isPrime_any (p : Int) (w : World) :
    Calls Tryz.prog 118 #[.int .i64 p] w fun e w' => e = .returned (.bool (primeB p)) ∧ w = w' := by
  by_cases h2 : p = 2
  · subst h2
    go_enter Tryz.func118, Tryz.ntmps118
    go_wp2
    go_ret
    exact ⟨rfl, rfl⟩
  by_cases h3 : p = 3
  · subst h3
    go_enter Tryz.func118, Tryz.ntmps118
    go_wp2
    go_ret
    exact ⟨rfl, rfl⟩
  by_cases h5 : p = 5
  · subst h5
    go_enter Tryz.func118, Tryz.ntmps118
    go_wp2
    go_ret
    exact ⟨rfl, rfl⟩
  have fin : primeB p = (p == 7) := by simp [primeB, h2, h3, h5]
  have FIN := Lib.hid fin
  clear fin
  go_enter Tryz.func118, Tryz.ntmps118
  go_wp2
  go_ret
  exact ⟨ret_bool (by rw [FIN.out]; simp [h2, h3, h5]), rfl⟩

set_option maxHeartbeats 400000 in
theorem within_any (n lo hi : Int) (w : World) :
    Calls Tryz.prog 113 #[.int .i64 n, .int .i64 lo, .int .i64 hi] w fun e w' => e = .returned (.bool (inB n lo hi)) ∧ w = w' := by
  by_cases h1 : lo ≤ n
  · have fin : inB n lo hi = decide (n ≤ hi) := by simp [inB, h1]
    have FIN := Lib.hid fin
    clear fin
    go_enter Tryz.func113, Tryz.ntmps113
    go_wp2
    go_ret
    exact ⟨ret_bool (by rw [FIN.out]), rfl⟩
  · have fin : inB n lo hi = false := by simp [inB, h1]
    have FIN := Lib.hid fin
    clear fin
    go_enter Tryz.func113, Tryz.ntmps113
    go_wp2
    go_ret
    exact ⟨ret_bool (by rw [FIN.out]), rfl⟩

theorem degree_any (A : Option Addr) (n cap : Nat) (hn : n ≤ 1000000) (w : World) :
    Calls Tryz.prog 79 #[.slice A n cap] w fun e w' => e = .returned (.int .i64 ((n : Int) - 1)) ∧ w = w' := by
  go_enter Tryz.func79, Tryz.ntmps79
  go_wp2
  go_ret
  exact ⟨rfl, rfl⟩

theorem fits_any (A : Option Addr) (n cap : Nat) (hn : n ≤ 1000000) (w : World) :
    Calls Tryz.prog 56 #[.slice A n cap] w fun e w' => e = .returned (.bool (decide ((n : Int) - 1 ≤ 63))) ∧ w = w' := by
  go_enter Tryz.func56, Tryz.ntmps56
  go_wp2_with (first | (go_at_call 79; refine (degree_any _ _ _ hn _).mono ?_; rintro e w' ⟨rfl, rfl⟩))
  go_ret
  exact ⟨rfl, rfl⟩

/-- The leading coefficient, 0 for 0. -/
def lead (L : List Int) : Int := if L.length = 0 then 0 else at0 L (L.length - 1)
set_option maxHeartbeats 400000 in
theorem lead_any (A : Option Addr) (cap : Nat) (L : List Int) (w : World) (h : RowAt w A L) :
    Calls Tryz.prog 107 #[.slice A L.length cap] w fun e w' => e = .returned (.int .i64 (lead L)) ∧ w = w' := by
  have hm := h.1
  by_cases h0 : L.length = 0
  · have G : Hid (lead L = 0) := Lib.hid (if_pos h0)
    have t1 : ((L.length : Int) == 0) = true := by simp [h0]
    clear h0
    go_enter Tryz.func107, Tryz.ntmps107
    go_wp2
    go_ret
    exact ⟨ret_int G.out.symm, rfl⟩
  · have G : Hid (lead L = at0 L (L.length - 1)) := Lib.hid (if_neg h0)
    have t1 : ((L.length : Int) == 0) = false := by simpa using h0
    obtain ⟨b, o, rfl, hb, hc⟩ := h.place (by omega)
    have c := hc (L.length - 1) (by omega)
    have i1 : ((L.length : Int) - 1).toNat = L.length - 1 := by omega
    have i2 : (0 : Int) ≤ (L.length : Int) - 1 := by omega
    clear hc h
    go_enter Tryz.func107, Tryz.ntmps107
    go_wp2
    go_ret
    exact ⟨ret_int G.out.symm, rfl⟩

set_option maxHeartbeats 400000 in
theorem at_any (A : Option Addr) (cap : Nat) (L : List Int) (i : Nat) (hi : i ≤ 1000000) (w : World) (h : RowAt w A L) :
    Calls Tryz.prog 92 #[.slice A L.length cap, .int .i64 i] w fun e w' => e = .returned (.int .i64 (at0 L i)) ∧ w = w' := by
  have hm := h.1
  by_cases h0 : i < L.length
  · have t1 : decide ((i : Int) < (L.length : Int)) = true := decide_eq_true (by omega)
    obtain ⟨b, o, rfl, hb, hc⟩ := h.place (by omega)
    have c := hc i h0
    clear hc h
    go_enter Tryz.func92, Tryz.ntmps92
    go_wp2
    go_ret
    exact ⟨rfl, rfl⟩
  · have t1 : decide ((i : Int) < (L.length : Int)) = false := decide_eq_false (by omega)
    have G : Hid (at0 L i = 0) := Lib.hid (at0_out L i (by omega))
    clear h
    go_enter Tryz.func92, Tryz.ntmps92
    go_wp2
    go_ret
    exact ⟨ret_int G.out.symm, rfl⟩

def isOneB (L : List Int) : Bool := L == [1]
set_option maxHeartbeats 400000 in
theorem isOne_any (A : Option Addr) (cap : Nat) (L : List Int) (w : World) (h : RowAt w A L) :
    Calls Tryz.prog 99 #[.slice A L.length cap] w fun e w' => e = .returned (.bool (isOneB L)) ∧ w = w' := by
  have hm := h.1
  by_cases h0 : L.length = 1
  · obtain ⟨x, rfl⟩ : ∃ x, L = [x] := List.length_eq_one_iff.1 h0
    obtain ⟨b, o, rfl, hb, hc⟩ := h.place (by simp)
    have c := hc 0 (by simp)
    have G : Hid (isOneB [x] = (x == 1)) := Lib.hid (by
      rw [Bool.eq_iff_iff]; simp [isOneB])
    rw [Nat.add_zero] at c
    have c2 : at0 [x] 0 = x := rfl
    rw [c2] at c
    clear hc h h0 c2 hm
    show Calls Tryz.prog 99 #[.slice (some ⟨b, o, none⟩) 1 cap] w _
    go_enter Tryz.func99, Tryz.ntmps99
    go_wp2
    go_ret
    exact ⟨ret_bool G.out.symm, rfl⟩
  · have t1 : ((L.length : Int) == 1) = false := by simp; omega
    have G : Hid (isOneB L = false) := Lib.hid (by
      rw [isOneB, Bool.eq_false_iff, Ne, beq_iff_eq]; rintro rfl; exact h0 rfl)
    clear h0 h
    go_enter Tryz.func99, Tryz.ntmps99
    go_wp2
    go_ret
    exact ⟨ret_bool G.out.symm, rfl⟩

set_option maxHeartbeats 400000 in
theorem reduce_any (p n : Int) (lo : 2 ≤ p) (hi : p ≤ 7) (hn : -1000000000 ≤ n) (hn2 : n ≤ 1000000000) (w : World) :
    Calls Tryz.prog 91 #[.int .i64 p, .int .i64 n] w fun e w' => e = .returned (.int .i64 (n % p)) ∧ w = w' := by
  have G := Lib.hid (go_mod n p (by omega))
  have q := tmodB n p lo hi
  have p0 : p ≠ 0 := by omega
  go_enter Tryz.func91, Tryz.ntmps91
  go_wp2
  go_ret
  exact ⟨ret_int G.out, rfl⟩

end Go.Proofs.YtaemiknaiccijaaGreat

/- Two polynomials are held against each other: what == and != answer. -/
namespace Go.Proofs.YtaemiknaiccijaaGreat
open Go.RowKit

theorem all_range_eq0 : ∀ (xs ys : List Int), xs.length = ys.length → ((List.range xs.length).all fun i => at0 xs i == at0 ys i) = (xs == ys)
  | [], [], _ => rfl
  | x :: xs, y :: ys, h => by
    have ih := all_range_eq0 xs ys (by simpa using h)
    rw [List.length_cons, List.range_succ_eq_map, List.all_cons, List.all_map]
    have e : ((fun i => at0 (x :: xs) i == at0 (y :: ys) i) ∘ Nat.succ) = fun i => at0 xs i == at0 ys i := by
      funext i; simp [at0]
    rw [e, ih]
    simp [at0, List.cons_beq_cons]
  | [], _ :: _, h => by simp at h
  | _ :: _, [], h => by simp at h
section
variable {P : Program} (w : World)
theorem run_equalIn_arr (d : Nat) (t e : TypeId) (n : Nat) (ht : P.underlying t = some (.array n e)) (he : P.underlying e = some (.int .u8)) (hsz : ∀ w, (sizeOf e).run P w = .ok 1 w)
    (xs ys : List Int) (hx : xs.length = n) (hy : ys.length = n) :
    (Op.equalIn (d + 2) t (.agg (u8s xs)) (.agg (u8s ys))).run P w = .ok (xs == ys) w := by
  rw [← all_range_eq0 xs ys (hx.trans hy.symm), hx, List.range_eq_range', Op.equalIn]
  simp only [Sem.run_bind, run_underlying ht, Result.andThen_ok, hsz, Std.Legacy.Range.forIn_eq_forIn_range', Std.Legacy.Range.size, Nat.sub_zero, Nat.add_sub_cancel, Nat.div_one]
  have hl : ∀ i ∈ List.range' 0 n 1, i < n := fun i hi => by simpa using (List.mem_range'_1.1 hi).2
  generalize List.range' 0 n 1 = l at hl ⊢
  induction l with
  | nil => simp
  | cons i l ih =>
    have hi : i < n := hl i (by simp)
    have px : (part e (u8s xs) (i * 1)).run P w = .ok (.int .u8 (at0 xs i)) w := by
      have := u8s_get xs i (by omega)
      simp [part, isAgg, run_underlying he, this]
    have py : (part e (u8s ys) (i * 1)).run P w = .ok (.int .u8 (at0 ys i)) w := by
      have := u8s_get ys i (by omega)
      simp [part, isAgg, run_underlying he, this]
    have pe : (Op.equalIn (d + 1) e (.int .u8 (at0 xs i)) (.int .u8 (at0 ys i))).run P w = .ok (at0 xs i == at0 ys i) w := run_equalIn_int w d e .u8 .u8 _ _ he
    simp only [List.forIn_cons, Sem.run_bind, px, py, pe, Result.andThen_ok, List.all_cons]
    cases hb : (at0 xs i == at0 ys i)
    · simp
    · simp only [Bool.not_true, Bool.false_eq_true, if_false, Sem.run_pure, Result.andThen_ok, Bool.true_and]
      exact ih fun j hj => hl j (by simp [hj])
end
theorem infoByte : (Tryz.prog.info? 5).map (·.size) = some 1 := by kernel_rfl
theorem sizeByte (w : World) : (sizeOf 5).run Tryz.prog w = .ok 1 w := by
  have h := infoByte
  cases hi : Tryz.prog.info? 5 with
  | none => rw [hi] at h; cases h
  | some i =>
    rw [hi] at h
    have hz : i.size = 1 := by simpa using h
    simp [sizeOf, typeInfo, hi, hz]
theorem guardPoly : Tryz.prog.eqGuardType Tryz.prog.depth 25 = false := by kernel_rfl
theorem run_eql_arr (w : World) (xs ys : List Int) (hx : xs.length = 64) (hy : ys.length = 64) : (binOp .eql 25 (.agg (u8s xs)) (.agg (u8s ys))).run Tryz.prog w = .ok (.bool (xs == ys)) w := by
  rw [run_eql_struct, run_equalIn_arr w 9998 _ _ 64 Tryz.underlying25 Tryz.underlying5 sizeByte xs ys hx hy]
  rfl
theorem run_neq_arr (w : World) (xs ys : List Int) (hx : xs.length = 64) (hy : ys.length = 64) : (binOp .neq 25 (.agg (u8s xs)) (.agg (u8s ys))).run Tryz.prog w = .ok (.bool (!(xs == ys))) w := by
  rw [run_neq_struct, run_equalIn_arr w 9998 _ _ 64 Tryz.underlying25 Tryz.underlying5 sizeByte xs ys hx hy]
  rfl
theorem run_eqGuard_arr (w : World) (op : BinOp) (x y : Operand) (xs ys : Array Value) : (eqGuard op 25 x y (.agg xs) (.agg ys)).run Tryz.prog w = .ok () w := by
  have h := guardPoly
  unfold eqGuard
  cases op <;> simp [h]
section
variable {ops : Array Oper} {rest : List Oper} {o : Oper} {a : Act} {w : World} {Q : Exit → Act → World → Prop} {x y : Operand} {l l' : List Int}
theorem wp_eql_arr {K : Act → World → Prop} (ho : o.op = .binOp .eql 25 x y 25) (hx : a.eval x = .agg (u8s l)) (hy : a.eval y = .agg (u8s l')) (hl : l.length = 64) (hl' : l'.length = 64) (h : K (a.put o.dst (.bool (l == l'))) w) : o.wp Tryz.prog a w K Q := by
  unfold Oper.wp execOp
  simp only [ho, hx, hy, Sem.run_bind, run_eqGuard_arr, Result.andThen_ok, run_eql_arr w l l' hl hl', Sem.run_pure]
  exact h
theorem wp_neq_arr {K : Act → World → Prop} (ho : o.op = .binOp .neq 25 x y 25) (hx : a.eval x = .agg (u8s l)) (hy : a.eval y = .agg (u8s l')) (hl : l.length = 64) (hl' : l'.length = 64) (h : K (a.put o.dst (.bool (!(l == l')))) w) : o.wp Tryz.prog a w K Q := by
  unfold Oper.wp execOp
  simp only [ho, hx, hy, Sem.run_bind, run_eqGuard_arr, Result.andThen_ok, run_neq_arr w l l' hl hl', Sem.run_pure]
  exact h
theorem wplEql (ho : o.op = .binOp .eql 25 x y 25) (hw : Region.wanted o (yielded ops a.tmps) = true) (hx : a.eval x = .agg (u8s l)) (hy : a.eval y = .agg (u8s l')) (hl : l.length = 64) (hl' : l'.length = 64) (h : wpList Tryz.prog ops Q rest (a.put o.dst (.bool (l == l'))) w) : wpList Tryz.prog ops Q (o :: rest) a w := by
  unfold wpList
  rw [if_pos hw]
  exact .inl (wp_eql_arr ho hx hy hl hl' h)
theorem wplNeq (ho : o.op = .binOp .neq 25 x y 25) (hw : Region.wanted o (yielded ops a.tmps) = true) (hx : a.eval x = .agg (u8s l)) (hy : a.eval y = .agg (u8s l')) (hl : l.length = 64) (hl' : l'.length = 64) (h : wpList Tryz.prog ops Q rest (a.put o.dst (.bool (!(l == l')))) w) : wpList Tryz.prog ops Q (o :: rest) a w := by
  unfold wpList
  rw [if_pos hw]
  exact .inl (wp_neq_arr ho hx hy hl hl' h)
end
theorem pad_beq {a b : List Int} (ha : NZ a) (hb : NZ b) (la : a.length ≤ 64) (lb : b.length ≤ 64) : (pad a == pad b) = (a == b) := by
  rw [Bool.eq_iff_iff]
  simp only [beq_iff_eq]
  exact ⟨fun h => pad_inj ha hb la lb h, fun h => by rw [h]⟩

end Go.Proofs.YtaemiknaiccijaaGreat

/- A row of whole numbers that a call owns: it may be appended to. -/
namespace Go.Proofs.YtaemiknaiccijaaGreat
open Go.RowKit

/-- Since w0 nothing that was there has turned, and v is a row of this call's own that holds L. -/
def Own (w0 w : World) (v : Value) (L : List Int) : Prop :=
  Ext w0 w ∧ w.ownsRow w0.heap.size 2 1 v L.length (L.map (Value.int .i64)) ∧ L.length ≤ 1000000
theorem Own.nil {w0 w : World} (h : Ext w0 w) : Own w0 w (.slice none 0 0) [] := ⟨h, World.ownsRow_nil _ _ _ _, by simp⟩
theorem Own.ext {w0 w : World} {v : Value} {L : List Int} (h : Own w0 w v L) : Ext w0 w := h.1
theorem Own.next {w0 w w' : World} {v : Value} {L : List Int} (h : Own w0 w v L) (hE : Ext w w') : Own w0 w' v L := by
  refine ⟨h.1.tr hE, ?_, h.2.2⟩
  have hl := h.2.1.lt
  refine h.2.1.kept (row := none) ⟨hE.os, hE.tape, hE.output, hE.size, fun k hk _ => hE.block k hk⟩ ?_
  cases e : v.ownBlock <;> simp
theorem Own.row {w0 w : World} {v : Value} {L : List Int} (h : Own w0 w v L) : ∃ A cap, v = .slice A L.length cap ∧ RowAt w A L := by
  rcases h.2.1.2 with ⟨rfl, hn⟩ | ⟨g, cap, cur, rfl, hb, hg, h1, h2, h3, h4⟩
  · rw [List.eq_nil_of_length_eq_zero hn]
    exact ⟨none, 0, rfl, RowAt.nil _ _⟩
  · refine ⟨_, cap, rfl, h.2.2, fun _ => ⟨g, 0, rfl, fun j hj => ?_⟩, fun a ha _ => by cases ha; exact ⟨_, _, hg⟩⟩
    have := h.2.1.cells (g := g) rfl j (.int .i64 (at0 L j)) (by
      rw [List.getElem?_map, List.getElem?_eq_getElem hj]
      simp [at0, hj])
    rw [Addr.add_lit] at this
    exact this

section
variable {ops : Array Oper} {rest : List Oper} {o : Oper} {a : Act} {w w0 : World} {Q : Exit → Act → World → Prop}
/-- append of one number to a row of this call's own (ty: the slice's type). -/
theorem wplApp {ty : TypeId} (s x : Operand) (ho : o.op = .call { callee := .builtin .append, args := #[s, x], argTypes := #[ty, ty] }) (hgd : o.guard = none) (ht : Tryz.prog.underlying ty = some (.slice 2))
    {v : Value} {L : List Int} {y : Int} {ad : Addr} {c : Nat} {n : Nat} (hO : Own w0 w v L) (hn : L.length = n) (hs : a.eval s = v) (hx : a.eval x = .slice (some ad) 1 c) (hy : w.cell? ad = some (.int .i64 y)) (hm : n < 1000000)
    (h : ∀ A cap w', Own w0 w' (.slice A (n + 1) cap) (L ++ [y]) → wpList Tryz.prog ops Q rest (a.put o.dst (.slice A (n + 1) cap)) w') : wpList Tryz.prog ops Q (o :: rest) a w := by
  subst hn
  obtain ⟨i, h1, h2, h3, h4⟩ := info_parts infoInt64
  refine wpList_append_own w hgd s x ty ho w0.heap.size 2 i (.int .i64 0) 1 8 ht h1 h2 h3 h4 rfl (by decide) v L.length (L.map (Value.int .i64)) hs hO.2.1 ad 1 c [.int .i64 y] hx rfl ?_ ?_ ?_ ?_ hO.1.size ?_
  · intro j u hj
    cases j with
    | zero =>
      simp only [List.getElem?_cons_zero, Option.some.injEq] at hj
      subst hj
      rw [show ad.add 0 = ad by cases ad; unfold Addr.add; split <;> simp_all]
      exact hy
    | succ j => simp at hj
  · intro u hu; simp at hu; subst hu; rfl
  · simp only [maxLen]; omega
  · omega
  · intro v' w' hown hg _
    have hO' : Own w0 w' v' (L ++ [y]) := by
      refine ⟨Below.grown hO.1 hg hO.1.size fun k hk => (hO.2.1.lt k hk).1, ?_, by simp; omega⟩
      simpa using hown
    obtain ⟨A, cap, rfl, _⟩ := hO'.row
    rw [List.length_append] at hO' ⊢
    exact h A cap w' hO'
end

theorem cell_new (w : World) (v : Value) (T : TypeId) : (w.alloc (.cells #[v] T)).cell? ⟨w.heap.size, 0, none⟩ = some v := by
  rw [cell_of_row _ _ _ _ _ _ (heap_alloc_new w _)]; rfl
theorem run_index_arr (w : World) (l : List Int) (k : Nat) (hl : l.length = 64) (hk : k < 64) : (Instr.index 25 (.agg (u8s l)) (.int .i64 k)).run Tryz.prog w = .ok (.int .u8 (at0 l k)) w := by
  have := u8s_get l k (by omega)
  have h1 : (0 : Int) ≤ (k : Int) ∧ (k : Int) < 64 := by omega
  simp [Instr.index, asIntOf, run_underlying Tryz.underlying25, sizeByte, part, isAgg, run_underlying Tryz.underlying5, this, h1]
  intro h
  omega

end Go.Proofs.YtaemiknaiccijaaGreat

/- The program's trimming of a row, its rows of polynomials and back, its rows of numbers, its inverses. -/
namespace Go.Proofs.YtaemiknaiccijaaGreat
open Go.RowKit

/-- A call that hands back a row. -/
def Row (L : List Int) (w : World) (e : Ending) (w' : World) : Prop := ∃ A cap, e = .returned (.slice A L.length cap) ∧ RowAt w' A L ∧ Ext w w'

theorem ret_slice {A : Option Addr} {n m cap : Nat} (h : n = m) : Ending.returned (.slice A n cap) = .returned (.slice A m cap) := by rw [h]
theorem trim_cut {L : List Int} {n : Nat} (hn : n ≤ L.length) (hz : ∀ j, n ≤ j → at0 L j = 0) (he : n = 0 ∨ at0 L (n - 1) ≠ 0) : trim L = L.take n := by
  refine nz_ext (trim_nz _) (fun m hm => ?_) fun j => ?_
  · have : m + 1 = n := by simp at hm; omega
    rw [at0_take, if_pos (by omega)]
    rcases he with he | he
    · omega
    · rwa [show n - 1 = m by omega] at he
  · rw [at0_trim, at0_take]
    split
    · rfl
    · exact hz j (by omega)

def TrimRel (L : List Int) (w : World) (f : Nat) (x : Value) (wr : World) : Prop :=
  x = .int .i64 f ∧ f ≤ L.length ∧ (∀ j, f ≤ j → at0 L j = 0) ∧ w = wr

set_option maxHeartbeats 400000 in
theorem trimmed_any (A : Option Addr) (cap : Nat) (L : List Int) (w : World) (h : RowAt w A L) (hc : L.length ≤ cap) :
    Calls Tryz.prog 88 #[.slice A L.length cap] w fun e w' => Row (trim L) w e w' ∧ w = w' := by
  have hm := h.1
  have H := Lib.hid h
  go_enter Tryz.func88, Tryz.ntmps88
  go_wp2
  go_loopg [3] L.length (fun f x wr => TrimRel L w f x wr)
  case atStart => exact ⟨rfl, Nat.le_refl _, fun j hj => at0_out L j hj, rfl⟩
  case round =>
    obtain ⟨rfl, hk, hz, rfl⟩ := hrel
    have HZ := Lib.hid hz
    clear hz
    by_cases k0 : gk = 0
    · subst k0
      have T := trim_cut (L := L) (n := 0) hk HZ.out (.inl rfl)
      rw [List.take_zero] at T
      have TT := Lib.hid T
      clear T
      go_wp2
      go_ret
      exact ⟨⟨_, 0, by rw [TT.out]; rfl, by rw [TT.out]; exact RowAt.nil _ _, Ext.refl _⟩, rfl⟩
    · obtain ⟨n, rfl⟩ : ∃ n, gk = n + 1 := ⟨gk - 1, by omega⟩
      obtain ⟨b, o, rfl, hb, hcell⟩ := H.out.place (by omega)
      have c := hcell n (by omega)
      clear hcell k0
      have i1 : ((n + 1 : Nat) : Int) - 1 = n := by omega
      by_cases hx : at0 L n = 0
      · have t1 : (at0 L n == 0) = true := by simpa using hx
        have HX := Lib.hid hx
        clear hx
        go_wp2
        go_roundg n
        case measure => omega
        case rel => exact ⟨rfl, by omega, fun j hj => by
          rcases Nat.eq_or_lt_of_le hj with rfl | h
          · exact HX.out
          · exact HZ.out j h, rfl⟩
      · have t1 : (at0 L n == 0) = false := by simpa using hx
        have T := Lib.hid (trim_cut (L := L) (n := n + 1) hk HZ.out (.inr hx))
        go_wp2
        have LT : Hid ((trim L).length = n + 1) := Lib.hid (by rw [T.out, List.length_take]; omega)
        go_ret
        exact ⟨⟨_, n + 1, ret_slice LT.out.symm, by rw [T.out]; exact H.out.take (n + 1) hk, Ext.refl _⟩, rfl⟩

def InvRel (p x : Int) (w : World) (f : Nat) (out i : Value) (wr : World) : Prop :=
  ∃ k : Nat, f + k = (p - 2).toNat ∧ out = .int .i64 (powm p x k) ∧ i = .int .i64 k ∧ w = wr
theorem powm_range {p : Int} (hp : 2 ≤ p) (x : Int) : ∀ k, 0 ≤ powm p x k ∧ powm p x k < p
  | 0 => ⟨by simp [powm], by simp [powm]; omega⟩
  | k + 1 => emod_range _ _ (by omega)

set_option maxHeartbeats 400000 in
theorem inverse_any (p x : Int) (lo : 2 ≤ p) (hi : p ≤ 7) (h1 : 0 ≤ x) (h2 : x < p) (w : World) :
    Calls Tryz.prog 125 #[.int .i64 p, .int .i64 x] w fun e w' => e = .returned (.int .i64 (invP p x)) ∧ w = w' := by
  have p0 : p ≠ 0 := by omega
  have pt : Hid (((p - 2).toNat : Int) = p - 2) := Lib.hid (by omega)
  go_enter Tryz.func125, Tryz.ntmps125
  go_wp2
  go_loopg [5, 8] (p - 2).toNat (fun f out i wr => InvRel p x w f out i wr)
  case atStart => exact ⟨0, rfl, rfl, rfl, rfl⟩
  case round =>
    obtain ⟨k, hf, rfl, rfl, rfl⟩ := hrel
    have r := powm_range lo x k
    have m := mulB (k := powm p x k) (b := x) (K := 7) (C := 7) (by decide) (by omega) (by omega) h1 (by omega)
    have m0 : 0 ≤ powm p x k * x := Int.mul_nonneg r.1 h1
    have K := pt.out
    by_cases hk : k = (p - 2).toNat
    · have t1 : decide ((k : Int) < p - 2) = false := decide_eq_false (by omega)
      have G : Hid (powm p x k = invP p x) := Lib.hid (by rw [invP, hk])
      clear hk K
      go_wp2
      go_ret
      exact ⟨ret_int G.out, rfl⟩
    · have t1 : decide ((k : Int) < p - 2) = true := decide_eq_true (by omega)
      clear K
      go_wp2
      go_roundg (gk - 1)
      case measure => omega
      case rel => exact ⟨k + 1, by omega, rfl, by go_num, rfl⟩

theorem row_of_own {w0 w : World} {A : Option Addr} {n cap : Nat} {L : List Int} (h : Own w0 w (.slice A n cap) L) : RowAt w A L ∧ n = L.length := by
  obtain ⟨A', cap', e, hr⟩ := h.row
  cases e
  exact ⟨hr, rfl⟩
theorem cap_of_own {w0 w : World} {A : Option Addr} {n cap : Nat} {L : List Int} (h : Own w0 w (.slice A n cap) L) : n ≤ cap := by
  rcases h.2.1.2 with ⟨e, hn⟩ | ⟨g, cap', cur, e, _, _, hle, _⟩
  · cases e; exact Nat.le_refl _
  · cases e; exact hle
def RowOfRel (l : List Int) (w : World) (f : Nat) (out i : Value) (wr : World) : Prop :=
  ∃ (k : Nat) (A : Option Addr) (cap : Nat), f + k = 64 ∧ out = .slice A k cap ∧ i = .int .i64 k ∧ Own w wr (.slice A k cap) (l.take k)

set_option maxRecDepth 100000 in
set_option maxHeartbeats 400000 in
theorem rowOf_any (l : List Int) (hl : l.length = 64) (hb : IsB l) (w : World) :
    Calls Tryz.prog 55 #[.agg (u8s l)] w (Row (trim l) w) := by
  have HL := Lib.hid hl
  have HB := Lib.hid hb
  have sz : (u8s l).size = 64 := by rw [u8s_size, hl]
  have F := Hp.start w
  clear hb
  go_enter Tryz.func55, Tryz.ntmps55
  go_wp2_with (first | ((with_reducible show wpList _ _ _ _ _ _); first | (apply hpLd F; exact rfl; exact rfl; exact rfl; (· repeat (first | exact Has.head | apply Has.tail))) | (apply hpBox F; exact rfl; exact rfl; exact rfl; (· with_reducible first | exact pad_length _ | exact zeros64_length | exact tab_length _ _ | assumption)) | (apply hpAlloc F; exact rfl; exact rfl) | (apply hpSt F; exact rfl; exact rfl; exact rfl; exact rfl; (· repeat (first | exact Upd.head | apply Upd.tail)); (· with_reducible first | exact pad_length _ | exact zeros64_length | exact tab_length _ _ | assumption))))
  clear F
  intro g w1 F
  go_wp2_with (first | ((with_reducible show wpList _ _ _ _ _ _); first | (apply hpLd F; exact rfl; exact rfl; exact rfl; (· repeat (first | exact Has.head | apply Has.tail))) | (apply hpBox F; exact rfl; exact rfl; exact rfl; (· with_reducible first | exact pad_length _ | exact zeros64_length | exact tab_length _ _ | assumption)) | (apply hpAlloc F; exact rfl; exact rfl) | (apply hpSt F; exact rfl; exact rfl; exact rfl; exact rfl; (· repeat (first | exact Upd.head | apply Upd.tail)); (· with_reducible first | exact pad_length _ | exact zeros64_length | exact tab_length _ _ | assumption))))
  have E1 := F.ext
  clear F hl
  go_loopg [3, 7] 64 (fun f out i wr => RowOfRel l w f out i wr)
  case atStart => exact ⟨0, none, 0, rfl, rfl, rfl, Own.nil E1⟩
  case round =>
    clear E1
    obtain ⟨k, A, cap, hf, rfl, rfl, O⟩ := hrel
    by_cases hk : k < 64
    · have t1 : decide ((k : Int) < 64) = true := decide_eq_true (by omega)
      have gx := run_index_arr wr l k HL.out hk
      have b1 := HB.out k
      have TK : Hid (l.take k ++ [at0 l k] = l.take (k + 1)) := Lib.hid (by
        rw [List.take_add_one, List.getElem?_eq_getElem (by rw [HL.out]; exact hk)]
        simp [at0, HL.out, hk])
      have LK : Hid ((l.take k).length = k) := Lib.hid (by rw [List.length_take, HL.out]; omega)
      go_wp2_with (first | ((with_reducible show wpList _ _ _ _ _ _); apply wplApp; exact rfl; exact rfl; exact Tryz.underlying52; exact O.next ((Ext.refl _).alloc _); exact LK.out; exact rfl; exact rfl; exact cell_new _ _ _; omega))
      clear O
      intro A' cap' w' O
      rw [TK.out] at O
      go_wp2
      go_roundg (gk - 1)
      case measure => omega
      case rel => exact ⟨k + 1, A', cap', by omega, by go_num, by go_num, O⟩
    · have t1 : decide ((k : Int) < 64) = false := decide_eq_false (by omega)
      have k64 : k = 64 := by omega
      subst k64
      have TK : Hid (l.take 64 = l) := Lib.hid (List.take_of_length_le (by rw [HL.out]; omega))
      rw [TK.out] at O
      have R := Lib.hid (row_of_own O).1
      have C := cap_of_own O
      have LE : Hid (64 = l.length) := Lib.hid HL.out.symm
      have TR := trimmed_any A cap l wr R.out (by rw [HL.out]; exact C)
      rw [HL.out] at TR
      have TRM := Lib.hid TR
      have E := O.ext
      clear TR
      go_wp2_with (first | (go_at_call 88; refine TRM.out.mono ?_; rintro e w2 ⟨⟨A2, c2, rfl, R2, E2⟩, rfl⟩))
      go_ret
      exact ⟨A2, c2, rfl, R2, E⟩

/-- A row laid into an array, so far. -/
def padTo (L : List Int) (n : Nat) : List Int := tab 64 fun j => if j < n then at0 L j else 0
theorem padTo_zero (L : List Int) : padTo L 0 = zeros64 := by rw [zeros64_tab]; exact tab_congr fun j _ => if_neg (by omega)
theorem padTo_step (L : List Int) (n : Nat) (h : n < 64) : (padTo L n).set n (at0 L n) = padTo L (n + 1) := by
  unfold padTo
  rw [tab_set 64 _ _ _ h]
  refine tab_congr fun j _ => ?_
  by_cases e : j = n
  · subst e; rw [if_pos rfl, if_pos (by omega)]
  · rw [if_neg e]
    by_cases h2 : j < n
    · rw [if_pos h2, if_pos (by omega)]
    · rw [if_neg h2, if_neg (by omega)]
theorem padTo_end (L : List Int) : padTo L L.length = pad L := tab_congr fun j _ => by
  split
  · rfl
  · rw [at0_out L j (by omega)]
def PolyRel (L : List Int) (w : World) (g0 g f : Nat) (i : Value) (wr : World) : Prop :=
  ∃ k : Nat, f + k = L.length ∧ i = .int .i64 k ∧ Hp w wr [(g, padTo L k), (g0, zeros64)]

set_option maxRecDepth 100000 in
set_option maxHeartbeats 400000 in
theorem poly_any (A : Option Addr) (cap : Nat) (L : List Int) (w : World) (h : RowAt w A L) (hb : IsB L) (h64 : L.length ≤ 64) :
    Calls Tryz.prog 57 #[.slice A L.length cap] w fun e w' => e = .returned (.agg (u8s (pad L))) ∧ Ext w w' := by
  have H := Lib.hid h
  have HB := Lib.hid hb
  have hz := zlit
  have F := Hp.start w
  clear h hb
  go_enter Tryz.func57, Tryz.ntmps57
  go_wp2_with (first | ((with_reducible show wpList _ _ _ _ _ _); first | (apply hpLd F; exact rfl; exact rfl; exact rfl; (· repeat (first | exact Has.head | apply Has.tail))) | (apply hpBox F; exact rfl; exact rfl; exact rfl; (· with_reducible first | exact pad_length _ | exact zeros64_length | exact tab_length _ _ | assumption)) | (apply hpAlloc F; exact rfl; exact rfl) | (apply hpSt F; exact rfl; exact rfl; exact rfl; exact rfl; (· repeat (first | exact Upd.head | apply Upd.tail)); (· with_reducible first | exact pad_length _ | exact zeros64_length | exact tab_length _ _ | assumption))))
  clear F
  intro g0 w1 F
  go_wp2_with (first | ((with_reducible show wpList _ _ _ _ _ _); first | (apply hpLd F; exact rfl; exact rfl; exact rfl; (· repeat (first | exact Has.head | apply Has.tail))) | (apply hpBox F; exact rfl; exact rfl; exact rfl; (· with_reducible first | exact pad_length _ | exact zeros64_length | exact tab_length _ _ | assumption)) | (apply hpAlloc F; exact rfl; exact rfl) | (apply hpSt F; exact rfl; exact rfl; exact rfl; exact rfl; (· repeat (first | exact Upd.head | apply Upd.tail)); (· with_reducible first | exact pad_length _ | exact zeros64_length | exact tab_length _ _ | assumption))))
  clear F
  intro g w2 F
  go_wp2_with (first | ((with_reducible show wpList _ _ _ _ _ _); first | (apply hpLd F; exact rfl; exact rfl; exact rfl; (· repeat (first | exact Has.head | apply Has.tail))) | (apply hpBox F; exact rfl; exact rfl; exact rfl; (· with_reducible first | exact pad_length _ | exact zeros64_length | exact tab_length _ _ | assumption)) | (apply hpAlloc F; exact rfl; exact rfl) | (apply hpSt F; exact rfl; exact rfl; exact rfl; exact rfl; (· repeat (first | exact Upd.head | apply Upd.tail)); (· with_reducible first | exact pad_length _ | exact zeros64_length | exact tab_length _ _ | assumption))))
  go_loopg [8] L.length (fun f i wr => PolyRel L w g0 g f i wr)
  case atStart => exact ⟨0, rfl, rfl, by rw [padTo_zero]; exact F⟩
  case round =>
    clear F
    obtain ⟨k, hf, rfl, F⟩ := hrel
    by_cases hk : k < L.length
    · have t1 : decide ((k : Int) < (L.length : Int)) = true := decide_eq_true (by omega)
      have HW := Lib.hid (H.out.below F.ext)
      obtain ⟨b, o, rfl, hb, hc⟩ := HW.out.place (by omega)
      have c1 := hc k hk
      have b1 := HB.out k
      have f1 := F.free 0 rfl k
      have c2 := F.cell 0 rfl k (by omega)
      have ST := Lib.hid (padTo_step L k (by omega))
      clear hc
      go_wp2
      go_roundg (gk - 1)
      case measure => omega
      case rel => exact ⟨k + 1, by omega, by go_num, by rw [← ST.out]; exact F.setCell 0 rfl k _⟩
    · have t1 : decide ((k : Int) < (L.length : Int)) = false := decide_eq_false (by omega)
      have G : Hid (padTo L k = pad L) := Lib.hid (by rw [show k = L.length by omega, padTo_end])
      rw [G.out] at F
      go_wp2_with (first | ((with_reducible show wpList _ _ _ _ _ _); first | (apply hpLd F; exact rfl; exact rfl; exact rfl; (· repeat (first | exact Has.head | apply Has.tail))) | (apply hpBox F; exact rfl; exact rfl; exact rfl; (· with_reducible first | exact pad_length _ | exact zeros64_length | exact tab_length _ _ | assumption)) | (apply hpAlloc F; exact rfl; exact rfl) | (apply hpSt F; exact rfl; exact rfl; exact rfl; exact rfl; (· repeat (first | exact Upd.head | apply Upd.tail)); (· with_reducible first | exact pad_length _ | exact zeros64_length | exact tab_length _ _ | assumption))))
      clear F
      intro w4 F
      try simp only [List.set_cons_zero, List.set_cons_succ] at F
      go_wp2_with (first | ((with_reducible show wpList _ _ _ _ _ _); first | (apply hpLd F; exact rfl; exact rfl; exact rfl; (· repeat (first | exact Has.head | apply Has.tail))) | (apply hpBox F; exact rfl; exact rfl; exact rfl; (· with_reducible first | exact pad_length _ | exact zeros64_length | exact tab_length _ _ | assumption)) | (apply hpAlloc F; exact rfl; exact rfl) | (apply hpSt F; exact rfl; exact rfl; exact rfl; exact rfl; (· repeat (first | exact Upd.head | apply Upd.tail)); (· with_reducible first | exact pad_length _ | exact zeros64_length | exact tab_length _ _ | assumption))))
      exact bodyPost_ret (res_c rfl rfl (F.at_ 1 rfl) (pad_length _) Tryz.underlying25 infoPoly) rfl ⟨rfl, F.ext⟩

end Go.Proofs.YtaemiknaiccijaaGreat

/- Memory that holds rows of whole numbers of the call's own, told as a list of blocks with what they hold. -/
namespace Go.Proofs.YtaemiknaiccijaaGreat
open Go.RowKit

/-- Block g is a row of whole numbers that begins with l. -/
def Blk (w : World) (g : Nat) (l : List Int) : Prop := ∃ x : List Value, w.heap[g]? = some (.cells (l.map (Value.int .i64) ++ x).toArray 2 (0, 0))
section
variable {w w' : World} {g B : Nat} {l : List Int}
theorem Blk.lt (h : Blk w g l) : g < w.heap.size := by obtain ⟨x, h⟩ := h; exact (Array.getElem?_eq_some_iff.1 h).1
theorem Blk.cell (h : Blk w g l) (j : Nat) (hj : j < l.length) : w.cell? ⟨g, j, none⟩ = some (.int .i64 (at0 l j)) := by
  obtain ⟨x, h⟩ := h
  rw [cell_of_row _ _ _ _ _ _ h, List.getElem?_toArray, List.getElem?_append_left (by simpa using hj), List.getElem?_map, List.getElem?_eq_getElem hj]
  simp [hj, at0]
theorem Blk.free (h : Blk w g l) (j : Nat) : w.frozen? ⟨g, j, none⟩ = false := by obtain ⟨x, h⟩ := h; exact frozen_of_row _ _ _ _ _ h
theorem Blk.ext (h : Blk w g l) (hb : Ext w w') : Blk w' g l := by have hl := h.lt; obtain ⟨x, h⟩ := h; exact ⟨x, (hb.block g hl).trans h⟩
theorem Blk.grown {k : Nat} (h : Blk w g l) (hg : w.grownBy w' (some k)) (hne : g ≠ k) : Blk w' g l := by
  have hl := h.lt; obtain ⟨x, h⟩ := h
  exact ⟨x, (hg.block g hl (fun e => hne (Option.some.inj e))).trans h⟩
theorem Blk.set (h : Blk w g l) (i : Nat) (y : Int) : Blk (w.setCell ⟨g, i, none⟩ (.int .i64 y)) g (l.set i y) := by
  obtain ⟨x, h⟩ := h
  rcases Nat.lt_or_ge i l.length with hi | hi
  · refine ⟨x, ?_⟩
    rw [heap_setCell_same w g i _ _ _ h]
    congr 1; congr 1
    apply Array.ext'
    simp [List.set_append, hi]
  · refine ⟨x.set (i - l.length) (.int .i64 y), ?_⟩
    rw [heap_setCell_same w g i _ _ _ h]
    congr 1; congr 1
    apply Array.ext'
    simp [List.set_append, hi, List.set_eq_of_length_le]
theorem Blk.new (w : World) (l : List Int) : Blk (w.alloc (.cells (i64s l) 2)) w.heap.size l := ⟨[], by rw [heap_alloc_new]; simp [i64s]⟩
theorem Blk.row (h : Blk w g l) (hm : l.length ≤ 1000000) : RowAt w (some ⟨g, 0, none⟩) l :=
  ⟨hm, fun _ => ⟨g, 0, rfl, fun j hj => by rw [Nat.zero_add]; exact h.cell j hj⟩, fun a ha _ => by cases ha; obtain ⟨x, h⟩ := h; exact ⟨_, _, h⟩⟩
end

/-- Since w0 nothing old has turned; these blocks are new, they are apart, and each holds its numbers. -/
structure Ri (w0 w : World) (L : List (Nat × List Int)) : Prop where
  ext : Ext w0 w
  arr : ∀ x ∈ L, Blk w x.1 x.2
  len : ∀ x ∈ L, x.2.length ≤ 1000000
  low : ∀ x ∈ L, w0.heap.size ≤ x.1
  nd : (L.map (·.1)).Nodup

section
variable {w0 w w' : World} {L : List (Nat × List Int)}
theorem Ri.start (w : World) : Ri w w [] := ⟨Ext.refl w, by simp, by simp, by simp, by simp⟩
theorem Ri.next (h : Ri w0 w L) (hE : Ext w w') : Ri w0 w' L := ⟨h.ext.tr hE, fun x hx => (h.arr x hx).ext hE, h.len, h.low, h.nd⟩
theorem Ri.at_ (h : Ri w0 w L) (i : Nat) {g : Nat} {l : List Int} (hi : L[i]? = some (g, l)) : Blk w g l := h.arr (g, l) (List.mem_of_getElem? hi)
theorem Ri.len_ (h : Ri w0 w L) (i : Nat) {g : Nat} {l : List Int} (hi : L[i]? = some (g, l)) : l.length ≤ 1000000 := h.len (g, l) (List.mem_of_getElem? hi)
theorem Ri.low_ (h : Ri w0 w L) (i : Nat) {g : Nat} {l : List Int} (hi : L[i]? = some (g, l)) : w0.heap.size ≤ g := h.low (g, l) (List.mem_of_getElem? hi)
theorem Ri.lt_ (h : Ri w0 w L) {x : Nat × List Int} (hx : x ∈ L) : x.1 < w.heap.size := (h.arr x hx).lt
theorem Ri.cell (h : Ri w0 w L) (i : Nat) {g : Nat} {l : List Int} (hi : L[i]? = some (g, l)) (j : Nat) (hj : j < l.length) : w.cell? ⟨g, j, none⟩ = some (.int .i64 (at0 l j)) := (h.at_ i hi).cell j hj
theorem Ri.free (h : Ri w0 w L) (i : Nat) {g : Nat} {l : List Int} (hi : L[i]? = some (g, l)) (j : Nat) : w.frozen? ⟨g, j, none⟩ = false := (h.at_ i hi).free j
/-- One more block. -/
theorem Ri.add (h : Ri w0 w L) {g : Nat} {l : List Int} (ha : Blk w g l) (hl : l.length ≤ 1000000) (hlow : w0.heap.size ≤ g) (hn : ∀ x ∈ L, x.1 ≠ g) : Ri w0 w ((g, l) :: L) := by
  refine ⟨h.ext, fun x hx => ?_, fun x hx => ?_, fun x hx => ?_, ?_⟩
  · rcases List.mem_cons.1 hx with rfl | hx
    · exact ha
    · exact h.arr x hx
  · rcases List.mem_cons.1 hx with rfl | hx
    · exact hl
    · exact h.len x hx
  · rcases List.mem_cons.1 hx with rfl | hx
    · exact hlow
    · exact h.low x hx
  · rw [List.map_cons, List.nodup_cons]
    refine ⟨fun hm => ?_, h.nd⟩
    obtain ⟨x, hx, he⟩ := List.mem_map.1 hm
    exact hn x hx he
/-- A block that lies behind all that there was at w. -/
theorem Ri.addNew (h : Ri w0 w L) (hE : Ext w w') {g : Nat} {l : List Int} (ha : Blk w' g l) (hl : l.length ≤ 1000000) (hg : w.heap.size ≤ g) : Ri w0 w' ((g, l) :: L) :=
  (h.next hE).add ha hl (Nat.le_trans h.ext.size hg) fun x hx => by have := h.lt_ hx; omega
theorem Ri.addNew2 (h : Ri w0 w L) (hE : Ext w w') {g g' : Nat} {l l' : List Int} (ha : Blk w' g l) (hl : l.length ≤ 1000000) (hg : w.heap.size ≤ g) (ha' : Blk w' g' l') (hl' : l'.length ≤ 1000000) (hg' : w.heap.size ≤ g') (hne : g ≠ g') : Ri w0 w' ((g', l') :: (g, l) :: L) :=
  (h.addNew hE ha hl hg).add ha' hl' (Nat.le_trans h.ext.size hg') fun x hx => by
    rcases List.mem_cons.1 hx with rfl | hx
    · exact hne
    · have := h.lt_ hx; omega
theorem Ri.tail {x : Nat × List Int} (h : Ri w0 w (x :: L)) : Ri w0 w L :=
  ⟨h.ext, fun y hy => h.arr y (List.mem_cons_of_mem _ hy), fun y hy => h.len y (List.mem_cons_of_mem _ hy), fun y hy => h.low y (List.mem_cons_of_mem _ hy), (List.nodup_cons.1 h.nd).2⟩
theorem Ri.drop : ∀ (n : Nat) {L : List (Nat × List Int)}, Ri w0 w L → Ri w0 w (L.drop n)
  | 0, _, h => h
  | n + 1, [], h => h
  | n + 1, x :: L, h => Ri.drop n h.tail
theorem Ri.alloc (h : Ri w0 w L) {l : List Int} (hl : l.length ≤ 1000000) : Ri w0 (w.alloc (.cells (i64s l) 2)) ((w.heap.size, l) :: L) :=
  h.addNew ((Ext.refl w).alloc _) (Blk.new _ _) hl (Nat.le_refl _)
/-- What one block holds has turned. -/
theorem Ri.put (h : Ri w0 w L) (i : Nat) {g : Nat} {old l : List Int} (hi : L[i]? = some (g, old)) (hl : l.length ≤ 1000000) (hg : w.grownBy w' (some g)) (ha : Blk w' g l) : Ri w0 w' (L.set i (g, l)) := by
  have hil := (List.getElem?_eq_some_iff.1 hi).1
  have key : ∀ x ∈ L.set i (g, l), x = (g, l) ∨ (x ∈ L ∧ x.1 ≠ g) := fun x hx => by
    obtain ⟨j, hj, rfl⟩ := List.mem_iff_getElem.1 hx
    rw [List.getElem_set]
    by_cases e : i = j
    · rw [if_pos e]; exact .inl rfl
    · rw [if_neg e]
      have hj' : j < L.length := by simpa using hj
      exact .inr ⟨List.getElem_mem _, nodup_apart h.nd (List.getElem?_eq_getElem hj') hi (Ne.symm e)⟩
  refine ⟨h.ext.grown hg (h.low_ i hi), fun x hx => ?_, fun x hx => ?_, fun x hx => ?_, ?_⟩
  · rcases key x hx with rfl | ⟨h1, h2⟩
    · exact ha
    · exact (h.arr x h1).grown hg h2
  · rcases key x hx with rfl | ⟨h1, _⟩
    · exact hl
    · exact h.len x h1
  · rcases key x hx with rfl | ⟨h1, _⟩
    · exact h.low_ i hi
    · exact h.low x h1
  · have : (L.set i (g, l)).map (·.1) = L.map (·.1) := by
      rw [List.map_set]
      apply List.ext_getElem?
      intro j
      rw [List.getElem?_set]
      split
      · rename_i e
        subst e
        have h2 := (List.getElem?_eq_some_iff.1 hi).2
        simp [hil, h2]
      · rfl
    rw [this]; exact h.nd
theorem Ri.setCell (h : Ri w0 w L) (i : Nat) {g : Nat} {l : List Int} (hi : L[i]? = some (g, l)) (j : Nat) (x : Int) : Ri w0 (w.setCell ⟨g, j, none⟩ (.int .i64 x)) (L.set i (g, l.set j x)) :=
  h.put i hi (by rw [List.length_set]; exact h.len_ i hi) ⟨rfl, rfl, rfl, by simp [World.setCell], fun k _ hk => heap_setCell_other w _ k _ (fun e => hk (by rw [e]))⟩ ((h.at_ i hi).set j x)
theorem Ri.drew (h : Ri w0 w L) : Ri w0 w.drew L := h.next (Ext.refl w).drew
end
theorem Ri.row {w0 w : World} {L : List (Nat × List Int)} (h : Ri w0 w L) (i : Nat) {g : Nat} {l : List Int} (hi : L[i]? = some (g, l)) : RowAt w (some ⟨g, 0, none⟩) l := (h.at_ i hi).row (h.len_ i hi)
def zerosN (n : Nat) : List Int := List.replicate n 0
theorem zerosN_length (n : Nat) : (zerosN n).length = n := List.length_replicate
section
variable {ops : Array Oper} {rest : List Oper} {o : Oper} {a : Act} {w0 w : World} {Q : Exit → Act → World → Prop} {L : List (Nat × List Int)}
theorem riMake {ty : TypeId} {x y : Operand} {n : Nat} (F : Ri w0 w L) (ho : o.op = .makeSlice ty x y) (hgd : o.guard = none) (ht : Tryz.prog.underlying ty = some (.slice 2)) {v u : Int} (hx : a.eval x = .int .i64 v) (hy : a.eval y = .int .i64 u) (hv : v = (n : Int)) (hu : u = (n : Int)) (hn : n ≤ 1000000)
    (h : ∀ g w', Ri w0 w' ((g, zerosN n) :: L) → wpList Tryz.prog ops Q rest (a.put o.dst (.slice (some ⟨g, 0, none⟩) n n)) w') : wpList Tryz.prog ops Q (o :: rest) a w :=
  wpList_plain hgd fun K hK => by
    unfold Oper.wp execOp
    subst hv hu
    simp only [ho, hx, hy, Sem.run_bind, run_make_ints ht infoInt64 n hn, Result.andThen_ok]
    exact hK _ _ (h _ _ (F.alloc (l := zerosN n) (by rw [zerosN_length]; exact hn)))
end

end Go.Proofs.YtaemiknaiccijaaGreat

/- The program's sums with multiples. -/
namespace Go.Proofs.YtaemiknaiccijaaGreat
open Go.RowKit

def combTo (p : Int) (a b : List Int) (t : Int) (n : Nat) : List Int := tab (max a.length b.length) fun j => if j < n then (at0 a j + t * at0 b j) % p else 0
theorem combTo_zero (p : Int) (a b : List Int) (t : Int) : combTo p a b t 0 = zerosN (max a.length b.length) := by
  refine list_ext0 (by simp [combTo, tab_length, zerosN_length]) fun j hj => ?_
  simp [combTo, at0_tab, zerosN, at0_replicate]
theorem combTo_length (p : Int) (a b : List Int) (t : Int) (n : Nat) : (combTo p a b t n).length = max a.length b.length := tab_length _ _
theorem combTo_step (p : Int) (a b : List Int) (t : Int) (n : Nat) (h : n < max a.length b.length) : (combTo p a b t n).set n ((at0 a n + t * at0 b n) % p) = combTo p a b t (n + 1) := by
  unfold combTo
  rw [tab_set _ _ _ _ h]
  refine tab_congr fun j _ => ?_
  by_cases e : j = n
  · subst e; rw [if_pos rfl, if_pos (by omega)]
  · rw [if_neg e]
    by_cases h2 : j < n
    · rw [if_pos h2, if_pos (by omega)]
    · rw [if_neg h2, if_neg (by omega)]
theorem combTo_end (p : Int) (a b : List Int) (t : Int) : trim (combTo p a b t (max a.length b.length)) = comb p a b t := by
  refine nz_ext (trim_nz _) (rowN_nz _ _) fun j => ?_
  rw [at0_trim, at0_comb, combTo, at0_tab]
  split
  · rfl
  · rw [at0_out a j (by omega), at0_out b j (by omega)]; simp

def CombRel (p : Int) (a b : List Int) (t : Int) (w : World) (g f : Nat) (i : Value) (wr : World) : Prop :=
  ∃ n : Nat, f + n = max a.length b.length ∧ i = .int .i64 n ∧ Ri w wr [(g, combTo p a b t n)]

set_option maxRecDepth 100000 in
set_option maxHeartbeats 1000000 in
theorem combine_any (p t : Int) (A B : Option Addr) (ca cb : Nat) (a b : List Int) (lo : 2 ≤ p) (hi : p ≤ 7) (ht : -1000 ≤ t) (ht2 : t ≤ 1000) (ba : IsB a) (bb : IsB b) (w : World) (ha : RowAt w A a) (hb : RowAt w B b) :
    Calls Tryz.prog 59 #[.int .i64 p, .slice A a.length ca, .slice B b.length cb, .int .i64 t] w (Row (comb p a b t) w) := by
  have HA := Lib.hid ha
  have HB := Lib.hid hb
  have BA := Lib.hid ba
  have BB := Lib.hid bb
  have la := ha.1
  have lb := hb.1
  have mx : Hid (max (a.length : Int) (b.length : Int) = ((max a.length b.length : Nat) : Int)) := Lib.hid (by omega)
  have F := Ri.start w
  clear ha hb ba bb
  go_enter Tryz.func59, Tryz.ntmps59
  go_wp2_with (first | ((with_reducible show wpList _ _ _ _ _ _); apply riMake (n := max a.length b.length) F; exact rfl; exact rfl; exact Tryz.underlying52; exact rfl; exact rfl; omega; omega; omega))
  all_goals
    clear F h
    intro g w1 F
    rw [← combTo_zero p a b t] at F
    go_wp2
    generalize hN : max a.length b.length = N at *
    go_loopg [19] N (fun f i wr => CombRel p a b t w g f i wr)
    case atStart => exact ⟨0, by rw [hN]; rfl, rfl, F⟩
    case round =>
      clear F
      obtain ⟨n, hf, rfl, F⟩ := hrel
      rw [hN] at hf
      have NN := Lib.hid hN
      have NL : N ≤ 1000000 := by omega
      by_cases hk : n < N
      · have t1 : decide ((n : Int) < (N : Int)) = true := decide_eq_true (by omega)
        have b1 := BA.out n
        have b2 := BB.out n
        have m := mulB (by decide : (0:Int) ≤ 1000) ht ht2 b2.1 b2.2
        have f1 := F.free 0 rfl n
        have c2 := F.cell 0 rfl n (by rw [combTo_length, hN]; exact hk)
        have ST := Lib.hid (combTo_step p a b t n (by omega))
        have RA := Lib.hid (HA.out.below F.ext)
        have RB := Lib.hid (HB.out.below F.ext)
        clear hN
        go_wp2_with (first | (go_at_call 92; with_reducible refine (at_any A ca a n (by omega) _ RA.out).mono ?_; rintro e w' ⟨rfl, rfl⟩) | (go_at_call 92; with_reducible refine (at_any B cb b n (by omega) _ RB.out).mono ?_; rintro e w' ⟨rfl, rfl⟩) | (go_at_call 91; with_reducible refine (reduce_any p (at0 a n + t * at0 b n) lo hi (by omega) (by omega) _).mono ?_; rintro e w' ⟨rfl, rfl⟩))
        go_roundg (gk - 1)
        case measure => omega
        case rel => exact ⟨n + 1, by rw [NN.out]; omega, by go_num, by rw [← ST.out]; exact F.setCell 0 rfl n _⟩
      · have t1 : decide ((n : Int) < (N : Int)) = false := decide_eq_false (by omega)
        have TR := trimmed_any (some ⟨g, 0, none⟩) N (combTo p a b t n) wr (F.row 0 rfl) (by rw [combTo_length]; omega)
        rw [combTo_length, hN, show n = max a.length b.length by omega, combTo_end] at TR
        have TRM := Lib.hid TR
        have E := F.ext
        clear TR hN
        go_wp2_with (first | (go_at_call 88; refine TRM.out.mono ?_; rintro e w2 ⟨⟨A2, c2, rfl, R2, E2⟩, rfl⟩))
        go_ret
        exact ⟨A2, c2, rfl, R2, E⟩

theorem scale_any (p t : Int) (A : Option Addr) (ca : Nat) (a : List Int) (lo : 2 ≤ p) (hi : p ≤ 7) (ht : -1000 ≤ t) (ht2 : t ≤ 1000) (ba : IsB a) (w : World) (ha : RowAt w A a) :
    Calls Tryz.prog 124 #[.int .i64 p, .slice A a.length ca, .int .i64 t] w (Row (scal p a t) w) := by
  have C : Hid (Calls Tryz.prog 59 #[.int .i64 p, .slice none 0 0, .slice A a.length ca, .int .i64 t] w (Row (scal p a t) w)) :=
    Lib.hid (combine_any p t none A 0 ca [] a lo hi ht ht2 (fun j => by rw [at0_nil]; omega) ba w (RowAt.nil _ _) ha)
  have la := ha.1
  clear ha ba
  go_enter Tryz.func124, Tryz.ntmps124
  go_wp2_with (first | (go_at_call 59; refine C.out.mono ?_; rintro e w2 ⟨A2, c2, rfl, R2, E2⟩))
  go_ret
  exact ⟨A2, c2, rfl, R2, E2⟩

end Go.Proofs.YtaemiknaiccijaaGreat
