/- Lemmas and contracts of functions, for the laws: Greatest common divisors with their factors, products by a modulus, powers by a modulus: functions on rows. No program in sight. -/
import Derived.Test.YtaemiknaiccijaaGreatRm1
import Derived.Test.YtaemiknaiccijaaGreatRm3
set_option linter.unusedVariables false
set_option linter.unusedSimpArgs false
namespace Go.Proofs.YtaemiknaiccijaaGreat

def scal (p : Int) (a : List Int) (c : Int) : List Int := comb p [] a c
/-- The chain of divisions: a, b are two rests in a row; u, x and v, y their factors. -/
def bezF (p : Int) : Nat → List Int → List Int → List Int → List Int → List Int → List Int → List Int × List Int × List Int
  | 0, a, _, u, _, v, _ => (a, u, v)
  | n + 1, a, b, u, x, v, y => if b.length = 0 then (a, u, v) else
      bezF p n b (dr p a b) x (comb p u (mulr p (dq p a b) x) (-1)) y (comb p v (mulr p (dq p a b) y) (-1))
def bez0 (p : Int) (a b : List Int) : List Int × List Int × List Int := bezF p (b.length + 1) a b [1] [] [] [1]
def bezD (p : Int) (a b : List Int) : List Int := scal p (bez0 p a b).1 (invP p (lc (bez0 p a b).1))
def bezU (p : Int) (a b : List Int) : List Int := scal p (bez0 p a b).2.1 (invP p (lc (bez0 p a b).1))
def bezV (p : Int) (a b : List Int) : List Int := scal p (bez0 p a b).2.2 (invP p (lc (bez0 p a b).1))

structure BezInv (p : Int) (a b u x v y : List Int) : Prop where
  ca : Can p a
  cb : Can p b
  cu : Can p u
  cx : Can p x
  cv : Can p v
  cy : Can p y
  la : a.length ≤ 64
  lb : b.length ≤ 64
  lu : u.length ≤ 64
  lx : x.length ≤ 64
  lv : v.length ≤ 64
  ly : y.length ≤ 64
  ax : a.length + x.length ≤ 65
  ay : a.length + y.length ≤ 65
  bu : b.length + u.length ≤ 65
  bv : b.length + v.length ≤ 65
  ne : a.length ≠ 0 ∨ b.length ≠ 0

theorem can_one {p : Int} (hp : 1 < p) : Can p [1] := by
  refine ⟨fun j => ?_, fun n h => ?_⟩
  · unfold at0
    cases j with
    | zero => simp; omega
    | succ j => simp; omega
  · have : n = 0 := by simpa using h
    subst this
    decide
theorem BezInv.start {p : Int} (hp : PrimeP p) {a b : List Int} (ha : Can p a) (hb : Can p b) (la : a.length ≤ 64) (lb : b.length ≤ 64) (hne : a.length ≠ 0 ∨ b.length ≠ 0) : BezInv p a b [1] [] [] [1] := by
  have h := hp.lo
  refine ⟨ha, hb, can_one (by omega), can_nil (by omega), can_nil (by omega), can_one (by omega), la, lb, by simp, by simp, by simp, by simp, by simp; omega, by simp; omega, by simp; omega, by simp; omega, hne⟩
theorem mulr_len (p : Int) (a b : List Int) (n : Nat) (h : a.length + b.length ≤ n + 1) : (mulr p a b).length ≤ n := by
  by_cases ha : a.length = 0
  · rw [List.eq_nil_of_length_eq_zero ha, mulr_nil_left]; simp
  · have := mulr_le p a b
    omega
theorem BezInv.step {p : Int} (hp : PrimeP p) {a b u x v y : List Int} (h : BezInv p a b u x v y) (hb : b.length ≠ 0) :
    BezInv p b (dr p a b) x (comb p u (mulr p (dq p a b) x) (-1)) y (comb p v (mulr p (dq p a b) y) (-1)) := by
  have hlo := hp.lo
  have h1 := dq_le p a b
  have h2 := dr_lt hp h.cb (by omega) (a := a)
  have h3 := dr_le p a b
  obtain ⟨ca, cb, cu, cx, cv, cy, la, lb, lu, lx, lv, ly, ax, ay, bu, bv, ne⟩ := h
  have h4 : (comb p u (mulr p (dq p a b) x) (-1)).length ≤ 65 - b.length := by
    have k1 := comb_le p u (mulr p (dq p a b) x) (-1)
    have k2 : (mulr p (dq p a b) x).length ≤ 65 - b.length := by
      by_cases hq : (dq p a b).length = 0
      · rw [List.eq_nil_of_length_eq_zero hq, mulr_nil_left]; simp
      · exact mulr_len p _ _ _ (by omega)
    omega
  have h5 : (comb p v (mulr p (dq p a b) y) (-1)).length ≤ 65 - b.length := by
    have k1 := comb_le p v (mulr p (dq p a b) y) (-1)
    have k2 : (mulr p (dq p a b) y).length ≤ 65 - b.length := by
      by_cases hq : (dq p a b).length = 0
      · rw [List.eq_nil_of_length_eq_zero hq, mulr_nil_left]; simp
      · exact mulr_len p _ _ _ (by omega)
    omega
  exact ⟨cb, dr_can (by omega) ca.inp, cx, comb_can (by omega) _ _ _, cy, comb_can (by omega) _ _ _, lb, by omega, lx, by omega, ly, by omega, by omega, by omega, by omega, by omega, .inl hb⟩
theorem BezInv.qx {p : Int} {a b u x v y : List Int} (h : BezInv p a b u x v y) (hb : b.length ≠ 0) : (dq p a b).length ≤ 64 ∧ ((dq p a b).length = 0 ∨ x.length = 0 ∨ (dq p a b).length + x.length ≤ 65) ∧ ((dq p a b).length = 0 ∨ y.length = 0 ∨ (dq p a b).length + y.length ≤ 65) := by
  have h1 := dq_le p a b
  have := h.la
  have := h.ax
  have := h.ay
  omega
theorem BezInv.mx {p : Int} (hp : PrimeP p) {a b u x v y : List Int} (h : BezInv p a b u x v y) (hb : b.length ≠ 0) : (mulr p (dq p a b) x).length ≤ 64 ∧ (mulr p (dq p a b) y).length ≤ 64 := by
  have h1 := dq_le p a b
  have := h.ax
  have := h.ay
  exact ⟨mulr_len p _ _ _ (by have := h.lx; omega), mulr_len p _ _ _ (by have := h.ly; omega)⟩
theorem bezF_step (p : Int) (n : Nat) (a b u x v y : List Int) (hb : b.length ≠ 0) :
    bezF p (n + 1) a b u x v y = bezF p n b (dr p a b) x (comb p u (mulr p (dq p a b) x) (-1)) y (comb p v (mulr p (dq p a b) y) (-1)) := by
  rw [bezF, if_neg hb]
theorem bezF_stop (p : Int) (n : Nat) (a b u x v y : List Int) (hb : b.length = 0) : bezF p n a b u x v y = (a, u, v) := by
  cases n with
  | zero => rfl
  | succ n => rw [bezF, if_pos hb]
/-- What the chain ends in keeps what it began with. -/
theorem BezInv.last {p : Int} (hp : PrimeP p) : ∀ n a b u x v y, BezInv p a b u x v y → b.length < n → ∃ x' y', BezInv p (bezF p n a b u x v y).1 [] (bezF p n a b u x v y).2.1 x' (bezF p n a b u x v y).2.2 y'
  | 0, _, _, _, _, _, _, _, h => absurd h (by omega)
  | n + 1, a, b, u, x, v, y, h, hl => by
    by_cases hb : b.length = 0
    · rw [bezF_stop _ _ _ _ _ _ _ _ hb]
      have : b = [] := List.eq_nil_of_length_eq_zero hb
      subst this
      exact ⟨x, y, h⟩
    · rw [bezF_step _ _ _ _ _ _ _ _ hb]
      exact BezInv.last hp n _ _ _ _ _ _ (h.step hp hb) (by have := dr_lt hp h.cb (by omega) (a := a); omega)
theorem bez0_inv {p : Int} (hp : PrimeP p) {a b : List Int} (ha : Can p a) (hb : Can p b) (la : a.length ≤ 64) (lb : b.length ≤ 64) (hne : a.length ≠ 0 ∨ b.length ≠ 0) :
    Can p (bez0 p a b).1 ∧ Can p (bez0 p a b).2.1 ∧ Can p (bez0 p a b).2.2 ∧ (bez0 p a b).1.length ≤ 64 ∧ (bez0 p a b).2.1.length ≤ 64 ∧ (bez0 p a b).2.2.length ≤ 64 ∧ 0 < (bez0 p a b).1.length := by
  obtain ⟨x', y', h⟩ := BezInv.last hp (b.length + 1) a b [1] [] [] [1] (BezInv.start hp ha hb la lb hne) (by omega)
  refine ⟨h.ca, h.cu, h.cv, h.la, h.lu, h.lv, ?_⟩
  have := h.ne
  simp at this
  exact List.length_pos_iff.2 this

theorem scal_can {p : Int} (hp : 0 < p) (a : List Int) (c : Int) : Can p (scal p a c) := comb_can hp _ _ _
theorem scal_le (p : Int) (a : List Int) (c : Int) : (scal p a c).length ≤ a.length := by have := comb_le p [] a c; simpa [scal] using this
theorem at0_scal (p : Int) (a : List Int) (c : Int) (j : Nat) : at0 (scal p a c) j = c * at0 a j % p := by rw [scal, at0_comb, at0_nil]; simp

/-- The greatest common divisor; 0 of two zeros. -/
def gcdr (p : Int) (a b : List Int) : List Int := if a.length = 0 ∧ b.length = 0 then [] else bezD p a b
theorem gcdr_can {p : Int} (hp : 0 < p) (a b : List Int) : Can p (gcdr p a b) := by
  unfold gcdr; split
  · exact can_nil hp
  · exact scal_can hp _ _

theorem gcdr_le {p : Int} (hp : PrimeP p) {a b : List Int} (ha : Can p a) (hb : Can p b) (la : a.length ≤ 64) (lb : b.length ≤ 64) : (gcdr p a b).length ≤ 64 := by
  unfold gcdr; split
  · simp
  · have := bez0_inv hp ha hb la lb (by omega)
    exact Nat.le_trans (scal_le _ _ _) this.2.2.2.1

/-! ### by a modulus -/
/-- T times a rest by m. -/
def upr (p : Int) (a m : List Int) : List Int :=
  if m.length = 1 then [] else rowN (m.length - 1) fun i => ((if i = 0 then 0 else at0 a (i - 1)) - at0 a (m.length - 2) * invP p (lc m) % p * at0 m i) % p
/-- Products by m, from the leading coefficient of b down. -/
def mmF (p : Int) (a b m : List Int) : Nat → List Int → List Int
  | 0, out => out
  | n + 1, out => mmF p a b m n (dr p (comb p (upr p out m) a (at0 b n)) m)
def mulm (p : Int) (a b m : List Int) : List Int := mmF p a b m b.length []
/-- Powers by m, by squares. -/
def pwF (p : Int) (m : List Int) : Nat → Nat → List Int → List Int → List Int
  | 0, _, out, _ => out
  | f + 1, k, out, sq => if k = 0 then out else pwF p m f (k / 2) (if k % 2 = 1 then mulm p out sq m else out) (mulm p sq sq m)
def powM (p : Int) (a : List Int) (k : Nat) (m : List Int) : List Int := pwF p m k k (dr p [1] m) (dr p a m)

theorem upr_can {p : Int} (hp : 0 < p) (a m : List Int) : Can p (upr p a m) := by
  unfold upr; split
  · exact can_nil hp
  · exact can_rowN hp fun _ _ => emod_range _ _ hp
theorem upr_lt (p : Int) (a m : List Int) (hm : 0 < m.length) : (upr p a m).length < m.length := by
  unfold upr; split
  · simpa using hm
  · have := rowN_le (m.length - 1) fun i => ((if i = 0 then 0 else at0 a (i - 1)) - at0 a (m.length - 2) * invP p (lc m) % p * at0 m i) % p
    omega
theorem mmF_spec {p : Int} (hp : PrimeP p) {a b m : List Int} (hm : Can p m) (hne : 0 < m.length) : ∀ n out, Can p out → out.length < m.length → Can p (mmF p a b m n out) ∧ (mmF p a b m n out).length < m.length
  | 0, out, h1, h2 => ⟨h1, h2⟩
  | n + 1, out, h1, h2 => mmF_spec hp hm hne n _ (dr_can (by have := hp.lo; omega) (comb_can (by have := hp.lo; omega) _ _ _).inp) (dr_lt hp hm hne)
theorem mulm_spec {p : Int} (hp : PrimeP p) (a b : List Int) {m : List Int} (hm : Can p m) (hne : 0 < m.length) : Can p (mulm p a b m) ∧ (mulm p a b m).length < m.length :=
  mmF_spec hp hm hne _ _ (can_nil (by have := hp.lo; omega)) hne

theorem pwF_zero (p : Int) (m : List Int) (f : Nat) (out sq : List Int) : pwF p m f 0 out sq = out := by
  cases f with
  | zero => rfl
  | succ f => rw [pwF, if_pos rfl]
theorem pwF_step (p : Int) (m : List Int) (f k : Nat) (out sq : List Int) (hk : k ≠ 0) : pwF p m (f + 1) k out sq = pwF p m f (k / 2) (if k % 2 = 1 then mulm p out sq m else out) (mulm p sq sq m) := by
  rw [pwF, if_neg hk]
theorem pwF_spec {p : Int} (hp : PrimeP p) {m : List Int} (hm : Can p m) (hne : 0 < m.length) : ∀ f k out sq, Can p out → out.length < m.length → Can p sq → sq.length < m.length → Can p (pwF p m f k out sq) ∧ (pwF p m f k out sq).length < m.length
  | 0, _, out, _, h1, h2, _, _ => ⟨h1, h2⟩
  | f + 1, k, out, sq, h1, h2, h3, h4 => by
    by_cases hk : k = 0
    · rw [hk, pwF_zero]; exact ⟨h1, h2⟩
    · rw [pwF_step _ _ _ _ _ _ hk]
      have a := mulm_spec hp sq sq hm hne
      have b := mulm_spec hp out sq hm hne
      refine pwF_spec hp hm hne f _ _ _ ?_ ?_ a.1 a.2
      · split
        · exact b.1
        · exact h1
      · split
        · exact b.2
        · exact h2
theorem powM_spec {p : Int} (hp : PrimeP p) {a m : List Int} (ha : Can p a) (hm : Can p m) (hne : 0 < m.length) (k : Nat) : Can p (powM p a k m) ∧ (powM p a k m).length < m.length := by
  have lo := hp.lo
  exact pwF_spec hp hm hne k k _ _ (dr_can (by omega) (can_one (by omega)).inp) (dr_lt hp hm hne) (dr_can (by omega) ha.inp) (dr_lt hp hm hne)
theorem can_tee {p : Int} (hp : 1 < p) : Can p [0, 1] := by
  refine ⟨fun j => ?_, fun n h => ?_⟩
  · unfold at0
    match j with
    | 0 => simp; omega
    | 1 => simp; omega
    | j + 2 => simp; omega
  · have : n = 1 := by simpa using h.symm
    subst this
    decide
/-- The reference's test for irreducible polynomials: cnt Frobenius powers are still to be held against m. -/
def irrF (p : Int) (m : List Int) : Nat → List Int → Bool
  | 0, _ => true
  | c + 1, pw => (gcdr p m (comb p (powM p pw p.toNat m) [0, 1] (-1))).length == 1 && irrF p m c (powM p pw p.toNat m)
def irrS (p : Int) (m : List Int) : Bool := decide (2 ≤ m.length) && irrF p m ((m.length - 1) / 2) (dr p [0, 1] m)
/-- The digits of a number, and the polynomial with this number. -/
def dig (p : Int) (n j : Nat) : Int := ((n / p.toNat ^ j % p.toNat : Nat) : Int)
def numr (p : Int) (n : Nat) : List Int := rowN 64 (dig p n)
theorem dig_range {p : Int} (hp : 0 < p) (n j : Nat) : 0 ≤ dig p n j ∧ dig p n j < p := by
  unfold dig
  have := Nat.mod_lt (n / p.toNat ^ j) (show p.toNat > 0 by omega)
  omega
theorem numr_can {p : Int} (hp : 0 < p) (n : Nat) : Can p (numr p n) := can_rowN hp fun j _ => dig_range hp n j
theorem numr_le (p : Int) (n : Nat) : (numr p n).length ≤ 64 := rowN_le _ _
theorem pad_numr (p : Int) (n : Nat) : pad (numr p n) = tab 64 (dig p n) := tab_congr fun j hj => by rw [numr, at0_rowN, if_pos hj]
/-- A value by a modulus, from the leading coefficient of d down. -/
def atF (p : Int) (d x m : List Int) : Nat → List Int → List Int
  | 0, out => out
  | n + 1, out => atF p d x m n (comb p (mulm p out x m) [1] (at0 d n))
def atr (p : Int) (d x m : List Int) : List Int := atF p d x m d.length []
theorem atF_spec {p : Int} (hp : PrimeP p) (d x : List Int) {m : List Int} (hm : Can p m) (hne : 0 < m.length) (lm : m.length ≤ 64) : ∀ n out, Can p out → out.length ≤ 64 → Can p (atF p d x m n out) ∧ (atF p d x m n out).length ≤ 64
  | 0, out, h1, h2 => ⟨h1, h2⟩
  | n + 1, out, h1, h2 => by
    have lo := hp.lo
    have a := mulm_spec hp out x hm hne
    have b := comb_le p (mulm p out x m) [1] (at0 d n)
    exact atF_spec hp d x hm hne lm n _ (comb_can (by omega) _ _ _) (by simp at b; omega)
theorem atr_spec {p : Int} (hp : PrimeP p) (d x : List Int) {m : List Int} (hm : Can p m) (hne : 0 < m.length) (lm : m.length ≤ 64) : Can p (atr p d x m) ∧ (atr p d x m).length ≤ 64 :=
  atF_spec hp d x hm hne lm _ _ (can_nil (by have := hp.lo; omega)) (by simp)
/-- The number of points over one place of the line; e tells the field. -/
def ptS (p : Int) (d m : List Int) (e k : Nat) : Int :=
  if (atr p d (numr p k) m).length = 0 then 1 else if powM p (atr p d (numr p k) m) e m == [1] then 2 else 0
def cntS (p : Int) (d m : List Int) (e n : Nat) : Int := 1 + sumN n (ptS p d m e)
theorem ptS_range (p : Int) (d m : List Int) (e k : Nat) : 0 ≤ ptS p d m e k ∧ ptS p d m e k ≤ 2 := by
  unfold ptS; split
  · omega
  · split <;> omega
theorem sumN_range {f : Nat → Int} (h : ∀ k, 0 ≤ f k ∧ f k ≤ 2) : ∀ n : Nat, 0 ≤ sumN n f ∧ sumN n f ≤ 2 * n
  | 0 => by simp [sumN]
  | n + 1 => by
    have a := sumN_range h n
    have b := h n
    rw [sumN]
    omega
/-- The field of p p elements: the first irreducible polynomial of the degree 2. -/
def fldC (p : Int) : Nat := if p = 5 then 2 else 1
def fld (p : Int) : List Int := [(fldC p : Int), 0, 1]
def fldAt : Nat → List Int
  | 0 => [0, 0, 1]
  | j + 1 => [(j : Int), 0, 1]
/-- The derivative. -/
def derr (p : Int) (a : List Int) : List Int := rowN 63 fun i => ((i : Int) + 1) % p * at0 a (i + 1) % p

end Go.Proofs.YtaemiknaiccijaaGreat

/- The reference's 1 and T, its rests, and its checks of lists of polynomials. -/
namespace Go.Proofs.YtaemiknaiccijaaGreat
open Go.RowKit

theorem zsize : (u8s zeros64).size = 64 := by rw [u8s_size, zeros64_length]
theorem zne : ¬ u8s zeros64 = #[] := fun h => by have := congrArg Array.size h; rw [zsize] at this; simp at this
theorem zset0 : (u8s zeros64).setIfInBounds 0 (.int .u8 0) = u8s zeros64 := by rw [u8s_set]; rfl
theorem zset1 : (u8s zeros64).setIfInBounds 0 (.int .u8 1) = u8s (pad [1]) := by rw [u8s_set]; rfl
theorem zset2 : (u8s zeros64).setIfInBounds 1 (.int .u8 1) = u8s (pad [0, 1]) := by rw [u8s_set]; rfl

set_option maxRecDepth 100000 in
set_option maxHeartbeats 400000 in
theorem l01One_any (w : World) : Calls Tryz.prog 48 #[] w fun e w' => e = .returned (.agg (u8s (pad [1]))) ∧ Ext w w' := by
  have hz := zlit
  have h1 := zsize
  have h2 := zset1
  go_enter Tryz.func48, Tryz.ntmps48
  go_wp2_with (first | (refine wplW _ _ rfl rfl (Arr.new _ _ zeros64) rfl rfl zeros64_length (pad_length _) ?_))
  intro w3 G3 Z3 B
  go_wp2
  exact bodyPost_ret (res_c rfl rfl B (pad_length _) Tryz.underlying25 infoPoly) rfl ⟨rfl, ((Ext.refl w).alloc _).grown G3 (Nat.le_refl _)⟩

set_option maxRecDepth 100000 in
set_option maxHeartbeats 400000 in
theorem l01T_any (w : World) : Calls Tryz.prog 117 #[] w fun e w' => e = .returned (.agg (u8s (pad [0, 1]))) ∧ Ext w w' := by
  have hz := zlit
  have h1 := zsize
  have h2 := zset0
  have h3 := zset2
  go_enter Tryz.func117, Tryz.ntmps117
  go_wp2_with (first | (refine wplW _ _ rfl rfl (Arr.new _ _ zeros64) rfl rfl zeros64_length (pad_length _) ?_))
  intro w3 G3 Z3 B
  go_wp2
  exact bodyPost_ret (res_c rfl rfl B (pad_length _) Tryz.underlying25 infoPoly) rfl ⟨rfl, ((Ext.refl w).alloc _).grown G3 (Nat.le_refl _)⟩

set_option maxRecDepth 100000 in
set_option maxHeartbeats 400000 in
theorem l01Mod_any (p : Int) (a b : List Int) (hp : PrimeP p) (ha : Can p a) (hb : Can p b) (la : a.length ≤ 64) (lb : b.length ≤ 64) (hne : 0 < b.length) (w : World) :
    Calls Tryz.prog 28 #[.int .i64 p, .agg (u8s (pad a)), .agg (u8s (pad b))] w fun e w' => e = .returned (.agg (u8s (pad (dr p a b)))) ∧ Ext w w' := by
  have hz := zlit
  obtain ⟨w1, hw1⟩ : ∃ w1, w1 = allocs w 25 [pad a, pad b, zeros64] := ⟨_, rfl⟩
  have A1 : Arr w1 w.heap.size 25 (pad a) := by rw [hw1]; exact allocs_arr _ _ 0 rfl
  have A2 : Arr w1 (w.heap.size + 1) 25 (pad b) := by rw [hw1]; exact allocs_arr _ _ 1 rfl
  have A3 : Arr w1 (w.heap.size + 2) 25 zeros64 := by rw [hw1]; exact allocs_arr _ _ 2 rfl
  have E1 : Ext w w1 := by rw [hw1]; exact allocs_ext _ _ _ _ (Ext.refl w)
  have S1 : w1.heap.size = w.heap.size + 3 := by rw [hw1, allocs_size]; rfl
  simp only [allocs] at hw1
  have HW := hw1.symm
  clear hw1
  have D := l01Divide_any p a b hp ha hb la lb hne
  have HD := Lib.hid D
  clear D ha hb hne
  go_enter Tryz.func28, Tryz.ntmps28
  go_wp2_with (first | (refine wplL _ rfl rfl A1 rfl (pad_length _) ?_) | (refine wplL _ rfl rfl A2 rfl (pad_length _) ?_) | (go_at_call 47; refine (HD.out _).mono ?_; rintro e w2 ⟨rfl, E2⟩) | (refine wplW _ _ rfl rfl ((Arr.new _ _ zeros64).alloc _) rfl rfl zeros64_length (pad_length _) ?_))
  clear HW
  intro w3 G3 Z3 B1
  have S2 := E2.size
  have B3 := (((A3.ext E2).alloc _).alloc _).grown G3 (by omega)
  have B2 : Arr w3 (w2.heap.size + 1) 25 zeros64 := by
    have := (Arr.new (w2.alloc (.cells (u8s zeros64) 25)) 25 zeros64).grown G3 (by simp)
    simpa using this
  have E3 : Ext w w3 := (((E1.tr E2).alloc _).alloc _).grown G3 (by omega)
  go_wp2_with (first | (refine wplW _ _ rfl rfl B2 rfl rfl zeros64_length (pad_length _) ?_))
  intro w4 G4 Z4 C2
  have C3 := B3.grown G4 (by omega)
  have E4 := E3.grown G4 (by omega)
  go_wp2_with (first | (refine wplL _ rfl rfl C2 rfl (pad_length _) ?_) | (refine wplW _ _ rfl rfl C3 rfl rfl zeros64_length (pad_length _) ?_))
  intro w5 G5 Z5 D3
  go_wp2
  exact bodyPost_ret (res_c rfl rfl D3 (pad_length _) Tryz.underlying25 infoPoly) rfl ⟨rfl, E4.grown G5 (by omega)⟩

def monicB (a : List Int) : Bool := decide (0 < a.length) && lc a == 1
set_option maxRecDepth 100000 in
set_option maxHeartbeats 400000 in
theorem l01Monic_any (a : List Int) (hz : NZ a) (la : a.length ≤ 64) (w : World) :
    Calls Tryz.prog 110 #[.agg (u8s (pad a))] w fun e w' => e = .returned (.bool (monicB a)) ∧ Ext w w' := by
  have HZ := Lib.hid hz
  clear hz
  have A1 : Arr (w.alloc (.cells (u8s (pad a)) 25)) w.heap.size 25 (pad a) := Arr.new _ _ _
  go_enter Tryz.func110, Tryz.ntmps110
  go_wp2_with (first | (refine wplL _ rfl rfl A1 rfl (pad_length _) ?_))
  by_cases z : a.length = 0
  · have F : Hid (monicB a = false) := Lib.hid (by simp [monicB, z])
    refine (l01Deg_pad a (-1) HZ.out la (by omega) _).mono ?_
    rintro e w2 ⟨rfl, E2⟩
    clear z
    go_wp2
    go_ret
    exact ⟨ret_bool F.out.symm, ((Ext.refl w).alloc _).tr E2⟩
  · obtain ⟨m, hm⟩ : ∃ m, a.length = m + 1 := ⟨a.length - 1, by omega⟩
    have F : Hid (monicB a = (at0 a m == 1)) := Lib.hid (by simp [monicB, lc, hm])
    refine (l01Deg_pad a m HZ.out la (by omega) _).mono ?_
    rintro e w2 ⟨rfl, E2⟩
    have B1 := A1.ext E2
    have c1 := B1.cell m (by rw [pad_length]; omega)
    rw [at0_pad a la] at c1
    have i1 : m < 64 := by omega
    clear z hm
    go_wp2
    all_goals
      go_ret
      exact ⟨ret_bool F.out.symm, ((Ext.refl w).alloc _).tr E2⟩

end Go.Proofs.YtaemiknaiccijaaGreat

/- Memory that holds arrays of the call's own, told as a list of blocks with what they hold: laws for what is laid, read and written. -/
namespace Go.Proofs.YtaemiknaiccijaaGreat
open Go.RowKit

/-- Since w0 nothing old has turned; these blocks are new, they are apart, and each holds its array. -/
structure Hp (w0 w : World) (L : List (Nat × List Int)) : Prop where
  ext : Ext w0 w
  arr : ∀ x ∈ L, Arr w x.1 25 x.2
  len : ∀ x ∈ L, x.2.length = 64
  low : ∀ x ∈ L, w0.heap.size ≤ x.1
  nd : (L.map (·.1)).Nodup

section
variable {w0 w w' : World} {L : List (Nat × List Int)}
theorem Hp.start (w : World) : Hp w w [] := ⟨Ext.refl w, by simp, by simp, by simp, by simp⟩
theorem Hp.next (h : Hp w0 w L) (hE : Ext w w') : Hp w0 w' L := ⟨h.ext.tr hE, fun x hx => (h.arr x hx).ext hE, h.len, h.low, h.nd⟩
theorem Hp.at_ (h : Hp w0 w L) (i : Nat) {g : Nat} {l : List Int} (hi : L[i]? = some (g, l)) : Arr w g 25 l := h.arr (g, l) (List.mem_of_getElem? hi)
theorem Hp.len_ (h : Hp w0 w L) (i : Nat) {g : Nat} {l : List Int} (hi : L[i]? = some (g, l)) : l.length = 64 := h.len (g, l) (List.mem_of_getElem? hi)
theorem Hp.low_ (h : Hp w0 w L) (i : Nat) {g : Nat} {l : List Int} (hi : L[i]? = some (g, l)) : w0.heap.size ≤ g := h.low (g, l) (List.mem_of_getElem? hi)
theorem Hp.lt_ (h : Hp w0 w L) {x : Nat × List Int} (hx : x ∈ L) : x.1 < w.heap.size := (h.arr x hx).lt
theorem Hp.cell (h : Hp w0 w L) (i : Nat) {g : Nat} {l : List Int} (hi : L[i]? = some (g, l)) (j : Nat) (hj : j < 64) : w.cell? ⟨g, j, none⟩ = some (.int .u8 (at0 l j)) := (h.at_ i hi).cell j (by rw [h.len_ i hi]; exact hj)
theorem Hp.free (h : Hp w0 w L) (i : Nat) {g : Nat} {l : List Int} (hi : L[i]? = some (g, l)) (j : Nat) : w.frozen? ⟨g, j, none⟩ = false := (h.at_ i hi).free j
/-- One more block. -/
theorem Hp.add (h : Hp w0 w L) {g : Nat} {l : List Int} (ha : Arr w g 25 l) (hl : l.length = 64) (hlow : w0.heap.size ≤ g) (hn : ∀ x ∈ L, x.1 ≠ g) : Hp w0 w ((g, l) :: L) := by
  refine ⟨h.ext, fun x hx => ?_, fun x hx => ?_, fun x hx => ?_, ?_⟩
  · rcases List.mem_cons.1 hx with rfl | hx
    · exact ha
    · exact h.arr x hx
  · rcases List.mem_cons.1 hx with rfl | hx
    · exact hl
    · exact h.len x hx
  · rcases List.mem_cons.1 hx with rfl | hx
    · exact hlow
    · exact h.low x hx
  · rw [List.map_cons, List.nodup_cons]
    refine ⟨fun hm => ?_, h.nd⟩
    obtain ⟨x, hx, he⟩ := List.mem_map.1 hm
    exact hn x hx he
/-- A block that lies behind all that there was at w. -/
theorem Hp.addNew (h : Hp w0 w L) (hE : Ext w w') {g : Nat} {l : List Int} (ha : Arr w' g 25 l) (hl : l.length = 64) (hg : w.heap.size ≤ g) : Hp w0 w' ((g, l) :: L) :=
  (h.next hE).add ha hl (Nat.le_trans h.ext.size hg) fun x hx => by have := h.lt_ hx; omega
theorem Hp.addNew2 (h : Hp w0 w L) (hE : Ext w w') {g g' : Nat} {l l' : List Int} (ha : Arr w' g 25 l) (hl : l.length = 64) (hg : w.heap.size ≤ g) (ha' : Arr w' g' 25 l') (hl' : l'.length = 64) (hg' : w.heap.size ≤ g') (hne : g ≠ g') : Hp w0 w' ((g', l') :: (g, l) :: L) :=
  (h.addNew hE ha hl hg).add ha' hl' (Nat.le_trans h.ext.size hg') fun x hx => by
    rcases List.mem_cons.1 hx with rfl | hx
    · exact hne
    · have := h.lt_ hx; omega
theorem Hp.tail {x : Nat × List Int} (h : Hp w0 w (x :: L)) : Hp w0 w L :=
  ⟨h.ext, fun y hy => h.arr y (List.mem_cons_of_mem _ hy), fun y hy => h.len y (List.mem_cons_of_mem _ hy), fun y hy => h.low y (List.mem_cons_of_mem _ hy), (List.nodup_cons.1 h.nd).2⟩
theorem Hp.drop : ∀ (n : Nat) {L : List (Nat × List Int)}, Hp w0 w L → Hp w0 w (L.drop n)
  | 0, _, h => h
  | n + 1, [], h => h
  | n + 1, x :: L, h => Hp.drop n h.tail
theorem Hp.alloc (h : Hp w0 w L) {l : List Int} (hl : l.length = 64) : Hp w0 (w.alloc (.cells (u8s l) 25)) ((w.heap.size, l) :: L) :=
  h.addNew ((Ext.refl w).alloc _) (Arr.new _ _ _) hl (Nat.le_refl _)
theorem nodup_apart {L : List (Nat × List Int)} (hn : (L.map (·.1)).Nodup) {i j : Nat} {x y : Nat × List Int} (hi : L[i]? = some x) (hj : L[j]? = some y) (hne : i ≠ j) : x.1 ≠ y.1 := by
  intro e
  have h1 : (L.map (·.1))[i]? = some x.1 := by simp [hi]
  have h2 : (L.map (·.1))[j]? = some x.1 := by simp [hj, e]
  have hl := (List.getElem?_eq_some_iff.1 h1).1
  exact hne ((List.getElem?_inj hl hn).1 (h1.trans h2.symm))
/-- What one block holds has turned. -/
theorem Hp.put (h : Hp w0 w L) (i : Nat) {g : Nat} {old l : List Int} (hi : L[i]? = some (g, old)) (hl : l.length = 64) (hg : w.grownBy w' (some g)) (ha : Arr w' g 25 l) : Hp w0 w' (L.set i (g, l)) := by
  have hil := (List.getElem?_eq_some_iff.1 hi).1
  have key : ∀ x ∈ L.set i (g, l), x = (g, l) ∨ (x ∈ L ∧ x.1 ≠ g) := fun x hx => by
    obtain ⟨j, hj, rfl⟩ := List.mem_iff_getElem.1 hx
    rw [List.getElem_set]
    by_cases e : i = j
    · rw [if_pos e]; exact .inl rfl
    · rw [if_neg e]
      have hj' : j < L.length := by simpa using hj
      exact .inr ⟨List.getElem_mem _, nodup_apart h.nd (List.getElem?_eq_getElem hj') hi (Ne.symm e)⟩
  refine ⟨h.ext.grown hg (h.low_ i hi), fun x hx => ?_, fun x hx => ?_, fun x hx => ?_, ?_⟩
  · rcases key x hx with rfl | ⟨h1, h2⟩
    · exact ha
    · exact (h.arr x h1).grown hg h2
  · rcases key x hx with rfl | ⟨h1, _⟩
    · exact hl
    · exact h.len x h1
  · rcases key x hx with rfl | ⟨h1, _⟩
    · exact h.low_ i hi
    · exact h.low x h1
  · have : (L.set i (g, l)).map (·.1) = L.map (·.1) := by
      rw [List.map_set]
      apply List.ext_getElem?
      intro j
      rw [List.getElem?_set]
      split
      · rename_i e
        subst e
        have h2 := (List.getElem?_eq_some_iff.1 hi).2
        simp [hil, h2]
      · rfl
    rw [this]; exact h.nd
theorem Hp.setCell (h : Hp w0 w L) (i : Nat) {g : Nat} {l : List Int} (hi : L[i]? = some (g, l)) (j : Nat) (x : Int) : Hp w0 (w.setCell ⟨g, j, none⟩ (.int .u8 x)) (L.set i (g, l.set j x)) :=
  h.put i hi (by rw [List.length_set]; exact h.len_ i hi) ⟨rfl, rfl, rfl, by simp [World.setCell], fun k _ hk => heap_setCell_other w _ k _ (fun e => hk (by rw [e]))⟩ ((h.at_ i hi).set j x)
theorem Hp.drew (h : Hp w0 w L) : Hp w0 w.drew L := h.next (Ext.refl w).drew
theorem Hp.two (h : Hp w0 w L) {p q : Nat} {lp lq a b : List Int} (i j : Nat) (hi : L[i]? = some (p, lp)) (hj : L[j]? = some (q, lq)) (hij : i ≠ j) (ha : a.length = 64) (hb : b.length = 64) (t : Two w w' p q) (P : Arr w' p 25 a) (Q : Arr w' q 25 b) : Ext w0 w' :=
  t.ext h.ext (h.low_ i hi) (h.low_ j hj)
end

section
variable {ops : Array Oper} {rest : List Oper} {o : Oper} {a : Act} {w0 w : World} {Q : Exit → Act → World → Prop} {L : List (Nat × List Int)}
theorem hpLoad (i : Nat) {x : Operand} {g : Nat} {l : List Int} (F : Hp w0 w L) (ho : o.op = .load 25 x) (hgd : o.guard = none) (hx : a.eval x = .pointer (some ⟨g, 0, none⟩)) (hi : L[i]? = some (g, l))
    (h : wpList Tryz.prog ops Q rest (a.put o.dst (.agg (u8s l))) w) : wpList Tryz.prog ops Q (o :: rest) a w :=
  wplL x ho hgd (F.at_ i hi) hx (F.len_ i hi) h
theorem hpStore (i : Nat) {x y : Operand} {g : Nat} {old l : List Int} (F : Hp w0 w L) (ho : o.op = .store 25 x y) (hgd : o.guard = none) (hx : a.eval x = .pointer (some ⟨g, 0, none⟩)) (hy : a.eval y = .agg (u8s l)) (hi : L[i]? = some (g, old)) (hl : l.length = 64)
    (h : ∀ w', Hp w0 w' (L.set i (g, l)) → wpList Tryz.prog ops Q rest (a.put o.dst undef) w') : wpList Tryz.prog ops Q (o :: rest) a w :=
  wplW x y ho hgd (F.at_ i hi) hx hy (F.len_ i hi) hl fun w' hg _ ha => h w' (F.put i hi hl hg ha)
theorem zeroPoly : (Tryz.prog.info? 25).map (·.zero) = some (some (.agg (u8s zeros64))) := by kernel_rfl
theorem run_zeroPoly (w : World) : (zeroValue 25).run Tryz.prog w = .ok (.agg (u8s zeros64)) w := by
  have h := zeroPoly
  cases hi : Tryz.prog.info? 25 with
  | none => rw [hi] at h; cases h
  | some i =>
    rw [hi] at h
    have hz : i.zero = some (.agg (u8s zeros64)) := by simpa using h
    simp [zeroValue, typeInfo, hi, hz]
theorem hpAlloc (F : Hp w0 w L) (ho : o.op = .alloc 25) (hgd : o.guard = none)
    (h : ∀ g w', Hp w0 w' ((g, zeros64) :: L) → wpList Tryz.prog ops Q rest (a.put o.dst (.pointer (some ⟨g, 0, none⟩))) w') : wpList Tryz.prog ops Q (o :: rest) a w :=
  wpList_plain hgd fun K hK => by
    unfold Oper.wp execOp
    have hz := run_zeroPoly w
    simp only [ho, Instr.alloc, newVar, newRow, newObj, Sem.run_bind, Sem.run_pure, hz, Result.andThen_ok, Value.cells]
    exact hK _ _ (h _ _ (F.alloc zeros64_length))
theorem hpBox {x : Operand} {l : List Int} (F : Hp w0 w L) (ho : o.op = .box 25 x) (hgd : o.guard = none) (hx : a.eval x = .agg (u8s l)) (hl : l.length = 64)
    (h : ∀ g w', Hp w0 w' ((g, l) :: L) → wpList Tryz.prog ops Q rest (a.put o.dst (.pointer (some ⟨g, 0, none⟩))) w') : wpList Tryz.prog ops Q (o :: rest) a w :=
  wpList_plain hgd fun K hK => by
    unfold Oper.wp execOp
    simp only [ho, hx, Instr.box, newVar, newRow, newObj, Sem.run_bind, Sem.run_pure, Result.andThen_ok, Value.cells]
    exact hK _ _ (h _ _ (F.alloc hl))
/-- One block's array is exchanged. -/
inductive Upd (g : Nat) (l : List Int) : List (Nat × List Int) → List (Nat × List Int) → Prop
  | head {o : List Int} {r : List (Nat × List Int)} : Upd g l ((g, o) :: r) ((g, l) :: r)
  | tail {x : Nat × List Int} {r r' : List (Nat × List Int)} : Upd g l r r' → Upd g l (x :: r) (x :: r')
theorem Upd.set {g : Nat} {l : List Int} {L L' : List (Nat × List Int)} (h : Upd g l L L') : ∃ (i : Nat) (o : List Int), L[i]? = some (g, o) ∧ L' = L.set i (g, l) := by
  induction h with
  | head => exact ⟨0, _, rfl, rfl⟩
  | tail _ ih =>
    obtain ⟨i, o, h1, h2⟩ := ih
    exact ⟨i + 1, o, by simpa using h1, by rw [h2, List.set_cons_succ]⟩
inductive Has (g : Nat) (l : List Int) : List (Nat × List Int) → Prop
  | head {r : List (Nat × List Int)} : Has g l ((g, l) :: r)
  | tail {x : Nat × List Int} {r : List (Nat × List Int)} : Has g l r → Has g l (x :: r)
theorem Has.get {g : Nat} {l : List Int} {L : List (Nat × List Int)} (h : Has g l L) : ∃ i : Nat, L[i]? = some (g, l) := by
  induction h with
  | head => exact ⟨0, rfl⟩
  | tail _ ih =>
    obtain ⟨i, h1⟩ := ih
    exact ⟨i + 1, by simpa using h1⟩
theorem hpLd {x : Operand} {g : Nat} {l : List Int} (F : Hp w0 w L) (ho : o.op = .load 25 x) (hw : Region.wanted o (yielded ops a.tmps) = true) (hx : a.eval x = .pointer (some ⟨g, 0, none⟩)) (hi : Has g l L)
    (h : wpList Tryz.prog ops Q rest (a.put o.dst (.agg (u8s l))) w) : wpList Tryz.prog ops Q (o :: rest) a w := by
  obtain ⟨i, hi⟩ := hi.get
  unfold wpList
  rw [if_pos hw]
  exact .inl (wp_load_row _ x ho g hx _ _ (0, 0) _ (F.at_ i hi) Tryz.underlying25 rfl (by rw [infoPoly, u8s_size, F.len_ i hi]) h)
theorem hpSt {L' : List (Nat × List Int)} {x y : Operand} {g : Nat} {l : List Int} (F : Hp w0 w L) (ho : o.op = .store 25 x y) (hgd : o.guard = none) (hx : a.eval x = .pointer (some ⟨g, 0, none⟩)) (hy : a.eval y = .agg (u8s l)) (hu : Upd g l L L') (hl : l.length = 64)
    (h : ∀ w', Hp w0 w' L' → wpList Tryz.prog ops Q rest (a.put o.dst undef) w') : wpList Tryz.prog ops Q (o :: rest) a w := by
  obtain ⟨i, old, hi, rfl⟩ := hu.set
  exact hpStore i F ho hgd hx hy hi hl h
end

theorem l01Times_ok (p : Int) (a b : List Int) (hp : PrimeP p) (ha : Can p a) (hb : Can p b) (la : a.length ≤ 64) (lb : b.length ≤ 64) (h : a.length = 0 ∨ b.length = 0 ∨ a.length + b.length ≤ 65) (w : World) :
    Calls Tryz.prog 112 #[.int .i64 p, .agg (u8s (pad a)), .agg (u8s (pad b))] w fun e w' => e = .returned (.tuple #[.agg (u8s (pad (mulr p a b))), .bool true]) ∧ Ext w w' :=
  (l01Times_any p a b hp ha hb la lb w).mono fun _ _ ⟨h1, h2⟩ => ⟨by rw [h1]; unfold timesV; rw [if_pos h], h2⟩
theorem sAdd_pad (p : Int) (a b : List Int) (k : Int) (la : a.length ≤ 64) (lb : b.length ≤ 64) : sAdd p (pad a) (pad b) k = pad (comb p a b k) :=
  tab_congr fun j _ => by rw [at0_pad a la, at0_pad b lb, at0_comb]
theorem l01Add_pad (p k : Int) (a b : List Int) (hp : PrimeP p) (ha : Can p a) (hb : Can p b) (la : a.length ≤ 64) (lb : b.length ≤ 64) (hk : -1000 ≤ k) (hk2 : k ≤ 1000) (w : World) :
    Calls Tryz.prog 50 #[.int .i64 p, .agg (u8s (pad a)), .agg (u8s (pad b)), .int .i64 k] w fun e w' => e = .returned (.agg (u8s (pad (comb p a b k)))) ∧ Ext w w' := by
  have lo := hp.lo
  have hi := hp.hi
  refine (l01Add_any p k (pad a) (pad b) (pad_length a) (pad_length b) lo hi hk hk2 ((ha.inp.pad (by omega)).b (by omega)) ((hb.inp.pad (by omega)).b (by omega)) w).mono fun _ _ ⟨h1, h2⟩ => ⟨by rw [h1, sAdd_pad p a b k la lb], h2⟩
theorem l01Add_zero (p k : Int) (b : List Int) (hp : PrimeP p) (hb : Can p b) (lb : b.length ≤ 64) (hk : -1000 ≤ k) (hk2 : k ≤ 1000) (w : World) :
    Calls Tryz.prog 50 #[.int .i64 p, .agg (u8s zeros64), .agg (u8s (pad b)), .int .i64 k] w fun e w' => e = .returned (.agg (u8s (pad (comb p [] b k)))) ∧ Ext w w' := by
  rw [← pad_nil]
  exact l01Add_pad p k [] b hp (can_nil (by have := hp.lo; omega)) hb (by simp) lb hk hk2 w

end Go.Proofs.YtaemiknaiccijaaGreat
