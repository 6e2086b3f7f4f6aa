/- Lemmas and contracts of functions, for the laws: Words and small laws on lists of numbers and on memory: arrays of bytes, rows of whole numbers, and what stays of them when memory grows. -/
import Derived.WalkKit
import Derived.WalkSpells
import Derived.WalkLawsBesides
import Derived.Lib.Hide
import Derived.Test.YtaemiknaiccijaaGreatProg
import Derived.StillTailTactics
import Derived.BigQuiet
import Derived.Deep.QuietTactic
import Derived.KernelRfl
set_option linter.unusedVariables false
set_option linter.unusedSimpArgs false
namespace Go.Proofs.YtaemiknaiccijaaGreat
open Go.RowKit

/-! ### lists -/
def at0 (l : List Int) (j : Nat) : Int := l.getD j 0
def tab (n : Nat) (f : Nat → Int) : List Int := (List.range n).map f
theorem tab_length (n : Nat) (f : Nat → Int) : (tab n f).length = n := by simp [tab]
theorem at0_tab (n : Nat) (f : Nat → Int) (j : Nat) : at0 (tab n f) j = if j < n then f j else 0 := by
  unfold at0 tab
  by_cases h : j < n <;> simp [h]
theorem at0_tab_lt {n j : Nat} (f : Nat → Int) (h : j < n) : at0 (tab n f) j = f j := by rw [at0_tab, if_pos h]
theorem at0_out (l : List Int) (j : Nat) (h : l.length ≤ j) : at0 l j = 0 := by simp [at0, h]
theorem at0_nil (j : Nat) : at0 [] j = 0 := rfl
theorem list_ext0 {a b : List Int} (hl : a.length = b.length) (h : ∀ j, j < a.length → at0 a j = at0 b j) : a = b := by
  apply List.ext_getElem hl
  intro i h1 h2
  have := h i h1
  simpa [at0, h1, h2] using this
theorem eq_tab {l : List Int} {n : Nat} {f : Nat → Int} (hl : l.length = n) (h : ∀ j, j < n → at0 l j = f j) : l = tab n f := by
  refine list_ext0 (by rw [hl, tab_length]) fun j hj => ?_
  rw [h j (by omega), at0_tab_lt f (by omega)]
theorem tab_congr {n : Nat} {f g : Nat → Int} (h : ∀ j, j < n → f j = g j) : tab n f = tab n g :=
  eq_tab (tab_length n f) fun j hj => by rw [at0_tab_lt f hj, h j hj]
theorem tab_self (l : List Int) : tab l.length (at0 l) = l := (eq_tab rfl fun _ _ => rfl).symm
theorem tab_self' {l : List Int} {n : Nat} (h : l.length = n) : tab n (at0 l) = l := by rw [← h, tab_self]
theorem at0_set (l : List Int) (i j : Nat) (x : Int) : at0 (l.set i x) j = if i = j ∧ j < l.length then x else at0 l j := by
  unfold at0
  by_cases h : i = j
  · subst h
    by_cases h2 : i < l.length <;> simp [h2]
  · simp [h]
theorem tab_set (n i : Nat) (f : Nat → Int) (x : Int) (_h : i < n) : (tab n f).set i x = tab n fun j => if j = i then x else f j := by
  refine eq_tab (by simp [tab_length]) fun j hj => ?_
  rw [at0_set, tab_length]
  by_cases e : i = j
  · subst e; simp [hj]
  · rw [if_neg (by omega), if_neg (by omega), at0_tab_lt f hj]
theorem at0_append_lt (a b : List Int) (j : Nat) (h : j < a.length) : at0 (a ++ b) j = at0 a j := by simp [at0, List.getElem?_append_left h]
theorem at0_append_ge (a b : List Int) (j : Nat) (h : a.length ≤ j) : at0 (a ++ b) j = at0 b (j - a.length) := by simp [at0, List.getElem?_append_right h]
theorem at0_take (l : List Int) (n j : Nat) : at0 (l.take n) j = if j < n then at0 l j else 0 := by
  unfold at0
  by_cases h : j < n <;> simp [List.getElem?_take, h]
theorem at0_replicate (n j : Nat) (x : Int) : at0 (List.replicate n x) j = if j < n then x else 0 := by
  unfold at0
  by_cases h : j < n <;> simp [h]
theorem replicate_tab (n : Nat) (x : Int) : List.replicate n x = tab n fun _ => x :=
  eq_tab (by simp) fun j hj => by rw [at0_replicate, if_pos hj]
theorem tab_succ (n : Nat) (f : Nat → Int) : tab (n + 1) f = tab n f ++ [f n] := by simp [tab, List.range_succ]
theorem tab_zero (f : Nat → Int) : tab 0 f = [] := rfl

/-! ### values -/
def u8s (l : List Int) : Array Value := (l.map (Value.int .u8)).toArray
def i64s (l : List Int) : Array Value := (l.map (Value.int .i64)).toArray
theorem u8s_size (l : List Int) : (u8s l).size = l.length := by simp [u8s]
theorem i64s_size (l : List Int) : (i64s l).size = l.length := by simp [i64s]
theorem u8s_get (l : List Int) (j : Nat) (h : j < l.length) : (u8s l)[j]? = some (.int .u8 (at0 l j)) := by simp [u8s, at0, h]
theorem i64s_get (l : List Int) (j : Nat) (h : j < l.length) : (i64s l)[j]? = some (.int .i64 (at0 l j)) := by simp [i64s, at0, h]
theorem u8s_set (l : List Int) (j : Nat) (x : Int) : (u8s l).setIfInBounds j (.int .u8 x) = u8s (l.set j x) := by simp [u8s]
theorem i64s_set (l : List Int) (j : Nat) (x : Int) : (i64s l).setIfInBounds j (.int .i64 x) = i64s (l.set j x) := by simp [i64s]
def zeros64 : List Int := List.replicate 64 0
theorem zeros64_length : zeros64.length = 64 := by simp [zeros64]
theorem zeros64_tab : zeros64 = tab 64 fun _ => 0 := replicate_tab _ _
theorem at0_zeros64 (j : Nat) : at0 zeros64 j = 0 := by rw [zeros64, at0_replicate]; split <;> rfl

/-! ### memory -/
/-- Block g is an array of bytes. -/
def Arr (w : World) (g : Nat) (T : TypeId) (l : List Int) : Prop := w.heap[g]? = some (.cells (u8s l) T (0, 0))
/-- Block g is a row of whole numbers. -/
def Ints (w : World) (g : Nat) (T : TypeId) (l : List Int) : Prop := w.heap[g]? = some (.cells (i64s l) T (0, 0))
/-- A block of whole numbers. -/
def IntBlk (w : World) (g : Nat) : Prop := ∃ cs fr, w.heap[g]? = some (.cells cs 2 fr)
/-- A slice of whole numbers, at A, reads as L. -/
structure RowAt (w : World) (A : Option Addr) (L : List Int) : Prop where
  le1 : L.length ≤ 1000000
  at1 : 0 < L.length → ∃ b o, A = some ⟨b, o, none⟩ ∧ ∀ j, j < L.length → w.cell? ⟨b, o + j, none⟩ = some (.int .i64 (at0 L j))
  ib : ∀ a, A = some a → 0 < L.length → IntBlk w a.block
/-- Whatever was there is there. -/
abbrev Ext (w w' : World) : Prop := Below w.heap.size w w'

section
variable {w w' : World} {g B : Nat} {T : TypeId} {l : List Int}
theorem Arr.lt (h : Arr w g T l) : g < w.heap.size := (Array.getElem?_eq_some_iff.1 h).1
theorem Arr.cell (h : Arr w g T l) (j : Nat) (hj : j < l.length) : w.cell? ⟨g, j, none⟩ = some (.int .u8 (at0 l j)) := by
  rw [cell_of_row _ _ _ _ _ _ h, u8s_get l j hj]
theorem Arr.free (h : Arr w g T l) (j : Nat) : w.frozen? ⟨g, j, none⟩ = false := frozen_of_row _ _ _ _ _ h
theorem Arr.below (h : Arr w g T l) (hb : Below B w w') (hg : g < B) : Arr w' g T l := (hb.block g hg).trans h
theorem Arr.ext (h : Arr w g T l) (hb : Ext w w') : Arr w' g T l := h.below hb h.lt
theorem Arr.drew (h : Arr w g T l) : Arr w.drew g T l := h
theorem Arr.new (w : World) (T : TypeId) (l : List Int) : Arr (w.alloc (.cells (u8s l) T)) w.heap.size T l := heap_alloc_new w _
theorem Arr.alloc (h : Arr w g T l) (o : Obj) : Arr (w.alloc o) g T l := (Below.heap_alloc w o g h.lt).trans h
theorem Arr.set (h : Arr w g T l) (i : Nat) (x : Int) : Arr (w.setCell ⟨g, i, none⟩ (.int .u8 x)) g T (l.set i x) := by
  unfold Arr
  rw [heap_setCell_same w g i _ T _ h, u8s_set]
theorem Arr.other (h : Arr w g T l) {a : Addr} {v : Value} (hne : g ≠ a.block) : Arr (w.setCell a v) g T l := (heap_setCell_other w a g v hne).trans h
theorem IntBlk.lt (h : IntBlk w g) : g < w.heap.size := by obtain ⟨_, _, h⟩ := h; exact (Array.getElem?_eq_some_iff.1 h).1
theorem IntBlk.ext (h : IntBlk w g) (hE : Ext w w') : IntBlk w' g := by
  have hl := h.lt
  obtain ⟨cs, fr, h⟩ := h
  exact ⟨cs, fr, (hE.block g hl).trans h⟩
theorem Ints.lt (h : Ints w g T l) : g < w.heap.size := (Array.getElem?_eq_some_iff.1 h).1
theorem Ints.cell (h : Ints w g T l) (j : Nat) (hj : j < l.length) : w.cell? ⟨g, j, none⟩ = some (.int .i64 (at0 l j)) := by
  rw [cell_of_row _ _ _ _ _ _ h, i64s_get l j hj]
theorem Ints.free (h : Ints w g T l) (j : Nat) : w.frozen? ⟨g, j, none⟩ = false := frozen_of_row _ _ _ _ _ h
theorem Ints.below (h : Ints w g T l) (hb : Below B w w') (hg : g < B) : Ints w' g T l := (hb.block g hg).trans h
theorem Ints.ext (h : Ints w g T l) (hb : Ext w w') : Ints w' g T l := h.below hb h.lt
theorem Ints.drew (h : Ints w g T l) : Ints w.drew g T l := h
theorem Ints.new (w : World) (T : TypeId) (l : List Int) : Ints (w.alloc (.cells (i64s l) T)) w.heap.size T l := heap_alloc_new w _
theorem Ints.alloc (h : Ints w g T l) (o : Obj) : Ints (w.alloc o) g T l := (Below.heap_alloc w o g h.lt).trans h
theorem Ints.set (h : Ints w g T l) (i : Nat) (x : Int) : Ints (w.setCell ⟨g, i, none⟩ (.int .i64 x)) g T (l.set i x) := by
  unfold Ints
  rw [heap_setCell_same w g i _ T _ h, i64s_set]
theorem Ints.other (h : Ints w g T l) {a : Addr} {v : Value} (hne : g ≠ a.block) : Ints (w.setCell a v) g T l := (heap_setCell_other w a g v hne).trans h
/-- The head of a row is a slice that reads. -/
theorem Ints.row (h : Ints w g 2 l) (n : Nat) (hn : n ≤ l.length) (hm : l.length ≤ 1000000) : RowAt w (some ⟨g, 0, none⟩) (l.take n) := by
  have e : (l.take n).length = n := by simp; omega
  refine ⟨by omega, fun _ => ⟨g, 0, rfl, fun j hj => ?_⟩, fun a ha _ => by cases ha; exact ⟨_, _, h⟩⟩
  rw [Nat.zero_add, h.cell j (by omega), at0_take, if_pos (by omega)]
theorem Ints.row' (h : Ints w g 2 l) (hm : l.length ≤ 1000000) : RowAt w (some ⟨g, 0, none⟩) l := by
  have := h.row l.length (Nat.le_refl _) hm
  rwa [List.take_length] at this
end
section
variable {w w' : World} {A : Option Addr} {L : List Int}
theorem RowAt.below (h : RowAt w A L) (hb : Ext w w') : RowAt w' A L :=
  ⟨h.1, fun hn => by
    obtain ⟨b, o, e, hc⟩ := h.2 hn
    exact ⟨b, o, e, fun j hj => (hb.cell (World.block_lt_of_cell? w _ (hc j hj))).trans (hc j hj)⟩, fun a ha hn => (h.ib a ha hn).ext hb⟩
theorem RowAt.nil (w : World) (A : Option Addr) : RowAt w A [] := ⟨by simp, fun h => absurd h (by simp), fun _ _ h => absurd h (by simp)⟩
theorem RowAt.drew (h : RowAt w A L) : RowAt w.drew A L := ⟨h.1, h.2, h.3⟩
theorem RowAt.le (h : RowAt w A L) : L.length ≤ 1000000 := h.1
theorem RowAt.place (h : RowAt w A L) (hn : 0 < L.length) : ∃ b o, A = some ⟨b, o, none⟩ ∧ b < w.heap.size ∧ ∀ j, j < L.length → w.cell? ⟨b, o + j, none⟩ = some (.int .i64 (at0 L j)) := by
  obtain ⟨b, o, e, hc⟩ := h.2 hn
  exact ⟨b, o, e, World.block_lt_of_cell? w _ (hc 0 hn), hc⟩
theorem RowAt.take (h : RowAt w A L) (n : Nat) (hn : n ≤ L.length) : RowAt w A (L.take n) := by
  have e : (L.take n).length = n := by simp; omega
  refine ⟨by have := h.1; omega, fun hp => ?_, fun a ha hn => h.ib a ha (by omega)⟩
  obtain ⟨b, o, e', hc⟩ := h.2 (by omega)
  exact ⟨b, o, e', fun j hj => by rw [hc j (by omega), at0_take, if_pos (by omega)]⟩
end
theorem Ext.refl (w : World) : Ext w w := Below.refl _ _
theorem Ext.tr {a b c : World} (h : Ext a b) (k : Ext b c) : Ext a c := h.trans (k.mono h.size)
theorem Ext.drew {a w : World} (h : Ext a w) : Ext a w.drew := Below.drew h
theorem Ext.alloc {a w : World} (h : Ext a w) (o : Obj) : Ext a (w.alloc o) := Below.alloc h h.size o
theorem Ext.set {a w : World} (h : Ext a w) {p : Addr} (hp : a.heap.size ≤ p.block) (u : Value) : Ext a (w.setCell p u) := Below.setCell h hp u
/-- A store anywhere at or above B, seen from below B. -/
theorem bset {B : Nat} {a w : World} (h : Below B a w) {p : Addr} (hp : B ≤ p.block) (u : Value) : Below B a (w.setCell p u) := Below.setCell h hp u
theorem bext {B : Nat} {a w w' : World} (h : Below B a w) (hB : B ≤ w.heap.size) (k : Ext w w') : Below B a w' := h.trans (k.mono hB)

/-! ### numbers -/
theorem tmodB (x p : Int) (hp : 2 ≤ p) (hp2 : p ≤ 7) : -6 ≤ x.tmod p ∧ x.tmod p ≤ 6 := by
  have h1 := Int.tmod_lt_of_pos x (show 0 < p by omega)
  have h2 := Int.lt_tmod_of_pos x (show 0 < p by omega)
  omega
theorem mulB {k b K C : Int} (hK : 0 ≤ K) (h1 : -K ≤ k) (h2 : k ≤ K) (h3 : 0 ≤ b) (h4 : b ≤ C) : -(K * C) ≤ k * b ∧ k * b ≤ K * C := by
  have a1 : k * b ≤ K * b := Int.mul_le_mul_of_nonneg_right h2 h3
  have a2 : -K * b ≤ k * b := Int.mul_le_mul_of_nonneg_right h1 h3
  have a3 : K * b ≤ K * C := Int.mul_le_mul_of_nonneg_left h4 hK
  have a4 : -K * b = -(K * b) := Int.neg_mul ..
  omega
theorem emod_range (x p : Int) (hp : 0 < p) : 0 ≤ x % p ∧ x % p < p := ⟨Int.emod_nonneg _ (by omega), Int.emod_lt_of_pos _ hp⟩
/-- Go's (x % p + p) % p is the remainder of mathematics. -/
theorem go_mod (x p : Int) (hp : 0 < p) : (x.tmod p + p).tmod p = x % p := by
  have h1 := Int.tmod_lt_of_pos x hp
  have h2 := Int.lt_tmod_of_pos x hp
  rw [Int.tmod_eq_emod_of_nonneg (by omega), Int.add_emod_right]
  rw [Int.tmod_eq_emod]
  split
  · simp
  · rw [Int.natAbs_of_nonneg (by omega), Int.sub_emod]; simp
/-- The remainders that a polynomial has as its coefficients. -/
def InP (p : Int) (l : List Int) : Prop := ∀ j, 0 ≤ at0 l j ∧ at0 l j < p
def IsB (l : List Int) : Prop := ∀ j, 0 ≤ at0 l j ∧ at0 l j ≤ 255
def PrimeP (p : Int) : Prop := p = 2 ∨ p = 3 ∨ p = 5 ∨ p = 7
theorem PrimeP.lo {p : Int} (h : PrimeP p) : 2 ≤ p := by unfold PrimeP at h; omega
theorem PrimeP.hi {p : Int} (h : PrimeP p) : p ≤ 7 := by unfold PrimeP at h; omega
theorem InP.b {p : Int} {l : List Int} (h : InP p l) (hp : p ≤ 256) : IsB l := fun j => ⟨(h j).1, by have := (h j).2; omega⟩
theorem InP.tab {p : Int} {n : Nat} {f : Nat → Int} (hp : 0 < p) (h : ∀ j, j < n → 0 ≤ f j ∧ f j < p) : InP p (tab n f) := fun j => by
  rw [at0_tab]; split
  · exact h j ‹_›
  · exact ⟨Int.le_refl _, hp⟩
theorem InP.nil {p : Int} (hp : 0 < p) : InP p [] := fun j => by rw [at0_nil]; exact ⟨Int.le_refl _, hp⟩
theorem IsB.tab {n : Nat} {f : Nat → Int} (h : ∀ j, j < n → 0 ≤ f j ∧ f j ≤ 255) : IsB (tab n f) := fun j => by
  rw [at0_tab]; split
  · exact h j ‹_›
  · exact ⟨Int.le_refl _, by omega⟩

theorem ret_int {k : IntKind} {a b : Int} (h : a = b) : Ending.returned (.int k a) = .returned (.int k b) := by rw [h]
theorem ret_bool {a b : Bool} (h : a = b) : Ending.returned (.bool a) = .returned (.bool b) := by rw [h]
theorem ret_agg {a b : List Int} (h : a = b) : Ending.returned (.agg (u8s a)) = .returned (.agg (u8s b)) := by rw [h]

end Go.Proofs.YtaemiknaiccijaaGreat

/- Rows of coefficients without superfluous zeros: sums, products, quotients and rests, as functions on lists. No program in sight. -/
namespace Go.Proofs.YtaemiknaiccijaaGreat

/-- How many of the first n coefficients there are up to the last that is not 0. -/
def rlen (f : Nat → Int) : Nat → Nat
  | 0 => 0
  | n + 1 => if f n = 0 then rlen f n else n + 1
def rowN (n : Nat) (f : Nat → Int) : List Int := tab (rlen f n) f
def trim (l : List Int) : List Int := rowN l.length (at0 l)
def pad (l : List Int) : List Int := tab 64 (at0 l)
/-- No superfluous zeros. -/
def NZ (l : List Int) : Prop := ∀ n, l.length = n + 1 → at0 l n ≠ 0
structure Can (p : Int) (l : List Int) : Prop where
  inp : InP p l
  nz : NZ l

theorem rlen_le (f : Nat → Int) : ∀ n, rlen f n ≤ n
  | 0 => Nat.le_refl _
  | n + 1 => by
    unfold rlen
    split
    · have := rlen_le f n; omega
    · omega
theorem rlen_zero (f : Nat → Int) : ∀ n j, rlen f n ≤ j → j < n → f j = 0
  | 0, j, _, h => absurd h (by omega)
  | n + 1, j, h1, h2 => by
    unfold rlen at h1
    split at h1
    · rename_i h0
      by_cases e : j = n
      · rw [e]; exact h0
      · exact rlen_zero f n j h1 (by omega)
    · omega
theorem rlen_last (f : Nat → Int) : ∀ n k, rlen f n = k + 1 → f k ≠ 0
  | 0, k, h => by simp [rlen] at h
  | n + 1, k, h => by
    unfold rlen at h
    split at h
    · exact rlen_last f n k h
    · rename_i h0
      have : n = k := by omega
      rw [← this]; exact h0
theorem rlen_congr {f g : Nat → Int} : ∀ n, (∀ j, j < n → f j = g j) → rlen f n = rlen g n
  | 0, _ => rfl
  | n + 1, h => by
    unfold rlen
    rw [h n (by omega), rlen_congr n fun j hj => h j (by omega)]
/-- Coefficients beyond that are 0 don't count. -/
theorem rlen_more (f : Nat → Int) (n m : Nat) (hnm : n ≤ m) (h : ∀ j, n ≤ j → j < m → f j = 0) : rlen f m = rlen f n := by
  induction m with
  | zero => have : n = 0 := by omega
            rw [this]
  | succ m ih =>
    by_cases e : n = m + 1
    · rw [e]
    · rw [rlen, if_pos (h m (by omega) (by omega)), ih (by omega) fun j h1 h2 => h j h1 (by omega)]
theorem rowN_length (n : Nat) (f : Nat → Int) : (rowN n f).length = rlen f n := tab_length _ _
theorem rowN_le (n : Nat) (f : Nat → Int) : (rowN n f).length ≤ n := by rw [rowN_length]; exact rlen_le f n
theorem at0_rowN (n : Nat) (f : Nat → Int) (j : Nat) : at0 (rowN n f) j = if j < n then f j else 0 := by
  unfold rowN
  rw [at0_tab]
  have := rlen_le f n
  by_cases h : j < rlen f n
  · rw [if_pos h, if_pos (by omega)]
  · rw [if_neg h]
    by_cases h2 : j < n
    · rw [if_pos h2, rlen_zero f n j (by omega) h2]
    · rw [if_neg h2]
theorem rowN_nz (n : Nat) (f : Nat → Int) : NZ (rowN n f) := fun k hk => by
  rw [rowN_length] at hk
  have h1 := rlen_last f n k hk
  have h2 := rlen_le f n
  rw [at0_rowN, if_pos (by omega)]
  exact h1
theorem nz_ext {a b : List Int} (ha : NZ a) (hb : NZ b) (h : ∀ j, at0 a j = at0 b j) : a = b := by
  have hl : a.length = b.length := by
    rcases Nat.lt_trichotomy a.length b.length with h1 | h1 | h1
    · have := hb (b.length - 1) (by omega)
      rw [← h, at0_out a _ (by omega)] at this
      exact absurd rfl this
    · exact h1
    · have := ha (a.length - 1) (by omega)
      rw [h, at0_out b _ (by omega)] at this
      exact absurd rfl this
  exact list_ext0 hl fun j _ => h j
theorem can_rowN {p : Int} (hp : 0 < p) {n : Nat} {f : Nat → Int} (h : ∀ j, j < n → 0 ≤ f j ∧ f j < p) : Can p (rowN n f) :=
  ⟨fun j => by rw [at0_rowN]; split; exact h j ‹_›; exact ⟨Int.le_refl _, hp⟩, rowN_nz n f⟩
theorem can_nil {p : Int} (hp : 0 < p) : Can p [] := ⟨InP.nil hp, fun n h => by simp at h⟩
theorem trim_nz (l : List Int) : NZ (trim l) := rowN_nz _ _
theorem at0_trim (l : List Int) (j : Nat) : at0 (trim l) j = at0 l j := by
  unfold trim
  rw [at0_rowN]
  split
  · rfl
  · rw [at0_out l j (by omega)]
theorem trim_self {l : List Int} (h : NZ l) : trim l = l := nz_ext (trim_nz l) h (at0_trim l)
theorem trim_le (l : List Int) : (trim l).length ≤ l.length := rowN_le _ _
theorem trim_take (l : List Int) : trim l = l.take (rlen (at0 l) l.length) := by
  have h := rlen_le (at0 l) l.length
  refine list_ext0 (by rw [trim, rowN_length]; simp; omega) fun j hj => ?_
  rw [at0_trim, at0_take, if_pos (by rw [trim, rowN_length] at hj; exact hj)]
theorem can_trim {p : Int} {l : List Int} (h : InP p l) : Can p (trim l) := ⟨fun j => by rw [at0_trim]; exact h j, trim_nz l⟩
theorem rowN_eq {n m : Nat} {f g : Nat → Int} (h : ∀ j, (if j < n then f j else 0) = if j < m then g j else 0) : rowN n f = rowN m g :=
  nz_ext (rowN_nz n f) (rowN_nz m g) fun j => by rw [at0_rowN, at0_rowN, h j]
theorem pad_length (l : List Int) : (pad l).length = 64 := tab_length _ _
theorem at0_pad (l : List Int) (h : l.length ≤ 64) (j : Nat) : at0 (pad l) j = at0 l j := by
  unfold pad
  rw [at0_tab]
  split
  · rfl
  · rw [at0_out l j (by omega)]
theorem pad_nil : pad [] = zeros64 := by rw [zeros64_tab]; exact tab_congr fun j _ => at0_nil j
theorem pad_eq {n : Nat} {f g : Nat → Int} (h : ∀ j, j < 64 → (if j < n then f j else 0) = g j) : pad (rowN n f) = tab 64 g :=
  tab_congr fun j hj => by rw [at0_rowN, h j hj]
theorem trim_pad {l : List Int} (hz : NZ l) (h : l.length ≤ 64) : trim (pad l) = l := nz_ext (trim_nz _) hz fun j => by rw [at0_trim, at0_pad l h]
theorem pad_trim {l : List Int} (h : l.length = 64) : pad (trim l) = l :=
  (tab_congr fun j _ => at0_trim l j).trans (tab_self' h)
theorem pad_inj {a b : List Int} (ha : NZ a) (hb : NZ b) (la : a.length ≤ 64) (lb : b.length ≤ 64) (h : pad a = pad b) : a = b := by
  rw [← trim_pad ha la, h, trim_pad hb lb]
theorem rlen_pad {l : List Int} (hz : NZ l) (h : l.length ≤ 64) : rlen (at0 (pad l)) 64 = l.length := by
  have := congrArg List.length (trim_pad hz h)
  rw [trim, rowN_length, pad_length] at this
  exact this
theorem InP.pad {p : Int} {l : List Int} (h : InP p l) (hp : 0 < p) : InP p (pad l) := InP.tab hp fun j _ => h j
theorem Can.last {p : Int} {l : List Int} (h : Can p l) (hne : 0 < l.length) : 1 ≤ at0 l (l.length - 1) ∧ at0 l (l.length - 1) < p := by
  have h1 := h.nz (l.length - 1) (by omega)
  have h2 := h.inp (l.length - 1)
  omega

/-! ### sums and multiples -/
def comb (p : Int) (a b : List Int) (t : Int) : List Int := rowN (max a.length b.length) fun j => (at0 a j + t * at0 b j) % p
theorem at0_comb {p : Int} (a b : List Int) (t : Int) (j : Nat) : at0 (comb p a b t) j = (at0 a j + t * at0 b j) % p := by
  unfold comb
  rw [at0_rowN]
  split
  · rfl
  · rw [at0_out a j (by omega), at0_out b j (by omega)]; simp
theorem comb_can {p : Int} (hp : 0 < p) (a b : List Int) (t : Int) : Can p (comb p a b t) := can_rowN hp fun _ _ => emod_range _ _ hp
theorem comb_le (p : Int) (a b : List Int) (t : Int) : (comb p a b t).length ≤ max a.length b.length := rowN_le _ _

/-! ### products -/
def sumN (n : Nat) (f : Nat → Int) : Int := match n with
  | 0 => 0
  | n + 1 => sumN n f + f n
def cpart (a b : Nat → Int) (i t : Nat) : Int := sumN i fun x => if x ≤ t then a x * b (t - x) else 0
theorem sumN_congr {f g : Nat → Int} : ∀ n, (∀ j, j < n → f j = g j) → sumN n f = sumN n g
  | 0, _ => rfl
  | n + 1, h => by rw [sumN, sumN, sumN_congr n fun j hj => h j (by omega), h n (by omega)]
theorem sumN_zero {f : Nat → Int} : ∀ n, (∀ j, j < n → f j = 0) → sumN n f = 0
  | 0, _ => rfl
  | n + 1, h => by rw [sumN, sumN_zero n fun j hj => h j (by omega), h n (by omega)]; rfl
theorem sumN_more {f : Nat → Int} (n m : Nat) (hnm : n ≤ m) (h : ∀ j, n ≤ j → j < m → f j = 0) : sumN m f = sumN n f := by
  induction m with
  | zero => have : n = 0 := by omega
            rw [this]
  | succ m ih =>
    by_cases e : n = m + 1
    · rw [e]
    · rw [sumN, h m (by omega) (by omega), ih (by omega) fun j h1 h2 => h j h1 (by omega)]; omega
/-- The coefficient of a product. -/
def cv (a b : List Int) (t : Nat) : Int := cpart (at0 a) (at0 b) a.length t
def mulr (p : Int) (a b : List Int) : List Int := rowN (a.length + b.length - 1) fun t => cv a b t % p
theorem cv_out (a b : List Int) (t : Nat) (h : a.length + b.length - 1 ≤ t) : cv a b t = 0 := by
  refine sumN_zero _ fun j hj => ?_
  split
  · rw [at0_out b (t - j) (by omega)]; simp
  · rfl
theorem at0_mulr {p : Int} (a b : List Int) (t : Nat) : at0 (mulr p a b) t = cv a b t % p := by
  unfold mulr
  rw [at0_rowN]
  split
  · rfl
  · rw [cv_out a b t (by omega)]; simp
theorem mulr_can {p : Int} (hp : 0 < p) (a b : List Int) : Can p (mulr p a b) := can_rowN hp fun _ _ => emod_range _ _ hp
theorem mulr_le (p : Int) (a b : List Int) : (mulr p a b).length ≤ a.length + b.length - 1 := rowN_le _ _
theorem mulr_nil_left (p : Int) (b : List Int) : mulr p [] b = [] := by
  refine nz_ext (rowN_nz _ _) (fun n h => by simp at h) fun j => ?_
  rw [at0_mulr, at0_nil]; simp [cv, cpart, sumN]
theorem mulr_nil_right (p : Int) (a : List Int) : mulr p a [] = [] := by
  refine nz_ext (rowN_nz _ _) (fun n h => by simp at h) fun j => ?_
  rw [at0_mulr, at0_nil]
  have : cv a [] j = 0 := sumN_zero _ fun i _ => by split <;> simp [at0_nil]
  rw [this]; simp

/-! ### the inverse of a number -/
def powm (p x : Int) : Nat → Int
  | 0 => 1
  | k + 1 => powm p x k * x % p
def invP (p x : Int) : Int := powm p x (p - 2).toNat
theorem invP_range {p x : Int} (hp : PrimeP p) : 0 ≤ invP p x ∧ invP p x < p := by
  unfold invP
  rcases hp with rfl | rfl | rfl | rfl
  · simp [powm]
  all_goals exact emod_range _ _ (by decide)
theorem invP_table : ∀ p ∈ [(2 : Int), 3, 5, 7], ∀ x ∈ [(1 : Int), 2, 3, 4, 5, 6], x < p → (invP p x * x % p = 1 ∧ ∀ k ∈ [(1 : Int), 2, 3, 4, 5, 6], k < p → k * x % p = 1 → k = invP p x) := by decide
theorem small_cases {x p : Int} (hp : PrimeP p) (h1 : 1 ≤ x) (h2 : x < p) : x ∈ [(1 : Int), 2, 3, 4, 5, 6] := by
  have := hp.hi
  have : x = 1 ∨ x = 2 ∨ x = 3 ∨ x = 4 ∨ x = 5 ∨ x = 6 := by omega
  simpa using this
theorem prime_mem {p : Int} (hp : PrimeP p) : p ∈ [(2 : Int), 3, 5, 7] := by simpa [PrimeP] using hp
theorem invP_mul {p x : Int} (hp : PrimeP p) (h1 : 1 ≤ x) (h2 : x < p) : invP p x * x % p = 1 := (invP_table p (prime_mem hp) x (small_cases hp h1 h2) h2).1
theorem invP_uniq {p x k : Int} (hp : PrimeP p) (h1 : 1 ≤ x) (h2 : x < p) (k1 : 1 ≤ k) (k2 : k < p) (hk : k * x % p = 1) : k = invP p x :=
  (invP_table p (prime_mem hp) x (small_cases hp h1 h2) h2).2 k (small_cases hp k1 k2) k2 hk
theorem invP_pos {p x : Int} (hp : PrimeP p) (h1 : 1 ≤ x) (h2 : x < p) : 1 ≤ invP p x := by
  have a := invP_mul hp h1 h2
  have b := (invP_range (x := x) hp).1
  rcases Int.lt_or_eq_of_le b with h | h
  · omega
  · rw [← h] at a; simp at a

/-! ### long division: coefficients as functions -/
def qd (p c : Int) (m : Nat) (a : Nat → Int) (s : Nat) : Int := a (s + m) * c % p
def dstep (p c : Int) (b : Nat → Int) (m : Nat) (a : Nat → Int) (s : Nat) : Nat → Int := fun t =>
  if s ≤ t ∧ t ≤ s + m then (a t - qd p c m a s * b (t - s)) % p else a t
def dR (p c : Int) (b : Nat → Int) (m : Nat) : Nat → (Nat → Int) → Nat → Int
  | 0, a => a
  | k + 1, a => dR p c b m k (dstep p c b m a k)
def dQ (p c : Int) (b : Nat → Int) (m : Nat) : Nat → (Nat → Int) → Nat → Int
  | 0, _ => fun _ => 0
  | k + 1, a => fun s => if s = k then qd p c m a k else dQ p c b m k (dstep p c b m a k) s
theorem dQ_same (p c : Int) (b : Nat → Int) (m k : Nat) (a : Nat → Int) : dQ p c b m (k + 1) a k = qd p c m a k := by
  show (if k = k then _ else _) = _
  rw [if_pos rfl]
theorem dQ_ne {p c : Int} {b : Nat → Int} {m k s : Nat} {a : Nat → Int} (h : s ≠ k) : dQ p c b m (k + 1) a s = dQ p c b m k (dstep p c b m a k) s := by
  show (if s = k then _ else _) = _
  rw [if_neg h]
/-- The steps of a division. -/
def dn (a b : List Int) : Nat := a.length + 1 - b.length
def lc (b : List Int) : Int := at0 b (b.length - 1)
def dq (p : Int) (a b : List Int) : List Int := rowN (dn a b) (dQ p (invP p (lc b)) (at0 b) (b.length - 1) (dn a b) (at0 a))
def dr (p : Int) (a b : List Int) : List Int := rowN a.length (dR p (invP p (lc b)) (at0 b) (b.length - 1) (dn a b) (at0 a))

theorem dstep_range {p c : Int} (hp : 0 < p) {b : Nat → Int} {m : Nat} {a : Nat → Int} {s : Nat} (h : ∀ t, 0 ≤ a t ∧ a t < p) : ∀ t, 0 ≤ dstep p c b m a s t ∧ dstep p c b m a s t < p := by
  intro t; unfold dstep; split
  · exact emod_range _ _ hp
  · exact h t
theorem dR_range {p c : Int} (hp : 0 < p) {b : Nat → Int} {m : Nat} : ∀ k {a : Nat → Int}, (∀ t, 0 ≤ a t ∧ a t < p) → ∀ t, 0 ≤ dR p c b m k a t ∧ dR p c b m k a t < p
  | 0, _, h => h
  | k + 1, _, h => dR_range hp k (dstep_range hp h)
theorem dQ_range {p c : Int} (hp : 0 < p) {b : Nat → Int} {m : Nat} : ∀ k {a : Nat → Int}, ∀ t, 0 ≤ dQ p c b m k a t ∧ dQ p c b m k a t < p
  | 0, _ => fun _ => ⟨Int.le_refl _, hp⟩
  | k + 1, _ => fun t => by
    unfold dQ; split
    · exact emod_range _ _ hp
    · exact dQ_range hp k t
theorem dQ_out {p c : Int} {b : Nat → Int} {m : Nat} : ∀ k {a : Nat → Int} t, k ≤ t → dQ p c b m k a t = 0
  | 0, _, _, _ => rfl
  | k + 1, _, t, h => by unfold dQ; rw [if_neg (by omega), dQ_out k t (by omega)]
theorem dR_out {p c : Int} {b : Nat → Int} {m : Nat} : ∀ k {a : Nat → Int} t, k + m ≤ t → dR p c b m k a t = a t
  | 0, _, _, _ => rfl
  | k + 1, a, t, h => by
    unfold dR
    rw [dR_out k t (by omega)]
    unfold dstep
    rw [if_neg (by omega)]
theorem dq_can {p : Int} (hp : 0 < p) (a b : List Int) : Can p (dq p a b) := can_rowN hp fun _ _ => dQ_range hp _ _
theorem dr_can {p : Int} (hp : 0 < p) {a b : List Int} (ha : InP p a) : Can p (dr p a b) := can_rowN hp fun _ _ => dR_range hp _ (fun t => ha t) _
theorem at0_dq (p : Int) (a b : List Int) (t : Nat) : at0 (dq p a b) t = dQ p (invP p (lc b)) (at0 b) (b.length - 1) (dn a b) (at0 a) t := by
  unfold dq
  rw [at0_rowN]
  split
  · rfl
  · rw [dQ_out _ _ (by omega)]
theorem at0_dr (p : Int) (a b : List Int) (hb : 0 < b.length) (t : Nat) : at0 (dr p a b) t = dR p (invP p (lc b)) (at0 b) (b.length - 1) (dn a b) (at0 a) t := by
  unfold dr
  rw [at0_rowN]
  split
  · rfl
  · by_cases h : dn a b = 0
    · rw [h]; unfold dR; rw [at0_out a t (by omega)]
    · rw [dR_out _ _ (by unfold dn at h ⊢; omega), at0_out a t (by omega)]
theorem dq_le (p : Int) (a b : List Int) : (dq p a b).length ≤ a.length + 1 - b.length := rowN_le _ _
theorem dr_le (p : Int) (a b : List Int) : (dr p a b).length ≤ a.length := rowN_le _ _

/-- The leading coefficients are struck one by one. -/
theorem dR_top {p : Int} (hp : PrimeP p) {c : Int} {b : Nat → Int} {m : Nat} (hc : c * b m % p = 1) : ∀ k {a : Nat → Int}, ∀ s, s < k → dR p c b m k a (s + m) = 0
  | 0, _, s, h => absurd h (by omega)
  | k + 1, a, s, h => by
    unfold dR
    by_cases e : s = k
    · subst e
      rw [dR_out s (s + m) (Nat.le_refl _)]
      unfold dstep
      rw [if_pos ⟨by omega, by omega⟩, show s + m - s = m by omega]
      unfold qd
      have h1 : (a (s + m) - a (s + m) * c % p * b m) % p = (a (s + m) - a (s + m) * (c * b m % p)) % p := by
        rw [Int.sub_emod, Int.mul_emod (a (s + m) * c % p), Int.emod_emod_of_dvd _ (Int.dvd_refl p), ← Int.mul_emod, ← Int.sub_emod]
        rw [Int.sub_emod (a (s + m)) (a (s + m) * (c * b m % p)), Int.mul_emod (a (s + m)) (c * b m % p), Int.emod_emod_of_dvd _ (Int.dvd_refl p), ← Int.mul_emod, ← Int.sub_emod, Int.mul_assoc]
      rw [h1, hc]
      simp
    · exact dR_top hp hc k s (by omega)
theorem dr_lt {p : Int} (hp : PrimeP p) {a b : List Int} (hb : Can p b) (hne : 0 < b.length) : (dr p a b).length < b.length := by
  have hl := hb.last hne
  have hc := invP_mul hp hl.1 hl.2
  have hz : NZ (dr p a b) := rowN_nz _ _
  have key : ∀ t, b.length - 1 ≤ t → at0 (dr p a b) t = 0 := by
    intro t ht
    rw [at0_dr p a b hne]
    by_cases h : t < dn a b + (b.length - 1)
    · have := dR_top hp (b := at0 b) (m := b.length - 1) (c := invP p (lc b)) hc (dn a b) (a := at0 a) (t - (b.length - 1)) (by omega)
      rwa [show t - (b.length - 1) + (b.length - 1) = t by omega] at this
    · rw [dR_out _ _ (by omega), at0_out a t (by unfold dn at h; omega)]
  rcases Nat.lt_or_ge (dr p a b).length b.length with h | h
  · exact h
  · exact absurd (key ((dr p a b).length - 1) (by omega)) (hz _ (by omega))

end Go.Proofs.YtaemiknaiccijaaGreat

/- Small laws for the walks: what a function hands back out of its cells, make of a row of numbers, and the loaded program's own facts. -/
namespace Go.Proofs.YtaemiknaiccijaaGreat
open Go.RowKit

theorem run_load_arr {P : Program} {w : World} {g : Nat} {T ty e : TypeId} {l : List Int} (h : Arr w g T l) (hl : l.length = 64) (hu : P.underlying ty = some (.array 64 e)) (hi : (P.info? ty).map (·.size) = some 64) :
    (loadVar ty ⟨g, 0, none⟩).run P w = .ok (.agg (u8s l)) w :=
  run_loadVar_row w g T ty _ (0, 0) _ h hu rfl (by rw [hi, u8s_size, hl])
section
variable {P : Program} {fn : Func} {tmps : Array Value} {w : World}
theorem res_c {p ty e T : Nat} {g : Nat} {l : List Int} (h : fn.results = #[.cell p ty]) (hp : tmps[p]?.getD undef = .pointer (some ⟨g, 0, none⟩)) (hg : Arr w g T l) (hl : l.length = 64) (hu : P.underlying ty = some (.array 64 e)) (hi : (P.info? ty).map (·.size) = some 64) :
    (results fn tmps).run P w = .ok (.agg (u8s l)) w := by
  simp [results, h, hp, asAddr, run_load_arr hg hl hu hi]
theorem res_ct {p t ty e T : Nat} {g : Nat} {l : List Int} {v : Value} (h : fn.results = #[.cell p ty, .tmp t]) (hp : tmps[p]?.getD undef = .pointer (some ⟨g, 0, none⟩)) (hv : tmps[t]?.getD undef = v) (hg : Arr w g T l) (hl : l.length = 64) (hu : P.underlying ty = some (.array 64 e)) (hi : (P.info? ty).map (·.size) = some 64) :
    (results fn tmps).run P w = .ok (.tuple #[.agg (u8s l), v]) w := by
  simp [results, h, hp, hv, asAddr, run_load_arr hg hl hu hi]
theorem res_cc {p q ty e T T' : Nat} {g g' : Nat} {l l' : List Int} (h : fn.results = #[.cell p ty, .cell q ty]) (hp : tmps[p]?.getD undef = .pointer (some ⟨g, 0, none⟩)) (hq : tmps[q]?.getD undef = .pointer (some ⟨g', 0, none⟩))
    (hg : Arr w g T l) (hl : l.length = 64) (hg' : Arr w g' T' l') (hl' : l'.length = 64) (hu : P.underlying ty = some (.array 64 e)) (hi : (P.info? ty).map (·.size) = some 64) :
    (results fn tmps).run P w = .ok (.tuple #[.agg (u8s l), .agg (u8s l')]) w := by
  simp [results, h, hp, hq, asAddr, run_load_arr hg hl hu hi, run_load_arr hg' hl' hu hi]
theorem res_ccc {p q r ty e T T' T'' : Nat} {g g' g'' : Nat} {l l' l'' : List Int} (h : fn.results = #[.cell p ty, .cell q ty, .cell r ty]) (hp : tmps[p]?.getD undef = .pointer (some ⟨g, 0, none⟩)) (hq : tmps[q]?.getD undef = .pointer (some ⟨g', 0, none⟩)) (hr : tmps[r]?.getD undef = .pointer (some ⟨g'', 0, none⟩))
    (hg : Arr w g T l) (hl : l.length = 64) (hg' : Arr w g' T' l') (hl' : l'.length = 64) (hg'' : Arr w g'' T'' l'') (hl'' : l''.length = 64) (hu : P.underlying ty = some (.array 64 e)) (hi : (P.info? ty).map (·.size) = some 64) :
    (results fn tmps).run P w = .ok (.tuple #[.agg (u8s l), .agg (u8s l'), .agg (u8s l'')]) w := by
  simp [results, h, hp, hq, hr, asAddr, run_load_arr hg hl hu hi, run_load_arr hg' hl' hu hi, run_load_arr hg'' hl'' hu hi]
end

theorem zlit : (#[.int .u8 0, .int .u8 0, .int .u8 0, .int .u8 0, .int .u8 0, .int .u8 0, .int .u8 0, .int .u8 0, .int .u8 0, .int .u8 0, .int .u8 0, .int .u8 0, .int .u8 0, .int .u8 0, .int .u8 0, .int .u8 0,
    .int .u8 0, .int .u8 0, .int .u8 0, .int .u8 0, .int .u8 0, .int .u8 0, .int .u8 0, .int .u8 0, .int .u8 0, .int .u8 0, .int .u8 0, .int .u8 0, .int .u8 0, .int .u8 0, .int .u8 0, .int .u8 0,
    .int .u8 0, .int .u8 0, .int .u8 0, .int .u8 0, .int .u8 0, .int .u8 0, .int .u8 0, .int .u8 0, .int .u8 0, .int .u8 0, .int .u8 0, .int .u8 0, .int .u8 0, .int .u8 0, .int .u8 0, .int .u8 0,
    .int .u8 0, .int .u8 0, .int .u8 0, .int .u8 0, .int .u8 0, .int .u8 0, .int .u8 0, .int .u8 0, .int .u8 0, .int .u8 0, .int .u8 0, .int .u8 0, .int .u8 0, .int .u8 0, .int .u8 0, .int .u8 0] : Array Value) = u8s zeros64 := rfl

theorem infoPoly : (Tryz.prog.info? 25).map (·.size) = some 64 := by kernel_rfl
theorem infoInt64 : (Tryz.prog.info? 2).map (fun i => (i.zero, i.size, i.bytes)) = some (some (.int .i64 0), 1, 8) := by kernel_rfl

theorem run_store_arr {P : Program} {w : World} {g : Nat} {T ty : TypeId} {old l : List Int} (h : Arr w g T old) (ho : old.length = 64) (hl : l.length = 64) (hi : (P.info? ty).map (·.size) = some 64) :
    (storeVar ty ⟨g, 0, none⟩ (.agg (u8s l))).run P w = .ok () (w.setRow g (u8s l)) :=
  run_storeVar_row w g T ty _ _ h (by rw [hi, u8s_size, hl]) (by rw [u8s_size, u8s_size, ho, hl]) (by
    rw [Array.all_eq_true_iff_forall_mem]
    intro v hv
    unfold u8s at hv
    simp only [List.mem_toArray, List.mem_map] at hv
    obtain ⟨x, _, rfl⟩ := hv
    rfl)
section
variable {w w' : World} {g k : Nat} {T : TypeId} {l old : List Int}
theorem Arr.setRow (h : Arr w g T old) : Arr (w.setRow g (u8s l)) g T l := setRow_heap w g _ _ T _ h
theorem Arr.setRow_other (h : Arr w g T l) (hne : g ≠ k) (cs : Array Value) : Arr (w.setRow k cs) g T l := (Go.setRow_other w k g cs hne).trans h
theorem Ints.setRow_other (h : Ints w g T l) (hne : g ≠ k) (cs : Array Value) : Ints (w.setRow k cs) g T l := (Go.setRow_other w k g cs hne).trans h
theorem Ext.setRow {a w : World} (h : Ext a w) {g : Nat} (hg : a.heap.size ≤ g) (cs : Array Value) : Ext a (w.setRow g cs) :=
  h.trans ⟨rfl, rfl, rfl, by simp, fun i hi => Go.setRow_other w g i cs (by omega)⟩
theorem bsetRow {B : Nat} {a w : World} (h : Below B a w) {g : Nat} (hg : B ≤ g) (cs : Array Value) : Below B a (w.setRow g cs) :=
  h.trans ⟨rfl, rfl, rfl, by simp, fun i hi => Go.setRow_other w g i cs (by omega)⟩
end
section
variable {ops : Array Oper} {rest : List Oper} {o : Oper} {a : Act} {w : World} {Q : Exit → Act → World → Prop}
/-- A whole polynomial is read out of its block. -/
theorem wplL (x : Operand) (ho : o.op = .load 25 x) (hgd : o.guard = none) {g : Nat} {T : TypeId} {l : List Int} (hg : Arr w g T l) (hx : a.eval x = .pointer (some ⟨g, 0, none⟩)) (hl : l.length = 64)
    (h : wpList Tryz.prog ops Q rest (a.put o.dst (.agg (u8s l))) w) : wpList Tryz.prog ops Q (o :: rest) a w :=
  wpList_load_row hgd _ x ho g hx T _ (0, 0) _ hg Tryz.underlying25 rfl (by rw [infoPoly, u8s_size, hl]) h
/-- A whole polynomial is laid into its block. -/
theorem wplS (x y : Operand) (ho : o.op = .store 25 x y) (hgd : o.guard = none) {g : Nat} {T : TypeId} {old l : List Int} (hg : Arr w g T old) (hx : a.eval x = .pointer (some ⟨g, 0, none⟩)) (hy : a.eval y = .agg (u8s l)) (hold : old.length = 64) (hl : l.length = 64)
    (h : wpList Tryz.prog ops Q rest (a.put o.dst undef) (w.setRow g (u8s l))) : wpList Tryz.prog ops Q (o :: rest) a w :=
  wpList_plain hgd fun K hK => by
    unfold Oper.wp execOp
    simp only [ho, hx, hy, Instr.storeAt, Instr.sureAddr, Sem.run_bind, Sem.run_pure, Result.andThen_ok, run_store_arr hg hold hl infoPoly]
    exact hK _ _ h
end

/-- The same, the world behind it under a name of its own: the walk stops there. -/
theorem wplW {ops : Array Oper} {rest : List Oper} {o : Oper} {a : Act} {w : World} {Q : Exit → Act → World → Prop} (x y : Operand) (ho : o.op = .store 25 x y) (hgd : o.guard = none) {g : Nat} {T : TypeId} {old l : List Int} (hg : Arr w g T old) (hx : a.eval x = .pointer (some ⟨g, 0, none⟩)) (hy : a.eval y = .agg (u8s l)) (hold : old.length = 64) (hl : l.length = 64)
    (h : ∀ w', w.grownBy w' (some g) → w'.heap.size = w.heap.size → Arr w' g T l → wpList Tryz.prog ops Q rest (a.put o.dst undef) w') : wpList Tryz.prog ops Q (o :: rest) a w :=
  wplS x y ho hgd hg hx hy hold hl (h _ ⟨rfl, rfl, rfl, by simp, fun k _ hk => Go.setRow_other w g k _ (fun e => hk (by rw [e]))⟩ (by simp) hg.setRow)
theorem Arr.grown {w w' : World} {g k : Nat} {T : TypeId} {l : List Int} (h : Arr w g T l) (hg : w.grownBy w' (some k)) (hne : g ≠ k) : Arr w' g T l :=
  (hg.block g h.lt (fun e => hne (Option.some.inj e))).trans h
theorem Ints.grown {w w' : World} {g k : Nat} {T : TypeId} {l : List Int} (h : Ints w g T l) (hg : w.grownBy w' (some k)) (hne : g ≠ k) : Ints w' g T l :=
  (hg.block g h.lt (fun e => hne (Option.some.inj e))).trans h
theorem Ext.grown {a w w' : World} (h : Ext a w) {k : Nat} (hg : w.grownBy w' (some k)) (hk : a.heap.size ≤ k) : Ext a w' := Below.grown h hg h.size fun j hj => by
  have := Option.some.inj hj
  omega

/-! ### make of a row of numbers -/
theorem madeCells_ints (n : Nat) : madeCells (Value.int .i64 0).cells n = i64s (List.replicate n 0) := by
  unfold madeCells i64s
  apply Array.ext'
  simp only [Array.toList_map, Array.toList_range, List.map_replicate]
  refine List.ext_getElem (by simp) fun i h1 h2 => ?_
  simp [Value.cells, Nat.mod_one]
theorem run_make_ints {P : Program} {w : World} {t e : TypeId} (ht : P.underlying t = some (.slice e)) (hi : (P.info? e).map (fun i => (i.zero, i.size, i.bytes)) = some (some (.int .i64 0), 1, 8)) (n : Nat) (hn : n ≤ 1000000) :
    (Instr.makeSlice t (.int .i64 (n : Int)) (.int .i64 (n : Int))).run P w = .ok (.slice (some ⟨w.heap.size, 0, none⟩) n n) (w.alloc (.cells (i64s (List.replicate n 0)) e)) := by
  obtain ⟨i, h1, h2, h3, h4⟩ := info_parts hi
  have := run_make (P := P) w t e i _ ht h1 h2 .i64 .i64 n n (by omega) (Int.le_refl _) (by rw [h4]; omega) (by omega)
  rw [this, h3, Int.toNat_natCast, Nat.mul_one, madeCells_ints]

/-- So many arrays are laid, one behind the other. -/
def allocs (w : World) (T : TypeId) : List (List Int) → World
  | [] => w
  | l :: ls => allocs (w.alloc (.cells (u8s l) T)) T ls
theorem allocs_keep {T : TypeId} {g : Nat} {l : List Int} : ∀ (ls : List (List Int)) (w : World), Arr w g T l → Arr (allocs w T ls) g T l
  | [], _, h => h
  | _ :: ls, _, h => allocs_keep ls _ (h.alloc _)
theorem allocs_arr {T : TypeId} {l : List Int} : ∀ (ls : List (List Int)) (w : World) (i : Nat), ls[i]? = some l → Arr (allocs w T ls) (w.heap.size + i) T l
  | [], _, i, h => by simp at h
  | x :: ls, w, 0, h => by
    simp only [List.getElem?_cons_zero, Option.some.injEq] at h
    subst h
    exact allocs_keep ls _ (Arr.new w T x)
  | x :: ls, w, i + 1, h => by
    have := allocs_arr (T := T) ls (w.alloc (.cells (u8s x) T)) i (by simpa using h)
    rw [show w.heap.size + (i + 1) = (w.alloc (.cells (u8s x) T)).heap.size + i by simp; omega]
    exact this
theorem allocs_ext (w : World) (T : TypeId) : ∀ (ls : List (List Int)) (w' : World), Ext w w' → Ext w (allocs w' T ls)
  | [], _, h => h
  | _ :: ls, _, h => allocs_ext w T ls _ (h.alloc _)
theorem allocs_size (T : TypeId) : ∀ (ls : List (List Int)) (w : World), (allocs w T ls).heap.size = w.heap.size + ls.length
  | [], _ => rfl
  | _ :: ls, w => by rw [allocs, allocs_size T ls]; simp; omega

end Go.Proofs.YtaemiknaiccijaaGreat

/- The reference's functions on numbers and on the degree of a polynomial. -/
namespace Go.Proofs.YtaemiknaiccijaaGreat
open Go.RowKit

def primeB (p : Int) : Bool := p == 2 || p == 3 || p == 5 || p == 7
theorem primeB_iff (p : Int) : primeB p = true ↔ PrimeP p := by simp [primeB, PrimeP, or_assoc]
def inB (n lo hi : Int) : Bool := decide (lo ≤ n) && decide (n ≤ hi)

set_option maxHeartbeats 400000 in
theorem l01Prime_any (p : Int) (w : World) :
    Calls Tryz.prog 94 #[.int .i64 p] w fun e w' => e = .returned (.bool (primeB p)) ∧ w = w' := by
  by_cases h2 : p = 2
  · subst h2
    go_enter Tryz.func94, Tryz.ntmps94
    go_wp2
    go_ret
    exact ⟨rfl, rfl⟩
  by_cases h3 : p = 3
  · subst h3
    go_enter Tryz.func94, Tryz.ntmps94
    go_wp2
    go_ret
    exact ⟨rfl, rfl⟩
  by_cases h5 : p = 5
  · subst h5
    go_enter Tryz.func94, Tryz.ntmps94
    go_wp2
    go_ret
    exact ⟨rfl, rfl⟩
  have e2 : (p == 2) = false := by simpa using h2
  have e3 : (p == 3) = false := by simpa using h3
  have e5 : (p == 5) = false := by simpa using h5
  have fin : primeB p = (p == 7) := by simp [primeB, h2, h3, h5]
  have F := Lib.hid fin
  clear fin
  go_enter Tryz.func94, Tryz.ntmps94
  go_wp2
  all_goals
    go_ret
    exact ⟨ret_bool (by rw [F.out]; try simp_all), rfl⟩

set_option maxHeartbeats 400000 in
theorem l01In_any (n lo hi : Int) (w : World) :
    Calls Tryz.prog 111 #[.int .i64 n, .int .i64 lo, .int .i64 hi] w fun e w' => e = .returned (.bool (inB n lo hi)) ∧ w = w' := by
  by_cases h1 : lo ≤ n
  · have F : Hid (inB n lo hi = decide (n ≤ hi)) := Lib.hid (by simp [inB, h1])
    go_enter Tryz.func111, Tryz.ntmps111
    go_wp2
    all_goals
      go_ret
      exact ⟨ret_bool F.out.symm, rfl⟩
  · have F : Hid (inB n lo hi = false) := Lib.hid (by simp [inB, h1])
    go_enter Tryz.func111, Tryz.ntmps111
    go_wp2
    all_goals
      go_ret
      exact ⟨ret_bool F.out.symm, rfl⟩

set_option maxHeartbeats 400000 in
theorem l01Deg_any (l : List Int) (hl : l.length = 64) (w : World) :
    Calls Tryz.prog 49 #[.agg (u8s l)] w fun e w' => e = .returned (.int .i64 ((rlen (at0 l) 64 : Nat) - 1)) ∧ Ext w w' := by
  have HL := Lib.hid hl
  clear hl
  have HC : Arr (w.alloc (.cells (u8s l) 25)) w.heap.size 25 l := Arr.new w _ l
  go_enter Tryz.func49, Tryz.ntmps49
  go_wp2
  go_loop [3] (fun i => ∃ k : Nat, k ≤ 64 ∧ i = .int .i64 ((k : Int) - 1) ∧ rlen (at0 l) k = rlen (at0 l) 64) (fun i => ((intOf i) + 1).toNat)
  case atStart => exact ⟨64, by omega, rfl, rfl⟩
  case round =>
    obtain ⟨k, hk, rfl, hd⟩ := hrel
    have HD := Lib.hid hd
    clear hd
    by_cases hk0 : 1 ≤ k
    · have hc := HC.cell (k - 1) (by rw [HL.out]; omega)
      by_cases hz : at0 l (k - 1) = 0
      · have HZ := Lib.hid hz
        have hb : (at0 l (k - 1) == 0) = true := by rw [hz]; rfl
        clear hz
        go_wp2
        go_round
        case rel =>
          refine ⟨k - 1, by omega, by congr 1; omega, ?_⟩
          rw [← HD.out]
          obtain ⟨m, rfl⟩ : ∃ m, k = m + 1 := ⟨k - 1, by omega⟩
          rw [Nat.add_sub_cancel, rlen, if_pos (by simpa using HZ.out)]
        case measure => simp [intOf]; omega
      · have HZ := Lib.hid hz
        have hb : (at0 l (k - 1) == 0) = false := by simpa using hz
        clear hz
        go_wp2
        go_ret
        refine ⟨ret_int ?_, (Ext.refl w).alloc _⟩
        rw [← HD.out]
        obtain ⟨m, rfl⟩ : ∃ m, k = m + 1 := ⟨k - 1, by omega⟩
        rw [rlen, if_neg (by simpa using HZ.out)]
    · have hk1 : k = 0 := by omega
      subst hk1
      go_wp2
      go_ret
      refine ⟨ret_int ?_, (Ext.refl w).alloc _⟩
      rw [← HD.out]
      rfl

theorem l01Deg_pad (a : List Int) (n : Int) (hz : NZ a) (h64 : a.length ≤ 64) (hn : n = (a.length : Int) - 1) (w : World) :
    Calls Tryz.prog 49 #[.agg (u8s (pad a))] w fun e w' => e = .returned (.int .i64 n) ∧ Ext w w' :=
  (l01Deg_any _ (pad_length a) w).mono fun _ _ ⟨h1, h2⟩ => ⟨by rw [h1, rlen_pad hz h64, hn], h2⟩

end Go.Proofs.YtaemiknaiccijaaGreat
