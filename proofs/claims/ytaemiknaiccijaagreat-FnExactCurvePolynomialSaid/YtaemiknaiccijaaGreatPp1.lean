/- Lemmas and contracts of functions, for the laws on curves: Words and small laws on lists of numbers and on memory: arrays of bytes, rows of whole numbers, and what stays of them when memory grows. -/
import Derived.WalkKit
import Derived.WalkSpells
import Derived.WalkLawsBesides
import Derived.Lib.Hide
import Derived.Test.YtaemiknaiccijaaGreatProg
import Derived.StillTailTactics
import Derived.BigQuiet
import Derived.Deep.QuietTactic
import Derived.KernelRfl
import Derived.StillTail
set_option linter.unusedVariables false
set_option linter.unusedSimpArgs false
namespace Go.Proofs.YtaemiknaiccijaaGreat
open Go.RowKit

/-! ### lists -/
def at0 (l : List Int) (j : Nat) : Int := l.getD j 0
def tab (n : Nat) (f : Nat → Int) : List Int := (List.range n).map f
theorem tab_length (n : Nat) (f : Nat → Int) : (tab n f).length = n := by simp [tab]
theorem at0_tab (n : Nat) (f : Nat → Int) (j : Nat) : at0 (tab n f) j = if j < n then f j else 0 := by
  unfold at0 tab
  by_cases h : j < n <;> simp [h]
theorem at0_tab_lt {n j : Nat} (f : Nat → Int) (h : j < n) : at0 (tab n f) j = f j := by rw [at0_tab, if_pos h]
theorem at0_out (l : List Int) (j : Nat) (h : l.length ≤ j) : at0 l j = 0 := by simp [at0, h]
theorem at0_nil (j : Nat) : at0 [] j = 0 := rfl
theorem list_ext0 {a b : List Int} (hl : a.length = b.length) (h : ∀ j, j < a.length → at0 a j = at0 b j) : a = b := by
  apply List.ext_getElem hl
  intro i h1 h2
  have := h i h1
  simpa [at0, h1, h2] using this
theorem eq_tab {l : List Int} {n : Nat} {f : Nat → Int} (hl : l.length = n) (h : ∀ j, j < n → at0 l j = f j) : l = tab n f := by
  refine list_ext0 (by rw [hl, tab_length]) fun j hj => ?_
  rw [h j (by omega), at0_tab_lt f (by omega)]
theorem tab_congr {n : Nat} {f g : Nat → Int} (h : ∀ j, j < n → f j = g j) : tab n f = tab n g :=
  eq_tab (tab_length n f) fun j hj => by rw [at0_tab_lt f hj, h j hj]
theorem tab_self (l : List Int) : tab l.length (at0 l) = l := (eq_tab rfl fun _ _ => rfl).symm
theorem tab_self' {l : List Int} {n : Nat} (h : l.length = n) : tab n (at0 l) = l := by rw [← h, tab_self]
theorem at0_set (l : List Int) (i j : Nat) (x : Int) : at0 (l.set i x) j = if i = j ∧ j < l.length then x else at0 l j := by
  unfold at0
  by_cases h : i = j
  · subst h
    by_cases h2 : i < l.length <;> simp [h2]
  · simp [h]
theorem tab_set (n i : Nat) (f : Nat → Int) (x : Int) (_h : i < n) : (tab n f).set i x = tab n fun j => if j = i then x else f j := by
  refine eq_tab (by simp [tab_length]) fun j hj => ?_
  rw [at0_set, tab_length]
  by_cases e : i = j
  · subst e; simp [hj]
  · rw [if_neg (by omega), if_neg (by omega), at0_tab_lt f hj]
theorem at0_append_lt (a b : List Int) (j : Nat) (h : j < a.length) : at0 (a ++ b) j = at0 a j := by simp [at0, List.getElem?_append_left h]
theorem at0_append_ge (a b : List Int) (j : Nat) (h : a.length ≤ j) : at0 (a ++ b) j = at0 b (j - a.length) := by simp [at0, List.getElem?_append_right h]
theorem at0_take (l : List Int) (n j : Nat) : at0 (l.take n) j = if j < n then at0 l j else 0 := by
  unfold at0
  by_cases h : j < n <;> simp [List.getElem?_take, h]
theorem at0_replicate (n j : Nat) (x : Int) : at0 (List.replicate n x) j = if j < n then x else 0 := by
  unfold at0
  by_cases h : j < n <;> simp [h]
theorem replicate_tab (n : Nat) (x : Int) : List.replicate n x = tab n fun _ => x :=
  eq_tab (by simp) fun j hj => by rw [at0_replicate, if_pos hj]
theorem tab_succ (n : Nat) (f : Nat → Int) : tab (n + 1) f = tab n f ++ [f n] := by simp [tab, List.range_succ]
theorem tab_zero (f : Nat → Int) : tab 0 f = [] := rfl

/-! ### values -/
def u8s (l : List Int) : Array Value := (l.map (Value.int .u8)).toArray
def i64s (l : List Int) : Array Value := (l.map (Value.int .i64)).toArray
theorem u8s_size (l : List Int) : (u8s l).size = l.length := by simp [u8s]
theorem i64s_size (l : List Int) : (i64s l).size = l.length := by simp [i64s]
theorem u8s_get (l : List Int) (j : Nat) (h : j < l.length) : (u8s l)[j]? = some (.int .u8 (at0 l j)) := by simp [u8s, at0, h]
theorem i64s_get (l : List Int) (j : Nat) (h : j < l.length) : (i64s l)[j]? = some (.int .i64 (at0 l j)) := by simp [i64s, at0, h]
theorem u8s_set (l : List Int) (j : Nat) (x : Int) : (u8s l).setIfInBounds j (.int .u8 x) = u8s (l.set j x) := by simp [u8s]
theorem i64s_set (l : List Int) (j : Nat) (x : Int) : (i64s l).setIfInBounds j (.int .i64 x) = i64s (l.set j x) := by simp [i64s]
def zeros64 : List Int := List.replicate 64 0
theorem zeros64_length : zeros64.length = 64 := by simp [zeros64]
theorem zeros64_tab : zeros64 = tab 64 fun _ => 0 := replicate_tab _ _
theorem at0_zeros64 (j : Nat) : at0 zeros64 j = 0 := by rw [zeros64, at0_replicate]; split <;> rfl

/-! ### memory -/
/-- Block g is an array of bytes. -/
def Arr (w : World) (g : Nat) (T : TypeId) (l : List Int) : Prop := w.heap[g]? = some (.cells (u8s l) T (0, 0))
/-- Block g is a row of whole numbers. -/
def Ints (w : World) (g : Nat) (T : TypeId) (l : List Int) : Prop := w.heap[g]? = some (.cells (i64s l) T (0, 0))
/-- A block of whole numbers. -/
def IntBlk (w : World) (g : Nat) : Prop := ∃ cs fr, w.heap[g]? = some (.cells cs 2 fr)
/-- A slice of whole numbers, at A, reads as L. -/
structure RowAt (w : World) (A : Option Addr) (L : List Int) : Prop where
  le1 : L.length ≤ 1000000
  at1 : 0 < L.length → ∃ b o, A = some ⟨b, o, none⟩ ∧ ∀ j, j < L.length → w.cell? ⟨b, o + j, none⟩ = some (.int .i64 (at0 L j))
  ib : ∀ a, A = some a → 0 < L.length → IntBlk w a.block
/-- Whatever was there is there. -/
abbrev Ext (w w' : World) : Prop := Below w.heap.size w w'

section
variable {w w' : World} {g B : Nat} {T : TypeId} {l : List Int}
theorem Arr.lt (h : Arr w g T l) : g < w.heap.size := (Array.getElem?_eq_some_iff.1 h).1
theorem Arr.cell (h : Arr w g T l) (j : Nat) (hj : j < l.length) : w.cell? ⟨g, j, none⟩ = some (.int .u8 (at0 l j)) := by
  rw [cell_of_row _ _ _ _ _ _ h, u8s_get l j hj]
theorem Arr.free (h : Arr w g T l) (j : Nat) : w.frozen? ⟨g, j, none⟩ = false := frozen_of_row _ _ _ _ _ h
theorem Arr.below (h : Arr w g T l) (hb : Below B w w') (hg : g < B) : Arr w' g T l := (hb.block g hg).trans h
theorem Arr.ext (h : Arr w g T l) (hb : Ext w w') : Arr w' g T l := h.below hb h.lt
theorem Arr.drew (h : Arr w g T l) : Arr w.drew g T l := h
theorem Arr.new (w : World) (T : TypeId) (l : List Int) : Arr (w.alloc (.cells (u8s l) T)) w.heap.size T l := heap_alloc_new w _
theorem Arr.alloc (h : Arr w g T l) (o : Obj) : Arr (w.alloc o) g T l := (Below.heap_alloc w o g h.lt).trans h
theorem Arr.set (h : Arr w g T l) (i : Nat) (x : Int) : Arr (w.setCell ⟨g, i, none⟩ (.int .u8 x)) g T (l.set i x) := by
  unfold Arr
  rw [heap_setCell_same w g i _ T _ h, u8s_set]
theorem Arr.other (h : Arr w g T l) {a : Addr} {v : Value} (hne : g ≠ a.block) : Arr (w.setCell a v) g T l := (heap_setCell_other w a g v hne).trans h
theorem IntBlk.lt (h : IntBlk w g) : g < w.heap.size := by obtain ⟨_, _, h⟩ := h; exact (Array.getElem?_eq_some_iff.1 h).1
theorem IntBlk.ext (h : IntBlk w g) (hE : Ext w w') : IntBlk w' g := by
  have hl := h.lt
  obtain ⟨cs, fr, h⟩ := h
  exact ⟨cs, fr, (hE.block g hl).trans h⟩
theorem Ints.lt (h : Ints w g T l) : g < w.heap.size := (Array.getElem?_eq_some_iff.1 h).1
theorem Ints.cell (h : Ints w g T l) (j : Nat) (hj : j < l.length) : w.cell? ⟨g, j, none⟩ = some (.int .i64 (at0 l j)) := by
  rw [cell_of_row _ _ _ _ _ _ h, i64s_get l j hj]
theorem Ints.free (h : Ints w g T l) (j : Nat) : w.frozen? ⟨g, j, none⟩ = false := frozen_of_row _ _ _ _ _ h
theorem Ints.below (h : Ints w g T l) (hb : Below B w w') (hg : g < B) : Ints w' g T l := (hb.block g hg).trans h
theorem Ints.ext (h : Ints w g T l) (hb : Ext w w') : Ints w' g T l := h.below hb h.lt
theorem Ints.drew (h : Ints w g T l) : Ints w.drew g T l := h
theorem Ints.new (w : World) (T : TypeId) (l : List Int) : Ints (w.alloc (.cells (i64s l) T)) w.heap.size T l := heap_alloc_new w _
theorem Ints.alloc (h : Ints w g T l) (o : Obj) : Ints (w.alloc o) g T l := (Below.heap_alloc w o g h.lt).trans h
theorem Ints.set (h : Ints w g T l) (i : Nat) (x : Int) : Ints (w.setCell ⟨g, i, none⟩ (.int .i64 x)) g T (l.set i x) := by
  unfold Ints
  rw [heap_setCell_same w g i _ T _ h, i64s_set]
theorem Ints.other (h : Ints w g T l) {a : Addr} {v : Value} (hne : g ≠ a.block) : Ints (w.setCell a v) g T l := (heap_setCell_other w a g v hne).trans h
/-- The head of a row is a slice that reads. -/
theorem Ints.row (h : Ints w g 2 l) (n : Nat) (hn : n ≤ l.length) (hm : l.length ≤ 1000000) : RowAt w (some ⟨g, 0, none⟩) (l.take n) := by
  have e : (l.take n).length = n := by simp; omega
  refine ⟨by omega, fun _ => ⟨g, 0, rfl, fun j hj => ?_⟩, fun a ha _ => by cases ha; exact ⟨_, _, h⟩⟩
  rw [Nat.zero_add, h.cell j (by omega), at0_take, if_pos (by omega)]
theorem Ints.row' (h : Ints w g 2 l) (hm : l.length ≤ 1000000) : RowAt w (some ⟨g, 0, none⟩) l := by
  have := h.row l.length (Nat.le_refl _) hm
  rwa [List.take_length] at this
end
section
variable {w w' : World} {A : Option Addr} {L : List Int}
theorem RowAt.below (h : RowAt w A L) (hb : Ext w w') : RowAt w' A L :=
  ⟨h.1, fun hn => by
    obtain ⟨b, o, e, hc⟩ := h.2 hn
    exact ⟨b, o, e, fun j hj => (hb.cell (World.block_lt_of_cell? w _ (hc j hj))).trans (hc j hj)⟩, fun a ha hn => (h.ib a ha hn).ext hb⟩
theorem RowAt.nil (w : World) (A : Option Addr) : RowAt w A [] := ⟨by simp, fun h => absurd h (by simp), fun _ _ h => absurd h (by simp)⟩
theorem RowAt.drew (h : RowAt w A L) : RowAt w.drew A L := ⟨h.1, h.2, h.3⟩
theorem RowAt.le (h : RowAt w A L) : L.length ≤ 1000000 := h.1
theorem RowAt.place (h : RowAt w A L) (hn : 0 < L.length) : ∃ b o, A = some ⟨b, o, none⟩ ∧ b < w.heap.size ∧ ∀ j, j < L.length → w.cell? ⟨b, o + j, none⟩ = some (.int .i64 (at0 L j)) := by
  obtain ⟨b, o, e, hc⟩ := h.2 hn
  exact ⟨b, o, e, World.block_lt_of_cell? w _ (hc 0 hn), hc⟩
theorem RowAt.take (h : RowAt w A L) (n : Nat) (hn : n ≤ L.length) : RowAt w A (L.take n) := by
  have e : (L.take n).length = n := by simp; omega
  refine ⟨by have := h.1; omega, fun hp => ?_, fun a ha hn => h.ib a ha (by omega)⟩
  obtain ⟨b, o, e', hc⟩ := h.2 (by omega)
  exact ⟨b, o, e', fun j hj => by rw [hc j (by omega), at0_take, if_pos (by omega)]⟩
end
theorem Ext.refl (w : World) : Ext w w := Below.refl _ _
theorem Ext.tr {a b c : World} (h : Ext a b) (k : Ext b c) : Ext a c := h.trans (k.mono h.size)
theorem Ext.drew {a w : World} (h : Ext a w) : Ext a w.drew := Below.drew h
theorem Ext.alloc {a w : World} (h : Ext a w) (o : Obj) : Ext a (w.alloc o) := Below.alloc h h.size o
theorem Ext.set {a w : World} (h : Ext a w) {p : Addr} (hp : a.heap.size ≤ p.block) (u : Value) : Ext a (w.setCell p u) := Below.setCell h hp u
/-- A store anywhere at or above B, seen from below B. -/
theorem bset {B : Nat} {a w : World} (h : Below B a w) {p : Addr} (hp : B ≤ p.block) (u : Value) : Below B a (w.setCell p u) := Below.setCell h hp u
theorem bext {B : Nat} {a w w' : World} (h : Below B a w) (hB : B ≤ w.heap.size) (k : Ext w w') : Below B a w' := h.trans (k.mono hB)

/-! ### numbers -/
theorem tmodB (x p : Int) (hp : 2 ≤ p) (hp2 : p ≤ 7) : -6 ≤ x.tmod p ∧ x.tmod p ≤ 6 := by
  have h1 := Int.tmod_lt_of_pos x (show 0 < p by omega)
  have h2 := Int.lt_tmod_of_pos x (show 0 < p by omega)
  omega
theorem mulB {k b K C : Int} (hK : 0 ≤ K) (h1 : -K ≤ k) (h2 : k ≤ K) (h3 : 0 ≤ b) (h4 : b ≤ C) : -(K * C) ≤ k * b ∧ k * b ≤ K * C := by
  have a1 : k * b ≤ K * b := Int.mul_le_mul_of_nonneg_right h2 h3
  have a2 : -K * b ≤ k * b := Int.mul_le_mul_of_nonneg_right h1 h3
  have a3 : K * b ≤ K * C := Int.mul_le_mul_of_nonneg_left h4 hK
  have a4 : -K * b = -(K * b) := Int.neg_mul ..
  omega
theorem emod_range (x p : Int) (hp : 0 < p) : 0 ≤ x % p ∧ x % p < p := ⟨Int.emod_nonneg _ (by omega), Int.emod_lt_of_pos _ hp⟩
/-- Go's (x % p + p) % p is the remainder of mathematics. -/
theorem go_mod (x p : Int) (hp : 0 < p) : (x.tmod p + p).tmod p = x % p := by
  have h1 := Int.tmod_lt_of_pos x hp
  have h2 := Int.lt_tmod_of_pos x hp
  rw [Int.tmod_eq_emod_of_nonneg (by omega), Int.add_emod_right]
  rw [Int.tmod_eq_emod]
  split
  · simp
  · rw [Int.natAbs_of_nonneg (by omega), Int.sub_emod]; simp
/-- The remainders that a polynomial has as its coefficients. -/
def InP (p : Int) (l : List Int) : Prop := ∀ j, 0 ≤ at0 l j ∧ at0 l j < p
def IsB (l : List Int) : Prop := ∀ j, 0 ≤ at0 l j ∧ at0 l j ≤ 255
def PrimeP (p : Int) : Prop := p = 2 ∨ p = 3 ∨ p = 5 ∨ p = 7
theorem PrimeP.lo {p : Int} (h : PrimeP p) : 2 ≤ p := by unfold PrimeP at h; omega
theorem PrimeP.hi {p : Int} (h : PrimeP p) : p ≤ 7 := by unfold PrimeP at h; omega
theorem InP.b {p : Int} {l : List Int} (h : InP p l) (hp : p ≤ 256) : IsB l := fun j => ⟨(h j).1, by have := (h j).2; omega⟩
theorem InP.tab {p : Int} {n : Nat} {f : Nat → Int} (hp : 0 < p) (h : ∀ j, j < n → 0 ≤ f j ∧ f j < p) : InP p (tab n f) := fun j => by
  rw [at0_tab]; split
  · exact h j ‹_›
  · exact ⟨Int.le_refl _, hp⟩
theorem InP.nil {p : Int} (hp : 0 < p) : InP p [] := fun j => by rw [at0_nil]; exact ⟨Int.le_refl _, hp⟩
theorem IsB.tab {n : Nat} {f : Nat → Int} (h : ∀ j, j < n → 0 ≤ f j ∧ f j ≤ 255) : IsB (tab n f) := fun j => by
  rw [at0_tab]; split
  · exact h j ‹_›
  · exact ⟨Int.le_refl _, by omega⟩

theorem ret_int {k : IntKind} {a b : Int} (h : a = b) : Ending.returned (.int k a) = .returned (.int k b) := by rw [h]
theorem ret_bool {a b : Bool} (h : a = b) : Ending.returned (.bool a) = .returned (.bool b) := by rw [h]
theorem ret_agg {a b : List Int} (h : a = b) : Ending.returned (.agg (u8s a)) = .returned (.agg (u8s b)) := by rw [h]

end Go.Proofs.YtaemiknaiccijaaGreat

/- Rows of coefficients without superfluous zeros: sums, products, quotients and rests, as functions on lists. No program in sight. -/
namespace Go.Proofs.YtaemiknaiccijaaGreat

/-- How many of the first n coefficients there are up to the last that is not 0. -/
def rlen (f : Nat → Int) : Nat → Nat
  | 0 => 0
  | n + 1 => if f n = 0 then rlen f n else n + 1
def rowN (n : Nat) (f : Nat → Int) : List Int := tab (rlen f n) f
def trim (l : List Int) : List Int := rowN l.length (at0 l)
def pad (l : List Int) : List Int := tab 64 (at0 l)
/-- No superfluous zeros. -/
def NZ (l : List Int) : Prop := ∀ n, l.length = n + 1 → at0 l n ≠ 0
structure Can (p : Int) (l : List Int) : Prop where
  inp : InP p l
  nz : NZ l

theorem rlen_le (f : Nat → Int) : ∀ n, rlen f n ≤ n
  | 0 => Nat.le_refl _
  | n + 1 => by
    unfold rlen
    split
    · have := rlen_le f n; omega
    · omega
theorem rlen_zero (f : Nat → Int) : ∀ n j, rlen f n ≤ j → j < n → f j = 0
  | 0, j, _, h => absurd h (by omega)
  | n + 1, j, h1, h2 => by
    unfold rlen at h1
    split at h1
    · rename_i h0
      by_cases e : j = n
      · rw [e]; exact h0
      · exact rlen_zero f n j h1 (by omega)
    · omega
theorem rlen_last (f : Nat → Int) : ∀ n k, rlen f n = k + 1 → f k ≠ 0
  | 0, k, h => by simp [rlen] at h
  | n + 1, k, h => by
    unfold rlen at h
    split at h
    · exact rlen_last f n k h
    · rename_i h0
      have : n = k := by omega
      rw [← this]; exact h0
theorem rlen_congr {f g : Nat → Int} : ∀ n, (∀ j, j < n → f j = g j) → rlen f n = rlen g n
  | 0, _ => rfl
  | n + 1, h => by
    unfold rlen
    rw [h n (by omega), rlen_congr n fun j hj => h j (by omega)]
/-- Coefficients beyond that are 0 don't count. -/
theorem rlen_more (f : Nat → Int) (n m : Nat) (hnm : n ≤ m) (h : ∀ j, n ≤ j → j < m → f j = 0) : rlen f m = rlen f n := by
  induction m with
  | zero => have : n = 0 := by omega
            rw [this]
  | succ m ih =>
    by_cases e : n = m + 1
    · rw [e]
    · rw [rlen, if_pos (h m (by omega) (by omega)), ih (by omega) fun j h1 h2 => h j h1 (by omega)]
theorem rowN_length (n : Nat) (f : Nat → Int) : (rowN n f).length = rlen f n := tab_length _ _
theorem rowN_le (n : Nat) (f : Nat → Int) : (rowN n f).length ≤ n := by rw [rowN_length]; exact rlen_le f n
theorem at0_rowN (n : Nat) (f : Nat → Int) (j : Nat) : at0 (rowN n f) j = if j < n then f j else 0 := by
  unfold rowN
  rw [at0_tab]
  have := rlen_le f n
  by_cases h : j < rlen f n
  · rw [if_pos h, if_pos (by omega)]
  · rw [if_neg h]
    by_cases h2 : j < n
    · rw [if_pos h2, rlen_zero f n j (by omega) h2]
    · rw [if_neg h2]
theorem rowN_nz (n : Nat) (f : Nat → Int) : NZ (rowN n f) := fun k hk => by
  rw [rowN_length] at hk
  have h1 := rlen_last f n k hk
  have h2 := rlen_le f n
  rw [at0_rowN, if_pos (by omega)]
  exact h1
theorem nz_ext {a b : List Int} (ha : NZ a) (hb : NZ b) (h : ∀ j, at0 a j = at0 b j) : a = b := by
  have hl : a.length = b.length := by
    rcases Nat.lt_trichotomy a.length b.length with h1 | h1 | h1
    · have := hb (b.length - 1) (by omega)
      rw [← h, at0_out a _ (by omega)] at this
      exact absurd rfl this
    · exact h1
    · have := ha (a.length - 1) (by omega)
      rw [h, at0_out b _ (by omega)] at this
      exact absurd rfl this
  exact list_ext0 hl fun j _ => h j
theorem can_rowN {p : Int} (hp : 0 < p) {n : Nat} {f : Nat → Int} (h : ∀ j, j < n → 0 ≤ f j ∧ f j < p) : Can p (rowN n f) :=
  ⟨fun j => by rw [at0_rowN]; split; exact h j ‹_›; exact ⟨Int.le_refl _, hp⟩, rowN_nz n f⟩
theorem can_nil {p : Int} (hp : 0 < p) : Can p [] := ⟨InP.nil hp, fun n h => by simp at h⟩
theorem trim_nz (l : List Int) : NZ (trim l) := rowN_nz _ _
theorem at0_trim (l : List Int) (j : Nat) : at0 (trim l) j = at0 l j := by
  unfold trim
  rw [at0_rowN]
  split
  · rfl
  · rw [at0_out l j (by omega)]
theorem trim_self {l : List Int} (h : NZ l) : trim l = l := nz_ext (trim_nz l) h (at0_trim l)
theorem trim_le (l : List Int) : (trim l).length ≤ l.length := rowN_le _ _
theorem trim_take (l : List Int) : trim l = l.take (rlen (at0 l) l.length) := by
  have h := rlen_le (at0 l) l.length
  refine list_ext0 (by rw [trim, rowN_length]; simp; omega) fun j hj => ?_
  rw [at0_trim, at0_take, if_pos (by rw [trim, rowN_length] at hj; exact hj)]
theorem can_trim {p : Int} {l : List Int} (h : InP p l) : Can p (trim l) := ⟨fun j => by rw [at0_trim]; exact h j, trim_nz l⟩
theorem rowN_eq {n m : Nat} {f g : Nat → Int} (h : ∀ j, (if j < n then f j else 0) = if j < m then g j else 0) : rowN n f = rowN m g :=
  nz_ext (rowN_nz n f) (rowN_nz m g) fun j => by rw [at0_rowN, at0_rowN, h j]
theorem pad_length (l : List Int) : (pad l).length = 64 := tab_length _ _
theorem at0_pad (l : List Int) (h : l.length ≤ 64) (j : Nat) : at0 (pad l) j = at0 l j := by
  unfold pad
  rw [at0_tab]
  split
  · rfl
  · rw [at0_out l j (by omega)]
theorem pad_nil : pad [] = zeros64 := by rw [zeros64_tab]; exact tab_congr fun j _ => at0_nil j
theorem pad_eq {n : Nat} {f g : Nat → Int} (h : ∀ j, j < 64 → (if j < n then f j else 0) = g j) : pad (rowN n f) = tab 64 g :=
  tab_congr fun j hj => by rw [at0_rowN, h j hj]
theorem trim_pad {l : List Int} (hz : NZ l) (h : l.length ≤ 64) : trim (pad l) = l := nz_ext (trim_nz _) hz fun j => by rw [at0_trim, at0_pad l h]
theorem pad_trim {l : List Int} (h : l.length = 64) : pad (trim l) = l :=
  (tab_congr fun j _ => at0_trim l j).trans (tab_self' h)
theorem pad_inj {a b : List Int} (ha : NZ a) (hb : NZ b) (la : a.length ≤ 64) (lb : b.length ≤ 64) (h : pad a = pad b) : a = b := by
  rw [← trim_pad ha la, h, trim_pad hb lb]
theorem rlen_pad {l : List Int} (hz : NZ l) (h : l.length ≤ 64) : rlen (at0 (pad l)) 64 = l.length := by
  have := congrArg List.length (trim_pad hz h)
  rw [trim, rowN_length, pad_length] at this
  exact this
theorem InP.pad {p : Int} {l : List Int} (h : InP p l) (hp : 0 < p) : InP p (pad l) := InP.tab hp fun j _ => h j
theorem Can.last {p : Int} {l : List Int} (h : Can p l) (hne : 0 < l.length) : 1 ≤ at0 l (l.length - 1) ∧ at0 l (l.length - 1) < p := by
  have h1 := h.nz (l.length - 1) (by omega)
  have h2 := h.inp (l.length - 1)
  omega

/-! ### sums and multiples -/
def comb (p : Int) (a b : List Int) (t : Int) : List Int := rowN (max a.length b.length) fun j => (at0 a j + t * at0 b j) % p
theorem at0_comb {p : Int} (a b : List Int) (t : Int) (j : Nat) : at0 (comb p a b t) j = (at0 a j + t * at0 b j) % p := by
  unfold comb
  rw [at0_rowN]
  split
  · rfl
  · rw [at0_out a j (by omega), at0_out b j (by omega)]; simp
theorem comb_can {p : Int} (hp : 0 < p) (a b : List Int) (t : Int) : Can p (comb p a b t) := can_rowN hp fun _ _ => emod_range _ _ hp
theorem comb_le (p : Int) (a b : List Int) (t : Int) : (comb p a b t).length ≤ max a.length b.length := rowN_le _ _

/-! ### products -/
def sumN (n : Nat) (f : Nat → Int) : Int := match n with
  | 0 => 0
  | n + 1 => sumN n f + f n
def cpart (a b : Nat → Int) (i t : Nat) : Int := sumN i fun x => if x ≤ t then a x * b (t - x) else 0
theorem sumN_congr {f g : Nat → Int} : ∀ n, (∀ j, j < n → f j = g j) → sumN n f = sumN n g
  | 0, _ => rfl
  | n + 1, h => by rw [sumN, sumN, sumN_congr n fun j hj => h j (by omega), h n (by omega)]
theorem sumN_zero {f : Nat → Int} : ∀ n, (∀ j, j < n → f j = 0) → sumN n f = 0
  | 0, _ => rfl
  | n + 1, h => by rw [sumN, sumN_zero n fun j hj => h j (by omega), h n (by omega)]; rfl
theorem sumN_more {f : Nat → Int} (n m : Nat) (hnm : n ≤ m) (h : ∀ j, n ≤ j → j < m → f j = 0) : sumN m f = sumN n f := by
  induction m with
  | zero => have : n = 0 := by omega
            rw [this]
  | succ m ih =>
    by_cases e : n = m + 1
    · rw [e]
    · rw [sumN, h m (by omega) (by omega), ih (by omega) fun j h1 h2 => h j h1 (by omega)]; omega
/-- The coefficient of a product. -/
def cv (a b : List Int) (t : Nat) : Int := cpart (at0 a) (at0 b) a.length t
def mulr (p : Int) (a b : List Int) : List Int := rowN (a.length + b.length - 1) fun t => cv a b t % p
theorem cv_out (a b : List Int) (t : Nat) (h : a.length + b.length - 1 ≤ t) : cv a b t = 0 := by
  refine sumN_zero _ fun j hj => ?_
  split
  · rw [at0_out b (t - j) (by omega)]; simp
  · rfl
theorem at0_mulr {p : Int} (a b : List Int) (t : Nat) : at0 (mulr p a b) t = cv a b t % p := by
  unfold mulr
  rw [at0_rowN]
  split
  · rfl
  · rw [cv_out a b t (by omega)]; simp
theorem mulr_can {p : Int} (hp : 0 < p) (a b : List Int) : Can p (mulr p a b) := can_rowN hp fun _ _ => emod_range _ _ hp
theorem mulr_le (p : Int) (a b : List Int) : (mulr p a b).length ≤ a.length + b.length - 1 := rowN_le _ _
theorem mulr_nil_left (p : Int) (b : List Int) : mulr p [] b = [] := by
  refine nz_ext (rowN_nz _ _) (fun n h => by simp at h) fun j => ?_
  rw [at0_mulr, at0_nil]; simp [cv, cpart, sumN]
theorem mulr_nil_right (p : Int) (a : List Int) : mulr p a [] = [] := by
  refine nz_ext (rowN_nz _ _) (fun n h => by simp at h) fun j => ?_
  rw [at0_mulr, at0_nil]
  have : cv a [] j = 0 := sumN_zero _ fun i _ => by split <;> simp [at0_nil]
  rw [this]; simp

/-! ### the inverse of a number -/
def powm (p x : Int) : Nat → Int
  | 0 => 1
  | k + 1 => powm p x k * x % p
def invP (p x : Int) : Int := powm p x (p - 2).toNat
theorem invP_range {p x : Int} (hp : PrimeP p) : 0 ≤ invP p x ∧ invP p x < p := by
  unfold invP
  rcases hp with rfl | rfl | rfl | rfl
  · simp [powm]
  all_goals exact emod_range _ _ (by decide)
theorem invP_table : ∀ p ∈ [(2 : Int), 3, 5, 7], ∀ x ∈ [(1 : Int), 2, 3, 4, 5, 6], x < p → (invP p x * x % p = 1 ∧ ∀ k ∈ [(1 : Int), 2, 3, 4, 5, 6], k < p → k * x % p = 1 → k = invP p x) := by decide
theorem small_cases {x p : Int} (hp : PrimeP p) (h1 : 1 ≤ x) (h2 : x < p) : x ∈ [(1 : Int), 2, 3, 4, 5, 6] := by
  have := hp.hi
  have : x = 1 ∨ x = 2 ∨ x = 3 ∨ x = 4 ∨ x = 5 ∨ x = 6 := by omega
  simpa using this
theorem prime_mem {p : Int} (hp : PrimeP p) : p ∈ [(2 : Int), 3, 5, 7] := by simpa [PrimeP] using hp
theorem invP_mul {p x : Int} (hp : PrimeP p) (h1 : 1 ≤ x) (h2 : x < p) : invP p x * x % p = 1 := (invP_table p (prime_mem hp) x (small_cases hp h1 h2) h2).1
theorem invP_uniq {p x k : Int} (hp : PrimeP p) (h1 : 1 ≤ x) (h2 : x < p) (k1 : 1 ≤ k) (k2 : k < p) (hk : k * x % p = 1) : k = invP p x :=
  (invP_table p (prime_mem hp) x (small_cases hp h1 h2) h2).2 k (small_cases hp k1 k2) k2 hk
theorem invP_pos {p x : Int} (hp : PrimeP p) (h1 : 1 ≤ x) (h2 : x < p) : 1 ≤ invP p x := by
  have a := invP_mul hp h1 h2
  have b := (invP_range (x := x) hp).1
  rcases Int.lt_or_eq_of_le b with h | h
  · omega
  · rw [← h] at a; simp at a

/-! ### long division: coefficients as functions -/
def qd (p c : Int) (m : Nat) (a : Nat → Int) (s : Nat) : Int := a (s + m) * c % p
def dstep (p c : Int) (b : Nat → Int) (m : Nat) (a : Nat → Int) (s : Nat) : Nat → Int := fun t =>
  if s ≤ t ∧ t ≤ s + m then (a t - qd p c m a s * b (t - s)) % p else a t
def dR (p c : Int) (b : Nat → Int) (m : Nat) : Nat → (Nat → Int) → Nat → Int
  | 0, a => a
  | k + 1, a => dR p c b m k (dstep p c b m a k)
def dQ (p c : Int) (b : Nat → Int) (m : Nat) : Nat → (Nat → Int) → Nat → Int
  | 0, _ => fun _ => 0
  | k + 1, a => fun s => if s = k then qd p c m a k else dQ p c b m k (dstep p c b m a k) s
theorem dQ_same (p c : Int) (b : Nat → Int) (m k : Nat) (a : Nat → Int) : dQ p c b m (k + 1) a k = qd p c m a k := by
  show (if k = k then _ else _) = _
  rw [if_pos rfl]
theorem dQ_ne {p c : Int} {b : Nat → Int} {m k s : Nat} {a : Nat → Int} (h : s ≠ k) : dQ p c b m (k + 1) a s = dQ p c b m k (dstep p c b m a k) s := by
  show (if s = k then _ else _) = _
  rw [if_neg h]
/-- The steps of a division. -/
def dn (a b : List Int) : Nat := a.length + 1 - b.length
def lc (b : List Int) : Int := at0 b (b.length - 1)
def dq (p : Int) (a b : List Int) : List Int := rowN (dn a b) (dQ p (invP p (lc b)) (at0 b) (b.length - 1) (dn a b) (at0 a))
def dr (p : Int) (a b : List Int) : List Int := rowN a.length (dR p (invP p (lc b)) (at0 b) (b.length - 1) (dn a b) (at0 a))

theorem dstep_range {p c : Int} (hp : 0 < p) {b : Nat → Int} {m : Nat} {a : Nat → Int} {s : Nat} (h : ∀ t, 0 ≤ a t ∧ a t < p) : ∀ t, 0 ≤ dstep p c b m a s t ∧ dstep p c b m a s t < p := by
  intro t; unfold dstep; split
  · exact emod_range _ _ hp
  · exact h t
theorem dR_range {p c : Int} (hp : 0 < p) {b : Nat → Int} {m : Nat} : ∀ k {a : Nat → Int}, (∀ t, 0 ≤ a t ∧ a t < p) → ∀ t, 0 ≤ dR p c b m k a t ∧ dR p c b m k a t < p
  | 0, _, h => h
  | k + 1, _, h => dR_range hp k (dstep_range hp h)
theorem dQ_range {p c : Int} (hp : 0 < p) {b : Nat → Int} {m : Nat} : ∀ k {a : Nat → Int}, ∀ t, 0 ≤ dQ p c b m k a t ∧ dQ p c b m k a t < p
  | 0, _ => fun _ => ⟨Int.le_refl _, hp⟩
  | k + 1, _ => fun t => by
    unfold dQ; split
    · exact emod_range _ _ hp
    · exact dQ_range hp k t
theorem dQ_out {p c : Int} {b : Nat → Int} {m : Nat} : ∀ k {a : Nat → Int} t, k ≤ t → dQ p c b m k a t = 0
  | 0, _, _, _ => rfl
  | k + 1, _, t, h => by unfold dQ; rw [if_neg (by omega), dQ_out k t (by omega)]
theorem dR_out {p c : Int} {b : Nat → Int} {m : Nat} : ∀ k {a : Nat → Int} t, k + m ≤ t → dR p c b m k a t = a t
  | 0, _, _, _ => rfl
  | k + 1, a, t, h => by
    unfold dR
    rw [dR_out k t (by omega)]
    unfold dstep
    rw [if_neg (by omega)]
theorem dq_can {p : Int} (hp : 0 < p) (a b : List Int) : Can p (dq p a b) := can_rowN hp fun _ _ => dQ_range hp _ _
theorem dr_can {p : Int} (hp : 0 < p) {a b : List Int} (ha : InP p a) : Can p (dr p a b) := can_rowN hp fun _ _ => dR_range hp _ (fun t => ha t) _
theorem at0_dq (p : Int) (a b : List Int) (t : Nat) : at0 (dq p a b) t = dQ p (invP p (lc b)) (at0 b) (b.length - 1) (dn a b) (at0 a) t := by
  unfold dq
  rw [at0_rowN]
  split
  · rfl
  · rw [dQ_out _ _ (by omega)]
theorem at0_dr (p : Int) (a b : List Int) (hb : 0 < b.length) (t : Nat) : at0 (dr p a b) t = dR p (invP p (lc b)) (at0 b) (b.length - 1) (dn a b) (at0 a) t := by
  unfold dr
  rw [at0_rowN]
  split
  · rfl
  · by_cases h : dn a b = 0
    · rw [h]; unfold dR; rw [at0_out a t (by omega)]
    · rw [dR_out _ _ (by unfold dn at h ⊢; omega), at0_out a t (by omega)]
theorem dq_le (p : Int) (a b : List Int) : (dq p a b).length ≤ a.length + 1 - b.length := rowN_le _ _
theorem dr_le (p : Int) (a b : List Int) : (dr p a b).length ≤ a.length := rowN_le _ _

/-- The leading coefficients are struck one by one. -/
theorem dR_top {p : Int} (hp : PrimeP p) {c : Int} {b : Nat → Int} {m : Nat} (hc : c * b m % p = 1) : ∀ k {a : Nat → Int}, ∀ s, s < k → dR p c b m k a (s + m) = 0
  | 0, _, s, h => absurd h (by omega)
  | k + 1, a, s, h => by
    unfold dR
    by_cases e : s = k
    · subst e
      rw [dR_out s (s + m) (Nat.le_refl _)]
      unfold dstep
      rw [if_pos ⟨by omega, by omega⟩, show s + m - s = m by omega]
      unfold qd
      have h1 : (a (s + m) - a (s + m) * c % p * b m) % p = (a (s + m) - a (s + m) * (c * b m % p)) % p := by
        rw [Int.sub_emod, Int.mul_emod (a (s + m) * c % p), Int.emod_emod_of_dvd _ (Int.dvd_refl p), ← Int.mul_emod, ← Int.sub_emod]
        rw [Int.sub_emod (a (s + m)) (a (s + m) * (c * b m % p)), Int.mul_emod (a (s + m)) (c * b m % p), Int.emod_emod_of_dvd _ (Int.dvd_refl p), ← Int.mul_emod, ← Int.sub_emod, Int.mul_assoc]
      rw [h1, hc]
      simp
    · exact dR_top hp hc k s (by omega)
theorem dr_lt {p : Int} (hp : PrimeP p) {a b : List Int} (hb : Can p b) (hne : 0 < b.length) : (dr p a b).length < b.length := by
  have hl := hb.last hne
  have hc := invP_mul hp hl.1 hl.2
  have hz : NZ (dr p a b) := rowN_nz _ _
  have key : ∀ t, b.length - 1 ≤ t → at0 (dr p a b) t = 0 := by
    intro t ht
    rw [at0_dr p a b hne]
    by_cases h : t < dn a b + (b.length - 1)
    · have := dR_top hp (b := at0 b) (m := b.length - 1) (c := invP p (lc b)) hc (dn a b) (a := at0 a) (t - (b.length - 1)) (by omega)
      rwa [show t - (b.length - 1) + (b.length - 1) = t by omega] at this
    · rw [dR_out _ _ (by omega), at0_out a t (by unfold dn at h; omega)]
  rcases Nat.lt_or_ge (dr p a b).length b.length with h | h
  · exact h
  · exact absurd (key ((dr p a b).length - 1) (by omega)) (hz _ (by omega))

end Go.Proofs.YtaemiknaiccijaaGreat

/- Small laws for the walks: what a function hands back out of its cells, make of a row of numbers, and the loaded program's own facts. -/
namespace Go.Proofs.YtaemiknaiccijaaGreat
open Go.RowKit

theorem run_load_arr {P : Program} {w : World} {g : Nat} {T ty e : TypeId} {l : List Int} (h : Arr w g T l) (hl : l.length = 64) (hu : P.underlying ty = some (.array 64 e)) (hi : (P.info? ty).map (·.size) = some 64) :
    (loadVar ty ⟨g, 0, none⟩).run P w = .ok (.agg (u8s l)) w :=
  run_loadVar_row w g T ty _ (0, 0) _ h hu rfl (by rw [hi, u8s_size, hl])
section
variable {P : Program} {fn : Func} {tmps : Array Value} {w : World}
theorem res_c {p ty e T : Nat} {g : Nat} {l : List Int} (h : fn.results = #[.cell p ty]) (hp : tmps[p]?.getD undef = .pointer (some ⟨g, 0, none⟩)) (hg : Arr w g T l) (hl : l.length = 64) (hu : P.underlying ty = some (.array 64 e)) (hi : (P.info? ty).map (·.size) = some 64) :
    (results fn tmps).run P w = .ok (.agg (u8s l)) w := by
  simp [results, h, hp, asAddr, run_load_arr hg hl hu hi]
theorem res_ct {p t ty e T : Nat} {g : Nat} {l : List Int} {v : Value} (h : fn.results = #[.cell p ty, .tmp t]) (hp : tmps[p]?.getD undef = .pointer (some ⟨g, 0, none⟩)) (hv : tmps[t]?.getD undef = v) (hg : Arr w g T l) (hl : l.length = 64) (hu : P.underlying ty = some (.array 64 e)) (hi : (P.info? ty).map (·.size) = some 64) :
    (results fn tmps).run P w = .ok (.tuple #[.agg (u8s l), v]) w := by
  simp [results, h, hp, hv, asAddr, run_load_arr hg hl hu hi]
theorem res_cc {p q ty e T T' : Nat} {g g' : Nat} {l l' : List Int} (h : fn.results = #[.cell p ty, .cell q ty]) (hp : tmps[p]?.getD undef = .pointer (some ⟨g, 0, none⟩)) (hq : tmps[q]?.getD undef = .pointer (some ⟨g', 0, none⟩))
    (hg : Arr w g T l) (hl : l.length = 64) (hg' : Arr w g' T' l') (hl' : l'.length = 64) (hu : P.underlying ty = some (.array 64 e)) (hi : (P.info? ty).map (·.size) = some 64) :
    (results fn tmps).run P w = .ok (.tuple #[.agg (u8s l), .agg (u8s l')]) w := by
  simp [results, h, hp, hq, asAddr, run_load_arr hg hl hu hi, run_load_arr hg' hl' hu hi]
theorem res_ccc {p q r ty e T T' T'' : Nat} {g g' g'' : Nat} {l l' l'' : List Int} (h : fn.results = #[.cell p ty, .cell q ty, .cell r ty]) (hp : tmps[p]?.getD undef = .pointer (some ⟨g, 0, none⟩)) (hq : tmps[q]?.getD undef = .pointer (some ⟨g', 0, none⟩)) (hr : tmps[r]?.getD undef = .pointer (some ⟨g'', 0, none⟩))
    (hg : Arr w g T l) (hl : l.length = 64) (hg' : Arr w g' T' l') (hl' : l'.length = 64) (hg'' : Arr w g'' T'' l'') (hl'' : l''.length = 64) (hu : P.underlying ty = some (.array 64 e)) (hi : (P.info? ty).map (·.size) = some 64) :
    (results fn tmps).run P w = .ok (.tuple #[.agg (u8s l), .agg (u8s l'), .agg (u8s l'')]) w := by
  simp [results, h, hp, hq, hr, asAddr, run_load_arr hg hl hu hi, run_load_arr hg' hl' hu hi, run_load_arr hg'' hl'' hu hi]
end

theorem zlit : (#[.int .u8 0, .int .u8 0, .int .u8 0, .int .u8 0, .int .u8 0, .int .u8 0, .int .u8 0, .int .u8 0, .int .u8 0, .int .u8 0, .int .u8 0, .int .u8 0, .int .u8 0, .int .u8 0, .int .u8 0, .int .u8 0,
    .int .u8 0, .int .u8 0, .int .u8 0, .int .u8 0, .int .u8 0, .int .u8 0, .int .u8 0, .int .u8 0, .int .u8 0, .int .u8 0, .int .u8 0, .int .u8 0, .int .u8 0, .int .u8 0, .int .u8 0, .int .u8 0,
    .int .u8 0, .int .u8 0, .int .u8 0, .int .u8 0, .int .u8 0, .int .u8 0, .int .u8 0, .int .u8 0, .int .u8 0, .int .u8 0, .int .u8 0, .int .u8 0, .int .u8 0, .int .u8 0, .int .u8 0, .int .u8 0,
    .int .u8 0, .int .u8 0, .int .u8 0, .int .u8 0, .int .u8 0, .int .u8 0, .int .u8 0, .int .u8 0, .int .u8 0, .int .u8 0, .int .u8 0, .int .u8 0, .int .u8 0, .int .u8 0, .int .u8 0, .int .u8 0] : Array Value) = u8s zeros64 := rfl

theorem infoPoly : (Tryz.prog.info? 25).map (·.size) = some 64 := by kernel_rfl
theorem infoInt64 : (Tryz.prog.info? 2).map (fun i => (i.zero, i.size, i.bytes)) = some (some (.int .i64 0), 1, 8) := by kernel_rfl

theorem run_store_arr {P : Program} {w : World} {g : Nat} {T ty : TypeId} {old l : List Int} (h : Arr w g T old) (ho : old.length = 64) (hl : l.length = 64) (hi : (P.info? ty).map (·.size) = some 64) :
    (storeVar ty ⟨g, 0, none⟩ (.agg (u8s l))).run P w = .ok () (w.setRow g (u8s l)) :=
  run_storeVar_row w g T ty _ _ h (by rw [hi, u8s_size, hl]) (by rw [u8s_size, u8s_size, ho, hl]) (by
    rw [Array.all_eq_true_iff_forall_mem]
    intro v hv
    unfold u8s at hv
    simp only [List.mem_toArray, List.mem_map] at hv
    obtain ⟨x, _, rfl⟩ := hv
    rfl)
section
variable {w w' : World} {g k : Nat} {T : TypeId} {l old : List Int}
theorem Arr.setRow (h : Arr w g T old) : Arr (w.setRow g (u8s l)) g T l := setRow_heap w g _ _ T _ h
theorem Arr.setRow_other (h : Arr w g T l) (hne : g ≠ k) (cs : Array Value) : Arr (w.setRow k cs) g T l := (Go.setRow_other w k g cs hne).trans h
theorem Ints.setRow_other (h : Ints w g T l) (hne : g ≠ k) (cs : Array Value) : Ints (w.setRow k cs) g T l := (Go.setRow_other w k g cs hne).trans h
theorem Ext.setRow {a w : World} (h : Ext a w) {g : Nat} (hg : a.heap.size ≤ g) (cs : Array Value) : Ext a (w.setRow g cs) :=
  h.trans ⟨rfl, rfl, rfl, by simp, fun i hi => Go.setRow_other w g i cs (by omega)⟩
theorem bsetRow {B : Nat} {a w : World} (h : Below B a w) {g : Nat} (hg : B ≤ g) (cs : Array Value) : Below B a (w.setRow g cs) :=
  h.trans ⟨rfl, rfl, rfl, by simp, fun i hi => Go.setRow_other w g i cs (by omega)⟩
end
section
variable {ops : Array Oper} {rest : List Oper} {o : Oper} {a : Act} {w : World} {Q : Exit → Act → World → Prop}
/-- A whole polynomial is read out of its block. -/
theorem wplL (x : Operand) (ho : o.op = .load 25 x) (hgd : o.guard = none) {g : Nat} {T : TypeId} {l : List Int} (hg : Arr w g T l) (hx : a.eval x = .pointer (some ⟨g, 0, none⟩)) (hl : l.length = 64)
    (h : wpList Tryz.prog ops Q rest (a.put o.dst (.agg (u8s l))) w) : wpList Tryz.prog ops Q (o :: rest) a w :=
  wpList_load_row hgd _ x ho g hx T _ (0, 0) _ hg Tryz.underlying25 rfl (by rw [infoPoly, u8s_size, hl]) h
/-- A whole polynomial is laid into its block. -/
theorem wplS (x y : Operand) (ho : o.op = .store 25 x y) (hgd : o.guard = none) {g : Nat} {T : TypeId} {old l : List Int} (hg : Arr w g T old) (hx : a.eval x = .pointer (some ⟨g, 0, none⟩)) (hy : a.eval y = .agg (u8s l)) (hold : old.length = 64) (hl : l.length = 64)
    (h : wpList Tryz.prog ops Q rest (a.put o.dst undef) (w.setRow g (u8s l))) : wpList Tryz.prog ops Q (o :: rest) a w :=
  wpList_plain hgd fun K hK => by
    unfold Oper.wp execOp
    simp only [ho, hx, hy, Instr.storeAt, Instr.sureAddr, Sem.run_bind, Sem.run_pure, Result.andThen_ok, run_store_arr hg hold hl infoPoly]
    exact hK _ _ h
end

/-- The same, the world behind it under a name of its own: the walk stops there. -/
theorem wplW {ops : Array Oper} {rest : List Oper} {o : Oper} {a : Act} {w : World} {Q : Exit → Act → World → Prop} (x y : Operand) (ho : o.op = .store 25 x y) (hgd : o.guard = none) {g : Nat} {T : TypeId} {old l : List Int} (hg : Arr w g T old) (hx : a.eval x = .pointer (some ⟨g, 0, none⟩)) (hy : a.eval y = .agg (u8s l)) (hold : old.length = 64) (hl : l.length = 64)
    (h : ∀ w', w.grownBy w' (some g) → w'.heap.size = w.heap.size → Arr w' g T l → wpList Tryz.prog ops Q rest (a.put o.dst undef) w') : wpList Tryz.prog ops Q (o :: rest) a w :=
  wplS x y ho hgd hg hx hy hold hl (h _ ⟨rfl, rfl, rfl, by simp, fun k _ hk => Go.setRow_other w g k _ (fun e => hk (by rw [e]))⟩ (by simp) hg.setRow)
theorem Arr.grown {w w' : World} {g k : Nat} {T : TypeId} {l : List Int} (h : Arr w g T l) (hg : w.grownBy w' (some k)) (hne : g ≠ k) : Arr w' g T l :=
  (hg.block g h.lt (fun e => hne (Option.some.inj e))).trans h
theorem Ints.grown {w w' : World} {g k : Nat} {T : TypeId} {l : List Int} (h : Ints w g T l) (hg : w.grownBy w' (some k)) (hne : g ≠ k) : Ints w' g T l :=
  (hg.block g h.lt (fun e => hne (Option.some.inj e))).trans h
theorem Ext.grown {a w w' : World} (h : Ext a w) {k : Nat} (hg : w.grownBy w' (some k)) (hk : a.heap.size ≤ k) : Ext a w' := Below.grown h hg h.size fun j hj => by
  have := Option.some.inj hj
  omega

/-! ### make of a row of numbers -/
theorem madeCells_ints (n : Nat) : madeCells (Value.int .i64 0).cells n = i64s (List.replicate n 0) := by
  unfold madeCells i64s
  apply Array.ext'
  simp only [Array.toList_map, Array.toList_range, List.map_replicate]
  refine List.ext_getElem (by simp) fun i h1 h2 => ?_
  simp [Value.cells, Nat.mod_one]
theorem run_make_ints {P : Program} {w : World} {t e : TypeId} (ht : P.underlying t = some (.slice e)) (hi : (P.info? e).map (fun i => (i.zero, i.size, i.bytes)) = some (some (.int .i64 0), 1, 8)) (n : Nat) (hn : n ≤ 1000000) :
    (Instr.makeSlice t (.int .i64 (n : Int)) (.int .i64 (n : Int))).run P w = .ok (.slice (some ⟨w.heap.size, 0, none⟩) n n) (w.alloc (.cells (i64s (List.replicate n 0)) e)) := by
  obtain ⟨i, h1, h2, h3, h4⟩ := info_parts hi
  have := run_make (P := P) w t e i _ ht h1 h2 .i64 .i64 n n (by omega) (Int.le_refl _) (by rw [h4]; omega) (by omega)
  rw [this, h3, Int.toNat_natCast, Nat.mul_one, madeCells_ints]

/-- So many arrays are laid, one behind the other. -/
def allocs (w : World) (T : TypeId) : List (List Int) → World
  | [] => w
  | l :: ls => allocs (w.alloc (.cells (u8s l) T)) T ls
theorem allocs_keep {T : TypeId} {g : Nat} {l : List Int} : ∀ (ls : List (List Int)) (w : World), Arr w g T l → Arr (allocs w T ls) g T l
  | [], _, h => h
  | _ :: ls, _, h => allocs_keep ls _ (h.alloc _)
theorem allocs_arr {T : TypeId} {l : List Int} : ∀ (ls : List (List Int)) (w : World) (i : Nat), ls[i]? = some l → Arr (allocs w T ls) (w.heap.size + i) T l
  | [], _, i, h => by simp at h
  | x :: ls, w, 0, h => by
    simp only [List.getElem?_cons_zero, Option.some.injEq] at h
    subst h
    exact allocs_keep ls _ (Arr.new w T x)
  | x :: ls, w, i + 1, h => by
    have := allocs_arr (T := T) ls (w.alloc (.cells (u8s x) T)) i (by simpa using h)
    rw [show w.heap.size + (i + 1) = (w.alloc (.cells (u8s x) T)).heap.size + i by simp; omega]
    exact this
theorem allocs_ext (w : World) (T : TypeId) : ∀ (ls : List (List Int)) (w' : World), Ext w w' → Ext w (allocs w' T ls)
  | [], _, h => h
  | _ :: ls, _, h => allocs_ext w T ls _ (h.alloc _)
theorem allocs_size (T : TypeId) : ∀ (ls : List (List Int)) (w : World), (allocs w T ls).heap.size = w.heap.size + ls.length
  | [], _ => rfl
  | _ :: ls, w => by rw [allocs, allocs_size T ls]; simp; omega

end Go.Proofs.YtaemiknaiccijaaGreat

/- The reference's functions on numbers and on the degree of a polynomial. -/
namespace Go.Proofs.YtaemiknaiccijaaGreat
open Go.RowKit

def primeB (p : Int) : Bool := p == 2 || p == 3 || p == 5 || p == 7
theorem primeB_iff (p : Int) : primeB p = true ↔ PrimeP p := by simp [primeB, PrimeP, or_assoc]
def inB (n lo hi : Int) : Bool := decide (lo ≤ n) && decide (n ≤ hi)

set_option maxHeartbeats 400000 in
theorem l01Prime_any (p : Int) (w : World) :
    Calls Tryz.prog 94 #[.int .i64 p] w fun e w' => e = .returned (.bool (primeB p)) ∧ w = w' := by
  by_cases h2 : p = 2
  · subst h2
    go_enter Tryz.func94, Tryz.ntmps94
    go_wp2
    go_ret
    exact ⟨rfl, rfl⟩
  by_cases h3 : p = 3
  · subst h3
    go_enter Tryz.func94, Tryz.ntmps94
    go_wp2
    go_ret
    exact ⟨rfl, rfl⟩
  by_cases h5 : p = 5
  · subst h5
    go_enter Tryz.func94, Tryz.ntmps94
    go_wp2
    go_ret
    exact ⟨rfl, rfl⟩
  have e2 : (p == 2) = false := by simpa using h2
  have e3 : (p == 3) = false := by simpa using h3
  have e5 : (p == 5) = false := by simpa using h5
  have fin : primeB p = (p == 7) := by simp [primeB, h2, h3, h5]
  have F := Lib.hid fin
  clear fin
  go_enter Tryz.func94, Tryz.ntmps94
  go_wp2
  all_goals
    go_ret
    exact ⟨ret_bool (by rw [F.out]; try simp_all), rfl⟩

set_option maxHeartbeats 400000 in
theorem l01In_any (n lo hi : Int) (w : World) :
    Calls Tryz.prog 111 #[.int .i64 n, .int .i64 lo, .int .i64 hi] w fun e w' => e = .returned (.bool (inB n lo hi)) ∧ w = w' := by
  by_cases h1 : lo ≤ n
  · have F : Hid (inB n lo hi = decide (n ≤ hi)) := Lib.hid (by simp [inB, h1])
    go_enter Tryz.func111, Tryz.ntmps111
    go_wp2
    all_goals
      go_ret
      exact ⟨ret_bool F.out.symm, rfl⟩
  · have F : Hid (inB n lo hi = false) := Lib.hid (by simp [inB, h1])
    go_enter Tryz.func111, Tryz.ntmps111
    go_wp2
    all_goals
      go_ret
      exact ⟨ret_bool F.out.symm, rfl⟩

set_option maxHeartbeats 400000 in
theorem l01Deg_any (l : List Int) (hl : l.length = 64) (w : World) :
    Calls Tryz.prog 49 #[.agg (u8s l)] w fun e w' => e = .returned (.int .i64 ((rlen (at0 l) 64 : Nat) - 1)) ∧ Ext w w' := by
  have HL := Lib.hid hl
  clear hl
  have HC : Arr (w.alloc (.cells (u8s l) 25)) w.heap.size 25 l := Arr.new w _ l
  go_enter Tryz.func49, Tryz.ntmps49
  go_wp2
  go_loop [3] (fun i => ∃ k : Nat, k ≤ 64 ∧ i = .int .i64 ((k : Int) - 1) ∧ rlen (at0 l) k = rlen (at0 l) 64) (fun i => ((intOf i) + 1).toNat)
  case atStart => exact ⟨64, by omega, rfl, rfl⟩
  case round =>
    obtain ⟨k, hk, rfl, hd⟩ := hrel
    have HD := Lib.hid hd
    clear hd
    by_cases hk0 : 1 ≤ k
    · have hc := HC.cell (k - 1) (by rw [HL.out]; omega)
      by_cases hz : at0 l (k - 1) = 0
      · have HZ := Lib.hid hz
        have hb : (at0 l (k - 1) == 0) = true := by rw [hz]; rfl
        clear hz
        go_wp2
        go_round
        case rel =>
          refine ⟨k - 1, by omega, by congr 1; omega, ?_⟩
          rw [← HD.out]
          obtain ⟨m, rfl⟩ : ∃ m, k = m + 1 := ⟨k - 1, by omega⟩
          rw [Nat.add_sub_cancel, rlen, if_pos (by simpa using HZ.out)]
        case measure => simp [intOf]; omega
      · have HZ := Lib.hid hz
        have hb : (at0 l (k - 1) == 0) = false := by simpa using hz
        clear hz
        go_wp2
        go_ret
        refine ⟨ret_int ?_, (Ext.refl w).alloc _⟩
        rw [← HD.out]
        obtain ⟨m, rfl⟩ : ∃ m, k = m + 1 := ⟨k - 1, by omega⟩
        rw [rlen, if_neg (by simpa using HZ.out)]
    · have hk1 : k = 0 := by omega
      subst hk1
      go_wp2
      go_ret
      refine ⟨ret_int ?_, (Ext.refl w).alloc _⟩
      rw [← HD.out]
      rfl

theorem l01Deg_pad (a : List Int) (n : Int) (hz : NZ a) (h64 : a.length ≤ 64) (hn : n = (a.length : Int) - 1) (w : World) :
    Calls Tryz.prog 49 #[.agg (u8s (pad a))] w fun e w' => e = .returned (.int .i64 n) ∧ Ext w w' :=
  (l01Deg_any _ (pad_length a) w).mono fun _ _ ⟨h1, h2⟩ => ⟨by rw [h1, rlen_pad hz h64, hn], h2⟩

end Go.Proofs.YtaemiknaiccijaaGreat

/- A region that draws its order and calls functions that only make memory: whatever order is drawn, each operation of its head has told what it has to tell, and the forced tail goes on from there. -/
namespace Go.Proofs.YtaemiknaiccijaaGreat
open Go.RowKit

section
variable {P : Program} {ops : Array Oper}

/-- What an operation does, told of its value and of the world behind it. -/
def DoesR (P : Program) (w : World) (S : Value → World → Prop) : Result Next → Prop
  | .ok (.value v) w' => S v w' ∧ Ext w w'
  | .ok .skip w' => S undef w' ∧ Ext w w'
  | .ok (.enter f args) w' => Calls P f args w' fun e w'' => ∃ v, e = .returned v ∧ S v w'' ∧ Ext w w''
  | .ok (.row r args) w' => Rows P r args w' fun v w'' => S v w'' ∧ Ext w w''
  | _ => False
def Does (P : Program) (ops : Array Oper) (o : Oper) (a : Act) (w : World) (S : Value → World → Prop) : Prop :=
  if Region.wanted o (yielded ops a.tmps) = true then DoesR P w S ((execOp a.eval o).run P w) else S undef w

theorem does_intro {o : Oper} {a : Act} {w : World} {S : Value → World → Prop} {d : Nat} (hd : o.dst = some d) (hsz : d < a.tmps.size)
    (h : ∀ K : Act → World → Prop, (∀ a' w', S (a'.tmps.getD d undef) w' → Ext w w' → a'.defers = a.defers → K a' w') →
      if Region.wanted o (yielded ops a.tmps) then o.wp P a w K (fun _ _ _ => False) else K (a.put o.dst undef) w) : Does P ops o a w S := by
  have hput : ∀ v, (a.put o.dst v).tmps.getD d undef = v := fun v => by
    simp [hd, Act.put, hsz]
  have h1 := h (fun a' w' => S (a'.tmps.getD d undef) w' ∧ Ext w w' ∧ a'.defers = a.defers) fun a' w' x y z => ⟨x, y, z⟩
  unfold Does
  split at h1
  · rename_i hw
    rw [if_pos hw]
    unfold Oper.wp at *
    generalize (execOp a.eval o).run P w = r at *
    cases r with
    | ok x w' =>
      cases x with
      | value v => exact ⟨by have := h1.1; rwa [hput] at this, h1.2.1⟩
      | skip => exact ⟨by have := h1.1; rwa [hput] at this, h1.2.1⟩
      | «defer» df =>
        have h2 := h1.2.2
        have : ∀ (b : Act) (x : Option Tmp) (v : Value), (b.put x v).defers = b.defers := fun b x v => by cases x <;> rfl
        rw [this] at h2
        have h3 := congrArg List.length h2
        simp at h3
      | enter f args =>
        refine Calls.mono h1 fun e w' he => ?_
        cases e with
        | returned v => exact ⟨v, rfl, by have := he.1; rwa [hput] at this, he.2.1⟩
        | panicked c => exact he.elim
        | outgrown => obtain ⟨_, _, he⟩ := he; exact he.elim
      | row r args => exact Rows.mono h1 fun v w' he => ⟨by have := he.1; rwa [hput] at this, he.2.1⟩
      | _ => exact h1.elim
    | halt x w' =>
      cases x with
      | panic v => exact h1.elim
      | _ => exact h1.elim
  · rename_i hw
    rw [if_neg hw]
    have := h1.1
    rwa [hput] at this

def preAct (a : Act) (vals : Nat → Value) : Nat → List Oper → Act
  | _, [] => a
  | i, o :: os => preAct (a.put o.dst (vals i)) vals (i + 1) os

def dstOf (ops : Array Oper) (i : Nat) : Option Tmp := (ops[i]?).bind (·.dst)

/-- Each operation of the head writes a slot of its own, and looks only at slots that no operation of the head writes, or one that it waits for. -/
def headB (ops : Array Oper) (n size : Nat) : Bool :=
  (List.range n).all fun i => match ops[i]? with
    | none => false
    | some o =>
      (match o.dst with
        | none => false
        | some d => decide (d < size) && (List.range n).all fun j => j == i || dstOf ops j != some d) &&
      ((o.looksAt ops).all fun t => (List.range n).all fun j => dstOf ops j != some t || (decide (j < i) && Region.waitsFor .any ops i j)) &&
      o.after.toList.all fun e => !Region.binds .any e || decide (e.on < i)
def tailB (ops : Array Oper) (n : Nat) : Bool :=
  Region.noSelect ops && decide (n < ops.size) && Region.sinkB .any ops n && Region.chainB .any ops n &&
    Region.seqB .any ops (ops.size - n) n ((List.range n).foldl (fun l i => l.setIfInBounds i true) (Array.replicate ops.size false))

structure HeadOk (ops : Array Oper) (n size : Nat) (i : Nat) : Prop where
  ex : ∃ o d, ops[i]? = some o ∧ o.dst = some d ∧ d < size
  own : ∀ j d, j < n → j ≠ i → dstOf ops i = some d → dstOf ops j ≠ some d
  looks : ∀ o t, ops[i]? = some o → t ∈ o.looksAt ops → ∀ j, j < n → dstOf ops j = some t → j < i ∧ Region.waitsFor .any ops i j = true
  lex : ∀ o e, ops[i]? = some o → e ∈ o.after → Region.binds .any e = true → e.on < i

theorem headB_spec {n size : Nat} (h : headB ops n size = true) : ∀ i, i < n → HeadOk ops n size i := by
  intro i hi
  unfold headB at h
  have h1 := List.all_eq_true.1 h i (List.mem_range.2 hi)
  cases ho : ops[i]? with
  | none => simp [ho] at h1
  | some o =>
    simp only [ho] at h1
    cases hd : o.dst with
    | none => simp [hd] at h1
    | some d =>
      simp only [hd, Bool.and_eq_true, decide_eq_true_eq] at h1
      obtain ⟨⟨⟨h2, h3⟩, h4⟩, h6⟩ := h1
      have hdi : dstOf ops i = some d := by simp [dstOf, ho, hd]
      refine ⟨⟨o, d, ho, hd, h2⟩, fun j d' hj hne hd' => ?_, fun o' t ho' ht j hj hjt => ?_, fun o' e ho' he hb => ?_⟩
      · have : d' = d := by rw [hdi] at hd'; exact (Option.some.inj hd').symm
        subst this
        have h5 := List.all_eq_true.1 h3 j (List.mem_range.2 hj)
        simp only [Bool.or_eq_true, beq_iff_eq, bne_iff_ne] at h5
        rcases h5 with h5 | h5
        · exact absurd h5 hne
        · exact h5
      · have : o' = o := Option.some.inj (ho'.symm.trans ho)
        subst this
        have h5 := List.all_eq_true.1 (List.all_eq_true.1 h4 t ht) j (List.mem_range.2 hj)
        simp only [Bool.or_eq_true, bne_iff_ne, Bool.and_eq_true, decide_eq_true_eq] at h5
        rcases h5 with h5 | h5
        · exact absurd hjt h5
        · exact h5
      · have : o' = o := Option.some.inj (ho'.symm.trans ho)
        subst this
        have h5 := List.all_eq_true.1 h6 e (by simpa using he)
        simp only [Bool.or_eq_true, Bool.not_eq_true', decide_eq_true_eq] at h5
        rcases h5 with h5 | h5
        · rw [hb] at h5; cases h5
        · exact h5

/-- The frame when the operations of which L tells have run. -/
structure St (ops : Array Oper) (n : Nat) (a0 : Act) (vals : Nat → Value) (L : Nat → Prop) (a : Act) : Prop where
  defers : a.defers = a0.defers
  size : a.tmps.size = a0.tmps.size
  done : ∀ j, j < n → L j → ∀ d, dstOf ops j = some d → a.tmps[d]? = some (vals j)
  rest : ∀ t, (∀ j, j < n → L j → dstOf ops j ≠ some t) → a.tmps[t]? = a0.tmps[t]?

theorem St.put {n : Nat} {a0 a : Act} {vals : Nat → Value} {L : Nat → Prop} (h : St ops n a0 vals L a) {i : Nat} (hi : i < n) (hok : HeadOk ops n a0.tmps.size i) {o : Oper} (ho : ops[i]? = some o) (hL : ¬ L i) (v : Value) :
    St ops n a0 (fun j => if j = i then v else vals j) (fun j => L j ∨ j = i) (a.put o.dst v) := by
  obtain ⟨o', d, ho', hd, hsz⟩ := hok.ex
  have : o' = o := Option.some.inj (ho'.symm.trans ho)
  subst this
  have hdi : dstOf ops i = some d := by simp [dstOf, ho, hd]
  rw [hd]
  refine ⟨h.defers, by simp [Act.put, h.size], fun j hj hl d' hd' => ?_, fun t ht => ?_⟩
  · by_cases e : j = i
    · subst e
      have : d' = d := by rw [hdi] at hd'; exact (Option.some.inj hd').symm
      subst this
      simp [Act.put, h.size, hsz]
    · have hne : d' ≠ d := fun e' => hok.own j d hj e hdi (by rw [hd', e'])
      rw [if_neg e]
      simp only [Act.put]
      rw [Array.getElem?_setIfInBounds_ne (Ne.symm hne)]
      exact h.done j hj (hl.resolve_right e) d' hd'
  · have hne : t ≠ d := fun e => ht i hi (.inr rfl) (by rw [hdi, e])
    simp only [Act.put]
    rw [Array.getElem?_setIfInBounds_ne (Ne.symm hne)]
    exact h.rest t fun j hj hl => ht j hj (.inl hl)

theorem St.congr {n : Nat} {a0 a : Act} {vals vals' : Nat → Value} {L L' : Nat → Prop} (h : St ops n a0 vals L a) (hL : ∀ j, j < n → (L j ↔ L' j)) (hv : ∀ j, j < n → L j → vals j = vals' j) : St ops n a0 vals' L' a :=
  ⟨h.defers, h.size, fun j hj hl d hd => by rw [← hv j hj ((hL j hj).2 hl)]; exact h.done j hj ((hL j hj).2 hl) d hd, fun t ht => h.rest t fun j hj hl => ht j hj ((hL j hj).1 hl)⟩

theorem St.uniq {n : Nat} {a0 a a' : Act} {vals : Nat → Value} {L : Nat → Prop} (h : St ops n a0 vals L a) (h' : St ops n a0 vals L a') : a = a' := by
  have ht : a.tmps = a'.tmps := by
    apply Array.ext_getElem?
    intro t
    by_cases hx : ∃ j, j < n ∧ L j ∧ dstOf ops j = some t
    · obtain ⟨j, hj, hl, hd⟩ := hx
      rw [h.done j hj hl t hd, h'.done j hj hl t hd]
    · have hy : ∀ j, j < n → L j → dstOf ops j ≠ some t := fun j hj hl hd => hx ⟨j, hj, hl, hd⟩
      rw [h.rest t hy, h'.rest t hy]
  have hd : a.defers = a'.defers := h.defers.trans h'.defers.symm
  cases a; cases a'; simp_all

/-- Two frames that agree at what an operation looks at serve it alike. -/
theorem slot_agree {n : Nat} {a0 a a' : Act} {vals vals' : Nat → Value} {L L' : Nat → Prop} (h : St ops n a0 vals L a) (h' : St ops n a0 vals' L' a') {i : Nat} (hok : HeadOk ops n a0.tmps.size i) {o : Oper} (ho : ops[i]? = some o)
    (hdep : ∀ j, j < i → j < n → Region.waitsFor .any ops i j = true → L j ∧ L' j ∧ vals j = vals' j) : ∀ t, t ∈ o.looksAt ops → a.tmps[t]? = a'.tmps[t]? := by
  intro t ht
  by_cases hx : ∃ j, j < n ∧ dstOf ops j = some t
  · obtain ⟨j, hj, hd⟩ := hx
    obtain ⟨h1, h2⟩ := hok.looks o t ho ht j hj hd
    obtain ⟨l1, l2, l3⟩ := hdep j h1 hj h2
    rw [h.done j hj l1 t hd, h'.done j hj l2 t hd, l3]
  · have hy : ∀ j, j < n → dstOf ops j ≠ some t := fun j hj hd => hx ⟨j, hj, hd⟩
    rw [h.rest t fun j hj _ => hy j hj, h'.rest t fun j hj _ => hy j hj]

theorem execOp_agree {a a' : Act} {o : Oper} (hs : ∀ cs b, o.op ≠ .select cs b) (h : ∀ t, t ∈ o.looksAt ops → a.tmps[t]? = a'.tmps[t]?) : execOp a.eval o = execOp a'.eval o := by
  refine execOp_congr o hs fun x hx => ?_
  cases x with
  | tmp t =>
    have := h t (List.mem_append_left _ (List.mem_filterMap.2 ⟨.tmp t, by simpa using hx, rfl⟩))
    simp [Act.eval, this]
  | _ => rfl
theorem wanted_agree {a a' : Act} {o : Oper} (h : ∀ t, t ∈ o.looksAt ops → a.tmps[t]? = a'.tmps[t]?) : Region.wanted o (yielded ops a.tmps) = Region.wanted o (yielded ops a'.tmps) := by
  unfold Region.wanted
  cases hg : o.guard with
  | none => rfl
  | some gw =>
    obtain ⟨g, want⟩ := gw
    have : yielded ops a.tmps g = yielded ops a'.tmps g := by
      unfold yielded
      cases ht : (ops[g]?).bind (·.dst) with
      | none => rfl
      | some t =>
        have := h t (by simp [Oper.looksAt, hg, ht])
        simp [this]
    simp only [this]

/-- The operation does in one frame what it does in the other. -/
theorem Does.agree {a a' : Act} {o : Oper} {w : World} {S : Value → World → Prop} (hs : ∀ cs b, o.op ≠ .select cs b) (h : ∀ t, t ∈ o.looksAt ops → a.tmps[t]? = a'.tmps[t]?) (hd : Does P ops o a w S) : Does P ops o a' w S := by
  unfold Does at *
  rw [← wanted_agree h, ← execOp_agree hs h]
  exact hd

/-- What an operation does serves any walk that goes on from its value. -/
theorem Does.wpOp {i : Nat} {o : Oper} {a : Act} {w : World} {S : Value → World → Prop} {K : Act → World → Prop} {Q : Exit → Act → World → Prop} (ho : ops[i]? = some o) (hd : Does P ops o a w S)
    (hK : ∀ v w', S v w' → Ext w w' → K (a.put o.dst v) w') : wpOp P ops Q i K a w := by
  unfold Go.wpOp
  simp only [ho]
  unfold Does at hd
  split
  · rename_i hw
    rw [if_pos hw] at hd
    left
    unfold Oper.wp
    generalize (execOp a.eval o).run P w = r at *
    cases r with
    | ok x w' =>
      cases x with
      | value v => exact hK _ _ hd.1 hd.2
      | skip => exact hK _ _ hd.1 hd.2
      | enter f args =>
        refine Calls.mono hd fun e w' he => ?_
        obtain ⟨v, rfl, h1, h2⟩ := he
        exact hK _ _ h1 h2
      | row r args => exact Rows.mono hd fun v w' he => hK _ _ he.1 he.2
      | _ => exact hd.elim
    | halt x w' => exact hd.elim
  · rename_i hw
    rw [if_neg hw] at hd
    exact hK _ _ hd (Ext.refl _)

/-- The same, as it is walked: whatever goes on from the value. -/
def DoesK (P : Program) (ops : Array Oper) (o : Oper) (a : Act) (w : World) (S : Value → World → Prop) : Prop :=
  ∀ K : Act → World → Prop, (∀ a' w', S (a'.tmps.getD (o.dst.getD 0) undef) w' → Ext w w' → a'.defers = a.defers → K a' w') →
    if Region.wanted o (yielded ops a.tmps) then o.wp P a w K (fun _ _ _ => False) else K (a.put o.dst undef) w
theorem DoesK.does {o : Oper} {a : Act} {w : World} {S : Value → World → Prop} {d : Nat} (hd : o.dst = some d) (hsz : d < a.tmps.size) (h : DoesK P ops o a w S) : Does P ops o a w S :=
  does_intro hd hsz (by have := h; unfold DoesK at this; simpa [hd] using this)
theorem doesK_plain {o : Oper} {a : Act} {w : World} {S : Value → World → Prop} (hg : o.guard = none)
    (h : ∀ K : Act → World → Prop, (∀ a' w', S (a'.tmps.getD (o.dst.getD 0) undef) w' → Ext w w' → a'.defers = a.defers → K a' w') → o.wp P a w K (fun _ _ _ => False)) : DoesK P ops o a w S := fun K hK => by
  rw [if_pos (by simp [Region.wanted, hg])]
  exact h K hK
theorem size_put (a : Act) (x : Option Tmp) (v : Value) : (a.put x v).tmps.size = a.tmps.size := by cases x <;> simp [Act.put]

/-- An operation of which F tells makes a block, and hands back its address. -/
def Fresh (F : List Nat) (i : Nat) (w1 : World) (s : Value → World → Prop) : Value → World → Prop :=
  if F.contains i then fun v w' => s v w' ∧ v = .pointer (some ⟨w1.heap.size, 0, none⟩) ∧ w1.heap.size < w'.heap.size else s
theorem Fresh.out {F : List Nat} {i : Nat} {w1 : World} {s : Value → World → Prop} {v : Value} {w' : World} (h : Fresh F i w1 s v w') : s v w' := by
  unfold Fresh at h; split at h
  · exact h.1
  · exact h
theorem Fresh.ptr {F : List Nat} {i : Nat} {w1 : World} {s : Value → World → Prop} {v : Value} {w' : World} (h : Fresh F i w1 s v w') (hF : F.contains i = true) : v = .pointer (some ⟨w1.heap.size, 0, none⟩) ∧ w1.heap.size < w'.heap.size := by
  unfold Fresh at h; rw [if_pos hF] at h; exact h.2
/-- The steps of a head, in the order of the text. -/
def Steps (P : Program) (ops : Array Oper) (w : World) (F : List Nat) (S : List (Value → World → Prop)) (vals : Nat → Value) : Nat → List Oper → Act → Prop
  | _, [], _ => True
  | i, o :: os, a =>
    (∀ w1, Ext w w1 → (∀ j, j < i → Region.waitsFor .any ops i j = true → (S.getD j fun _ _ => True) (vals j) w1) → DoesK P ops o a w1 (Fresh F i w1 (S.getD i fun _ _ => True))) ∧
      Steps P ops w F S vals (i + 1) os (a.put o.dst (vals i))

theorem Steps.at_ {w : World} {F : List Nat} {S : List (Value → World → Prop)} {vals : Nat → Value} : ∀ (os : List Oper) (k : Nat) (a : Act), Steps P ops w F S vals k os a → (∀ o, o ∈ os → ∃ d, o.dst = some d ∧ d < a.tmps.size) → ∀ i o, os[i]? = some o →
    ∀ w1, Ext w w1 → (∀ j, j < k + i → Region.waitsFor .any ops (k + i) j = true → (S.getD j fun _ _ => True) (vals j) w1) → Does P ops o (preAct a vals k (os.take i)) w1 (Fresh F (k + i) w1 (S.getD (k + i) fun _ _ => True))
  | [], _, _, _, _, i, o, h => by simp at h
  | x :: os, k, a, hs, hz, 0, o, h => by
    simp only [List.getElem?_cons_zero, Option.some.injEq] at h
    subst h
    obtain ⟨d, hd, hlt⟩ := hz x (by simp)
    exact fun w1 hE hk => (hs.1 w1 hE hk).does hd hlt
  | x :: os, k, a, hs, hz, i + 1, o, h => by
    have := Steps.at_ os (k + 1) _ hs.2 (fun o ho => by rw [size_put]; exact hz o (by simp [ho])) i o (by simpa using h)
    simpa [preAct, Nat.add_assoc, Nat.add_comm 1 i] using this

theorem preAct_St {n : Nat} {a0 : Act} {vals : Nat → Value} (hok : ∀ i, i < n → HeadOk ops n a0.tmps.size i) : ∀ (os : List Oper) (k : Nat) (a : Act), (∀ i, i < os.length → os[i]? = ops[k + i]?) → k + os.length ≤ n →
    St ops n a0 vals (fun j => j < k) a → St ops n a0 vals (fun j => j < k + os.length) (preAct a vals k os)
  | [], k, a, _, _, h => by simpa [preAct] using h
  | o :: os, k, a, hl, hn, h => by
    have ho : ops[k]? = some o := by have := hl 0 (by simp); simpa using this.symm
    simp only [List.length_cons] at hn
    have h1 := (h.put (i := k) (by omega) (hok k (by omega)) ho (by omega) (vals k)).congr (vals' := vals) (L' := fun j => j < k + 1) (fun j _ => by omega) (fun j _ _ => by
      split
      · rename_i e; rw [e]
      · rfl)
    have := preAct_St hok os (k + 1) _ (fun i hi => by have := hl (i + 1) (by simp; omega); simpa [Nat.add_assoc, Nat.add_comm 1 i] using this) (by omega) h1
    simpa [preAct, Nat.add_assoc, Nat.add_comm 1 os.length] using this

theorem tailB_spec {n : Nat} (h : tailB ops n = true) : Region.noSelect ops = true ∧ n < ops.size ∧ Region.sinkB .any ops n = true ∧ Region.chainB .any ops n = true ∧
    Region.seqB .any ops (ops.size - n) n ((List.range n).foldl (fun l i => l.setIfInBounds i true) (Array.replicate ops.size false)) = true := by
  unfold tailB at h
  simp only [Bool.and_eq_true, decide_eq_true_eq] at h
  exact ⟨h.1.1.1.1, h.1.1.1.2, h.1.1.2, h.1.2, h.2⟩

theorem fold_size (size : Nat) : ∀ (l : List Nat) (A : Array Bool), A.size = size → (l.foldl (fun l i => l.setIfInBounds i true) A).size = size
  | [], A, h => h
  | i :: l, A, h => fold_size size l _ (by simp [h])
theorem fold_get (size : Nat) : ∀ (l : List Nat) (A : Array Bool), A.size = size → ∀ t, t < size → (l.foldl (fun l i => l.setIfInBounds i true) A).getD t false = (A.getD t false || decide (t ∈ l))
  | [], A, h, t, ht => by simp
  | i :: l, A, h, t, ht => by
    rw [List.foldl_cons, fold_get size l _ (by simp [h]) t ht]
    by_cases e : t = i
    · subst e; simp [h, ht]
    · have : (A.setIfInBounds i true).getD t false = A.getD t false := by
        simp only [Array.getD_eq_getD_getElem?]
        rw [Array.getElem?_setIfInBounds_ne (Ne.symm e)]
      rw [this]
      simp [e]

theorem count_less {p : Nat → Bool} (i : Nat) : ∀ l : List Nat, l.Nodup → i ∈ l → p i = true → (l.filter fun j => p j && decide (j ≠ i)).length + 1 = (l.filter p).length
  | [], _, h, _ => by simp at h
  | x :: l, hnd, hm, hp => by
    rw [List.nodup_cons] at hnd
    by_cases e : x = i
    · subst e
      have h0 : (l.filter fun j => p j && decide (j ≠ x)) = l.filter p := List.filter_congr fun j hj => by
        have : j ≠ x := fun e => hnd.1 (e ▸ hj)
        simp [this]
      simp only [List.filter_cons, hp, ne_eq, not_true_eq_false, decide_false, Bool.and_false, Bool.false_eq_true, if_false, if_true, List.length_cons]
      simp only [ne_eq] at h0
      rw [h0]
    · have hm' : i ∈ l := by simpa [Ne.symm e] using hm
      have := count_less i l hnd.2 hm' hp
      simp only [List.filter_cons, ne_eq, e, not_false_eq_true, decide_true, Bool.and_true]
      split <;> simp_all

/-- When the whole head is listed, and nothing of the tail, the list is this one. -/
theorem listed_all {n : Nat} (hn : n < ops.size) {listed : Array Bool} (inv : HeadInv .any ops n listed) (hall : ∀ j, j < n → listed.getD j false = true) :
    listed = (List.range n).foldl (fun l i => l.setIfInBounds i true) (Array.replicate ops.size false) := by
  have hs := fold_size ops.size (List.range n) (Array.replicate ops.size false) (by simp)
  apply Array.ext
  · rw [inv.size, hs]
  · intro t h1 h2
    have ht : t < ops.size := by rw [← inv.size]; exact h1
    have e1 : listed[t] = listed.getD t false := by simp [h1]
    have e2 : ((List.range n).foldl (fun l i => l.setIfInBounds i true) (Array.replicate ops.size false))[t] = ((List.range n).foldl (fun l i => l.setIfInBounds i true) (Array.replicate ops.size false)).getD t false := by simp [h2]
    rw [e1, e2, fold_get ops.size _ _ (by simp) t ht, getD_replicate_false]
    by_cases htn : t < n
    · rw [hall t htn]; simp [htn]
    · rw [getD_both (inv.tail t (by omega) ht)]; simp; omega

section
variable {w : World} {a0 : Act} {n : Nat} {F : List Nat} {S : List (Value → World → Prop)} {Q : Exit → Act → World → Prop}
theorem region_steps (hT : tailB ops n = true) (hok : ∀ i, i < n → HeadOk ops n a0.tmps.size i)
    (hmono : ∀ j, j < n → ∀ v w1 w2, (S.getD j fun _ _ => True) v w1 → Ext w1 w2 → (S.getD j fun _ _ => True) v w2)
    (hstep : ∀ vals, Steps P ops w F S vals 0 (ops.toList.take n) a0)
    (htail : ∀ vals w', Ext w w' → (∀ j, j < n → (S.getD j fun _ _ => True) (vals j) w') → (∀ i j, i < n → j < n → F.contains i = true → F.contains j = true → i ≠ j → vals i ≠ vals j) → wpAny P .any ops Q (ops.size - n) ((List.range n).foldl (fun l i => l.setIfInBounds i true) (Array.replicate ops.size false)) (preAct a0 vals 0 (ops.toList.take n)) w') :
    ∀ (f : Nat) (listed : Array Bool) (a : Act) (vals : Nat → Value) (w1 : World), HeadInv .any ops n listed → St ops n a0 vals (fun j => listed.getD j false = true) a → Ext w w1 →
      (∀ j, j < n → listed.getD j false = true → (S.getD j fun _ _ => True) (vals j) w1) →
      (∀ j, j < n → listed.getD j false = true → F.contains j = true → ∃ g, vals j = .pointer (some ⟨g, 0, none⟩) ∧ g < w1.heap.size) →
      (∀ i j, i < n → j < n → listed.getD i false = true → listed.getD j false = true → F.contains i = true → F.contains j = true → i ≠ j → vals i ≠ vals j) → ((List.range n).filter fun j => !listed.getD j false).length = f →
      wpAny P .any ops Q (f + (ops.size - n)) listed a w1 := by
  obtain ⟨hsel, hn, hs, hc, hq⟩ := tailB_spec hT
  have htl : (ops.toList.take n).length = n := by simp; omega
  have hget : ∀ i, i < n → (ops.toList.take n)[i]? = ops[i]? := fun i hi => by simp [hi]
  have pre : ∀ (vals : Nat → Value) i, i ≤ n → St ops n a0 vals (fun j => j < i) (preAct a0 vals 0 ((ops.toList.take n).take i)) := fun vals i hi => by
    have := preAct_St (n := n) (a0 := a0) (vals := vals) hok ((ops.toList.take n).take i) 0 a0 (fun j hj => by
      simp only [List.length_take] at hj
      rw [List.getElem?_take, if_pos (by omega), Nat.zero_add, hget j (by omega)]) (by simp; omega) ⟨rfl, rfl, fun j _ hl => absurd hl (by omega), fun t _ => rfl⟩
    refine this.congr (fun j hj => ?_) fun _ _ _ => rfl
    simp only [List.length_take]
    rw [Array.length_toList]
    omega
  intro f
  induction f with
  | zero =>
    intro listed a vals w1 inv st hE hS hF hN hf
    have hall : ∀ j, j < n → listed.getD j false = true := fun j hj => by
      have h0 := List.eq_nil_of_length_eq_zero hf
      have h1 := List.filter_eq_nil_iff.1 h0 j (List.mem_range.2 hj)
      simpa using h1
    rw [Nat.zero_add, listed_all hn inv hall]
    have e : a = preAct a0 vals 0 (ops.toList.take n) := by
      have h2 := (pre vals n (Nat.le_refl _))
      rw [List.take_take, Nat.min_self] at h2
      exact St.uniq (st.congr (L' := fun _ => True) (fun j hj => by simp [hall j hj]) fun _ _ _ => rfl) (h2.congr (L' := fun _ => True) (fun j hj => by simp [hj]) fun _ _ _ => rfl)
    rw [e]
    exact htail vals w1 hE (fun j hj => hS j hj (hall j hj)) fun i j hi hj => hN i j hi hj (hall i hi) (hall j hj)
  | succ f ih =>
    intro listed a vals w1 inv st hE hS hF hN hf
    obtain ⟨i0, hi0⟩ : ∃ i, i ∈ (List.range n).filter fun j => !listed.getD j false := by
      cases hl : (List.range n).filter fun j => !listed.getD j false with
      | nil => rw [hl] at hf; simp at hf
      | cons x l => exact ⟨x, by simp⟩
    have hi0n : i0 < n := by have := (List.mem_filter.1 hi0).1; simpa using this
    have hi0l : listed.getD i0 false = false := by have := (List.mem_filter.1 hi0).2; simpa using this
    have hi0t : listed.getD i0 true = false := getD_in (by rw [inv.size]; omega) hi0l
    have hnotail := tail_waits hs hc hn inv _ i0 rfl hi0n hi0t
    have hne : Region.ready .any ops listed ≠ [] := by
      -- the least unlisted operation of the head is ready
      have key : ∀ d i, i = d → i < n → listed.getD i false = false → (∃ j, j ∈ Region.ready .any ops listed) := by
        intro d
        induction d using Nat.strongRecOn with
        | _ d ihd =>
          intro i hid hin hil
          subst hid
          by_cases hx : ∃ j, j < i ∧ listed.getD j false = false
          · obtain ⟨j, hj, hjl⟩ := hx
            exact ihd j hj j rfl (by omega) hjl
          · obtain ⟨o, dd, ho, hdd, _⟩ := (hok i hin).ex
            refine ⟨i, mem_ready.2 ⟨getD_in (by rw [inv.size]; omega) hil, o, ho, fun e he hb => ?_⟩⟩
            have hlt := (hok i hin).lex o e ho he hb
            cases hl : listed.getD e.on false with
            | true => rfl
            | false => exact absurd ⟨e.on, hlt, hl⟩ hx
      obtain ⟨j, hj⟩ := key i0 i0 rfl hi0n hi0l
      exact fun h => by rw [h] at hj; cases hj
    rw [show f + 1 + (ops.size - n) = (f + (ops.size - n)) + 1 by omega]
    refine ⟨fun h => absurd h hne, fun i hi => ?_⟩
    have hin : i < n := by
      rcases Nat.lt_or_ge i n with h | h
      · exact h
      · exact absurd hi (hnotail i h)
    obtain ⟨hun, o, ho, hall⟩ := mem_ready.1 hi
    have hunf : listed.getD i false = false := getD_both hun
    have hwait : ∀ j, Region.waitsFor .any ops i j = true → listed.getD j false = true := fun j hj => by
      obtain ⟨o', ho', e, he, hb, hon⟩ := Region.waitsFor_spec hj
      have : o' = o := Option.some.inj (ho'.symm.trans ho)
      subst this
      rw [← hon]
      exact hall e he hb
    have hselo := Region.noSelect_spec hsel i o
    have hdo := Steps.at_ (ops.toList.take n) 0 a0 (hstep vals) (fun o' ho' => by
      obtain ⟨j, hj, hjo⟩ := List.mem_iff_getElem.1 ho'
      have hjn : j < n := by rw [htl] at hj; exact hj
      obtain ⟨o'', d, h1, h2, h3⟩ := (hok j hjn).ex
      have h4 : (ops.toList.take n)[j]? = some o' := by rw [List.getElem?_eq_getElem hj, hjo]
      rw [hget j hjn, h1] at h4
      obtain rfl := Option.some.inj h4
      exact ⟨d, h2, h3⟩) i o (by rw [hget i hin, ho]) w1 hE (by
      intro j hj hw
      rw [Nat.zero_add] at hj hw
      exact hS j (by omega) (hwait j hw))
    rw [Nat.zero_add] at hdo
    have hdo' := hdo.agree (a' := a) (fun cs b => hselo cs b ho) (slot_agree (pre vals i (by omega)) st (hok i hin) ho fun j hj hjn hw => ⟨hj, hwait j hw, rfl⟩)
    refine hdo'.wpOp ho fun v w' hv hE' => ?_
    refine ih (listed.setIfInBounds i true) _ (fun j => if j = i then v else vals j) w' (inv.set hi hin) ?_ (hE.tr hE') ?_ ?_ ?_ ?_
    · refine (st.put hin (hok i hin) ho (by simp [hunf]) v).congr (fun j hj => ?_) fun _ _ _ => rfl
      by_cases e : j = i
      · subst e
        have hlt : j < listed.size := by rw [inv.size]; omega
        simp [hlt]
      · rw [getD_set_ne false (Ne.symm e)]
        simp [e]
    · intro j hj hl
      by_cases e : j = i
      · subst e; rw [if_pos rfl]; exact hv.out
      · rw [if_neg e]
        rw [getD_set_ne false (Ne.symm e)] at hl
        exact hmono j hj _ _ _ (hS j hj hl) hE'
    · intro j hj hl hc'
      by_cases e : j = i
      · subst e; rw [if_pos rfl]
        have := hv.ptr hc'
        exact ⟨_, this.1, this.2⟩
      · rw [if_neg e]
        rw [getD_set_ne false (Ne.symm e)] at hl
        obtain ⟨g, h1, h2⟩ := hF j hj hl hc'
        exact ⟨g, h1, Nat.lt_of_lt_of_le h2 hE'.size⟩
    · intro j k hj hk lj lk cj ck hne
      by_cases e1 : j = i
      · subst e1
        rw [if_pos rfl, if_neg (Ne.symm hne)]
        rw [getD_set_ne false hne] at lk
        obtain ⟨g, h1, h2⟩ := hF k hk lk ck
        rw [h1, (hv.ptr cj).1]
        intro e
        injection e with e; injection e with e; injection e with e
        omega
      · rw [if_neg e1]
        rw [getD_set_ne false (Ne.symm e1)] at lj
        by_cases e2 : k = i
        · subst e2
          rw [if_pos rfl]
          obtain ⟨g, h1, h2⟩ := hF j hj lj cj
          rw [h1, (hv.ptr ck).1]
          intro e
          injection e with e; injection e with e; injection e with e
          omega
        · rw [if_neg e2]
          rw [getD_set_ne false (Ne.symm e2)] at lk
          exact hN j k hj hk lj lk cj ck hne
    · have h1 := count_less (p := fun j => !listed.getD j false) i (List.range n) List.nodup_range (List.mem_range.2 hin) (by simp [hunf])
      have h2 : ((List.range n).filter fun j => !(listed.setIfInBounds i true).getD j false) = (List.range n).filter fun j => !listed.getD j false && decide (j ≠ i) := by
        refine List.filter_congr fun j hj => ?_
        by_cases e : j = i
        · subst e
          have hlt : j < listed.size := by rw [inv.size]; omega
          simp [hlt]
        · rw [getD_set_ne false (Ne.symm e)]
          simp [e]
      rw [h2]
      omega

def Mono (s : Value → World → Prop) : Prop := ∀ v w1 w2, s v w1 → Ext w1 w2 → s v w2
def AllMono : List (Value → World → Prop) → Prop
  | [] => True
  | s :: ss => Mono s ∧ AllMono ss
theorem AllMono.at_ : ∀ {S : List (Value → World → Prop)}, AllMono S → ∀ j, Mono (S.getD j fun _ _ => True)
  | [], _, j => fun _ _ _ _ _ => by simp
  | s :: ss, h, 0 => h.1
  | s :: ss, h, j + 1 => by simpa using AllMono.at_ h.2 j
def eqv (x : Value) : Value → World → Prop := fun v _ => v = x
theorem mono_eqv (x : Value) : Mono (eqv x) := fun _ _ _ h _ => h
def isArr (B : Nat) (T : TypeId) (l : List Int) : Value → World → Prop := fun v w => ∃ g, v = .pointer (some ⟨g, 0, none⟩) ∧ B ≤ g ∧ Arr w g T l
theorem mono_arr (B : Nat) (T : TypeId) (l : List Int) : Mono (isArr B T l) := fun _ _ _ ⟨g, h1, h2, h3⟩ hE => ⟨g, h1, h2, h3.ext hE⟩
def isRow (L : List Int) : Value → World → Prop := fun v w => ∃ A c, v = .slice A L.length c ∧ RowAt w A L
theorem mono_row (L : List Int) : Mono (isRow L) := fun _ _ _ ⟨A, c, h1, h2⟩ hE => ⟨A, c, h1, h2.below hE⟩

/-- THE LAW. -/
theorem region_ext {id : Nat} {l : List Oper} (n : Nat) (hm : P.follows .mixedOrders = true) (hT : tailB l.toArray n = true) (hH : headB l.toArray n a0.tmps.size = true) (F : List Nat) (S : List (Value → World → Prop))
    (hmono : AllMono S)
    (hstep : ∀ vals, Steps P l.toArray w F S vals 0 (l.take n) a0)
    (htail : ∀ vals w', Ext w w' → (∀ j, j < n → (S.getD j fun _ _ => True) (vals j) w') → (∀ i j, i < n → j < n → F.contains i = true → F.contains j = true → i ≠ j → vals i ≠ vals j) →
      wpList P l.toArray Q (l.drop n) (preAct a0 vals 0 (l.take n)) w') :
    (Code.region id l.toArray true).wp P Q a0 w := by
  obtain ⟨hsel, hn, hs, hc, hq⟩ := tailB_spec hT
  refine wp_region_any hm ?_
  have hE : Ext w { w with drawn := w.drawn + 1 } := ⟨rfl, rfl, rfl, Nat.le_refl _, fun _ _ => rfl⟩
  have inv0 : HeadInv .any l.toArray n (Array.replicate l.toArray.size false) :=
    ⟨by simp, fun j oj _ hl => (by rw [getD_replicate_false] at hl; cases hl), fun t _ ht => getD_in (by simpa using ht) (getD_replicate_false _ _)⟩
  have hcount : ((List.range n).filter fun j => !(Array.replicate l.toArray.size false).getD j false).length = n := by
    rw [List.filter_eq_self.2 (fun j _ => by rw [getD_replicate_false]; rfl)]
    simp
  have hn' : n < l.length := by simpa using hn
  have := region_steps (P := P) (ops := l.toArray) (w := w) (a0 := a0) (n := n) (F := F) (S := S) (Q := Q) hT (headB_spec hH) (fun j _ => hmono.at_ j) (by simpa using hstep) (fun vals w' hE' hS hN => by
    have h1 := htail vals w' hE' hS hN
    have h2 := wpAny_of_seq (md := .any) (Q' := Q) (l.drop n) n _ _ w' (fun j => by simp [List.getElem?_drop]) (by simpa using hq) h1
    simpa using h2) n _ a0 (fun _ => undef) _ inv0 ⟨rfl, rfl, fun j _ hl => (by rw [getD_replicate_false] at hl; cases hl), fun _ _ => rfl⟩ hE (fun j _ hl => by rw [getD_replicate_false] at hl; cases hl)
    (fun j _ hl => by rw [getD_replicate_false] at hl; cases hl) (fun j _ _ _ hl => by rw [getD_replicate_false] at hl; cases hl) hcount
  rwa [show n + (l.toArray.size - n) = l.toArray.size by omega] at this
end
end
end Go.Proofs.YtaemiknaiccijaaGreat

/- The reference's check of a polynomial, its sums with multiples, and its inverse of a number. -/
namespace Go.Proofs.YtaemiknaiccijaaGreat
open Go.RowKit

/-- All of the first n coefficients are less than p. -/
def allLt (p : Int) (l : List Int) : Nat → Bool
  | 0 => true
  | n + 1 => allLt p l n && decide (at0 l n < p)
def isPB (p : Int) (l : List Int) : Bool := allLt p l 64 && primeB p
theorem allLt_iff (p : Int) (l : List Int) : ∀ n, allLt p l n = true ↔ ∀ j, j < n → at0 l j < p
  | 0 => by simp [allLt]
  | n + 1 => by
    rw [allLt, Bool.and_eq_true, allLt_iff p l n, decide_eq_true_eq]
    constructor
    · intro h j hj
      by_cases e : j = n
      · rw [e]; exact h.2
      · exact h.1 j (by omega)
    · intro h
      exact ⟨fun j hj => h j (by omega), h n (by omega)⟩
theorem allLt_false (p : Int) (l : List Int) (n m : Nat) (h : n < m) (hn : ¬ at0 l n < p) : allLt p l m = false := by
  cases e : allLt p l m with
  | false => rfl
  | true => exact absurd ((allLt_iff p l m).1 e n h) hn

set_option maxHeartbeats 400000 in
theorem l01Is_any (p : Int) (l : List Int) (hl : l.length = 64) (hb : IsB l) (w : World) :
    Calls Tryz.prog 61 #[.int .i64 p, .agg (u8s l)] w fun e w' => e = .returned (.bool (isPB p l)) ∧ Ext w w' := by
  have HL := Lib.hid hl
  clear hl
  have HB := Lib.hid hb
  clear hb
  have HC : Arr (w.alloc (.cells (u8s l) 25)) w.heap.size 25 l := Arr.new w _ l
  go_enter Tryz.func61, Tryz.ntmps61
  go_wp2
  go_loop [5] (fun i => ∃ k : Nat, k ≤ 64 ∧ i = .int .i64 k ∧ allLt p l k = true) (fun i => 64 - (intOf i).toNat)
  case atStart => exact ⟨0, by omega, rfl, rfl⟩
  case round =>
    obtain ⟨k, hk, rfl, hd⟩ := hrel
    have HD := Lib.hid hd
    clear hd
    by_cases hk0 : k < 64
    · have hc := HC.cell k (by rw [HL.out]; omega)
      have b := HB.out k
      by_cases hz : at0 l k < p
      · go_wp2
        go_round
        case rel => exact ⟨k + 1, by omega, by go_num, by rw [allLt, HD.out]; simpa using hz⟩
        case measure => simp [intOf]; omega
      · have hf : allLt p l 64 = false := allLt_false p l k 64 hk0 hz
        have F := Lib.hid hf
        clear hf
        go_wp2
        go_ret
        exact ⟨ret_bool (by rw [isPB, F.out]; rfl), (Ext.refl w).alloc _⟩
    · have hk1 : k = 64 := by omega
      subst hk1
      go_wp2_with (first | (go_at_call 94; refine (l01Prime_any _ _).mono ?_; rintro e w' ⟨rfl, rfl⟩))
      go_ret
      exact ⟨ret_bool (by rw [isPB, HD.out]; rfl), (Ext.refl w).alloc _⟩

/-- The array behind n rounds of a sum with a multiple. -/
def addTo (p : Int) (a b : List Int) (k : Int) (n : Nat) : List Int := tab 64 fun j => if j < n then (at0 a j + k * at0 b j) % p else at0 a j
def sAdd (p : Int) (a b : List Int) (k : Int) : List Int := tab 64 fun j => (at0 a j + k * at0 b j) % p
def AddRel (p : Int) (a b : List Int) (k : Int) (w : World) (i : Value) (wr : World) : Prop :=
  ∃ n : Nat, n ≤ 64 ∧ i = .int .i64 n ∧ Arr wr w.heap.size 25 (addTo p a b k n) ∧ Arr wr (w.heap.size + 1) 25 b ∧ Arr wr (w.heap.size + 2) 25 zeros64 ∧ Ext w wr

theorem addTo_step (p : Int) (a b : List Int) (k : Int) (n : Nat) (hn : n < 64) {x : Int} (hx : x = (at0 a n + k * at0 b n) % p) : (addTo p a b k n).set n x = addTo p a b k (n + 1) := by
  unfold addTo
  rw [tab_set 64 n _ _ hn]
  refine tab_congr fun j _ => ?_
  by_cases e : j = n
  · subst e; rw [if_pos rfl, if_pos (by omega), hx]
  · rw [if_neg e]
    by_cases h : j < n
    · rw [if_pos h, if_pos (by omega)]
    · rw [if_neg h, if_neg (by omega)]
theorem at0_addTo (p : Int) (a b : List Int) (k : Int) (n : Nat) (hn : n < 64) : at0 (addTo p a b k n) n = at0 a n := by
  unfold addTo; rw [at0_tab_lt _ hn, if_neg (by omega)]
theorem addTo_length (p : Int) (a b : List Int) (k : Int) (n : Nat) : (addTo p a b k n).length = 64 := tab_length _ _
theorem addTo_zero (p : Int) (a b : List Int) (k : Int) (ha : a.length = 64) : addTo p a b k 0 = a :=
  (tab_congr fun j _ => if_neg (by omega)).trans (tab_self' ha)
theorem addTo_end (p : Int) (a b : List Int) (k : Int) : addTo p a b k 64 = sAdd p a b k := tab_congr fun j hj => if_pos hj
theorem alloc3 (w : World) (A B C : Obj) : ((w.alloc A).alloc B).heap.size = w.heap.size + 2 := by simp

set_option maxRecDepth 100000 in
set_option maxHeartbeats 400000 in
theorem l01Add_any (p k : Int) (a b : List Int) (ha : a.length = 64) (hb : b.length = 64) (hp : 2 ≤ p) (hp2 : p ≤ 7) (hk : -1000 ≤ k) (hk2 : k ≤ 1000) (ba : IsB a) (bb : IsB b) (w : World) :
    Calls Tryz.prog 50 #[.int .i64 p, .agg (u8s a), .agg (u8s b), .int .i64 k] w fun e w' => e = .returned (.agg (u8s (sAdd p a b k))) ∧ Ext w w' := by
  have HA := Lib.hid ha
  have HB := Lib.hid hb
  have BA := Lib.hid ba
  have BB := Lib.hid bb
  clear ha hb ba bb
  have hz := zlit
  go_enter Tryz.func50, Tryz.ntmps50
  go_wp2
  go_loopw [9] (fun i wr => AddRel p a b k w i wr) (fun i _ => 64 - (intOf i).toNat)
  case atStart =>
    refine ⟨0, by omega, rfl, ?_, ?_, ?_, ((Ext.refl w).alloc _).alloc _ |>.alloc _⟩
    · rw [addTo_zero p a b k HA.out]; exact ((Arr.new w _ a).alloc _).alloc _
    · have := (Arr.new (w.alloc (.cells (u8s a) 25)) 25 b).alloc (.cells (u8s zeros64) 25)
      simpa using this
    · have := Arr.new ((w.alloc (.cells (u8s a) 25)).alloc (.cells (u8s b) 25)) 25 zeros64
      simpa using this
  case round =>
    obtain ⟨n, hn, rfl, A1, A2, A3, hE⟩ := hrel
    by_cases hlt : n < 64
    · have c1 := A1.cell n (by rw [addTo_length]; omega)
      rw [at0_addTo p a b k n hlt] at c1
      have c2 := A2.cell n (by rw [HB.out]; omega)
      have f1 := A1.free n
      have b1 := BA.out n
      have b2 := BB.out n
      have b3 := mulB (by decide : (0:Int) ≤ 1000) hk hk2 b2.1 b2.2
      have b4 := tmodB (at0 a n + k * at0 b n) p hp hp2
      have hp0 : p ≠ 0 := by omega
      have hfin := go_mod (at0 a n + k * at0 b n) p (by omega)
      have FIN := Lib.hid hfin
      clear hfin
      go_wp2
      refine wp_region_still_tail 19 (by kernel_rfl) (by kernel_rfl) ?_
      simp only [List.take_succ_cons, List.take_zero, List.drop_succ_cons, List.drop_zero]
      repeat (refine wpStill_step (fun K hK => ?_); go_simp; (try go_bits); refine hK _ ?_; clear hK K)
      refine wpStill_nil ?_
      change wpList _ _ _ _ _ wr.drew
      go_wp2
      have hx : (at0 a n + k * at0 b n) % p % 256 = (at0 a n + k * at0 b n) % p := by
        have := emod_range (at0 a n + k * at0 b n) p (by omega)
        rw [Int.emod_eq_of_lt this.1 (by omega)]
      go_roundw
      case rel =>
        refine ⟨n + 1, by omega, by go_num, ?_, ?_, ?_, (hE.set (Nat.le_refl _) _).drew⟩
        · rw [← addTo_step p a b k n hlt rfl]
          have := (A1.set n ((at0 a n + k * at0 b n) % p)).drew
          rw [FIN.out, hx]
          exact this
        · exact (A2.other (by simp)).drew
        · exact (A3.other (by simp)).drew
      case measure => simp [intOf]; omega
    · have hk1 : n = 64 := by omega
      subst hk1
      rw [addTo_end] at A1
      have hl64 : (sAdd p a b k).length = 64 := tab_length _ _
      have HL := Lib.hid hl64
      clear hl64
      go_wp2_with (first | (refine wplL _ rfl rfl A1 rfl HL.out ?_) | (refine wplS _ _ rfl rfl A3 rfl rfl zeros64_length HL.out ?_))
      have A4 := A3.setRow (l := sAdd p a b k)
      refine bodyPost_ret (res_c rfl rfl A4 HL.out Tryz.underlying25 infoPoly) rfl ⟨rfl, hE.setRow (by omega) _⟩

end Go.Proofs.YtaemiknaiccijaaGreat

/- The reference's inverse of a number and its products. -/
namespace Go.Proofs.YtaemiknaiccijaaGreat
open Go.RowKit

set_option maxHeartbeats 400000 in
theorem l01Inverse_any (p x : Int) (hp : PrimeP p) (h1 : 1 ≤ x) (h2 : x < p) (w : World) :
    Calls Tryz.prog 82 #[.int .i64 p, .int .u8 x] w fun e w' => e = .returned (.int .u8 (invP p x)) ∧ w = w' := by
  have hlo := hp.lo
  have hhi := hp.hi
  have hir := invP_pos hp h1 h2
  have hir2 := (invP_range (x := x) hp).2
  have hm := Lib.hid (invP_mul hp h1 h2)
  have HP := Lib.hid hp
  clear hp
  have hp0 : p ≠ 0 := by omega
  go_enter Tryz.func82, Tryz.ntmps82
  go_wp2
  go_loop [5] (fun i => ∃ k : Nat, 1 ≤ k ∧ (k : Int) ≤ invP p x ∧ i = .int .i64 k) (fun i => (7 - intOf i).toNat)
  case atStart => exact ⟨1, by omega, by omega, rfl⟩
  case round =>
    obtain ⟨k, hk1, hk, rfl⟩ := hrel
    have hb := mulB (K := 7) (C := 7) (by decide) (show -7 ≤ (k : Int) by omega) (by omega) (show 0 ≤ x by omega) (by omega)
    have hnn : 0 ≤ (k : Int) * x := Int.mul_nonneg (by omega) (by omega)
    have hlt : (k : Int) < p := by omega
    by_cases hz : (k : Int) = invP p x
    · have e : ((k : Int) * x % p == 1) = true := by rw [hz, hm.out]; rfl
      have HZ := Lib.hid hz
      clear hz
      go_wp2
      go_ret
      exact ⟨ret_int (by rw [← HZ.out]), rfl⟩
    · have e : ((k : Int) * x % p == 1) = false := by
        rw [beq_eq_false_iff_ne]
        intro h
        exact hz (invP_uniq HP.out h1 h2 (by omega) hlt h)
      go_wp2
      go_round
      case rel => exact ⟨k + 1, by omega, by omega, by go_num⟩
      case measure => simp [intOf]; omega

/-- What a product's array holds behind i rows, and j steps of the next one. -/
def mulTo (p : Int) (a b : List Int) (i j : Nat) : List Int := tab 64 fun t => (cpart (at0 a) (at0 b) i t + if i ≤ t ∧ t < i + j then at0 a i * at0 b (t - i) else 0) % p
theorem mulTo_length (p : Int) (a b : List Int) (i j : Nat) : (mulTo p a b i j).length = 64 := tab_length _ _
theorem mulTo_zero (p : Int) (a b : List Int) : mulTo p a b 0 0 = zeros64 := by
  rw [zeros64_tab]
  refine tab_congr fun t _ => ?_
  rw [if_neg (by omega)]; simp [cpart, sumN]
theorem mulTo_step {p : Int} (a b : List Int) (i j : Nat) (h : i + j < 64) : (mulTo p a b i j).set (i + j) ((at0 (mulTo p a b i j) (i + j) + at0 a i * at0 b j) % p) = mulTo p a b i (j + 1) := by
  unfold mulTo
  rw [tab_set 64 _ _ _ h]
  refine tab_congr fun t _ => ?_
  by_cases e : t = i + j
  · subst e
    rw [if_pos rfl, at0_tab_lt _ h, if_neg (by omega), if_pos ⟨by omega, by omega⟩, show i + j - i = j by omega]
    simp
  · rw [if_neg e]
    by_cases h2 : i ≤ t ∧ t < i + j
    · rw [if_pos h2, if_pos ⟨h2.1, by omega⟩]
    · rw [if_neg h2, if_neg (by omega)]
theorem mulTo_row {p : Int} (a b : List Int) (i j : Nat) (h : b.length ≤ j ∨ at0 a i = 0) : mulTo p a b i j = mulTo p a b (i + 1) 0 := by
  refine tab_congr fun t _ => ?_
  rw [if_neg (show ¬ (i + 1 ≤ t ∧ t < i + 1 + 0) by omega)]
  unfold cpart
  rw [sumN, Int.add_zero]
  congr 2
  by_cases h1 : i ≤ t
  · rw [if_pos h1]
    by_cases h2 : t < i + j
    · rw [if_pos ⟨h1, h2⟩]
    · rw [if_neg (by omega)]
      rcases h with h | h
      · rw [at0_out b (t - i) (by omega)]; simp
      · rw [h]; simp
  · rw [if_neg (by omega), if_neg h1]
theorem mulTo_end {p : Int} (a b : List Int) (h : a.length + b.length ≤ 65) : mulTo p a b a.length 0 = pad (mulr p a b) := by
  refine tab_congr fun t _ => ?_
  rw [if_neg (by omega), at0_mulr]
  simp [cv]
theorem mulTo_inp {p : Int} (hp : 0 < p) (a b : List Int) (i j : Nat) : InP p (mulTo p a b i j) := InP.tab hp fun _ _ => emod_range _ _ hp

def MulOut (p : Int) (a b : List Int) (w : World) (g : Nat) (i : Value) (wr : World) : Prop :=
  ∃ n : Nat, n ≤ a.length ∧ i = .int .i64 n ∧ Arr wr w.heap.size 25 (pad a) ∧ Arr wr (w.heap.size + 1) 25 (pad b) ∧ Arr wr (w.heap.size + 2) 25 zeros64 ∧ Arr wr g 25 (mulTo p a b n 0) ∧ Ext w wr
def MulIn (p : Int) (a b : List Int) (w : World) (g n : Nat) (i : Value) (wr : World) : Prop :=
  ∃ j : Nat, j ≤ b.length ∧ i = .int .i64 j ∧ Arr wr w.heap.size 25 (pad a) ∧ Arr wr (w.heap.size + 1) 25 (pad b) ∧ Arr wr (w.heap.size + 2) 25 zeros64 ∧ Arr wr g 25 (mulTo p a b n j) ∧ Ext w wr
def timesV (p : Int) (a b : List Int) : Value := if a.length = 0 ∨ b.length = 0 ∨ a.length + b.length ≤ 65 then .tuple #[.agg (u8s (pad (mulr p a b))), .bool true] else .tuple #[.agg (u8s zeros64), .bool false]

set_option maxRecDepth 100000 in
set_option maxHeartbeats 1000000 in
theorem l01Times_any (p : Int) (a b : List Int) (hp : PrimeP p) (ha : Can p a) (hb : Can p b) (la : a.length ≤ 64) (lb : b.length ≤ 64) (w : World) :
    Calls Tryz.prog 112 #[.int .i64 p, .agg (u8s (pad a)), .agg (u8s (pad b))] w fun e w' =>
      e = .returned (timesV p a b) ∧ Ext w w' := by
  have HA := Lib.hid ha
  have HB := Lib.hid hb
  have HP := Lib.hid hp
  have DA := Lib.hid (rlen_pad ha.nz la)
  have DB := Lib.hid (rlen_pad hb.nz lb)
  clear ha hb hp
  have hz := zlit
  have A0 : Arr w w.heap.size 25 (pad a) → True := fun _ => trivial
  clear A0
  go_enter Tryz.func112, Tryz.ntmps112
  go_wp2
  obtain ⟨w1, hw1⟩ : ∃ w1, w1 = ((w.alloc (.cells (u8s (pad a)) 25)).alloc (.cells (u8s (pad b)) 25)).alloc (.cells (u8s zeros64) 25) := ⟨_, rfl⟩
  have A1 : Arr w1 w.heap.size 25 (pad a) := by rw [hw1]; exact ((Arr.new w _ _).alloc _).alloc _
  have A2 : Arr w1 (w.heap.size + 1) 25 (pad b) := by rw [hw1]; have := (Arr.new (w.alloc (.cells (u8s (pad a)) 25)) 25 (pad b)).alloc (.cells (u8s zeros64) 25); simpa using this
  have A3 : Arr w1 (w.heap.size + 2) 25 zeros64 := by rw [hw1]; have := Arr.new ((w.alloc (.cells (u8s (pad a)) 25)).alloc (.cells (u8s (pad b)) 25)) 25 zeros64; simpa using this
  have E1 : Ext w w1 := by rw [hw1]; exact ((Ext.refl w).alloc _).alloc _ |>.alloc _
  have S1 : w1.heap.size = w.heap.size + 3 := by rw [hw1]; simp
  rw [← hw1]
  clear hw1
  have PL := Lib.hid (pad_length a)
  have QL := Lib.hid (pad_length b)
  refine region_ext 8 (by kernel_rfl) (by kernel_rfl) (by kernel_rfl) [] [eqv (.agg (u8s (pad a))), eqv (.int .i64 ((a.length : Int) - 1)), eqv (.agg (u8s (pad b))), eqv (.int .i64 ((b.length : Int) - 1)), eqv (.agg (u8s zeros64)), isArr w1.heap.size 25 zeros64, eqv (.int .i64 ((a.length : Int) - 1)), eqv (.int .i64 ((b.length : Int) - 1))]
    ⟨mono_eqv _, mono_eqv _, mono_eqv _, mono_eqv _, mono_eqv _, mono_arr _ _ _, mono_eqv _, mono_eqv _, trivial⟩ (fun vals => ?_) (fun vals w9 hE9 hS9 hN9 => ?_)
  · simp only [List.take_succ_cons, List.take_zero]
    refine ⟨fun w8 hE8 hk => doesK_plain rfl fun K hK => ?_, ?_⟩
    · exact wp_load_row _ _ rfl _ (by first | rfl | simp [*]) _ _ (0, 0) _ ((A1).ext hE8) Tryz.underlying25 rfl (by rw [infoPoly, u8s_size, PL.out]) (hK _ _ rfl (Ext.refl _) rfl)
    simp only [Act.put, List.setIfInBounds_toArray, List.set_cons_zero, List.set_cons_succ]
    refine ⟨fun w8 hE8 hk => doesK_plain rfl fun K hK => ?_, ?_⟩
    · have k0 : vals 0 = .agg (u8s (pad a)) := hk 0 (by decide) (by kernel_rfl)
      go_simp
      refine (l01Deg_any _ PL.out _).mono ?_
      rintro e7 w7 ⟨rfl, hE7⟩
      exact hK _ _ (by rw [DA.out]; rfl) hE7 rfl
    simp only [Act.put, List.setIfInBounds_toArray, List.set_cons_zero, List.set_cons_succ]
    refine ⟨fun w8 hE8 hk => doesK_plain rfl fun K hK => ?_, ?_⟩
    · exact wp_load_row _ _ rfl _ (by first | rfl | simp [*]) _ _ (0, 0) _ ((A2).ext hE8) Tryz.underlying25 rfl (by rw [infoPoly, u8s_size, QL.out]) (hK _ _ rfl (Ext.refl _) rfl)
    simp only [Act.put, List.setIfInBounds_toArray, List.set_cons_zero, List.set_cons_succ]
    refine ⟨fun w8 hE8 hk => doesK_plain rfl fun K hK => ?_, ?_⟩
    · have k1 : vals 1 = .int .i64 ((a.length : Int) - 1) := hk 1 (by decide) (by kernel_rfl)
      have k2 : vals 2 = .agg (u8s (pad b)) := hk 2 (by decide) (by kernel_rfl)
      go_simp
      refine (l01Deg_any _ QL.out _).mono ?_
      rintro e7 w7 ⟨rfl, hE7⟩
      exact hK _ _ (by rw [DB.out]; rfl) hE7 rfl
    simp only [Act.put, List.setIfInBounds_toArray, List.set_cons_zero, List.set_cons_succ]
    refine ⟨fun w8 hE8 hk => doesK_plain rfl fun K hK => ?_, ?_⟩
    · go_simp
      (try go_bits)
      exact hK _ _ rfl (Ext.refl _) rfl
    simp only [Act.put, List.setIfInBounds_toArray, List.set_cons_zero, List.set_cons_succ]
    refine ⟨fun w8 hE8 hk => doesK_plain rfl fun K hK => ?_, ?_⟩
    · go_simp
      exact hK _ _ ⟨_, rfl, by have := hE8.size; omega, Arr.new _ _ _⟩ ((Ext.refl _).alloc _) rfl
    simp only [Act.put, List.setIfInBounds_toArray, List.set_cons_zero, List.set_cons_succ]
    refine ⟨fun w8 hE8 hk => doesK_plain rfl fun K hK => ?_, ?_⟩
    · have k0 : vals 0 = .agg (u8s (pad a)) := hk 0 (by decide) (by kernel_rfl)
      have k1 : vals 1 = .int .i64 ((a.length : Int) - 1) := hk 1 (by decide) (by kernel_rfl)
      have k3 : vals 3 = .int .i64 ((b.length : Int) - 1) := hk 3 (by decide) (by kernel_rfl)
      obtain ⟨g5, k5, b5, a5⟩ : isArr w1.heap.size 25 zeros64 (vals 5) _ := hk 5 (by decide) (by kernel_rfl)
      go_simp
      (try go_bits)
      exact hK _ _ rfl (Ext.refl _) rfl
    simp only [Act.put, List.setIfInBounds_toArray, List.set_cons_zero, List.set_cons_succ]
    refine ⟨fun w8 hE8 hk => doesK_plain rfl fun K hK => ?_, ?_⟩
    · have k0 : vals 0 = .agg (u8s (pad a)) := hk 0 (by decide) (by kernel_rfl)
      have k1 : vals 1 = .int .i64 ((a.length : Int) - 1) := hk 1 (by decide) (by kernel_rfl)
      have k2 : vals 2 = .agg (u8s (pad b)) := hk 2 (by decide) (by kernel_rfl)
      have k3 : vals 3 = .int .i64 ((b.length : Int) - 1) := hk 3 (by decide) (by kernel_rfl)
      obtain ⟨g5, k5, b5, a5⟩ : isArr w1.heap.size 25 zeros64 (vals 5) _ := hk 5 (by decide) (by kernel_rfl)
      have k6 : vals 6 = .int .i64 ((a.length : Int) - 1) := hk 6 (by decide) (by kernel_rfl)
      go_simp
      (try go_bits)
      exact hK _ _ rfl (Ext.refl _) rfl
    exact trivial
  simp only [List.take_succ_cons, List.take_zero, List.drop_succ_cons, List.drop_zero, preAct, Nat.reduceAdd, Act.put, List.setIfInBounds_toArray, List.set_cons_zero, List.set_cons_succ]
  have k0 : vals 0 = .agg (u8s (pad a)) := hS9 0 (by decide) 
  have k1 : vals 1 = .int .i64 ((a.length : Int) - 1) := hS9 1 (by decide) 
  have k2 : vals 2 = .agg (u8s (pad b)) := hS9 2 (by decide) 
  have k3 : vals 3 = .int .i64 ((b.length : Int) - 1) := hS9 3 (by decide) 
  have k4 : vals 4 = .agg (u8s zeros64) := hS9 4 (by decide) 
  obtain ⟨g5, k5, b5, a5⟩ : isArr w1.heap.size 25 zeros64 (vals 5) _ := hS9 5 (by decide) 
  have k6 : vals 6 = .int .i64 ((a.length : Int) - 1) := hS9 6 (by decide) 
  have k7 : vals 7 = .int .i64 ((b.length : Int) - 1) := hS9 7 (by decide) 
  simp only [k0, k1, k2, k3, k4, k5, k6, k7]
  clear hN9 hS9 k0 k1 k2 k3 k4 k5 k6 k7
  refine wplS _ _ rfl rfl a5 rfl rfl zeros64_length zeros64_length ?_
  have G1 := hE9.size
  obtain ⟨w2, hw2⟩ : ∃ w2, w2 = w9.setRow g5 (u8s zeros64) := ⟨_, rfl⟩
  have B1 : Arr w2 w.heap.size 25 (pad a) := by rw [hw2]; exact (A1.ext hE9).setRow_other (by omega) _
  have B2 : Arr w2 (w.heap.size + 1) 25 (pad b) := by rw [hw2]; exact (A2.ext hE9).setRow_other (by omega) _
  have B3 : Arr w2 (w.heap.size + 2) 25 zeros64 := by rw [hw2]; exact (A3.ext hE9).setRow_other (by omega) _
  have B4 : Arr w2 g5 25 zeros64 := by rw [hw2]; exact a5.setRow
  have E2 : Ext w w2 := by rw [hw2]; exact (E1.tr hE9).setRow (by omega) _
  have G5 : w.heap.size + 3 ≤ g5 := by omega
  rw [← hw2]
  clear hw2 A1 A2 A3 E1 hE9 a5 b5 G1
  by_cases z : a.length = 0 ∨ b.length = 0
  · have F : Hid (timesV p a b = Value.tuple #[Value.agg (u8s zeros64), Value.bool true]) := Lib.hid (by
      have : mulr p a b = [] := by
        rcases z with z | z
        · rw [List.eq_nil_of_length_eq_zero z, mulr_nil_left]
        · rw [List.eq_nil_of_length_eq_zero z, mulr_nil_right]
      unfold timesV
      rw [if_pos (by omega), this, pad_nil])
    have Z := Lib.hid z
    by_cases z1 : a.length = 0
    · have t1 : decide ((a.length : Int) - 1 < 0) = true := by simp; omega
      clear z
      go_wp2_with (first | (refine wplL _ rfl rfl B4 rfl zeros64_length ?_) | (refine wplS _ _ rfl rfl B3 rfl rfl zeros64_length zeros64_length ?_))
      have C3 := B3.setRow (l := zeros64)
      exact bodyPost_ret (res_ct rfl rfl rfl C3 zeros64_length Tryz.underlying25 infoPoly) rfl ⟨by rw [F.out]; rfl, E2.setRow (by omega) _⟩
    · have t1 : decide ((a.length : Int) - 1 < 0) = false := by simp; omega
      have t2 : decide ((b.length : Int) - 1 < 0) = true := by simp; omega
      clear z
      go_wp2_with (first | (refine wplL _ rfl rfl B4 rfl zeros64_length ?_) | (refine wplS _ _ rfl rfl B3 rfl rfl zeros64_length zeros64_length ?_))
      have C3 := B3.setRow (l := zeros64)
      exact bodyPost_ret (res_ct rfl rfl rfl C3 zeros64_length Tryz.underlying25 infoPoly) rfl ⟨by rw [F.out]; rfl, E2.setRow (by omega) _⟩
  · have t1 : decide ((a.length : Int) - 1 < 0) = false := by simp; omega
    have t2 : decide ((b.length : Int) - 1 < 0) = false := by simp; omega
    by_cases z2 : a.length + b.length ≤ 65
    · have t3 : decide ((63 : Int) < (a.length : Int) - 1 + ((b.length : Int) - 1)) = false := by simp; omega
      have F : Hid (timesV p a b = Value.tuple #[Value.agg (u8s (pad (mulr p a b))), Value.bool true]) := Lib.hid (by unfold timesV; exact if_pos (by omega))
      have na : 1 ≤ a.length := by omega
      have nb : 1 ≤ b.length := by omega
      clear z
      go_wp2
      go_loopw [11] (fun i wr => MulOut p a b w g5 i wr) (fun i _ => 64 - (intOf i).toNat)
      case atStart => exact ⟨0, by omega, rfl, B1, B2, B3, by rw [mulTo_zero]; exact B4, E2⟩
      case round =>
        obtain ⟨n, hn, rfl, C1, C2, C3, C4, E3⟩ := hrel
        clear B1 B2 B3 B4 E2
        by_cases hlt : n < a.length
        · have d1 : decide ((n : Int) ≤ (a.length : Int) - 1) = true := by simp; omega
          go_wp2
          go_loopw [12] (fun i wr => MulIn p a b w g5 n i wr) (fun i _ => 64 - (intOf i).toNat)
          case atStart => exact ⟨0, by omega, rfl, C1, C2, C3, C4, E3⟩
          case round =>
            clear C1 C2 C3 C4 E3
            obtain ⟨j, hj, rfl, C1, C2, C3, C4, E3⟩ := hrel
            have c1 := C1.cell n (by rw [PL.out]; omega)
            rw [at0_pad a la] at c1
            by_cases hj2 : j < b.length
            · by_cases hz0 : at0 a n = 0
              · have tz : (at0 a n != 0) = false := by rw [hz0]; rfl
                have HZ0 := Lib.hid hz0
                clear hz0
                go_wp2
                go_roundw
                case rel => exact ⟨n + 1, by omega, by go_num, C1, C2, C3, by rw [← mulTo_row a b n j (.inr HZ0.out)]; exact C4, E3⟩
                case measure => simp [intOf]; omega
              · have tz : (at0 a n != 0) = true := by simpa using hz0
                clear hz0
                have c2 := C2.cell j (by rw [QL.out]; omega)
                rw [at0_pad b lb] at c2
                have c3 := C4.cell (n + j) (by rw [mulTo_length]; omega)
                have f3 := C4.free (n + j)
                have lo := HP.out.lo
                have hi := HP.out.hi
                have hp0 : p ≠ 0 := by omega
                have b1 := HA.out.inp n
                have b2 := HB.out.inp j
                have b3 := mulTo_inp (show 0 < p by omega) a b n j (n + j)
                have b4 := mulB (K := 7) (C := 7) (by decide) (show -7 ≤ at0 a n by omega) (by omega) b2.1 (by omega)
                have b5 : 0 ≤ at0 a n * at0 b j := Int.mul_nonneg b1.1 b2.1
                have b6 := emod_range (at0 (mulTo p a b n j) (n + j) + at0 a n * at0 b j) p (by omega)
                have i1 : 0 ≤ (n : Int) + (j : Int) := by omega
                have i2 : (n : Int) + (j : Int) < 64 := by omega
                have i3 : ((n : Int) + (j : Int)).toNat = n + j := by omega
                have i4 : (n : Int) < 64 := by omega
                have i5 : (j : Int) < 64 := by omega
                go_wp2
                refine wp_region_still_tail 22 (by kernel_rfl) (by kernel_rfl) ?_
                simp only [List.take_succ_cons, List.take_zero, List.drop_succ_cons, List.drop_zero]
                repeat (refine wpStill_step (fun K hK => ?_); go_simp; (try go_bits); refine hK _ ?_; clear hK K)
                refine wpStill_nil ?_
                change wpList _ _ _ _ _ wr.drew
                go_wp2
                go_roundw
                case rel =>
                  refine ⟨j + 1, by omega, by go_num, (C1.other (by simp; omega)).drew, (C2.other (by simp; omega)).drew, (C3.other (by simp; omega)).drew, ?_, (E3.set (by simp; omega) _).drew⟩
                  rw [← mulTo_step a b n j (by omega)]
                  exact (C4.set (n + j) _).drew
                case measure => simp [intOf]; omega
            · have hj3 : j = b.length := by omega
              subst hj3
              go_wp2
              go_roundw
              case rel => exact ⟨n + 1, by omega, by go_num, C1, C2, C3, by rw [← mulTo_row a b n b.length (.inl (Nat.le_refl _))]; exact C4, E3⟩
              case measure => simp [intOf]; omega
        · have hn' : n = a.length := by omega
          subst hn'
          rw [mulTo_end a b z2] at C4
          have ML := Lib.hid (pad_length (mulr p a b))
          go_wp2_with (first | (refine wplL _ rfl rfl C4 rfl ML.out ?_) | (refine wplS _ _ rfl rfl C3 rfl rfl zeros64_length ML.out ?_))
          have C5 := C3.setRow (l := pad (mulr p a b))
          exact bodyPost_ret (res_ct rfl rfl rfl C5 ML.out Tryz.underlying25 infoPoly) rfl ⟨by rw [F.out]; rfl, E3.setRow (by omega) _⟩
    · have t3 : decide ((63 : Int) < (a.length : Int) - 1 + ((b.length : Int) - 1)) = true := by simp; omega
      have F : Hid (timesV p a b = Value.tuple #[Value.agg (u8s zeros64), Value.bool false]) := Lib.hid (by unfold timesV; exact if_neg (by omega))
      clear z
      go_wp2_with (first | (refine wplL _ rfl rfl B4 rfl zeros64_length ?_) | (refine wplS _ _ rfl rfl B3 rfl rfl zeros64_length zeros64_length ?_))
      have C3 := B3.setRow (l := zeros64)
      exact bodyPost_ret (res_ct rfl rfl rfl C3 zeros64_length Tryz.underlying25 infoPoly) rfl ⟨by rw [F.out]; rfl, E2.setRow (by omega) _⟩

end Go.Proofs.YtaemiknaiccijaaGreat
