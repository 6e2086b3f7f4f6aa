/- Lemmas and contracts of functions, for the laws: A map of numbers keyed by the texts of rows: how often each row was met. -/
import Derived.Test.YtaemiknaiccijaaGreatRm22
import Derived.Test.YtaemiknaiccijaaGreatRm12
import Derived.Maps.OwnOps
import Derived.Maps.Views
import Derived.StringKeys
import Derived.Shelf.SlSortCmp.WholeK
import Derived.Shelf.SlSortCmp.NoneTotal
set_option linter.unusedVariables false
set_option linter.unusedSimpArgs false
namespace Go.Proofs.YtaemiknaiccijaaGreat
open Go.RowKit Go.Maps Go.WideMaps

/-- A row of digits without superfluous zeros. -/
def Dig (L : List Int) : Prop := NZ L ∧ ∀ j, 0 ≤ at0 L j ∧ at0 L j ≤ 9
theorem Can.dig {p : Int} {L : List Int} (h : Can p L) (hp : p ≤ 7) : Dig L := ⟨h.nz, fun j => by have := h.inp j; omega⟩
def rowKey (L : List Int) : Lit := .string ((txt L).map fun n => UInt8.ofNat n.toNat)
theorem digit_inj {x y : Int} (hx : 0 ≤ x ∧ x ≤ 9) (hy : 0 ≤ y ∧ y ≤ 9) (h : UInt8.ofNat (48 + x).toNat = UInt8.ofNat (48 + y).toNat) : x = y := by
  have := congrArg UInt8.toNat h
  simp only [UInt8.toNat_ofNat'] at this
  omega
theorem txt_len (L : List Int) (h : L.length ≠ 0) : (txt L).length = L.length := by simp [txt, h]
theorem txt_at (L : List Int) (h : L.length ≠ 0) (j : Nat) (hj : j < L.length) : (txt L)[j]? = some (48 + at0 L (L.length - 1 - j)) := by
  unfold txt
  rw [if_neg h, List.getElem?_map, List.getElem?_reverse hj]
  simp [at0, show L.length - 1 - j < L.length by omega]
theorem rowKey_inj {a b : List Int} (ha : Dig a) (hb : Dig b) (h : rowKey a = rowKey b) : a = b := by
  have h : (txt a).map (fun n => UInt8.ofNat n.toNat) = (txt b).map (fun n => UInt8.ofNat n.toNat) := by injection h
  have hl := congrArg List.length h
  rw [List.length_map, List.length_map] at hl
  by_cases za : a.length = 0
  · by_cases zb : b.length = 0
    · rw [List.eq_nil_of_length_eq_zero za, List.eq_nil_of_length_eq_zero zb]
    · exfalso
      rw [txt_len b zb, show txt a = [48] from if_pos za] at hl
      have b1 : b.length = 1 := by simpa using hl.symm
      have h0 := congrArg (fun l => l[0]?) h
      simp only [List.getElem?_map, txt_at b zb 0 (by omega), show txt a = [48] from if_pos za, List.getElem?_cons_zero, Option.map_some, Option.some.injEq, b1] at h0
      have := digit_inj (x := 0) (by decide) (hb.2 0) h0
      exact hb.1 0 b1 this.symm
  · by_cases zb : b.length = 0
    · exfalso
      rw [txt_len a za, show txt b = [48] from if_pos zb] at hl
      have a1 : a.length = 1 := by simpa using hl
      have h0 := congrArg (fun l => l[0]?) h
      simp only [List.getElem?_map, txt_at a za 0 (by omega), show txt b = [48] from if_pos zb, List.getElem?_cons_zero, Option.map_some, Option.some.injEq, a1] at h0
      have := digit_inj (y := 0) (ha.2 0) (by decide) h0
      exact ha.1 0 a1 this
    · rw [txt_len a za, txt_len b zb] at hl
      refine list_ext0 hl fun j hj => ?_
      have h0 := congrArg (fun l => l[a.length - 1 - j]?) h
      simp only [List.getElem?_map, txt_at a za (a.length - 1 - j) (by omega), txt_at b zb (a.length - 1 - j) (by omega), Option.map_some, Option.some.injEq] at h0
      have := digit_inj (ha.2 _) (hb.2 _) h0
      rwa [show a.length - 1 - (a.length - 1 - j) = j by omega, show b.length - 1 - (a.length - 1 - j) = j by omega] at this

theorem mapKeys : Keyed Tryz.prog 9 := string_keyed Tryz.underlying9
theorem zeroInt (w : World) : (zeroValue 2).run Tryz.prog w = .ok (.int .i64 0) w := by kernel_rfl
theorem rowKey_of (L : List Int) (hl : L.length ≤ 1000) : keyOf Tryz.prog 9 (.string (strOfNums (txt L))) = some (rowKey L) := by
  refine keyOf_string_mk Tryz.underlying9 ?_
  rw [strOfNums_size]
  have : (txt L).length ≤ 1000 := by
    by_cases h : L.length = 0
    · rw [show txt L = [48] from if_pos h]; decide
    · rw [txt_len L h]; exact hl
  unfold maxLen; omega
/-- Block b is a map that tells how often f has each row as its value below k. -/
def MapC (w : World) (b : Nat) (f : Nat → List Int) (k : Nat) : Prop :=
  ∃ D, w.ownsMap Tryz.prog 9 (plainElem (H := Unit) Tryz.prog 2) b k D ∧ IsMap D ∧ ∀ L, Dig L → D.atKey (rowKey L) (.lit (.int .i64 0)) = .lit (.int .i64 (times f L k))
theorem MapC.made (w : World) (f : Nat → List Int) : MapC (w.alloc (.map #[] 0)) w.heap.size f 0 :=
  ⟨.map [], World.ownsMap_made _ _ _ _, isMap_empty, fun _ _ => rfl⟩
theorem MapC.lt {w : World} {b k : Nat} {f : Nat → List Int} (h : MapC w b f k) : b < w.heap.size := by
  obtain ⟨D, ⟨es, clock, hb, _⟩, _⟩ := h
  exact (Array.getElem?_eq_some_iff.1 hb).1
theorem MapC.ext {w w' : World} {b k : Nat} {f : Nat → List Int} (h : MapC w b f k) (hE : Ext w w') : MapC w' b f k := by
  have hl := h.lt
  obtain ⟨D, ⟨es, clock, hb, h2⟩, h3⟩ := h
  exact ⟨D, ⟨es, clock, (hE.block b hl).trans hb, h2⟩, h3⟩
theorem times_range (f : Nat → List Int) (y : List Int) : ∀ k, 0 ≤ times f y k ∧ times f y k ≤ k
  | 0 => ⟨Int.le_refl _, Int.le_refl _⟩
  | k + 1 => by
    have := times_range f y k
    unfold times at *
    rw [sumN]
    split <;> omega
theorem times_step (f : Nat → List Int) (y : List Int) (k : Nat) : times f y (k + 1) = times f y k + if f k = y then 1 else 0 := rfl
section
variable {ops : Array Oper} {rest : List Oper} {o : Oper} {a : Act} {w : World} {Q : Exit → Act → World → Prop} {b k : Nat} {f : Nat → List Int}
theorem wplMapGet (m x : Operand) (ho : o.op = .lookup 120 m x false) (hgd : o.guard = none) (hM : MapC w b f k) (L : List Int) (hm : a.eval m = .map (some b)) (hx : a.eval x = .string (strOfNums (txt L))) (hL : Dig L) (hl : L.length ≤ 1000)
    (h : wpList Tryz.prog ops Q rest (a.put o.dst (.int .i64 (times f L k))) w) : wpList Tryz.prog ops Q (o :: rest) a w := by
  obtain ⟨D, hown, _, hat⟩ := hM
  refine wpList_lookup_own_int w hgd m x 120 ho 9 2 .i64 mapKeys Tryz.underlying120 Tryz.underlying2 (zeroInt w) b k D hm hown _ _ hx (rowKey_of L hl) fun c hc _ => ?_
  rw [hat L hL] at hc
  injection hc with hc
  injection hc with _ hc
  rw [← hc]; exact h
theorem wplMapInc (m x v : Operand) (ho : o.op = .mapUpdate 120 m x v) (hgd : o.guard = none) (hM : MapC w b f k) (L : List Int) (hm : a.eval m = .map (some b)) (hx : a.eval x = .string (strOfNums (txt L))) (hL : Dig L) (hl : L.length ≤ 1000) (hf : f k = L) (hv : a.eval v = .int .i64 (times f L k + 1)) (hk : k ≤ 1000000000)
    (h : ∀ w', MapC w' b f (k + 1) → w.grownBy w' (some b) → wpList Tryz.prog ops Q rest (a.put o.dst undef) w') : wpList Tryz.prog ops Q (o :: rest) a w := by
  obtain ⟨D, hown, hD, hat⟩ := hM
  have rg := times_range f L k
  refine wpList_mapUpdate_own w hgd m x v 120 ho 9 2 mapKeys Tryz.underlying120 _ b k D hm hown (by unfold maxLen; omega) _ _ _ hx hv (rowKey_of L hl) _ [] (plainElem_int Tryz.underlying2 (WalkArith.wf_i64 (by omega))) fun w' h1 h2 => ?_
  refine h w' ⟨_, h1, hD.put _ _, fun L' hL' => ?_⟩ h2
  by_cases e : L = L'
  · subst e
    rw [atKey_put_same hD (by exact trivial), times_step, if_pos hf]
  · rw [atKey_put_other (fun h => e (rowKey_inj hL hL' h.symm)), hat L' hL', times_step, if_neg (by rw [hf]; exact e), Int.add_zero]
end

end Go.Proofs.YtaemiknaiccijaaGreat

/- The program's sort of factors: a permutation, sorted by their rows. -/
namespace Go.Proofs
open Go.Shelf
def Tryz.sortF_ren : Go.Shelf.Ren := ⟨fun | 6 => 128 | 15 => 137 | 14 => 136 | 28 => 149 | 29 => 150 | 20 => 141 | 21 => 142 | 22 => 143 | 23 => 144 | 24 => 145 | 25 => 146 | 26 => 147 | 27 => 148 | 46 => 153 | 47 => 154 | 48 => 155 | 49 => 156 | 50 => 157 | 57 => 158 | n => n, fun | 22 => 116 | 24 => 119 | 25 => 138 | 3 => 3 | 39 => 127 | 0 => 0 | 53 => 155 | 55 => 157 | 4 => 4 | 46 => 148 | 45 => 147 | 50 => 152 | 5 => 5 | 9 => 9 | 66 => 159 | 70 => 163 | 76 => 165 | 77 => 166 | n => n, fun | n => n⟩
theorem Tryz.sortF : Go.Proofs.SlLaysF0.n6 Tryz.prog Tryz.sortF_ren := {
  mixed := by kernel_rfl
  f6 := ⟨Tryz.f128.name, by decide, Tryz.func128.trans (congrArg some (by kernel_rfl))⟩
  f14 := ⟨Tryz.f136.name, by decide, Tryz.func136.trans (congrArg some (by kernel_rfl))⟩
  f15 := Tryz.func137.trans (congrArg some (by kernel_rfl))
  f20 := ⟨Tryz.f141.name, by decide, Tryz.func141.trans (congrArg some (by kernel_rfl))⟩
  f21 := ⟨Tryz.f142.name, by decide, Tryz.func142.trans (congrArg some (by kernel_rfl))⟩
  f22 := ⟨Tryz.f143.name, by decide, Tryz.func143.trans (congrArg some (by kernel_rfl))⟩
  f23 := ⟨Tryz.f144.name, by decide, Tryz.func144.trans (congrArg some (by kernel_rfl))⟩
  f24 := ⟨Tryz.f145.name, by decide, Tryz.func145.trans (congrArg some (by kernel_rfl))⟩
  f25 := ⟨Tryz.f146.name, by decide, Tryz.func146.trans (congrArg some (by kernel_rfl))⟩
  f26 := ⟨Tryz.f147.name, by decide, Tryz.func147.trans (congrArg some (by kernel_rfl))⟩
  f27 := ⟨Tryz.f148.name, by decide, Tryz.func148.trans (congrArg some (by kernel_rfl))⟩
  f28 := Tryz.func149.trans (congrArg some (by kernel_rfl))
  f29 := Tryz.func150.trans (congrArg some (by kernel_rfl))
  f46 := ⟨Tryz.f153.name, by decide, Tryz.func153.trans (congrArg some (by kernel_rfl))⟩
  f47 := Tryz.func154.trans (congrArg some (by kernel_rfl))
  f48 := Tryz.func155.trans (congrArg some (by kernel_rfl))
  f49 := ⟨Tryz.f156.name, by decide, Tryz.func156.trans (congrArg some (by kernel_rfl))⟩
  f50 := ⟨Tryz.f157.name, by decide, Tryz.func157.trans (congrArg some (by kernel_rfl))⟩
  f57 := ⟨Tryz.f158.name, by decide, Tryz.func158.trans (congrArg some (by kernel_rfl))⟩
  t0 := Tryz.underlying0
  a0 := Tryz.isAgg0
  z0 := Tryz.sizeOf0
  v0 := Tryz.zeroValue0
  t3 := Tryz.underlying3
  a3 := Tryz.isAgg3
  z3 := Tryz.sizeOf3
  v3 := Tryz.zeroValue3
  t4 := Tryz.underlying4
  a4 := Tryz.isAgg4
  z4 := Tryz.sizeOf4
  v4 := Tryz.zeroValue4
  t5 := Tryz.underlying5
  a5 := Tryz.isAgg5
  z5 := Tryz.sizeOf5
  v5 := Tryz.zeroValue5
  t9 := Tryz.underlying9
  a9 := Tryz.isAgg9
  z9 := Tryz.sizeOf9
  v9 := Tryz.zeroValue9
  t22 := Tryz.underlying116
  a22 := Tryz.isAgg116
  z22 := Tryz.sizeOf116
  v22 := Tryz.zeroValue116
  t25 := Tryz.underlying138
  a25 := Tryz.isAgg138
  z25 := Tryz.sizeOf138
  v25 := Tryz.zeroValue138
  t39 := Tryz.underlying127
  a39 := Tryz.isAgg127
  z39 := Tryz.sizeOf127
  v39 := Tryz.zeroValue127
  t45 := Tryz.underlying147
  a45 := Tryz.isAgg147
  z45 := Tryz.sizeOf147
  v45 := Tryz.zeroValue147
  t46 := Tryz.underlying148
  a46 := Tryz.isAgg148
  z46 := Tryz.sizeOf148
  v46 := Tryz.zeroValue148
  t50 := Tryz.underlying152
  a50 := Tryz.isAgg152
  z50 := Tryz.sizeOf152
  v50 := Tryz.zeroValue152
  t53 := Tryz.underlying155
  a53 := Tryz.isAgg155
  z53 := Tryz.sizeOf155
  v53 := Tryz.zeroValue155
  t55 := Tryz.underlying157
  a55 := Tryz.isAgg157
  z55 := Tryz.sizeOf157
  v55 := Tryz.zeroValue157
  t66 := Tryz.underlying159
  a66 := Tryz.isAgg159
  z66 := Tryz.sizeOf159
  v66 := Tryz.zeroValue159
  t70 := Tryz.underlying163
  a70 := Tryz.isAgg163
  z70 := Tryz.sizeOf163
  v70 := Tryz.zeroValue163
  t76 := Tryz.underlying165
  a76 := Tryz.isAgg165
  z76 := Tryz.sizeOf165
  v76 := Tryz.zeroValue165
  t77 := Tryz.underlying166
  a77 := Tryz.isAgg166
  z77 := Tryz.sizeOf166
  v77 := Tryz.zeroValue166 }
end Go.Proofs
namespace Go.Proofs.YtaemiknaiccijaaGreat
open Go.RowKit Go.Sort

/-! ### the order of rows -/
theorem cmpN_neg (x y : Int) : cmpN x y < 0 ↔ x < y := by
  unfold cmpN; split
  · simp; omega
  · split <;> omega
theorem cmpF_self (a : List Int) : ∀ n, cmpF a a n = 0
  | 0 => rfl
  | n + 1 => by rw [cmpF, if_pos rfl, cmpF_self a n]
theorem cmpF_order (a b c : List Int) : ∀ n, (cmpF a b n < 0 → cmpF b c n < 0 → cmpF a c n < 0) ∧ (¬ cmpF a b n < 0 → ¬ cmpF b c n < 0 → ¬ cmpF a c n < 0)
  | 0 => by simp [cmpF]
  | n + 1 => by
    have ih := cmpF_order a b c n
    have k1 := cmpN_neg (at0 a n) (at0 b n)
    have k2 := cmpN_neg (at0 b n) (at0 c n)
    have k3 := cmpN_neg (at0 a n) (at0 c n)
    rw [cmpF, cmpF, cmpF]
    by_cases h1 : at0 a n = at0 b n
    · by_cases h2 : at0 b n = at0 c n
      · rw [if_pos h1, if_pos h2, if_pos (h1.trans h2)]; exact ih
      · rw [if_pos h1, if_neg h2, if_neg (by rw [h1]; exact h2), k2, k3]
        constructor <;> intros <;> omega
    · by_cases h2 : at0 b n = at0 c n
      · rw [if_neg h1, if_pos h2, if_neg (by rw [← h2]; exact h1), k1, k3]
        constructor <;> intros <;> omega
      · rw [if_neg h1, if_neg h2, k1, k2]
        by_cases h3 : at0 a n = at0 c n
        · rw [if_pos h3]; constructor <;> intros <;> omega
        · rw [if_neg h3, k3]; constructor <;> intros <;> omega
theorem cmpI_order (a b c : List Int) : (cmpI a b < 0 → cmpI b c < 0 → cmpI a c < 0) ∧ (¬ cmpI a b < 0 → ¬ cmpI b c < 0 → ¬ cmpI a c < 0) := by
  have k1 := cmpN_neg (a.length : Int) b.length
  have k2 := cmpN_neg (b.length : Int) c.length
  have k3 := cmpN_neg (a.length : Int) c.length
  unfold cmpI
  by_cases h1 : a.length = b.length
  · by_cases h2 : b.length = c.length
    · rw [if_pos h1, if_pos h2, if_pos (h1.trans h2), ← h1]; exact cmpF_order a b c a.length
    · rw [if_pos h1, if_neg h2, if_neg (by rw [h1]; exact h2), k2, k3]
      constructor <;> intros <;> omega
  · by_cases h2 : b.length = c.length
    · rw [if_neg h1, if_pos h2, if_neg (by rw [← h2]; exact h1), k1, k3]
      constructor <;> intros <;> omega
    · rw [if_neg h1, if_neg h2, k1, k2]
      by_cases h3 : a.length = c.length
      · rw [if_pos h3]; constructor <;> intros <;> omega
      · rw [if_neg h3, k3]; constructor <;> intros <;> omega
theorem cmpI_self (a : List Int) : cmpI a a = 0 := by rw [cmpI, if_pos rfl, cmpF_self]

/-! ### factors in memory -/
/-- A factor: the value of its row, the row, its power. -/
structure FE where
  v : Value
  L : List Int
  k : Nat
def FOk (w : World) (x : FE) : Prop := Rv w x.v x.L
abbrev FSub (w : World) : Type := {x : FE // FOk w x}
instance (w : World) : Inhabited (FSub w) := ⟨⟨⟨.slice none 0 0, [], 0⟩, ⟨none, 0, rfl, RowAt.nil _ _⟩⟩⟩
def encF (w : World) (x : FSub w) : List Value := [x.1.v, .int .i64 x.1.k]
def cfF (w : World) (x y : FSub w) : Int := cmpI x.1.L y.1.L
theorem swoF (w : World) : SWO (ltOf (cfF w)) where
  irrefl x := by unfold ltOf cfF; rw [cmpI_self]; rfl
  trans x y z h1 h2 := by
    unfold ltOf cfF at *
    exact decide_eq_true ((cmpI_order _ _ _).1 (of_decide_eq_true h1) (of_decide_eq_true h2))
  ntrans x y z h1 h2 := by
    unfold ltOf cfF at *
    exact decide_eq_false ((cmpI_order _ _ _).2 (of_decide_eq_false h1) (of_decide_eq_false h2))
theorem sortWorld_grown {α : Type} [Inhabited α] (enc : α → List Value) (k : Nat) (w : World) (g m : Nat) (d : Array α) (os : Array Obj) : w.grownBy (sortWorldK enc k w g 0 m d os) (some g) := by
  refine ⟨rfl, rfl, rfl, by simp [sortWorldK, putRowK, putRow, mapBlock, grow, Sort.ahead], fun j hj hne => ?_⟩
  have : g ≠ j := fun e => hne (by rw [e])
  unfold sortWorldK
  rw [heap_grow_old _ _ (by simpa [putRowK] using hj)]
  simp [putRowK, putRow, mapBlock, Sort.ahead, Array.getElem?_modify, this]
/-- A row outlives what turns in a block of other elements. -/
theorem Rv.other {w w' : World} {v : Value} {L : List Int} {g : Nat} {e : TypeId} (h : Rv w v L) (hT : ∃ cs fr, w.heap[g]? = some (.cells cs e fr)) (he : e ≠ 2) (hg : w.grownBy w' (some g)) : Rv w' v L := by
  obtain ⟨A, cap, rfl, hr⟩ := h
  by_cases h0 : L.length = 0
  · rw [List.eq_nil_of_length_eq_zero h0]; exact ⟨A, cap, rfl, RowAt.nil _ _⟩
  · refine ⟨A, cap, rfl, rowAt_grown hr hg fun a ha hb => ?_⟩
    obtain ⟨cs, fr, h1⟩ := hr.ib a ha (by omega)
    obtain ⟨cs2, fr2, h2⟩ := hT
    rw [Option.some.inj hb, h2] at h1
    simp only [Option.some.injEq, Obj.cells.injEq] at h1
    exact he h1.2.1

set_option maxRecDepth 100000 in
set_option maxHeartbeats 1000000 in
theorem closure_any (x y : FE) (w : World) (hx : FOk w x) (hy : FOk w y) :
    Calls Tryz.prog 129 #[.agg #[x.v, .int .i64 x.k], .agg #[y.v, .int .i64 y.k]] w fun e w' => e = .returned (.int .i64 (cmpI x.L y.L)) ∧ ∃ q os, w' = grow (w.drewN q) os := by
  obtain ⟨A, ca, e1, ra⟩ := hx
  obtain ⟨B, cb, e2, rb⟩ := hy
  have RA := Lib.hid ra
  have RB := Lib.hid rb
  rw [e1, e2]
  generalize x.L = a at *
  generalize y.L = b at *
  generalize x.k = k at *
  generalize y.k = l at *
  clear e1 e2 ra rb
  have E2 := ((Ext.refl w).alloc (.cells #[.slice A a.length ca, .int .i64 k] 119)).alloc (.cells #[.slice B b.length cb, .int .i64 l] 119)
  go_enter Tryz.func129, Tryz.ntmps129
  go_wp2_with (first | (go_at_call 130; (with_reducible refine (compare_any A B ca cb a b _ (RA.out.below E2) (RB.out.below E2)).mono ?_); rintro e w' ⟨rfl, q, rfl⟩))
  go_ret
  exact ⟨rfl, q, _, by rw [alloc_eq_grow, alloc_eq_grow, grow_grow]; rfl⟩

/-- The block's cells hold these factors. -/
def FCells (w : World) (g : Nat) (Fs : List FE) : Prop := ∀ (i : Nat) (x : FE), Fs[i]? = some x → w.cell? ⟨g, i * 2, none⟩ = some x.v ∧ w.cell? ⟨g, i * 2 + 1, none⟩ = some (.int .i64 x.k)
def FSorted (Fs : List FE) : Prop := ∀ (i j : Nat) (x y : FE), Fs[i]? = some x → Fs[j]? = some y → i < j → ¬ cmpI y.L x.L < 0

set_option maxRecDepth 100000 in
set_option maxHeartbeats 1000000 in
theorem sortF_any (g cap : Nat) (Fs : List FE) (w : World) (hF : ∀ x ∈ Fs, FOk w x) (hc : FCells w g Fs) (hz : ∀ j, w.frozen? ⟨g, j, none⟩ = false) (hT : ∃ cs fr, w.heap[g]? = some (.cells cs 119 fr)) (hn : Fs.length ≤ 1000000) :
    Calls Tryz.prog 128 #[.slice (some ⟨g, 0, none⟩) Fs.length cap, .func (.func 129) #[] #[]] w fun e w' => e = .returned (.tuple #[]) ∧ ∃ Fs', Fs'.Perm Fs ∧ FSorted Fs' ∧ FCells w' g Fs' ∧ (∀ x ∈ Fs', FOk w' x) ∧ w.grownBy w' (some g) := by
  obtain ⟨d, hd⟩ : ∃ d : Array (FSub w), d = (Fs.pmap (fun x h => (⟨x, h⟩ : FSub w)) hF).toArray := ⟨_, rfl⟩
  have hs : d.size = Fs.length := by rw [hd]; simp
  have hmap : d.toList.map (·.1) = Fs := by rw [hd]; simp [List.map_pmap]
  have hat : ∀ i, i < d.size → Fs[i]? = some d[i]!.1 := fun i hi => by
    rw [← hmap, List.getElem?_map]; simp [hi]
  have hg : g < w.heap.size := by obtain ⟨_, _, h⟩ := hT; exact (Array.getElem?_eq_some_iff.1 h).1
  have hH : HoldsK (encF w) 2 w g 0 d := by
    intro j hj
    rw [size_flatK] at hj
    have hi : j / 2 < d.size := by omega
    have := hc (j / 2) _ (hat _ hi)
    rw [get_flatK _ _ _ _ hj, Nat.zero_add]
    refine ⟨?_, hz j⟩
    rcases Nat.mod_two_eq_zero_or_one j with h | h
    · rw [h, show j = j / 2 * 2 by omega]
      rw [show j / 2 * 2 / 2 = j / 2 by omega]
      exact this.1
    · rw [h]
      rw [show (⟨g, j, none⟩ : Addr) = ⟨g, j / 2 * 2 + 1, none⟩ by rw [show j / 2 * 2 + 1 = j by omega]]
      exact this.2
  have hcmp : CmpLays Tryz.prog 129 #[] (encF w) 2 (cfF w) g 0 d.size w := by
    intro m os dk hsz x y
    have hG := sortWorld_grown (encF w) 2 w g m dk os
    exact closure_any x.1 y.1 _ (Rv.other x.2 hT (by decide) hG) (Rv.other y.2 hT (by decide) hG)
  have eg : ∀ args w, (callFunc 129 args).run Tryz.prog w = .ok (.enter 129 args) w := enters_of Tryz.func129 (by kernel_rfl) rfl
  have K := AnyQ.slices_SortFunc Tryz.sortF 2 Tryz.isAgg119 Tryz.sizeOf119 (encF w) (fun _ => rfl) (fun x v hv => by
    simp only [encF, List.mem_cons, List.not_mem_nil, or_false] at hv
    rcases hv with rfl | rfl
    · obtain ⟨A, c, e, _⟩ := x.2; rw [e]; rfl
    · rfl) (cfF w) (swoF w) 129 #[] g 0 cap d w eg hcmp hH hg (by omega)
  rw [hs] at K
  refine Calls.mono K fun e w' h => ?_
  obtain ⟨he, d', n, os, hp, hso, rfl⟩ := h
  have hG := sortWorld_grown (encF w) 2 w g n d' os
  have hs' : d'.size = d.size := hp.1
  have hH' := holdsK_sortWorldK_c (encF w) 2 w g 0 d d' n os hH hg hs'
  have hat' : ∀ i x, (d'.toList.map (·.1))[i]? = some x → i < d'.size ∧ x = d'[i]!.1 := fun i x hx => by
    rw [List.getElem?_map, Option.map_eq_some_iff] at hx
    obtain ⟨y, hy, rfl⟩ := hx
    obtain ⟨hi, e⟩ := List.getElem?_eq_some_iff.1 hy
    simp only [Array.length_toList] at hi
    refine ⟨hi, ?_⟩
    rw [← e]; simp [hi]
  refine ⟨he, d'.toList.map (·.1), ?_, ?_, ?_, ?_, hG⟩
  · have p3 := hp.2.2
    have e1 : d'.extract 0 Fs.length = d' := by rw [← hs, ← hs']; simp
    have e2 : d.extract 0 Fs.length = d := by rw [← hs]; simp
    rw [e1, e2] at p3
    rw [← hmap]
    exact p3.map _
  · intro i j x y hx hy hij
    obtain ⟨hi, rfl⟩ := hat' i x hx
    obtain ⟨hj, rfl⟩ := hat' j y hy
    have := hso i j (Nat.zero_le _) hij (by omega)
    exact of_decide_eq_false this
  · intro i x hx
    obtain ⟨hi, rfl⟩ := hat' i x hx
    have c0 := (hH'.cell hi (show 0 < 2 by decide)).1
    have c1 := (hH'.cell hi (show 1 < 2 by decide)).1
    rw [Nat.zero_add] at c0 c1
    exact ⟨c0, c1⟩
  · intro x hx
    obtain ⟨y, hy, rfl⟩ := List.mem_map.1 hx
    exact Rv.other y.2 hT (by decide) hG

end Go.Proofs.YtaemiknaiccijaaGreat

/- The list of factors that a call makes: appended to, sorted. -/
namespace Go.Proofs.YtaemiknaiccijaaGreat
open Go.RowKit Go.Sort

def cellsF (Fs : List FE) : List Value := Fs.flatMap fun x => [x.v, .int .i64 x.k]
theorem cellsF_len : ∀ Fs : List FE, (cellsF Fs).length = Fs.length * 2
  | [] => rfl
  | x :: r => by
    have := cellsF_len r
    unfold cellsF at *
    rw [List.flatMap_cons, List.length_append, this, List.length_cons, List.length_cons, List.length_cons, List.length_nil]; omega
theorem cellsF_get : ∀ (Fs : List FE) (i : Nat) (x : FE), Fs[i]? = some x → (cellsF Fs)[i * 2]? = some x.v ∧ (cellsF Fs)[i * 2 + 1]? = some (.int .i64 x.k)
  | [], i, x, h => by simp at h
  | y :: r, 0, x, h => by
    simp only [List.getElem?_cons_zero, Option.some.injEq] at h
    subst h
    exact ⟨rfl, rfl⟩
  | y :: r, i + 1, x, h => by
    have := cellsF_get r i x (by simpa using h)
    have e : cellsF (y :: r) = y.v :: .int .i64 y.k :: cellsF r := rfl
    rw [e, show (i + 1) * 2 = i * 2 + 1 + 1 by omega]
    simpa using this
theorem cellsF_app (Fs : List FE) (x : FE) : cellsF (Fs ++ [x]) = cellsF Fs ++ [x.v, .int .i64 x.k] := by simp [cellsF]
def unF (x : FE) : List Int × Nat := (x.L, x.k)
/-- A list of factors of this call's own. -/
def FOut (w0 w : World) (vo : Value) (out : List (List Int × Nat)) : Prop :=
  ∃ Fs : List FE, Fs.map unF = out ∧ OwV 119 2 w0 w vo Fs.length (cellsF Fs) ∧ ∀ x ∈ Fs, FOk w x
theorem FOut.nil {w0 w : World} (h : Ext w0 w) : FOut w0 w (.slice none 0 0) [] := ⟨[], rfl, OwV.nil h, by simp⟩
theorem FOut.ext {w0 w : World} {vo : Value} {out : List (List Int × Nat)} (h : FOut w0 w vo out) : Ext w0 w := by obtain ⟨_, _, h, _⟩ := h; exact h.ext
theorem FOut.next {w0 w w' : World} {vo : Value} {out : List (List Int × Nat)} (h : FOut w0 w vo out) (hE : Ext w w') : FOut w0 w' vo out := by
  obtain ⟨Fs, h1, h2, h3⟩ := h
  exact ⟨Fs, h1, h2.next hE, fun x hx => Rv.below (h3 x hx) hE⟩
theorem infoFac : (Tryz.prog.info? 119).map (fun i => (i.zero, i.size, i.bytes)) = some (some (.agg #[.slice none 0 0, .int .i64 0]), 2, 32) := by kernel_rfl
section
variable {ops : Array Oper} {rest : List Oper} {o : Oper} {a : Act} {w w0 : World} {Q : Exit → Act → World → Prop}
theorem wplAppF (s x : Operand) (ho : o.op = .call { callee := .builtin .append, args := #[s, x], argTypes := #[116, 116] }) (hgd : o.guard = none)
    {vo v : Value} {out : List (List Int × Nat)} {L : List Int} {k b c : Nat} (hO : FOut w0 w vo out) (hs : a.eval s = vo) (hx : a.eval x = .slice (some ⟨b, 0, none⟩) 1 c)
    (h0 : w.cell? ⟨b, 0, none⟩ = some v) (h1 : w.cell? ⟨b, 1, none⟩ = some (.int .i64 k)) (hR : Rv w v L) (hm : out.length < 1000000)
    (h : ∀ A cap w', FOut w0 w' (.slice A (out.length + 1) cap) (out ++ [(L, k)]) → (∀ u M, Rv w u M → Rv w' u M) → wpList Tryz.prog ops Q rest (a.put o.dst (.slice A (out.length + 1) cap)) w') : wpList Tryz.prog ops Q (o :: rest) a w := by
  obtain ⟨Fs, e1, e2, e3⟩ := hO
  have hl : Fs.length = out.length := by rw [← e1, List.length_map]
  refine wplAppV s x ho hgd Tryz.underlying116 infoFac rfl (by decide) (by decide) [v, .int .i64 k] e2 hs hx rfl ?_ ?_ (by omega) fun A cap w' i1 i2 i3 => ?_
  · intro j u hj
    rw [Addr.add_lit, Nat.zero_add]
    match j with
    | 0 => simp only [List.getElem?_cons_zero, Option.some.injEq] at hj; subst hj; exact h0
    | 1 => simp only [List.getElem?_cons_succ, List.getElem?_cons_zero, Option.some.injEq] at hj; subst hj; exact h1
    | j + 2 => simp at hj
  · intro u hu
    simp only [List.mem_cons, List.not_mem_nil, or_false] at hu
    rcases hu with rfl | rfl
    · obtain ⟨A, c, e, _⟩ := hR; rw [e]; rfl
    · rfl
  · have keep : ∀ u M, Rv w u M → Rv w' u M := fun u M hu => hu.grown e2 (by decide) i3
    rw [hl] at i1 ⊢
    refine h A cap w' ⟨Fs ++ [⟨v, L, k⟩], by rw [List.map_append, e1]; rfl, ?_, ?_⟩ keep
    · rw [cellsF_app, List.length_append]
      rw [← hl] at i1 ⊢
      exact i1
    · intro y hy
      rcases List.mem_append.1 hy with hy | hy
      · exact keep _ _ (e3 y hy)
      · simp only [List.mem_cons, List.not_mem_nil, or_false] at hy
        subst hy; exact keep _ _ hR
end
/-- The factors that a slice holds, in the order of their rows. -/
def FDone (w0 w : World) (vo : Value) (out : List (List Int × Nat)) : Prop :=
  ∃ (A : Option Addr) (cap : Nat) (Fs : List FE), vo = .slice A Fs.length cap ∧ (Fs.map unF).Perm out ∧ FSorted Fs ∧ (0 < Fs.length → ∃ g, A = some ⟨g, 0, none⟩ ∧ FCells w g Fs) ∧ (∀ x ∈ Fs, FOk w x) ∧ Ext w0 w
theorem sort_out (w0 w : World) (vo : Value) (out : List (List Int × Nat)) (h : FOut w0 w vo out) :
    Calls Tryz.prog 128 #[vo, .func (.func 129) #[] #[]] w fun e w' => e = .returned (.tuple #[]) ∧ FDone w0 w' vo out := by
  obtain ⟨Fs, e1, e2, e3⟩ := h
  by_cases hn : Fs.length = 0
  · have e : Fs = [] := List.eq_nil_of_length_eq_zero hn
    subst e
    obtain ⟨A, cap, rfl, _⟩ := e2.slice
    refine Calls.mono (AnyF.slices_SortFunc_none Tryz.sortF A cap _ w) fun e w' h => ?_
    obtain ⟨rfl, rfl⟩ := h
    refine ⟨rfl, A, cap, [], rfl, by rw [← e1], fun i j x y hx => by simp at hx, fun h => absurd h (by simp), by simp, e2.ext⟩
  · have hlim : Fs.length ≤ 1000000 := e2.2.2
    rcases e2.2.1.2 with ⟨_, h0⟩ | ⟨g, cap, cur, rfl, hb, hg, h1, h2, h3, h4⟩
    · exact absurd h0 hn
    · have hc : FCells w g Fs := fun i x hx => by
        obtain ⟨c0, c1⟩ := cellsF_get Fs i x hx
        have k0 := e2.2.1.cells (g := g) rfl _ _ c0
        have k1 := e2.2.1.cells (g := g) rfl _ _ c1
        rw [Addr.add_lit, Nat.zero_add] at k0 k1
        exact ⟨k0, k1⟩
      refine Calls.mono (sortF_any g cap Fs w e3 hc (fun j => frozen_of_row _ _ _ _ _ hg) ⟨_, _, hg⟩ hlim) fun e w' h => ?_
      obtain ⟨he, Fs', p1, p2, p3, p4, p5⟩ := h
      refine ⟨he, _, cap, Fs', by rw [p1.length_eq], by rw [← e1]; exact p1.map _, p2, fun _ => ⟨g, rfl, p3⟩, p4, Ext.grown e2.ext p5 hb⟩

end Go.Proofs.YtaemiknaiccijaaGreat

/- The program's factors of a polynomial. -/
namespace Go.Proofs.YtaemiknaiccijaaGreat
open Go.RowKit

def FacRel (p : Int) (a0 : List Int) (w : World) (f : Nat) (va vo vn : Value) (wr : World) : Prop :=
  ∃ (a : List Int) (n : Nat) (out : List (List Int × Nat)), f + n = a0.length + 2 ∧ 1 ≤ n ∧ 2 * (n - 1) ≤ a0.length ∧ Can p a ∧ 0 < a.length ∧ a.length ≤ a0.length ∧ out.length ≤ 100 * (n - 1) ∧ facA p f a n out = facI p a0 ∧ vn = .int .i64 n ∧ Rv wr va a ∧ FOut w wr vo out
def FrRel (p : Int) (a : List Int) (n : Nat) (w5 : World) (f : Nat) (vf i : Value) (wr : World) : Prop :=
  ∃ j : Nat, f + j = n ∧ i = .int .i64 j ∧ Rv wr vf (frobI p a j) ∧ Ext w5 wr
def FbRel (p : Int) (a : List Int) (n : Nat) (out : List (List Int × Nat)) (w : World) (f : Nat) (va vo vl : Value) (wr : World) : Prop :=
  ∃ (a' all : List Int) (out' : List (List Int × Nat)), facB p n f a' all out' = facB p n (allI p a n).length a (allI p a n) out ∧ Can p all ∧ 0 < all.length ∧ all.length ≤ f ∧ f ≤ 64 ∧ Can p a' ∧ 0 < a'.length ∧ a'.length ≤ a.length ∧ out'.length + f ≤ out.length + 64 ∧ Rv wr va a' ∧ Rv wr vl all ∧ FOut w wr vo out'

set_option maxRecDepth 100000 in
set_option maxHeartbeats 4000000 in
theorem factors_any (p : Int) (A : Option Addr) (ca : Nat) (a0 : List Int) (hp : PrimeP p) (ha : Can p a0) (la : a0.length ≤ 64) (na : 0 < a0.length) (w : World) (ra : RowAt w A a0) :
    Calls Tryz.prog 108 #[.int .i64 p, .slice A a0.length ca] w fun e w' => ∃ v, e = .returned v ∧ FDone w w' v (facI p a0) := by
  have HP := Lib.hid hp
  have HA := Lib.hid ha
  have RA := Lib.hid ra
  have lo := hp.lo
  have hi := hp.hi
  clear hp ha ra
  go_enter Tryz.func108, Tryz.ntmps108
  go_wp2
  go_loopg [1, 5, 6] (a0.length + 1) (fun f va vo vn wr => FacRel p a0 w f va vo vn wr)
  case atStart => exact ⟨a0, 1, [], rfl, Nat.le_refl _, by omega, HA.out, na, Nat.le_refl _, by simp, rfl, rfl, ⟨A, ca, rfl, RA.out⟩, FOut.nil (Ext.refl w)⟩
  case round =>
    obtain ⟨a, n, out, hf, n1, n2, hc, a1, a2, ol, hs, rfl, ⟨Aa, ka, rfl, Ra⟩, O⟩ := hrel
    have HC := Lib.hid hc
    have HS := Lib.hid hs
    have RAa := Lib.hid Ra
    have HO := Lib.hid O
    clear hc hs Ra O
    obtain ⟨f, rfl⟩ : ∃ f, gk = f + 1 := ⟨gk - 1, by omega⟩
    have DEG := Lib.hid fun W => degree_any Aa a.length ka (by omega) W
    by_cases h1 : a.length ≤ 1
    · have t1 : decide ((1 : Int) < (a.length : Int)) = false := decide_eq_false (by omega)
      have G : Hid (out = facI p a0) := Lib.hid (by rw [← HS.out, facA, if_pos h1])
      have SO := Lib.hid (sort_out w wr _ out HO.out)
      go_wp2_with (first | (go_at_call 79; (with_reducible refine (DEG.out _).mono ?_); rintro e w' ⟨rfl, rfl⟩) | (go_at_call 128; (with_reducible refine SO.out.mono ?_); rintro e w2 ⟨rfl, D⟩; rw [G.out] at D))
      go_ret
      exact ⟨_, rfl, D⟩
    · have t1 : decide ((1 : Int) < (a.length : Int)) = true := decide_eq_true (by omega)
      by_cases h2 : a.length - 1 < 2 * n
      · have t2 : decide ((a.length : Int) - 1 < 2 * (n : Int)) = true := decide_eq_true (by omega)
        have G : Hid (out ++ [(scal p a (invP p (lc a)), 1)] = facI p a0) := Lib.hid (by rw [← HS.out, facA, if_neg h1, if_pos h2])
        have hl := HC.out.last a1
        rw [show at0 a (a.length - 1) = lc a from rfl] at hl
        have hinv := invP_range (x := lc a) HP.out
        have LD := lead_any Aa ka a wr RAa.out
        rw [show lead a = lc a from if_neg (by omega)] at LD
        have LDM := Lib.hid LD
        have BA := Lib.hid (can_isB HC.out hi)
        have SO := Lib.hid (sort_out w)
        clear LD
        go_wp2_with (first
          | (go_at_call 79; (with_reducible refine (DEG.out _).mono ?_); rintro e w' ⟨rfl, rfl⟩)
          | (go_at_call 107; (with_reducible refine LDM.out.mono ?_); rintro e w2 ⟨rfl, rfl⟩)
          | (go_at_call 125; (with_reducible refine (inverse_any p (lc a) lo hi (by omega) hl.2 _).mono ?_); rintro e w' ⟨rfl, rfl⟩)
          | (go_at_call 124; (with_reducible refine (scale_any p (invP p (lc a)) Aa ka a lo hi (by omega) (by omega) BA.out _ RAa.out).mono ?_); rintro e w2 ⟨A2, k2, rfl, R2, E2⟩)
          | ((with_reducible show wpList _ _ _ _ _ _); apply wplAppF; exact rfl; exact rfl; exact ((HO.out.next E2).next ((Ext.refl _).alloc _)); exact rfl; exact rfl; exact cell_of (heap_alloc_new _ _) rfl; exact cell_of (heap_alloc_new _ _) rfl; exact Rv.below ⟨A2, k2, rfl, R2⟩ ((Ext.refl _).alloc _); omega))
        intro A3 c3 w3 O3 K3
        have SO3 := Lib.hid (SO.out w3 _ _ O3)
        clear O3 K3
        go_wp2_with (first | (go_at_call 128; (with_reducible refine SO3.out.mono ?_); rintro e w4 ⟨rfl, D⟩; rw [G.out] at D))
        go_ret
        exact ⟨_, rfl, D⟩
      · have t2 : decide ((a.length : Int) - 1 < 2 * (n : Int)) = false := decide_eq_false (by omega)
        have HS2 : Hid (facA p f (facB p n (allI p a n).length a (allI p a n) out).1 (n + 1) (facB p n (allI p a n).length a (allI p a n) out).2 = facI p a0) := Lib.hid (by rw [← HS.out, facA, if_neg h1, if_neg h2])
        clear HS
        go_wp2_with (first
          | (go_at_call 79; (with_reducible refine (DEG.out _).mono ?_); rintro e w' ⟨rfl, rfl⟩)
          | (go_at_call 78; (with_reducible refine (letter_any _).mono ?_); rintro e w2 ⟨A2, k2, rfl, R2, E2⟩))
        go_loopg [7, 35] n (fun f vf i wr2 => FrRel p a n wr f vf i wr2)
        case atStart => exact ⟨0, by omega, rfl, ⟨A2, k2, rfl, R2⟩, E2⟩
        case round =>
          clear R2 E2
          obtain ⟨j, hj, rfl, ⟨Af, kf, rfl, Rf⟩, E5⟩ := hrel
          have RF := Lib.hid Rf
          have FS := Lib.hid (frobI_spec HP.out HC.out a1 j)
          have FL := FS.out.2
          clear Rf
          by_cases hjn : j < n
          · obtain ⟨g, rfl⟩ : ∃ g, gk = g + 1 := ⟨gk - 1, by omega⟩
            have t3 : decide ((j : Int) < (n : Int)) = true := decide_eq_true (by omega)
            have PT : Hid ((p.toNat : Int) = p) := Lib.hid (by omega)
            have PW' := power_any p Af Aa kf ka (frobI p a j) a p.toNat (by omega) HP.out FS.out.1 HC.out (by omega) (by omega) a1 wr RF.out (RAa.out.below E5)
            rw [PT.out] at PW'
            have PW := Lib.hid PW'
            clear PW' PT
            go_wp2_with (first | (go_at_call 93; (with_reducible refine PW.out.mono ?_); rintro e w6 ⟨A6, k6, rfl, R6, E6⟩))
            go_roundg g
            case measure => omega
            case rel => exact ⟨j + 1, by omega, by go_num, ⟨A6, k6, rfl, R6⟩, E5.tr E6⟩
          · have t3 : decide ((j : Int) < (n : Int)) = false := decide_eq_false (by omega)
            obtain rfl : j = n := by omega
            have FI := Lib.hid (can_isB FS.out.1 hi)
            have TI := Lib.hid (can_isB (can_tee (show 1 < p by omega)) hi)
            have CM := Lib.hid (comb_can (show 0 < p by omega) (frobI p a j) [0, 1] (-1))
            have CL := comb_le p (frobI p a j) [0, 1] (-1)
            simp only [List.length_cons, List.length_nil] at CL
            have AL := Lib.hid (allI_spec HP.out HC.out a1 (by omega) j)
            have CB : Hid (∀ W A k, RowAt W A [0, 1] → RowAt W Af (frobI p a j) → Calls Tryz.prog 59 #[.int .i64 p, .slice Af (frobI p a j).length kf, .slice A 2 k, .int .i64 (-1)] W (Row (comb p (frobI p a j) [0, 1] (-1)) W)) :=
              Lib.hid fun W A k r rf => combine_any p (-1) Af A kf k (frobI p a j) [0, 1] lo hi (by decide) (by decide) FI.out TI.out W rf r
            go_wp2_with (first
              | (go_at_call 78; (with_reducible refine (letter_any _).mono ?_); rintro e w6 ⟨A6, k6, rfl, R6, E6⟩)
              | (go_at_call 59; (with_reducible refine (CB.out _ A6 k6 R6 (RF.out.below E6)).mono ?_); rintro e w7 ⟨A7, k7, rfl, R7, E7⟩)
              | (go_at_call 100; (with_reducible refine (gcd_any p A7 Aa k7 ka (comb p (frobI p a j) [0, 1] (-1)) a HP.out CM.out HC.out (by omega) (by omega) (.inr (by omega)) _ R7 (RAa.out.below (E5.tr (E6.tr E7)))).mono ?_); rintro e w8 ⟨A8, k8, rfl, R8, E8⟩))
            have EE := E5.tr (E6.tr (E7.tr E8))
            have HO8 := Lib.hid (HO.out.next EE)
            have RA8 := Lib.hid (RAa.out.below EE)
            have RL8 : Hid (RowAt w8 A8 (allI p a j)) := Lib.hid R8
            have LA : (allI p a j).length ≤ 64 := AL.out.2.1
            rw [show bezD p (comb p (frobI p a j) [0, 1] (-1)) a = allI p a j from rfl]
            clear R6 R7 R8 E6 E7 E8 EE E5 RF RAa HO CL FI TI CM FL hj hjn CB
            go_loopg [1, 5, 8] (allI p a j).length (fun f va vo vl wr2 => FbRel p a j out w f va vo vl wr2)
            case atStart => exact ⟨a, allI p a j, out, rfl, AL.out.1, AL.out.2.2, Nat.le_refl _, LA, HC.out, a1, Nat.le_refl _, by omega, ⟨Aa, ka, rfl, RA8.out⟩, ⟨A8, k8, rfl, RL8.out⟩, HO8.out⟩
            case round =>
              clear RA8 RL8 HO8
              obtain ⟨a', all, out', hb, hall, l0, lf, lf2, ha', b0, b1, hob, ⟨A1, k1, rfl, R1⟩, ⟨A2, k2, rfl, R2⟩, O⟩ := hrel
              have HB := Lib.hid hb
              have HAL := Lib.hid hall
              have HA1 := Lib.hid ha'
              have RR1 := Lib.hid R1
              have RR2 := Lib.hid R2
              have HO1 := Lib.hid O
              clear hb hall ha' R1 R2 O
              by_cases hl : all.length ≤ 1
              · have t4 : decide ((1 : Int) < (all.length : Int)) = false := decide_eq_false (by omega)
                go_wp2_with (first
                  | (go_at_call 79; (with_reducible refine (degree_any A2 all.length k2 (by omega) _).mono ?_); rintro e w' ⟨rfl, rfl⟩))
                have HBe : Hid (facB p j (allI p a j).length a (allI p a j) out = (a', out')) := Lib.hid (by
                  rw [← HB.out]
                  cases gk with
                  | zero => rfl
                  | succ g => rw [facB, if_pos hl])
                have HS3 : Hid (facA p f a' (j + 1) out' = facI p a0) := Lib.hid (by rw [← HS2.out, HBe.out])
                go_roundg f
                case measure => omega
                case rel => exact ⟨a', j + 1, out', by omega, by omega, by omega, HA1.out, b0, by omega, by omega, HS3.out, by go_num, ⟨A1, k1, rfl, RR1.out⟩, HO1.out⟩
              · have t4 : decide ((1 : Int) < (all.length : Int)) = true := decide_eq_true (by omega)
                obtain ⟨g, rfl⟩ : ∃ g, gk = g + 1 := ⟨gk - 1, by omega⟩
                obtain ⟨s1, s2, s3, s4⟩ := withDeg_spec HP.out HAL.out (by omega) n1
                have SB := Lib.hid s1
                have ST1 := Lib.hid (strip_spec HP.out HA1.out s1 b0 s2)
                have ST2 := Lib.hid (strip_spec HP.out HAL.out s1 l0 s2)
                have SL := strip_less HP.out HAL.out s1 l0 s2 s4
                have HB2 : Hid (facB p j g (stripI p a' (withDegI p all j)).1 (stripI p all (withDegI p all j)).1 (out' ++ [(withDegI p all j, (stripI p a' (withDegI p all j)).2)]) = facB p j (allI p a j).length a (allI p a j) out) := Lib.hid (by rw [← HB.out, facB, if_neg hl])
                have WD := Lib.hid (withDegree_any p A2 k2 all j HP.out HAL.out (by omega) l0 (by omega) wr RR2.out)
                have SA : Hid (∀ W B kb, RowAt W B (withDegI p all j) → Ext wr W → Calls Tryz.prog 127 #[.int .i64 p, .slice A1 a'.length k1, .slice B (withDegI p all j).length kb] W fun e w' => ∃ v, e = .returned (.tuple #[v, .int .i64 (stripI p a' (withDegI p all j)).2]) ∧ Rv w' v (stripI p a' (withDegI p all j)).1 ∧ Ext W w') :=
                  Lib.hid fun W B kb rb hE => strip_any p A1 B k1 kb a' _ HP.out HA1.out SB.out (by omega) (by omega) b0 s2 W (RR1.out.below hE) rb
                have SAl : Hid (∀ W B kb, RowAt W B (withDegI p all j) → Ext wr W → Calls Tryz.prog 127 #[.int .i64 p, .slice A2 all.length k2, .slice B (withDegI p all j).length kb] W fun e w' => ∃ v, e = .returned (.tuple #[v, .int .i64 (stripI p all (withDegI p all j)).2]) ∧ Rv w' v (stripI p all (withDegI p all j)).1 ∧ Ext W w') :=
                  Lib.hid fun W B kb rb hE => strip_any p A2 B k2 kb all _ HP.out HAL.out SB.out (by omega) (by omega) l0 s2 W (RR2.out.below hE) rb
                have L1 := ST1.out.2.1
                have L1' := ST1.out.2.2
                have L2 := ST2.out.2.1
                clear s1 s4 HB hl
                go_wp2_with (first
                  | (go_at_call 79; (with_reducible refine (degree_any A2 all.length k2 (by omega) _).mono ?_); rintro e w' ⟨rfl, rfl⟩)
                  | (go_at_call 126; (with_reducible refine WD.out.mono ?_); rintro e w3 ⟨A3, k3, rfl, R3, E3⟩)
                  | (go_at_call 127; (with_reducible refine (SA.out _ A3 k3 R3 E3).mono ?_); rintro e w4 ⟨v4, rfl, R4, E4⟩)
                  | (go_at_call 127; (with_reducible refine (SAl.out _ A3 k3 (R3.below E4) (E3.tr E4)).mono ?_); rintro e w5 ⟨v5, rfl, R5, E5⟩)
                  | ((with_reducible show wpList _ _ _ _ _ _); apply wplAppF; exact rfl; exact rfl; exact ((HO1.out.next (E3.tr (E4.tr E5))).next ((Ext.refl _).alloc _)); exact rfl; exact rfl; exact cell_of (heap_alloc_new _ _) rfl; exact cell_of (heap_alloc_new _ _) rfl; exact Rv.below ⟨A3, k3, rfl, R3.below (E4.tr E5)⟩ ((Ext.refl _).alloc _); omega))
                intro A9 c9 w9 O9 K9
                have V4 := K9 _ _ ((R4.below E5).below ((Ext.refl _).alloc _))
                have V5 := K9 _ _ (R5.below ((Ext.refl _).alloc _))
                clear K9
                go_wp2
                go_roundg g
                case measure => omega
                case rel => exact ⟨_, _, _, HB2.out, ST2.out.1, L2, by omega, by omega, ST1.out.1, L1, by omega, by rw [List.length_append]; simp only [List.length_cons, List.length_nil]; omega, V4, V5, O9⟩

end Go.Proofs.YtaemiknaiccijaaGreat
