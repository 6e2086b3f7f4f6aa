/- Lemmas and contracts of functions, for the laws: The program's products. -/
import Derived.Test.YtaemiknaiccijaaGreatRm18
import Derived.Test.YtaemiknaiccijaaGreatRm12
import Derived.Lib.RabinKarpLaws
set_option linter.unusedVariables false
set_option linter.unusedSimpArgs false
namespace Go.Proofs.YtaemiknaiccijaaGreat
open Go.RowKit

/-- What a product's row holds behind i rows, and j steps of the next one: sums that are not yet reduced. -/
def rawTo (a b : List Int) (i j : Nat) : List Int := tab (a.length + b.length - 1) fun t => cpart (at0 a) (at0 b) i t + if i ≤ t ∧ t < i + j then at0 a i * at0 b (t - i) else 0
theorem rawTo_length (a b : List Int) (i j : Nat) : (rawTo a b i j).length = a.length + b.length - 1 := tab_length _ _
theorem rawTo_zero (a b : List Int) : rawTo a b 0 0 = zerosN (a.length + b.length - 1) := by
  refine list_ext0 (by simp [rawTo, tab_length, zerosN_length]) fun t ht => ?_
  rw [rawTo, at0_tab, zerosN, at0_replicate]
  split
  · rw [if_neg (by omega)]; simp [cpart, sumN]
  · rfl
theorem at0_raw (a b : List Int) (i j t : Nat) (h : t < a.length + b.length - 1) : at0 (rawTo a b i j) t = cpart (at0 a) (at0 b) i t + if i ≤ t ∧ t < i + j then at0 a i * at0 b (t - i) else 0 := by
  rw [rawTo, at0_tab, if_pos h]
theorem rawTo_step (a b : List Int) (i j : Nat) (h : i + j < a.length + b.length - 1) : (rawTo a b i j).set (i + j) (at0 (rawTo a b i j) (i + j) + at0 a i * at0 b j) = rawTo a b i (j + 1) := by
  rw [at0_raw a b i j _ h, if_neg (show ¬ (i ≤ i + j ∧ i + j < i + j) by omega)]
  unfold rawTo
  rw [tab_set _ _ _ _ h]
  refine tab_congr fun t _ => ?_
  by_cases e : t = i + j
  · subst e
    rw [if_pos rfl, if_pos ⟨by omega, by omega⟩, show i + j - i = j by omega]
    simp
  · rw [if_neg e]
    by_cases h2 : i ≤ t ∧ t < i + j
    · rw [if_pos h2, if_pos ⟨h2.1, by omega⟩]
    · rw [if_neg h2, if_neg (by omega)]
theorem rawTo_row (a b : List Int) (i : Nat) : rawTo a b i b.length = rawTo a b (i + 1) 0 := by
  refine tab_congr fun t _ => ?_
  rw [if_neg (show ¬ (i + 1 ≤ t ∧ t < i + 1 + 0) by omega)]
  unfold cpart
  rw [sumN, Int.add_zero]
  congr 1
  by_cases h1 : i ≤ t
  · rw [if_pos h1]
    by_cases h2 : t < i + b.length
    · rw [if_pos ⟨h1, h2⟩]
    · rw [if_neg (by omega), at0_out b (t - i) (by omega)]; simp
  · rw [if_neg (by omega), if_neg h1]
theorem cpart_range {p : Int} {a b : List Int} (hp : p ≤ 7) (ha : InP p a) (hb : InP p b) (t : Nat) : ∀ i : Nat, 0 ≤ cpart (at0 a) (at0 b) i t ∧ cpart (at0 a) (at0 b) i t ≤ 49 * i
  | 0 => by simp [cpart, sumN]
  | i + 1 => by
    have h := cpart_range hp ha hb t i
    have a1 := ha i
    have b1 := hb (t - i)
    have m0 : 0 ≤ at0 a i * at0 b (t - i) := Int.mul_nonneg a1.1 b1.1
    have m1 : at0 a i * at0 b (t - i) ≤ 7 * 7 := Int.mul_le_mul (by omega) (by omega) b1.1 (by omega)
    unfold cpart at h ⊢
    rw [sumN]
    split <;> omega
theorem raw_range {p : Int} {a b : List Int} (hp : p ≤ 7) (ha : InP p a) (hb : InP p b) (i j t : Nat) (hi : i ≤ 1000) : 0 ≤ at0 (rawTo a b i j) t ∧ at0 (rawTo a b i j) t ≤ 100000 := by
  rw [rawTo, at0_tab]
  have h := cpart_range hp ha hb t i
  have a1 := ha i
  have b1 := hb (t - i)
  have m0 : 0 ≤ at0 a i * at0 b (t - i) := Int.mul_nonneg a1.1 b1.1
  have m1 : at0 a i * at0 b (t - i) ≤ 7 * 7 := Int.mul_le_mul (by omega) (by omega) b1.1 (by omega)
  split
  · split <;> omega
  · omega
/-- The first n sums are reduced. -/
def modTo (p : Int) (a b : List Int) (n : Nat) : List Int := tab (a.length + b.length - 1) fun t => if t < n then cv a b t % p else cv a b t
theorem modTo_zero (p : Int) (a b : List Int) : modTo p a b 0 = rawTo a b a.length 0 := tab_congr fun t _ => by
  rw [if_neg (by omega), if_neg (by omega), Int.add_zero]; rfl
theorem modTo_length (p : Int) (a b : List Int) (n : Nat) : (modTo p a b n).length = a.length + b.length - 1 := tab_length _ _
theorem at0_mod (p : Int) (a b : List Int) (n : Nat) (h : n < a.length + b.length - 1) : at0 (modTo p a b n) n = cv a b n := by
  rw [modTo, at0_tab, if_pos h, if_neg (by omega)]
theorem modTo_step (p : Int) (a b : List Int) (n : Nat) (h : n < a.length + b.length - 1) : (modTo p a b n).set n (cv a b n % p) = modTo p a b (n + 1) := by
  unfold modTo
  rw [tab_set _ _ _ _ h]
  refine tab_congr fun j _ => ?_
  by_cases e : j = n
  · subst e; rw [if_pos rfl, if_pos (by omega)]
  · rw [if_neg e]
    by_cases h2 : j < n
    · rw [if_pos h2, if_pos (by omega)]
    · rw [if_neg h2, if_neg (by omega)]
theorem modTo_end (p : Int) (a b : List Int) : trim (modTo p a b (a.length + b.length - 1)) = mulr p a b := by
  refine nz_ext (trim_nz _) (rowN_nz _ _) fun j => ?_
  rw [at0_trim, at0_mulr, modTo, at0_tab]
  split
  · rfl
  · rw [cv_out a b j (by omega)]; simp

def TmOut (a b : List Int) (w : World) (g f : Nat) (i : Value) (wr : World) : Prop :=
  ∃ n : Nat, f + n = a.length ∧ i = .int .i64 n ∧ Ri w wr [(g, rawTo a b n 0)]
def TmIn (a b : List Int) (w : World) (g n f : Nat) (i : Value) (wr : World) : Prop :=
  ∃ j : Nat, f + j = b.length ∧ i = .int .i64 j ∧ Ri w wr [(g, rawTo a b n j)]
def TmMod (p : Int) (a b : List Int) (w : World) (g f : Nat) (i : Value) (wr : World) : Prop :=
  ∃ n : Nat, f + n = a.length + b.length - 1 ∧ i = .int .i64 n ∧ Ri w wr [(g, modTo p a b n)]

set_option maxRecDepth 100000 in
set_option maxHeartbeats 2000000 in
theorem times_any (p : Int) (A B : Option Addr) (ca cb : Nat) (a b : List Int) (lo : 2 ≤ p) (hi : p ≤ 7) (pa : InP p a) (pb : InP p b) (la : a.length ≤ 1000) (lb : b.length ≤ 1000) (w : World) (ha : RowAt w A a) (hb : RowAt w B b) :
    Calls Tryz.prog 90 #[.int .i64 p, .slice A a.length ca, .slice B b.length cb] w (Row (mulr p a b) w) := by
  have HA := Lib.hid ha
  have HB := Lib.hid hb
  have PA := Lib.hid pa
  have PB := Lib.hid pb
  have p0 : p ≠ 0 := by omega
  have F := Ri.start w
  clear ha hb pa pb
  by_cases z : a.length = 0 ∨ b.length = 0
  · have G : Hid (mulr p a b = []) := Lib.hid (by
        rcases z with z | z
        · rw [List.eq_nil_of_length_eq_zero z, mulr_nil_left]
        · rw [List.eq_nil_of_length_eq_zero z, mulr_nil_right])
    by_cases z1 : a.length = 0
    · have t1 : ((a.length : Int) == 0) = true := by simp [z1]
      clear z z1
      go_enter Tryz.func90, Tryz.ntmps90
      go_wp2
      go_ret
      exact ⟨none, 0, by rw [G.out]; rfl, by rw [G.out]; exact RowAt.nil _ _, Ext.refl _⟩
    · have t1 : ((a.length : Int) == 0) = false := by simpa using z1
      have t2 : ((b.length : Int) == 0) = true := by have : b.length = 0 := by omega
                                                     simp [this]
      clear z z1
      go_enter Tryz.func90, Tryz.ntmps90
      go_wp2
      go_ret
      exact ⟨none, 0, by rw [G.out]; rfl, by rw [G.out]; exact RowAt.nil _ _, Ext.refl _⟩
  · have t1 : ((a.length : Int) == 0) = false := by rw [beq_eq_false_iff_ne]; omega
    have t2 : ((b.length : Int) == 0) = false := by rw [beq_eq_false_iff_ne]; omega
    have na : 1 ≤ a.length := by omega
    have nb : 1 ≤ b.length := by omega
    obtain ⟨ba, oa, rfl, _, hca⟩ := HA.out.place (by omega)
    obtain ⟨bb, ob, rfl, _, hcb⟩ := HB.out.place (by omega)
    clear z hca hcb
    go_enter Tryz.func90, Tryz.ntmps90
    go_wp2_with (first | ((with_reducible show wpList _ _ _ _ _ _); apply riMake (n := a.length + b.length - 1) F; exact rfl; exact rfl; exact Tryz.underlying52; exact rfl; exact rfl; omega; omega; omega))
    clear F
    intro g w1 F
    rw [← rawTo_zero a b] at F
    go_wp2
    have HN := Lib.hid (show a.length + b.length - 1 + 1 = a.length + b.length by omega)
    have hN' : Hid (a.length + b.length - 1 = a.length + b.length - 1) := Lib.hid rfl
    go_loopg [31] a.length (fun f i wr => TmOut a b w g f i wr)
    case atStart => exact ⟨0, rfl, rfl, F⟩
    case round =>
      clear F
      obtain ⟨n, hf, rfl, F⟩ := hrel
      by_cases hk : n < a.length
      · have s1 : decide ((n : Int) < (a.length : Int)) = true := decide_eq_true (by omega)
        obtain ⟨_, _, e, _, hca⟩ := (HA.out.below F.ext).place (by omega)
        cases e
        have c1 := hca n hk
        clear hca
        go_wp2
        go_loopg [38] b.length (fun f i wr => TmIn a b w g n f i wr)
        case atStart => exact ⟨0, rfl, rfl, F⟩
        case round =>
          clear F c1
          obtain ⟨j, hf2, rfl, F⟩ := hrel
          by_cases hj : j < b.length
          · have s2 : decide ((j : Int) < (b.length : Int)) = true := decide_eq_true (by omega)
            obtain ⟨_, _, e, _, hcb⟩ := (HB.out.below F.ext).place (by omega)
            cases e
            have c2 := hcb j hj
            have f1 := F.free 0 rfl (n + j)
            have c3 := F.cell 0 rfl (n + j) (by rw [rawTo_length]; omega)
            have i1 : ((n : Int) + (j : Int)).toNat = n + j := by omega
            have i2 : (n : Int) + (j : Int) < ((a.length + b.length - 1 : Nat) : Int) := by omega
            have r1 := raw_range hi PA.out PB.out n j (n + j) (by omega)
            have x1 := PA.out n
            have x2 := PB.out j
            have m := mulB (k := at0 a n) (b := at0 b j) (K := 7) (C := 7) (by decide) (by omega) (by omega) x2.1 (by omega)
            have ST := Lib.hid (rawTo_step a b n j (by omega))
            clear hcb
            go_wp2
            go_roundg (gk - 1)
            case measure => omega
            case rel => exact ⟨j + 1, by omega, by go_num, by rw [← ST.out]; exact F.setCell 0 rfl (n + j) _⟩
          · have s2 : decide ((j : Int) < (b.length : Int)) = false := decide_eq_false (by omega)
            have G : Hid (rawTo a b n j = rawTo a b (n + 1) 0) := Lib.hid (by rw [show j = b.length by omega, rawTo_row])
            rw [G.out] at F
            go_wp2
            go_roundg (a.length - (n + 1))
            case measure => omega
            case rel => exact ⟨n + 1, by omega, by go_num, F⟩
      · have s1 : decide ((n : Int) < (a.length : Int)) = false := decide_eq_false (by omega)
        have G : Hid (rawTo a b n 0 = modTo p a b 0) := Lib.hid (by rw [show n = a.length by omega, modTo_zero])
        rw [G.out] at F
        go_wp2
        go_loopg [58] (a.length + b.length - 1) (fun f i wr => TmMod p a b w g f i wr)
        case atStart => exact ⟨0, rfl, rfl, F⟩
        case round =>
          clear F
          obtain ⟨m, hf3, rfl, F⟩ := hrel
          by_cases hm : m < a.length + b.length - 1
          · have s3 : decide ((m : Int) < ((a.length + b.length - 1 : Nat) : Int)) = true := decide_eq_true (by omega)
            have f1 := F.free 0 rfl m
            have c3 := F.cell 0 rfl m (by rw [modTo_length]; exact hm)
            rw [at0_mod p a b m hm] at c3
            have r1 := cpart_range hi PA.out PB.out m a.length
            have q0 := tmodB (cv a b m) p lo hi
            have EM : Hid ((cv a b m).tmod p = cv a b m % p) := Lib.hid (Int.tmod_eq_emod_of_nonneg r1.1)
            have ST := Lib.hid (modTo_step p a b m hm)
            clear r1
            go_wp2
            go_roundg (gk - 1)
            case measure => omega
            case rel => exact ⟨m + 1, by omega, by go_num, by rw [← ST.out, ← EM.out]; exact F.setCell 0 rfl m _⟩
          · have s3 : decide ((m : Int) < ((a.length + b.length - 1 : Nat) : Int)) = false := decide_eq_false (by omega)
            have TR := trimmed_any (some ⟨g, 0, none⟩) (a.length + b.length - 1) (modTo p a b m) wr (F.row 0 rfl) (by rw [modTo_length]; omega)
            rw [modTo_length, show m = a.length + b.length - 1 by omega, modTo_end] at TR
            have TRM := Lib.hid TR
            have E := F.ext
            clear TR
            go_wp2_with (first | (go_at_call 88; refine TRM.out.mono ?_; rintro e w2 ⟨⟨A2, c2, rfl, R2, E2⟩, rfl⟩))
            go_ret
            exact ⟨A2, c2, rfl, R2, E⟩

end Go.Proofs.YtaemiknaiccijaaGreat

/- The program's copies of rows. -/
namespace Go.Proofs.YtaemiknaiccijaaGreat
open Go.RowKit

/-- A copy of a row: a block of the call's own. -/
def Copy (L : List Int) (w : World) (e : Ending) (w' : World) : Prop :=
  ∃ A cap, e = .returned (.slice A L.length cap) ∧ L.length ≤ cap ∧ Ext w w' ∧ RowAt w' A L ∧ (0 < L.length → ∃ g, A = some ⟨g, 0, none⟩ ∧ Blk w' g L ∧ w.heap.size ≤ g)
theorem Own.blk {w0 w : World} {v : Value} {L : List Int} (h : Own w0 w v L) (hn : 0 < L.length) : ∃ g cap, v = .slice (some ⟨g, 0, none⟩) L.length cap ∧ L.length ≤ cap ∧ Blk w g L ∧ w0.heap.size ≤ g := by
  rcases h.2.1.2 with ⟨rfl, h0⟩ | ⟨g, cap, cur, rfl, hb, hg, h1, h2, h3, h4⟩
  · omega
  · refine ⟨g, cap, rfl, h1, ⟨cur.toList.drop (L.length * 1), ?_⟩, hb⟩
    rw [hg]
    congr 1; congr 1
    apply Array.ext'
    rw [← h4]
    exact (List.take_append_drop _ _).symm

section
variable {ops : Array Oper} {rest : List Oper} {o : Oper} {a : Act} {w w0 : World} {Q : Exit → Act → World → Prop}
/-- append of a whole row to a row of this call's own. -/
theorem wplAppRow {ty : TypeId} (s x : Operand) (ho : o.op = .call { callee := .builtin .append, args := #[s, x], argTypes := #[ty, ty] }) (hgd : o.guard = none) (ht : Tryz.prog.underlying ty = some (.slice 2))
    {v : Value} {L X : List Int} {ad : Addr} {c : Nat} (hO : Own w0 w v L) (hs : a.eval s = v) (hx : a.eval x = .slice (some ad) X.length c) (hy : RowAt w (some ad) X) (hm : L.length + X.length ≤ 1000000)
    (h : ∀ v' w', Own w0 w' v' (L ++ X) → wpList Tryz.prog ops Q rest (a.put o.dst v') w') : wpList Tryz.prog ops Q (o :: rest) a w := by
  obtain ⟨i, h1, h2, h3, h4⟩ := info_parts infoInt64
  refine wpList_append_own w hgd s x ty ho w0.heap.size 2 i (.int .i64 0) 1 8 ht h1 h2 h3 h4 rfl (by decide) v L.length (L.map (Value.int .i64)) hs hO.2.1 ad X.length c (X.map (Value.int .i64)) hx (by simp) ?_ ?_ ?_ ?_ hO.1.size ?_
  · intro j u hj
    rw [List.getElem?_map, Option.map_eq_some_iff] at hj
    obtain ⟨y, hy2, rfl⟩ := hj
    obtain ⟨hjl, e⟩ := List.getElem?_eq_some_iff.1 hy2
    obtain ⟨b, of, e2, _, hc⟩ := hy.place (by omega)
    cases e2
    have := hc j hjl
    rw [Addr.add_lit, this]
    simp [at0, hjl, e]
  · intro u hu
    obtain ⟨y, _, rfl⟩ := List.mem_map.1 hu
    rfl
  · simp only [maxLen]; omega
  · omega
  · intro v' w' hown hg _
    exact h v' w' ⟨Below.grown hO.1 hg hO.1.size fun k hk => (hO.2.1.lt k hk).1, by simpa using hown, by simp; omega⟩
end
theorem own_made (w : World) : Own w (w.alloc (.cells #[] 2)) (.slice (some ⟨w.heap.size, 0, none⟩) 0 0) [] :=
  ⟨(Ext.refl w).alloc _, World.ownsRow_made w #[] 0 (Nat.le_refl _) (by decide) rfl, by simp⟩

theorem eqlNil_none (cap : Nat) (w : World) : (binOp .eql 52 (.slice none 0 cap) (.slice none 0 0)).run Tryz.prog w = .ok (.bool true) w := by kernel_rfl
theorem eqlNil_some (ad : Addr) (n cap : Nat) (w : World) : (binOp .eql 52 (.slice (some ad) n cap) (.slice none 0 0)).run Tryz.prog w = .ok (.bool false) w := by kernel_rfl

set_option maxRecDepth 100000 in
set_option maxHeartbeats 400000 in
theorem Clone_nil (w : World) (cap : Nat) : Calls Tryz.prog 132 #[.slice none 0 cap] w (Copy [] w) := by
  have he := eqlNil_none cap w
  go_enter Tryz.func132, Tryz.ntmps132
  go_wp2
  go_ret
  exact ⟨none, 0, rfl, Nat.le_refl _, Ext.refl _, RowAt.nil _ _, fun h => by simp at h⟩

set_option maxRecDepth 100000 in
set_option maxHeartbeats 400000 in
theorem Clone_some (ad : Addr) (cap : Nat) (L : List Int) (w : World) (h : RowAt w (some ad) L) (hn : L.length < 1000000) : Calls Tryz.prog 132 #[.slice (some ad) L.length cap] w (Copy L w) := by
  have H := Lib.hid h
  have he := eqlNil_some ad L.length cap w
  clear h
  go_enter Tryz.func132, Tryz.ntmps132
  go_wp2_with (first | ((with_reducible show wpList _ _ _ _ _ _); apply wplAppRow; exact rfl; exact rfl; exact Tryz.underlying52; exact own_made w; exact rfl; exact rfl; exact H.out.below ((Ext.refl w).alloc _); (simp; omega)))
  intro v' w' O
  try rw [List.nil_append] at O
  go_wp2
  obtain ⟨A', cap', rfl, R⟩ := O.row
  go_ret
  refine ⟨A', cap', rfl, (cap_of_own O), O.ext, R, fun hp => ?_⟩
  obtain ⟨g, c2, e, h1, h2, h3⟩ := O.blk hp
  cases e
  exact ⟨g, rfl, h2, h3⟩

theorem Clone_any (A : Option Addr) (cap : Nat) (L : List Int) (w : World) (h : RowAt w A L) (hn : L.length < 1000000) : Calls Tryz.prog 132 #[.slice A L.length cap] w (Copy L w) := by
  cases A with
  | some ad => exact Clone_some ad cap L w h hn
  | none =>
    have : L = [] := by
      rcases Nat.eq_zero_or_pos L.length with h0 | h0
      · exact List.eq_nil_of_length_eq_zero h0
      · obtain ⟨_, _, e, _⟩ := h.2 h0; cases e
    subst this
    exact Clone_nil w cap

end Go.Proofs.YtaemiknaiccijaaGreat

/- The program's long division. -/
namespace Go.Proofs.YtaemiknaiccijaaGreat
open Go.RowKit

/-- A call that hands back two rows. -/
def Row2 (L M : List Int) (w : World) (e : Ending) (w' : World) : Prop := ∃ A ca B cb, e = .returned (.tuple #[.slice A L.length ca, .slice B M.length cb]) ∧ RowAt w' A L ∧ RowAt w' B M ∧ Ext w w'

theorem dpart_stepN {n : Nat} {p c : Int} {b : Nat → Int} {m : Nat} {f : Nat → Int} {s j : Nat} (h : s + j < n) :
    (tab n (dpart p c b m f s j)).set (s + j) ((f (s + j) - qd p c m f s * b j) % p) = tab n (dpart p c b m f s (j + 1)) := by
  rw [tab_set n _ _ _ h]
  refine tab_congr fun t _ => ?_
  unfold dpart
  by_cases e : t = s + j
  · subst e
    rw [if_pos rfl, if_pos ⟨by omega, by omega⟩, show s + j - s = j by omega]
  · rw [if_neg e]
    by_cases h2 : s ≤ t ∧ t < s + j
    · rw [if_pos h2, if_pos ⟨h2.1, by omega⟩]
    · rw [if_neg h2, if_neg (by omega)]
def DvOut (p : Int) (a b : List Int) (w : World) (g1 g2 m f : Nat) (i : Value) (wr : World) : Prop :=
  ∃ (u q : Nat → Int), f ≤ dn a b ∧ i = .int .i64 ((f : Int) - 1) ∧ DivSt p (invP p (lc b)) (at0 b) m (dn a b) (at0 a) f u q ∧ Ri w wr [(g2, tab (dn a b) q), (g1, tab a.length u)]
def DvIn (p : Int) (a b : List Int) (w : World) (g1 g2 m k : Nat) (u q : Nat → Int) (f : Nat) (i : Value) (wr : World) : Prop :=
  ∃ j : Nat, f + j = b.length ∧ i = .int .i64 j ∧ Ri w wr [(g2, tab (dn a b) q), (g1, tab a.length (dpart p (invP p (lc b)) (at0 b) m u k j))]

set_option maxRecDepth 100000 in
set_option maxHeartbeats 2000000 in
theorem divide_any (p : Int) (A B : Option Addr) (ca cb : Nat) (a b : List Int) (hp : PrimeP p) (pa : Can p a) (pb : Can p b) (la : a.length ≤ 1000) (lb : b.length ≤ 1000) (hne : 0 < b.length) (w : World) (ha : RowAt w A a) (hb : RowAt w B b) :
    Calls Tryz.prog 116 #[.int .i64 p, .slice A a.length ca, .slice B b.length cb] w (Row2 (dq p a b) (dr p a b) w) := by
  have HA := Lib.hid ha
  have HB := Lib.hid hb
  have PA := Lib.hid pa
  have PB := Lib.hid pb
  have HP := Lib.hid hp
  have lo := hp.lo
  have hi := hp.hi
  have p0 : p ≠ 0 := by omega
  have CL := Lib.hid (Clone_any A ca a w ha (by omega))
  have hlc := pb.last hne
  rw [show at0 b (b.length - 1) = lc b from rfl] at hlc
  have hinv := invP_range (x := lc b) hp
  obtain ⟨bb, ob, rfl, _, _⟩ := HB.out.place hne
  clear ha hb pa pb hp
  by_cases sh : a.length < b.length
  · have t1 : decide ((a.length : Int) < (b.length : Int)) = true := decide_eq_true (by omega)
    have dz : dn a b = 0 := by unfold dn; omega
    have G1 : Hid (dq p a b = []) := Lib.hid (by unfold dq; rw [dz]; rfl)
    have G2 : Hid (dr p a b = a) := Lib.hid (by
      refine nz_ext (rowN_nz _ _) PA.out.nz fun j => ?_
      rw [at0_dr p a b hne, dz]; rfl)
    clear dz
    go_enter Tryz.func116, Tryz.ntmps116
    go_wp2_with (first | (go_at_call 132; refine CL.out.mono ?_; rintro e w2 ⟨A2, c2, rfl, C2, E2, R2, K2⟩))
    go_ret2
    exact ⟨none, 0, A2, c2, by rw [G1.out, G2.out]; rfl, by rw [G1.out]; exact RowAt.nil _ _, by rw [G2.out]; exact R2, E2⟩
  · have t1 : decide ((a.length : Int) < (b.length : Int)) = false := decide_eq_false (by omega)
    have DN : Hid (dn a b = a.length - b.length + 1) := Lib.hid (by unfold dn; omega)
    go_enter Tryz.func116, Tryz.ntmps116
    go_wp2_with (first | (go_at_call 132; refine CL.out.mono ?_; rintro e w2 ⟨A2, c2, rfl, C2, E2, R2, K2⟩; obtain ⟨g1, rfl, B1, L1⟩ := K2 (by omega)) | ((with_reducible show wpList _ _ _ _ _ _); apply riMake (n := a.length - b.length + 1) ((Ri.start w).addNew E2 B1 (by omega) L1); exact rfl; exact rfl; exact Tryz.underlying52; exact rfl; exact rfl; omega; omega; omega))
    clear K2
    intro g2 w3 F
    have Z : zerosN (a.length - b.length + 1) = tab (dn a b) (fun _ => 0) := by
      refine list_ext0 (by rw [zerosN_length, tab_length, DN.out]) fun j hj => ?_
      rw [zerosN, at0_replicate, at0_tab]; split <;> split <;> rfl
    have Z2 : a = tab a.length (at0 a) := (tab_self' rfl).symm
    rw [Z] at F
    rw [show [(g2, tab (dn a b) (fun _ => (0 : Int))), (g1, a)] = [(g2, tab (dn a b) (fun _ => 0)), (g1, tab a.length (at0 a))] by rw [← Z2]] at F
    clear Z Z2
    have LD : Hid (Calls Tryz.prog 107 #[.slice (some ⟨bb, ob, none⟩) b.length cb] w3 fun e w' => e = .returned (.int .i64 (lc b)) ∧ w3 = w') := Lib.hid (by
      have := lead_any (some ⟨bb, ob, none⟩) cb b w3 (HB.out.below F.ext)
      rwa [show lead b = lc b from if_neg (by omega)] at this)
    go_wp2_with (first | (go_at_call 107; refine LD.out.mono ?_; rintro e w' ⟨rfl, rfl⟩) | (go_at_call 125; refine (inverse_any p (lc b) lo hi (by omega) hlc.2 _).mono ?_; rintro e w' ⟨rfl, rfl⟩))
    clear LD
    have LE : b.length ≤ a.length := by omega
    obtain ⟨m, hm⟩ : ∃ m, b.length = m + 1 := ⟨b.length - 1, by omega⟩
    have HM := Lib.hid hm
    have DN2 : a.length - b.length + 1 + m = a.length := by omega
    have DN3 : 1 ≤ a.length - b.length + 1 := by omega
    have D0 : ∀ t, 0 ≤ at0 a t ∧ at0 a t < p := PA.out.inp
    clear hm
    go_loopg [11] (dn a b) (fun f i wr => DvOut p a b w g1 g2 m f i wr)
    case atStart =>
      refine ⟨at0 a, fun _ => 0, Nat.le_refl _, ?_, DivSt.start D0, F⟩
      have := DN.out
      go_num
    case round =>
      clear F D0
      obtain ⟨u, q, hk, rfl, hst, F⟩ := hrel
      have HST := Lib.hid hst
      have dn' := DN.out
      clear hst
      by_cases k0 : gk = 0
      · subst k0
        rw [show ((0 : Nat) : Int) - 1 = -1 from rfl]
        have hq : Hid (trim (tab (dn a b) q) = dq p a b) := Lib.hid (by
          refine nz_ext (trim_nz _) (rowN_nz _ _) fun s => ?_
          rw [at0_trim, at0_dq, show b.length - 1 = m by have := HM.out; omega, ← HST.out.quo s, if_neg (by omega), at0_tab]
          split
          · rfl
          · have := HST.out.quo s
            rw [if_neg (by omega), dQ_out _ _ (by omega)] at this
            exact this.symm)
        have hr : Hid (trim (tab a.length u) = dr p a b) := Lib.hid (by
          refine nz_ext (trim_nz _) (rowN_nz _ _) fun s => ?_
          rw [at0_trim, at0_dr p a b hne, show b.length - 1 = m by have := HM.out; omega, ← HST.out.rest s, at0_tab]
          split
          · rfl
          · have h2 : dR p (invP p (lc b)) (at0 b) m (dn a b) (at0 a) s = at0 a s := dR_out _ _ (by omega)
            have := HST.out.rest s
            rw [h2, at0_out a s (by omega)] at this
            exact this.symm)
        have TQ := trimmed_any (some ⟨g2, 0, none⟩) (a.length - b.length + 1) (tab (dn a b) q) wr (F.row 0 rfl) (by rw [tab_length]; omega)
        have TR := trimmed_any (some ⟨g1, 0, none⟩) c2 (tab a.length u) wr (F.row 1 rfl) (by rw [tab_length]; omega)
        rw [tab_length, hq.out, DN.out] at TQ
        rw [tab_length, hr.out] at TR
        have TQM := Lib.hid TQ
        have TRM := Lib.hid TR
        have E := F.ext
        clear TQ TR
        go_wp2_with (first | (go_at_call 88; (with_reducible refine TQM.out.mono ?_); rintro e w2 ⟨⟨A3, c3, rfl, R3, E3⟩, rfl⟩) | (go_at_call 88; (with_reducible refine TRM.out.mono ?_); rintro e w2 ⟨⟨A4, c4, rfl, R4, E4⟩, rfl⟩))
        go_ret2
        exact ⟨A3, c3, A4, c4, rfl, R3, R4, E⟩
      · obtain ⟨k, rfl⟩ : ∃ k, gk = k + 1 := ⟨gk - 1, by omega⟩
        have s1 : decide ((((k + 1 : Nat) : Int) - 1) ≥ 0) = true := decide_eq_true (by omega)
        have i0 : ((k + 1 : Nat) : Int) - 1 = k := by omega
        have c1 := F.cell 1 rfl (k + m) (by rw [tab_length]; omega)
        rw [at0_tab_lt _ (by omega)] at c1
        have r1 := HST.out.rng (k + m)
        have r2 := mulB (k := u (k + m)) (b := invP p (lc b)) (K := 7) (C := 7) (by decide) (by omega) (by omega) hinv.1 (by omega)
        have r3 : 0 ≤ u (k + m) * invP p (lc b) := Int.mul_nonneg r1.1 hinv.1
        have r4 := emod_range (u (k + m) * invP p (lc b)) p (by omega)
        have f5 := F.free 0 rfl k
        have c5 := F.cell 0 rfl k (by rw [tab_length]; omega)
        have eb : (k : Int) + (b.length : Int) - 1 = ((k + m : Nat) : Int) := by have := HM.out; omega
        have eq : Hid (u (k + m) * invP p (lc b) % p = qd p (invP p (lc b)) m u k) := Lib.hid rfl
        rw [i0]
        clear k0
        go_wp2
        have F2 := F.setCell 0 rfl k (u (k + m) * invP p (lc b) % p)
        have SQ : (tab (dn a b) q).set k (u (k + m) * invP p (lc b) % p) = tab (dn a b) (fun s => if s = k then qd p (invP p (lc b)) m u k else q s) := by
          rw [tab_set _ _ _ _ (by omega)]; rfl
        simp only [List.set_cons_zero] at F2
        rw [SQ] at F2
        have NX := Lib.hid (HST.out.step (show 0 < p by omega))
        generalize hq2 : (fun s => if s = k then qd p (invP p (lc b)) m u k else q s) = q2 at *
        have Q1 := Lib.hid hq2
        clear hq2 SQ F f5 c5 c1
        go_loopg [59] b.length (fun f i wr => DvIn p a b w g1 g2 m k u q2 f i wr)
        case atStart => exact ⟨0, rfl, rfl, by rw [dpart_zero]; exact F2⟩
        case round =>
          clear F2
          obtain ⟨j, hf2, rfl, F⟩ := hrel
          by_cases hj : j < b.length
          · have s2 : decide ((j : Int) < (b.length : Int)) = true := decide_eq_true (by omega)
            obtain ⟨_, _, e, _, hcb⟩ := (HB.out.below F.ext).place (by omega)
            cases e
            have c2 := hcb j hj
            have f1 := F.free 1 rfl (k + j)
            have c3 := F.cell 1 rfl (k + j) (by rw [tab_length]; have := HM.out; omega)
            rw [at0_tab_lt _ (by have := HM.out; omega), dpart_at] at c3
            have i1 : ((k : Int) + (j : Int)).toNat = k + j := by omega
            have i2 : (k : Int) + (j : Int) < (a.length : Int) := by have := HM.out; omega
            have x1 := HST.out.rng (k + j)
            have x2 := PB.out.inp j
            have m1 := mulB (k := u (k + m) * invP p (lc b) % p) (b := at0 b j) (K := 7) (C := 7) (by decide) (by omega) (by omega) x2.1 (by omega)
            have ST : Hid ((tab a.length (dpart p (invP p (lc b)) (at0 b) m u k j)).set (k + j) ((u (k + j) - u (k + m) * invP p (lc b) % p * at0 b j) % p) = tab a.length (dpart p (invP p (lc b)) (at0 b) m u k (j + 1))) := Lib.hid (dpart_stepN (by omega))
            clear hcb
            go_wp2_with (first | (go_at_call 91; with_reducible refine (reduce_any p (u (k + j) - u (k + m) * invP p (lc b) % p * at0 b j) lo hi (by omega) (by omega) _).mono ?_; rintro e w' ⟨rfl, rfl⟩))
            go_roundg (gk - 1)
            case measure => omega
            case rel => exact ⟨j + 1, by omega, by go_num, by rw [← ST.out]; exact F.setCell 1 rfl (k + j) _⟩
          · have s2 : decide ((j : Int) < (b.length : Int)) = false := decide_eq_false (by omega)
            have G : Hid (tab a.length (dpart p (invP p (lc b)) (at0 b) m u k j) = tab a.length (dstep p (invP p (lc b)) (at0 b) m u k)) := Lib.hid (by
              rw [show j = m + 1 by have := HM.out; omega, dpart_end])
            rw [G.out] at F
            go_wp2
            go_roundg k
            case measure => omega
            case rel => exact ⟨_, _, by omega, by go_num, NX.out, F⟩

end Go.Proofs.YtaemiknaiccijaaGreat

/- The program's rests, greatest common divisors. -/
namespace Go.Proofs.YtaemiknaiccijaaGreat
open Go.RowKit

/-- A value that is a row. -/
def Rv (w : World) (v : Value) (L : List Int) : Prop := ∃ A cap, v = .slice A L.length cap ∧ RowAt w A L
theorem Rv.below {w w' : World} {v : Value} {L : List Int} (h : Rv w v L) (hE : Ext w w') : Rv w' v L := by
  obtain ⟨A, cap, e, hr⟩ := h
  exact ⟨A, cap, e, hr.below hE⟩
def Row3 (L M N : List Int) (w : World) (e : Ending) (w' : World) : Prop := ∃ x y z, e = .returned (.tuple #[x, y, z]) ∧ Rv w' x L ∧ Rv w' y M ∧ Rv w' z N ∧ Ext w w'

set_option maxHeartbeats 400000 in
theorem rest_any (p : Int) (A B : Option Addr) (ca cb : Nat) (a b : List Int) (hp : PrimeP p) (pa : Can p a) (pb : Can p b) (la : a.length ≤ 1000) (lb : b.length ≤ 1000) (hne : 0 < b.length) (w : World) (ha : RowAt w A a) (hb : RowAt w B b) :
    Calls Tryz.prog 89 #[.int .i64 p, .slice A a.length ca, .slice B b.length cb] w (Row (dr p a b) w) := by
  have D := Lib.hid (divide_any p A B ca cb a b hp pa pb la lb hne w ha hb)
  clear ha hb pa pb hp hne
  go_enter Tryz.func89, Tryz.ntmps89
  go_wp2_with (first | (go_at_call 116; refine D.out.mono ?_; rintro e w2 ⟨A2, c2, B2, d2, rfl, R2, S2, E2⟩))
  go_ret
  exact ⟨B2, d2, rfl, S2, E2⟩

def BzRel (p : Int) (a0 b0 : List Int) (w : World) (n : Nat) (va vb vu vv vx vy : Value) (wr : World) : Prop :=
  ∃ (a b u x v y : List Int), bezF p n a b u x v y = bez0 p a0 b0 ∧ b.length < n ∧ BezInv p a b u x v y ∧
    Rv wr va a ∧ Rv wr vb b ∧ Rv wr vu u ∧ Rv wr vv v ∧ Rv wr vx x ∧ Rv wr vy y ∧ Ext w wr
theorem row_one (w : World) : RowAt (w.alloc (.cells #[.int .i64 1] 2)) (some ⟨w.heap.size, 0, none⟩) [1] := (Ints.new w 2 [1]).row' (by decide)
theorem can_isB {p : Int} {a : List Int} (h : Can p a) (hp : p ≤ 7) : IsB a := h.inp.b (by omega)

set_option maxRecDepth 100000 in
set_option maxHeartbeats 2000000 in
theorem bezout_any (p : Int) (A B : Option Addr) (ca cb : Nat) (a0 b0 : List Int) (hp : PrimeP p) (pa : Can p a0) (pb : Can p b0) (la : a0.length ≤ 64) (lb : b0.length ≤ 64) (hne : a0.length ≠ 0 ∨ b0.length ≠ 0) (w : World) (ha : RowAt w A a0) (hb : RowAt w B b0) :
    Calls Tryz.prog 120 #[.int .i64 p, .slice A a0.length ca, .slice B b0.length cb] w (Row3 (bezD p a0 b0) (bezU p a0 b0) (bezV p a0 b0) w) := by
  have INV := Lib.hid (BezInv.start hp pa pb la lb hne)
  have HP := Lib.hid hp
  have HE := Lib.hid (bez0_inv hp pa pb la lb hne)
  have HA := Lib.hid ha
  have HB := Lib.hid hb
  have lo := hp.lo
  have hi := hp.hi
  clear pa pb hne hp ha hb
  go_enter Tryz.func120, Tryz.ntmps120
  go_wp2
  have s1 : (w.alloc (.cells #[.int .i64 1] 2)).heap.size = w.heap.size + 1 := by simp
  go_loopg [1, 2, 9, 10, 11, 12] (b0.length + 1) (fun n va vb vu vv vx vy wr => BzRel p a0 b0 w n va vb vu vv vx vy wr)
  case atStart =>
    have E1 := (Ext.refl w).alloc (.cells #[.int .i64 1] 2)
    have E2 := E1.alloc (.cells #[.int .i64 1] 2)
    refine ⟨a0, b0, [1], [], [], [1], rfl, by omega, INV.out, ⟨A, ca, rfl, HA.out.below E2⟩, ⟨B, cb, rfl, HB.out.below E2⟩, ⟨_, 1, rfl, (row_one w).below ((Ext.refl _).alloc _)⟩, ⟨none, 0, rfl, RowAt.nil _ _⟩, ⟨none, 0, rfl, RowAt.nil _ _⟩, ⟨_, 1, ?_, row_one _⟩, E2⟩
    rw [s1]; rfl
  case round =>
    clear s1
    obtain ⟨a, b, u, x, v, y, hf, hn, inv, ⟨Aa, ka, rfl, Ra⟩, ⟨Ab, kb, rfl, Rb⟩, ⟨Au, ku, rfl, Ru⟩, ⟨Av, kv, rfl, Rv'⟩, ⟨Ax, kx, rfl, Rx⟩, ⟨Ay, ky, rfl, Ry⟩, E⟩ := hrel
    have HF := Lib.hid hf
    have IN := Lib.hid inv
    have l1 := inv.la
    have l2 := inv.lb
    have l3 := inv.lu
    have l4 := inv.lx
    have l5 := inv.lv
    have l6 := inv.ly
    have RA := Lib.hid Ra
    have RB := Lib.hid Rb
    have RU := Lib.hid Ru
    have RV := Lib.hid Rv'
    have RX := Lib.hid Rx
    have RY := Lib.hid Ry
    clear hf inv Ra Rb Ru Rv' Rx Ry
    by_cases hb : b.length = 0
    · have t1 : decide ((b.length : Int) > 0) = false := decide_eq_false (by omega)
      have t2 : decide (0 < (b.length : Int)) = false := decide_eq_false (by omega)
      have hs : Hid (bez0 p a0 b0 = (a, u, v)) := Lib.hid (by rw [← HF.out, bezF_stop _ _ _ _ _ _ _ _ hb])
      have na : 0 < a.length := by have := IN.out.ne; omega
      have hl := IN.out.ca.last na
      rw [show at0 a (a.length - 1) = lc a from rfl] at hl
      have hinv := invP_range (x := lc a) HP.out
      have LD := lead_any Aa ka a wr RA.out
      rw [show lead a = lc a from if_neg (by omega)] at LD
      have LDM := Lib.hid LD
      have BA := Lib.hid (can_isB IN.out.ca hi)
      have BU := Lib.hid (can_isB IN.out.cu hi)
      have BV := Lib.hid (can_isB IN.out.cv hi)
      have GD : Hid (bezD p a0 b0 = scal p a (invP p (lc a))) := Lib.hid (by unfold bezD; rw [hs.out])
      have GU : Hid (bezU p a0 b0 = scal p u (invP p (lc a))) := Lib.hid (by unfold bezU; rw [hs.out])
      have GV : Hid (bezV p a0 b0 = scal p v (invP p (lc a))) := Lib.hid (by unfold bezV; rw [hs.out])
      clear LD
      go_wp2_with (first | (go_at_call 107; (with_reducible refine LDM.out.mono ?_); rintro e w2 ⟨rfl, rfl⟩) | (go_at_call 125; (with_reducible refine (inverse_any p (lc a) lo hi (by omega) hl.2 _).mono ?_); rintro e w' ⟨rfl, rfl⟩) | (go_at_call 124; (with_reducible refine (scale_any p (invP p (lc a)) Aa ka a lo hi (by omega) (by omega) BA.out _ RA.out).mono ?_); rintro e w2 ⟨A2, k2, rfl, R2, E2⟩) | (go_at_call 124; (with_reducible refine (scale_any p (invP p (lc a)) Au ku u lo hi (by omega) (by omega) BU.out _ (RU.out.below E2)).mono ?_); rintro e w3 ⟨A3, k3, rfl, R3, E3⟩) | (go_at_call 124; (with_reducible refine (scale_any p (invP p (lc a)) Av kv v lo hi (by omega) (by omega) BV.out _ (RV.out.below (E2.tr E3))).mono ?_); rintro e w4 ⟨A4, k4, rfl, R4, E4⟩))
      go_ret3
      rw [GD.out, GU.out, GV.out]
      exact ⟨_, _, _, rfl, ⟨_, _, rfl, R2.below (E3.tr E4)⟩, ⟨_, _, rfl, R3.below E4⟩, ⟨_, _, rfl, R4⟩, E.tr (E2.tr (E3.tr E4))⟩
    · have t1 : decide ((b.length : Int) > 0) = true := decide_eq_true (by omega)
      have t2 : decide (0 < (b.length : Int)) = true := decide_eq_true (by omega)
      have hbp : 0 < b.length := by omega
      obtain ⟨n, rfl⟩ : ∃ n, gk = n + 1 := ⟨gk - 1, by omega⟩
      have ST := Lib.hid (IN.out.step HP.out hb)
      have HF2 : Hid (bezF p n b (dr p a b) x (comb p u (mulr p (dq p a b) x) (-1)) y (comb p v (mulr p (dq p a b) y) (-1)) = bez0 p a0 b0) := Lib.hid (by rw [← HF.out, bezF_step _ _ _ _ _ _ _ _ hb])
      have LT := dr_lt HP.out IN.out.cb hbp (a := a)
      have lq := dq_le p a b
      have mx := IN.out.mx HP.out hb
      have CQ := Lib.hid (dq_can (show 0 < p by omega) a b)
      have CM1 := Lib.hid (can_isB (mulr_can (show 0 < p by omega) (dq p a b) x) hi)
      have CM2 := Lib.hid (can_isB (mulr_can (show 0 < p by omega) (dq p a b) y) hi)
      have BU := Lib.hid (can_isB IN.out.cu hi)
      have BV := Lib.hid (can_isB IN.out.cv hi)
      have DV := Lib.hid (divide_any p Aa Ab ka kb a b HP.out IN.out.ca IN.out.cb (by omega) (by omega) hbp wr RA.out RB.out)
      go_wp2_with (first | (go_at_call 116; (with_reducible refine DV.out.mono ?_); rintro e w2 ⟨Aq, kq, Ar, kr, rfl, RQ, RR, E2⟩) | (go_at_call 90; (with_reducible refine (times_any p Aq Ax kq kx (dq p a b) x lo hi CQ.out.inp IN.out.cx.inp (by omega) (by omega) _ RQ (RX.out.below E2)).mono ?_); rintro e w3 ⟨A3, k3, rfl, R3, E3⟩) | (go_at_call 59; (with_reducible refine (combine_any p (-1) Au A3 ku k3 u (mulr p (dq p a b) x) lo hi (by decide) (by decide) BU.out CM1.out _ (RU.out.below (E2.tr E3)) R3).mono ?_); rintro e w4 ⟨A4, k4, rfl, R4, E4⟩) | (go_at_call 90; (with_reducible refine (times_any p Aq Ay kq ky (dq p a b) y lo hi CQ.out.inp IN.out.cy.inp (by omega) (by omega) _ (RQ.below (E3.tr E4)) (RY.out.below (E2.tr (E3.tr E4)))).mono ?_); rintro e w5 ⟨A5, k5, rfl, R5, E5⟩) | (go_at_call 59; (with_reducible refine (combine_any p (-1) Av A5 kv k5 v (mulr p (dq p a b) y) lo hi (by decide) (by decide) BV.out CM2.out _ (RV.out.below (E2.tr (E3.tr (E4.tr E5)))) R5).mono ?_); rintro e w6 ⟨A6, k6, rfl, R6, E6⟩))
      go_roundg n
      case measure => omega
      case rel => exact ⟨b, dr p a b, x, _, y, _, HF2.out, by omega, ST.out, ⟨_, _, rfl, RB.out.below (E2.tr (E3.tr (E4.tr (E5.tr E6))))⟩, ⟨_, _, rfl, RR.below (E3.tr (E4.tr (E5.tr E6)))⟩, ⟨_, _, rfl, RX.out.below (E2.tr (E3.tr (E4.tr (E5.tr E6))))⟩, ⟨_, _, rfl, RY.out.below (E2.tr (E3.tr (E4.tr (E5.tr E6))))⟩, ⟨_, _, rfl, R4.below (E5.tr E6)⟩, ⟨_, _, rfl, R6⟩, E.tr (E2.tr (E3.tr (E4.tr (E5.tr E6))))⟩

set_option maxHeartbeats 400000 in
theorem gcd_any (p : Int) (A B : Option Addr) (ca cb : Nat) (a0 b0 : List Int) (hp : PrimeP p) (pa : Can p a0) (pb : Can p b0) (la : a0.length ≤ 64) (lb : b0.length ≤ 64) (hne : a0.length ≠ 0 ∨ b0.length ≠ 0) (w : World) (ha : RowAt w A a0) (hb : RowAt w B b0) :
    Calls Tryz.prog 100 #[.int .i64 p, .slice A a0.length ca, .slice B b0.length cb] w (Row (bezD p a0 b0) w) := by
  have D := Lib.hid (bezout_any p A B ca cb a0 b0 hp pa pb la lb hne w ha hb)
  clear ha hb pa pb hp hne
  go_enter Tryz.func100, Tryz.ntmps100
  go_wp2_with (first | (go_at_call 120; refine D.out.mono ?_; rintro e w2 ⟨x, y, z, rfl, ⟨A2, c2, rfl, R2⟩, S2, T2, E2⟩))
  go_ret
  exact ⟨A2, c2, rfl, R2, E2⟩

end Go.Proofs.YtaemiknaiccijaaGreat

/- The program's powers by a modulus, numbers of rests, polynomials with a number. -/
namespace Go.Proofs.YtaemiknaiccijaaGreat
open Go.RowKit

def PoRel (p : Int) (a m : List Int) (k0 : Nat) (w : World) (n : Nat) (i vo vs : Value) (wr : World) : Prop :=
  ∃ (k : Nat) (out sq : List Int), k ≤ n ∧ i = .int .i64 k ∧ (k : Int) ≤ 1000000000000 ∧ Can p out ∧ out.length < m.length ∧ Can p sq ∧ sq.length < m.length ∧ pwG p m n k out sq = powI p a k0 m ∧
    Rv wr vo out ∧ Rv wr vs sq ∧ Ext w wr

set_option maxRecDepth 100000 in
set_option maxHeartbeats 2000000 in
theorem power_any (p : Int) (A M : Option Addr) (ca cm : Nat) (a m : List Int) (k : Nat) (hk : (k : Int) ≤ 1000000000000) (hp : PrimeP p) (ha : Can p a) (hm : Can p m) (la : a.length ≤ 500) (lm : m.length ≤ 500) (hne : 0 < m.length) (w : World) (ra : RowAt w A a) (rm : RowAt w M m) :
    Calls Tryz.prog 93 #[.int .i64 p, .slice A a.length ca, .int .i64 k, .slice M m.length cm] w (Row (powI p a k m) w) := by
  have HP := Lib.hid hp
  have HA := Lib.hid ha
  have HM := Lib.hid hm
  have RA := Lib.hid ra
  have RM := Lib.hid rm
  have lo := hp.lo
  have hi := hp.hi
  have ONE := Lib.hid (can_one (show 1 < p by omega))
  have D1 := Lib.hid (dr_can (show 0 < p by omega) ONE.out.inp (b := m))
  have D2 := Lib.hid (dr_can (show 0 < p by omega) ha.inp (b := m))
  have L1 := dr_lt hp hm hne (a := [1])
  have L2 := dr_lt hp hm hne (a := a)
  have E1 := (Ext.refl w).alloc (.cells #[.int .i64 1] 2)
  have RS : Hid (Calls Tryz.prog 89 #[.int .i64 p, .slice (some ⟨w.heap.size, 0, none⟩) 1 1, .slice M m.length cm] (w.alloc (.cells #[.int .i64 1] 2)) (Row (dr p [1] m) (w.alloc (.cells #[.int .i64 1] 2)))) := Lib.hid (rest_any p (some ⟨w.heap.size, 0, none⟩) M 1 cm [1] m hp ONE.out hm (by decide) (by omega) hne _ (row_one w) (rm.below E1))
  clear ha hm hp ra rm
  go_enter Tryz.func93, Tryz.ntmps93
  go_wp2_with (first | (go_at_call 89; (with_reducible refine RS.out.mono ?_); rintro e w2 ⟨A2, k2, rfl, R2, E2⟩) | (go_at_call 89; (with_reducible refine (rest_any p A M ca cm a m HP.out HA.out HM.out (by omega) (by omega) hne _ (RA.out.below (E1.tr E2)) (RM.out.below (E1.tr E2))).mono ?_); rintro e w3 ⟨A3, k3, rfl, R3, E3⟩))
  go_loopg [2, 9, 10] k (fun n i vo vs wr => PoRel p a m k w n i vo vs wr)
  case atStart => exact ⟨k, _, _, Nat.le_refl _, rfl, hk, D1.out, L1, D2.out, L2, rfl, ⟨_, _, rfl, R2.below E3⟩, ⟨_, _, rfl, R3⟩, E1.tr (E2.tr E3)⟩
  case round =>
    clear D1 D2 L1 L2 hk RS E1 R2 R3 E2 E3
    obtain ⟨kk, out, sq, hk, rfl, hkb, co, lo1, cs, ls, hpw, ⟨Ao, ko, rfl, Ro⟩, ⟨As, ks, rfl, Rs⟩, E⟩ := hrel
    have HPW := Lib.hid hpw
    have CO := Lib.hid co
    have CS := Lib.hid cs
    have RO := Lib.hid Ro
    have RS := Lib.hid Rs
    clear hpw co cs Ro Rs
    by_cases k0 : kk = 0
    · subst k0
      have G : Hid (out = powI p a k m) := Lib.hid (by rw [← HPW.out, pwG_zero])
      go_wp2
      go_ret
      rw [← G.out]
      exact ⟨_, _, rfl, RO.out, E⟩
    · have K0 := Lib.hid k0
      have kp : 1 ≤ kk := by omega
      obtain ⟨n, rfl⟩ : ∃ n, gk = n + 1 := ⟨gk - 1, by omega⟩
      have M1 := mulI_spec HP.out out sq HM.out hne
      have M2 := mulI_spec HP.out sq sq HM.out hne
      have C1 := Lib.hid M1.1
      have C2 := Lib.hid M2.1
      have L1 := M1.2
      have L2 := M2.2
      have P1 := Lib.hid (mulr_can (show 0 < p by omega) out sq)
      have P2 := Lib.hid (mulr_can (show 0 < p by omega) sq sq)
      have Q1 := mulr_le p out sq
      have Q2 := mulr_le p sq sq
      have hd : (kk : Int) / 2 = ((kk / 2 : Nat) : Int) := by omega
      have HD := Lib.hid hd
      have an := and_one kk (by omega)
      clear k0 M1 M2 hd
      by_cases hodd : kk % 2 = 1
      · have to : ((kk : Int) % 2 == 1) = true := by simp; omega
        have ST := Lib.hid (pwG_step p m n kk out sq K0.out)
        have HO := Lib.hid hodd
        clear hodd
        go_wp2_with (first | (go_at_call 90; (with_reducible refine (times_any p Ao As ko ks out sq lo hi CO.out.inp CS.out.inp (by omega) (by omega) _ RO.out RS.out).mono ?_); rintro e w2 ⟨A2, k2, rfl, R2, E2⟩) | (go_at_call 89; (with_reducible refine (rest_any p A2 M k2 cm (mulr p out sq) m HP.out P1.out HM.out (by omega) (by omega) hne _ R2 (RM.out.below (E.tr E2))).mono ?_); rintro e w3 ⟨A3, k3, rfl, R3, E3⟩) | (go_at_call 90; (with_reducible refine (times_any p As As ks ks sq sq lo hi CS.out.inp CS.out.inp (by omega) (by omega) _ (RS.out.below (E2.tr E3)) (RS.out.below (E2.tr E3))).mono ?_); rintro e w4 ⟨A4, k4, rfl, R4, E4⟩) | (go_at_call 89; (with_reducible refine (rest_any p A4 M k4 cm (mulr p sq sq) m HP.out P2.out HM.out (by omega) (by omega) hne _ R4 (RM.out.below (E.tr (E2.tr (E3.tr E4))))).mono ?_); rintro e w5 ⟨A5, k5, rfl, R5, E5⟩))
        go_roundg n
        case measure => omega
        case rel => exact ⟨kk / 2, _, _, by omega, by rw [HD.out], by omega, C1.out, L1, C2.out, L2, by rw [← HPW.out, ST.out, if_pos HO.out], ⟨_, _, rfl, R3.below (E4.tr E5)⟩, ⟨_, _, rfl, R5⟩, E.tr (E2.tr (E3.tr (E4.tr E5)))⟩
      · have to : ((kk : Int) % 2 == 1) = false := by simp; omega
        have ST := Lib.hid (pwG_step p m n kk out sq K0.out)
        have HO := Lib.hid hodd
        clear hodd
        go_wp2_with (first | (go_at_call 90; (with_reducible refine (times_any p As As ks ks sq sq lo hi CS.out.inp CS.out.inp (by omega) (by omega) _ (RS.out.below (Ext.refl _)) (RS.out.below (Ext.refl _))).mono ?_); rintro e w4 ⟨A4, k4, rfl, R4, E4⟩) | (go_at_call 89; (with_reducible refine (rest_any p A4 M k4 cm (mulr p sq sq) m HP.out P2.out HM.out (by omega) (by omega) hne _ R4 (RM.out.below (E.tr E4))).mono ?_); rintro e w5 ⟨A5, k5, rfl, R5, E5⟩))
        go_roundg n
        case measure => omega
        case rel => exact ⟨kk / 2, _, _, by omega, by rw [HD.out], by omega, CO.out, lo1, C2.out, L2, by rw [← HPW.out, ST.out, if_neg HO.out], ⟨_, _, rfl, RO.out.below (E4.tr E5)⟩, ⟨_, _, rfl, R5⟩, E.tr (E4.tr E5)⟩

end Go.Proofs.YtaemiknaiccijaaGreat
