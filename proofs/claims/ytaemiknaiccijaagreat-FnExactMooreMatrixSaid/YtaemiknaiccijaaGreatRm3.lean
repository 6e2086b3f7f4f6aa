/- Lemmas and contracts of functions, for the laws: The reference's inverse of a number and its products. -/
import Derived.Test.YtaemiknaiccijaaGreatRm2
import Derived.Test.YtaemiknaiccijaaGreatRm1
set_option linter.unusedVariables false
set_option linter.unusedSimpArgs false
namespace Go.Proofs.YtaemiknaiccijaaGreat
open Go.RowKit

set_option maxHeartbeats 400000 in
theorem l01Inverse_any (p x : Int) (hp : PrimeP p) (h1 : 1 ≤ x) (h2 : x < p) (w : World) :
    Calls Tryz.prog 82 #[.int .i64 p, .int .u8 x] w fun e w' => e = .returned (.int .u8 (invP p x)) ∧ w = w' := by
  have hlo := hp.lo
  have hhi := hp.hi
  have hir := invP_pos hp h1 h2
  have hir2 := (invP_range (x := x) hp).2
  have hm := Lib.hid (invP_mul hp h1 h2)
  have HP := Lib.hid hp
  clear hp
  have hp0 : p ≠ 0 := by omega
  go_enter Tryz.func82, Tryz.ntmps82
  go_wp2
  go_loop [5] (fun i => ∃ k : Nat, 1 ≤ k ∧ (k : Int) ≤ invP p x ∧ i = .int .i64 k) (fun i => (7 - intOf i).toNat)
  case atStart => exact ⟨1, by omega, by omega, rfl⟩
  case round =>
    obtain ⟨k, hk1, hk, rfl⟩ := hrel
    have hb := mulB (K := 7) (C := 7) (by decide) (show -7 ≤ (k : Int) by omega) (by omega) (show 0 ≤ x by omega) (by omega)
    have hnn : 0 ≤ (k : Int) * x := Int.mul_nonneg (by omega) (by omega)
    have hlt : (k : Int) < p := by omega
    by_cases hz : (k : Int) = invP p x
    · have e : ((k : Int) * x % p == 1) = true := by rw [hz, hm.out]; rfl
      have HZ := Lib.hid hz
      clear hz
      go_wp2
      go_ret
      exact ⟨ret_int (by rw [← HZ.out]), rfl⟩
    · have e : ((k : Int) * x % p == 1) = false := by
        rw [beq_eq_false_iff_ne]
        intro h
        exact hz (invP_uniq HP.out h1 h2 (by omega) hlt h)
      go_wp2
      go_round
      case rel => exact ⟨k + 1, by omega, by omega, by go_num⟩
      case measure => simp [intOf]; omega

/-- What a product's array holds behind i rows, and j steps of the next one. -/
def mulTo (p : Int) (a b : List Int) (i j : Nat) : List Int := tab 64 fun t => (cpart (at0 a) (at0 b) i t + if i ≤ t ∧ t < i + j then at0 a i * at0 b (t - i) else 0) % p
theorem mulTo_length (p : Int) (a b : List Int) (i j : Nat) : (mulTo p a b i j).length = 64 := tab_length _ _
theorem mulTo_zero (p : Int) (a b : List Int) : mulTo p a b 0 0 = zeros64 := by
  rw [zeros64_tab]
  refine tab_congr fun t _ => ?_
  rw [if_neg (by omega)]; simp [cpart, sumN]
theorem mulTo_step {p : Int} (a b : List Int) (i j : Nat) (h : i + j < 64) : (mulTo p a b i j).set (i + j) ((at0 (mulTo p a b i j) (i + j) + at0 a i * at0 b j) % p) = mulTo p a b i (j + 1) := by
  unfold mulTo
  rw [tab_set 64 _ _ _ h]
  refine tab_congr fun t _ => ?_
  by_cases e : t = i + j
  · subst e
    rw [if_pos rfl, at0_tab_lt _ h, if_neg (by omega), if_pos ⟨by omega, by omega⟩, show i + j - i = j by omega]
    simp
  · rw [if_neg e]
    by_cases h2 : i ≤ t ∧ t < i + j
    · rw [if_pos h2, if_pos ⟨h2.1, by omega⟩]
    · rw [if_neg h2, if_neg (by omega)]
theorem mulTo_row {p : Int} (a b : List Int) (i j : Nat) (h : b.length ≤ j ∨ at0 a i = 0) : mulTo p a b i j = mulTo p a b (i + 1) 0 := by
  refine tab_congr fun t _ => ?_
  rw [if_neg (show ¬ (i + 1 ≤ t ∧ t < i + 1 + 0) by omega)]
  unfold cpart
  rw [sumN, Int.add_zero]
  congr 2
  by_cases h1 : i ≤ t
  · rw [if_pos h1]
    by_cases h2 : t < i + j
    · rw [if_pos ⟨h1, h2⟩]
    · rw [if_neg (by omega)]
      rcases h with h | h
      · rw [at0_out b (t - i) (by omega)]; simp
      · rw [h]; simp
  · rw [if_neg (by omega), if_neg h1]
theorem mulTo_end {p : Int} (a b : List Int) (h : a.length + b.length ≤ 65) : mulTo p a b a.length 0 = pad (mulr p a b) := by
  refine tab_congr fun t _ => ?_
  rw [if_neg (by omega), at0_mulr]
  simp [cv]
theorem mulTo_inp {p : Int} (hp : 0 < p) (a b : List Int) (i j : Nat) : InP p (mulTo p a b i j) := InP.tab hp fun _ _ => emod_range _ _ hp

def MulOut (p : Int) (a b : List Int) (w : World) (g : Nat) (i : Value) (wr : World) : Prop :=
  ∃ n : Nat, n ≤ a.length ∧ i = .int .i64 n ∧ Arr wr w.heap.size 25 (pad a) ∧ Arr wr (w.heap.size + 1) 25 (pad b) ∧ Arr wr (w.heap.size + 2) 25 zeros64 ∧ Arr wr g 25 (mulTo p a b n 0) ∧ Ext w wr
def MulIn (p : Int) (a b : List Int) (w : World) (g n : Nat) (i : Value) (wr : World) : Prop :=
  ∃ j : Nat, j ≤ b.length ∧ i = .int .i64 j ∧ Arr wr w.heap.size 25 (pad a) ∧ Arr wr (w.heap.size + 1) 25 (pad b) ∧ Arr wr (w.heap.size + 2) 25 zeros64 ∧ Arr wr g 25 (mulTo p a b n j) ∧ Ext w wr
def timesV (p : Int) (a b : List Int) : Value := if a.length = 0 ∨ b.length = 0 ∨ a.length + b.length ≤ 65 then .tuple #[.agg (u8s (pad (mulr p a b))), .bool true] else .tuple #[.agg (u8s zeros64), .bool false]

set_option maxRecDepth 100000 in
set_option maxHeartbeats 1000000 in
theorem l01Times_any (p : Int) (a b : List Int) (hp : PrimeP p) (ha : Can p a) (hb : Can p b) (la : a.length ≤ 64) (lb : b.length ≤ 64) (w : World) :
    Calls Tryz.prog 112 #[.int .i64 p, .agg (u8s (pad a)), .agg (u8s (pad b))] w fun e w' =>
      e = .returned (timesV p a b) ∧ Ext w w' := by
  have HA := Lib.hid ha
  have HB := Lib.hid hb
  have HP := Lib.hid hp
  have DA := Lib.hid (rlen_pad ha.nz la)
  have DB := Lib.hid (rlen_pad hb.nz lb)
  clear ha hb hp
  have hz := zlit
  have A0 : Arr w w.heap.size 25 (pad a) → True := fun _ => trivial
  clear A0
  go_enter Tryz.func112, Tryz.ntmps112
  go_wp2
  obtain ⟨w1, hw1⟩ : ∃ w1, w1 = ((w.alloc (.cells (u8s (pad a)) 25)).alloc (.cells (u8s (pad b)) 25)).alloc (.cells (u8s zeros64) 25) := ⟨_, rfl⟩
  have A1 : Arr w1 w.heap.size 25 (pad a) := by rw [hw1]; exact ((Arr.new w _ _).alloc _).alloc _
  have A2 : Arr w1 (w.heap.size + 1) 25 (pad b) := by rw [hw1]; have := (Arr.new (w.alloc (.cells (u8s (pad a)) 25)) 25 (pad b)).alloc (.cells (u8s zeros64) 25); simpa using this
  have A3 : Arr w1 (w.heap.size + 2) 25 zeros64 := by rw [hw1]; have := Arr.new ((w.alloc (.cells (u8s (pad a)) 25)).alloc (.cells (u8s (pad b)) 25)) 25 zeros64; simpa using this
  have E1 : Ext w w1 := by rw [hw1]; exact ((Ext.refl w).alloc _).alloc _ |>.alloc _
  have S1 : w1.heap.size = w.heap.size + 3 := by rw [hw1]; simp
  rw [← hw1]
  clear hw1
  have PL := Lib.hid (pad_length a)
  have QL := Lib.hid (pad_length b)
  refine region_ext 8 (by kernel_rfl) (by kernel_rfl) (by kernel_rfl) [] [eqv (.agg (u8s (pad a))), eqv (.int .i64 ((a.length : Int) - 1)), eqv (.agg (u8s (pad b))), eqv (.int .i64 ((b.length : Int) - 1)), eqv (.agg (u8s zeros64)), isArr w1.heap.size 25 zeros64, eqv (.int .i64 ((a.length : Int) - 1)), eqv (.int .i64 ((b.length : Int) - 1))]
    ⟨mono_eqv _, mono_eqv _, mono_eqv _, mono_eqv _, mono_eqv _, mono_arr _ _ _, mono_eqv _, mono_eqv _, trivial⟩ (fun vals => ?_) (fun vals w9 hE9 hS9 hN9 => ?_)
  · simp only [List.take_succ_cons, List.take_zero]
    refine ⟨fun w8 hE8 hk => doesK_plain rfl fun K hK => ?_, ?_⟩
    · exact wp_load_row _ _ rfl _ (by first | rfl | simp [*]) _ _ (0, 0) _ ((A1).ext hE8) Tryz.underlying25 rfl (by rw [infoPoly, u8s_size, PL.out]) (hK _ _ rfl (Ext.refl _) rfl)
    simp only [Act.put, List.setIfInBounds_toArray, List.set_cons_zero, List.set_cons_succ]
    refine ⟨fun w8 hE8 hk => doesK_plain rfl fun K hK => ?_, ?_⟩
    · have k0 : vals 0 = .agg (u8s (pad a)) := hk 0 (by decide) (by kernel_rfl)
      go_simp
      refine (l01Deg_any _ PL.out _).mono ?_
      rintro e7 w7 ⟨rfl, hE7⟩
      exact hK _ _ (by rw [DA.out]; rfl) hE7 rfl
    simp only [Act.put, List.setIfInBounds_toArray, List.set_cons_zero, List.set_cons_succ]
    refine ⟨fun w8 hE8 hk => doesK_plain rfl fun K hK => ?_, ?_⟩
    · exact wp_load_row _ _ rfl _ (by first | rfl | simp [*]) _ _ (0, 0) _ ((A2).ext hE8) Tryz.underlying25 rfl (by rw [infoPoly, u8s_size, QL.out]) (hK _ _ rfl (Ext.refl _) rfl)
    simp only [Act.put, List.setIfInBounds_toArray, List.set_cons_zero, List.set_cons_succ]
    refine ⟨fun w8 hE8 hk => doesK_plain rfl fun K hK => ?_, ?_⟩
    · have k1 : vals 1 = .int .i64 ((a.length : Int) - 1) := hk 1 (by decide) (by kernel_rfl)
      have k2 : vals 2 = .agg (u8s (pad b)) := hk 2 (by decide) (by kernel_rfl)
      go_simp
      refine (l01Deg_any _ QL.out _).mono ?_
      rintro e7 w7 ⟨rfl, hE7⟩
      exact hK _ _ (by rw [DB.out]; rfl) hE7 rfl
    simp only [Act.put, List.setIfInBounds_toArray, List.set_cons_zero, List.set_cons_succ]
    refine ⟨fun w8 hE8 hk => doesK_plain rfl fun K hK => ?_, ?_⟩
    · go_simp
      (try go_bits)
      exact hK _ _ rfl (Ext.refl _) rfl
    simp only [Act.put, List.setIfInBounds_toArray, List.set_cons_zero, List.set_cons_succ]
    refine ⟨fun w8 hE8 hk => doesK_plain rfl fun K hK => ?_, ?_⟩
    · go_simp
      exact hK _ _ ⟨_, rfl, by have := hE8.size; omega, Arr.new _ _ _⟩ ((Ext.refl _).alloc _) rfl
    simp only [Act.put, List.setIfInBounds_toArray, List.set_cons_zero, List.set_cons_succ]
    refine ⟨fun w8 hE8 hk => doesK_plain rfl fun K hK => ?_, ?_⟩
    · have k0 : vals 0 = .agg (u8s (pad a)) := hk 0 (by decide) (by kernel_rfl)
      have k1 : vals 1 = .int .i64 ((a.length : Int) - 1) := hk 1 (by decide) (by kernel_rfl)
      have k3 : vals 3 = .int .i64 ((b.length : Int) - 1) := hk 3 (by decide) (by kernel_rfl)
      obtain ⟨g5, k5, b5, a5⟩ : isArr w1.heap.size 25 zeros64 (vals 5) _ := hk 5 (by decide) (by kernel_rfl)
      go_simp
      (try go_bits)
      exact hK _ _ rfl (Ext.refl _) rfl
    simp only [Act.put, List.setIfInBounds_toArray, List.set_cons_zero, List.set_cons_succ]
    refine ⟨fun w8 hE8 hk => doesK_plain rfl fun K hK => ?_, ?_⟩
    · have k0 : vals 0 = .agg (u8s (pad a)) := hk 0 (by decide) (by kernel_rfl)
      have k1 : vals 1 = .int .i64 ((a.length : Int) - 1) := hk 1 (by decide) (by kernel_rfl)
      have k2 : vals 2 = .agg (u8s (pad b)) := hk 2 (by decide) (by kernel_rfl)
      have k3 : vals 3 = .int .i64 ((b.length : Int) - 1) := hk 3 (by decide) (by kernel_rfl)
      obtain ⟨g5, k5, b5, a5⟩ : isArr w1.heap.size 25 zeros64 (vals 5) _ := hk 5 (by decide) (by kernel_rfl)
      have k6 : vals 6 = .int .i64 ((a.length : Int) - 1) := hk 6 (by decide) (by kernel_rfl)
      go_simp
      (try go_bits)
      exact hK _ _ rfl (Ext.refl _) rfl
    exact trivial
  simp only [List.take_succ_cons, List.take_zero, List.drop_succ_cons, List.drop_zero, preAct, Nat.reduceAdd, Act.put, List.setIfInBounds_toArray, List.set_cons_zero, List.set_cons_succ]
  have k0 : vals 0 = .agg (u8s (pad a)) := hS9 0 (by decide) 
  have k1 : vals 1 = .int .i64 ((a.length : Int) - 1) := hS9 1 (by decide) 
  have k2 : vals 2 = .agg (u8s (pad b)) := hS9 2 (by decide) 
  have k3 : vals 3 = .int .i64 ((b.length : Int) - 1) := hS9 3 (by decide) 
  have k4 : vals 4 = .agg (u8s zeros64) := hS9 4 (by decide) 
  obtain ⟨g5, k5, b5, a5⟩ : isArr w1.heap.size 25 zeros64 (vals 5) _ := hS9 5 (by decide) 
  have k6 : vals 6 = .int .i64 ((a.length : Int) - 1) := hS9 6 (by decide) 
  have k7 : vals 7 = .int .i64 ((b.length : Int) - 1) := hS9 7 (by decide) 
  simp only [k0, k1, k2, k3, k4, k5, k6, k7]
  clear hN9 hS9 k0 k1 k2 k3 k4 k5 k6 k7
  refine wplS _ _ rfl rfl a5 rfl rfl zeros64_length zeros64_length ?_
  have G1 := hE9.size
  obtain ⟨w2, hw2⟩ : ∃ w2, w2 = w9.setRow g5 (u8s zeros64) := ⟨_, rfl⟩
  have B1 : Arr w2 w.heap.size 25 (pad a) := by rw [hw2]; exact (A1.ext hE9).setRow_other (by omega) _
  have B2 : Arr w2 (w.heap.size + 1) 25 (pad b) := by rw [hw2]; exact (A2.ext hE9).setRow_other (by omega) _
  have B3 : Arr w2 (w.heap.size + 2) 25 zeros64 := by rw [hw2]; exact (A3.ext hE9).setRow_other (by omega) _
  have B4 : Arr w2 g5 25 zeros64 := by rw [hw2]; exact a5.setRow
  have E2 : Ext w w2 := by rw [hw2]; exact (E1.tr hE9).setRow (by omega) _
  have G5 : w.heap.size + 3 ≤ g5 := by omega
  rw [← hw2]
  clear hw2 A1 A2 A3 E1 hE9 a5 b5 G1
  by_cases z : a.length = 0 ∨ b.length = 0
  · have F : Hid (timesV p a b = Value.tuple #[Value.agg (u8s zeros64), Value.bool true]) := Lib.hid (by
      have : mulr p a b = [] := by
        rcases z with z | z
        · rw [List.eq_nil_of_length_eq_zero z, mulr_nil_left]
        · rw [List.eq_nil_of_length_eq_zero z, mulr_nil_right]
      unfold timesV
      rw [if_pos (by omega), this, pad_nil])
    have Z := Lib.hid z
    by_cases z1 : a.length = 0
    · have t1 : decide ((a.length : Int) - 1 < 0) = true := by simp; omega
      clear z
      go_wp2_with (first | (refine wplL _ rfl rfl B4 rfl zeros64_length ?_) | (refine wplS _ _ rfl rfl B3 rfl rfl zeros64_length zeros64_length ?_))
      have C3 := B3.setRow (l := zeros64)
      exact bodyPost_ret (res_ct rfl rfl rfl C3 zeros64_length Tryz.underlying25 infoPoly) rfl ⟨by rw [F.out]; rfl, E2.setRow (by omega) _⟩
    · have t1 : decide ((a.length : Int) - 1 < 0) = false := by simp; omega
      have t2 : decide ((b.length : Int) - 1 < 0) = true := by simp; omega
      clear z
      go_wp2_with (first | (refine wplL _ rfl rfl B4 rfl zeros64_length ?_) | (refine wplS _ _ rfl rfl B3 rfl rfl zeros64_length zeros64_length ?_))
      have C3 := B3.setRow (l := zeros64)
      exact bodyPost_ret (res_ct rfl rfl rfl C3 zeros64_length Tryz.underlying25 infoPoly) rfl ⟨by rw [F.out]; rfl, E2.setRow (by omega) _⟩
  · have t1 : decide ((a.length : Int) - 1 < 0) = false := by simp; omega
    have t2 : decide ((b.length : Int) - 1 < 0) = false := by simp; omega
    by_cases z2 : a.length + b.length ≤ 65
    · have t3 : decide ((63 : Int) < (a.length : Int) - 1 + ((b.length : Int) - 1)) = false := by simp; omega
      have F : Hid (timesV p a b = Value.tuple #[Value.agg (u8s (pad (mulr p a b))), Value.bool true]) := Lib.hid (by unfold timesV; exact if_pos (by omega))
      have na : 1 ≤ a.length := by omega
      have nb : 1 ≤ b.length := by omega
      clear z
      go_wp2
      go_loopw [11] (fun i wr => MulOut p a b w g5 i wr) (fun i _ => 64 - (intOf i).toNat)
      case atStart => exact ⟨0, by omega, rfl, B1, B2, B3, by rw [mulTo_zero]; exact B4, E2⟩
      case round =>
        obtain ⟨n, hn, rfl, C1, C2, C3, C4, E3⟩ := hrel
        clear B1 B2 B3 B4 E2
        by_cases hlt : n < a.length
        · have d1 : decide ((n : Int) ≤ (a.length : Int) - 1) = true := by simp; omega
          go_wp2
          go_loopw [12] (fun i wr => MulIn p a b w g5 n i wr) (fun i _ => 64 - (intOf i).toNat)
          case atStart => exact ⟨0, by omega, rfl, C1, C2, C3, C4, E3⟩
          case round =>
            clear C1 C2 C3 C4 E3
            obtain ⟨j, hj, rfl, C1, C2, C3, C4, E3⟩ := hrel
            have c1 := C1.cell n (by rw [PL.out]; omega)
            rw [at0_pad a la] at c1
            by_cases hj2 : j < b.length
            · by_cases hz0 : at0 a n = 0
              · have tz : (at0 a n != 0) = false := by rw [hz0]; rfl
                have HZ0 := Lib.hid hz0
                clear hz0
                go_wp2
                go_roundw
                case rel => exact ⟨n + 1, by omega, by go_num, C1, C2, C3, by rw [← mulTo_row a b n j (.inr HZ0.out)]; exact C4, E3⟩
                case measure => simp [intOf]; omega
              · have tz : (at0 a n != 0) = true := by simpa using hz0
                clear hz0
                have c2 := C2.cell j (by rw [QL.out]; omega)
                rw [at0_pad b lb] at c2
                have c3 := C4.cell (n + j) (by rw [mulTo_length]; omega)
                have f3 := C4.free (n + j)
                have lo := HP.out.lo
                have hi := HP.out.hi
                have hp0 : p ≠ 0 := by omega
                have b1 := HA.out.inp n
                have b2 := HB.out.inp j
                have b3 := mulTo_inp (show 0 < p by omega) a b n j (n + j)
                have b4 := mulB (K := 7) (C := 7) (by decide) (show -7 ≤ at0 a n by omega) (by omega) b2.1 (by omega)
                have b5 : 0 ≤ at0 a n * at0 b j := Int.mul_nonneg b1.1 b2.1
                have b6 := emod_range (at0 (mulTo p a b n j) (n + j) + at0 a n * at0 b j) p (by omega)
                have i1 : 0 ≤ (n : Int) + (j : Int) := by omega
                have i2 : (n : Int) + (j : Int) < 64 := by omega
                have i3 : ((n : Int) + (j : Int)).toNat = n + j := by omega
                have i4 : (n : Int) < 64 := by omega
                have i5 : (j : Int) < 64 := by omega
                go_wp2
                refine wp_region_still_tail 22 (by kernel_rfl) (by kernel_rfl) ?_
                simp only [List.take_succ_cons, List.take_zero, List.drop_succ_cons, List.drop_zero]
                repeat (refine wpStill_step (fun K hK => ?_); go_simp; (try go_bits); refine hK _ ?_; clear hK K)
                refine wpStill_nil ?_
                change wpList _ _ _ _ _ wr.drew
                go_wp2
                go_roundw
                case rel =>
                  refine ⟨j + 1, by omega, by go_num, (C1.other (by simp; omega)).drew, (C2.other (by simp; omega)).drew, (C3.other (by simp; omega)).drew, ?_, (E3.set (by simp; omega) _).drew⟩
                  rw [← mulTo_step a b n j (by omega)]
                  exact (C4.set (n + j) _).drew
                case measure => simp [intOf]; omega
            · have hj3 : j = b.length := by omega
              subst hj3
              go_wp2
              go_roundw
              case rel => exact ⟨n + 1, by omega, by go_num, C1, C2, C3, by rw [← mulTo_row a b n b.length (.inl (Nat.le_refl _))]; exact C4, E3⟩
              case measure => simp [intOf]; omega
        · have hn' : n = a.length := by omega
          subst hn'
          rw [mulTo_end a b z2] at C4
          have ML := Lib.hid (pad_length (mulr p a b))
          go_wp2_with (first | (refine wplL _ rfl rfl C4 rfl ML.out ?_) | (refine wplS _ _ rfl rfl C3 rfl rfl zeros64_length ML.out ?_))
          have C5 := C3.setRow (l := pad (mulr p a b))
          exact bodyPost_ret (res_ct rfl rfl rfl C5 ML.out Tryz.underlying25 infoPoly) rfl ⟨by rw [F.out]; rfl, E3.setRow (by omega) _⟩
    · have t3 : decide ((63 : Int) < (a.length : Int) - 1 + ((b.length : Int) - 1)) = true := by simp; omega
      have F : Hid (timesV p a b = Value.tuple #[Value.agg (u8s zeros64), Value.bool false]) := Lib.hid (by unfold timesV; exact if_neg (by omega))
      clear z
      go_wp2_with (first | (refine wplL _ rfl rfl B4 rfl zeros64_length ?_) | (refine wplS _ _ rfl rfl B3 rfl rfl zeros64_length zeros64_length ?_))
      have C3 := B3.setRow (l := zeros64)
      exact bodyPost_ret (res_ct rfl rfl rfl C3 zeros64_length Tryz.underlying25 infoPoly) rfl ⟨by rw [F.out]; rfl, E2.setRow (by omega) _⟩

end Go.Proofs.YtaemiknaiccijaaGreat

/- A region that hands two polynomials on, in whatever order: two reads, then two stores, of which the first may come ahead of the second read. -/
namespace Go.Proofs.YtaemiknaiccijaaGreat
open Go.RowKit

def rdy (ops : Array Oper) (a b c d : Bool) : List Nat := Region.ready .any ops #[a, b, c, d]
def twoB (ops : Array Oper) : Bool :=
  rdy ops false false false false == [0, 1] && rdy ops true false false false == [1, 2] && rdy ops false true false false == [0] && rdy ops true true false false == [2] && rdy ops true false true false == [1] &&
    rdy ops true true true false == [3] && rdy ops true true true true == []

theorem eval_tmp (a : Act) (t : Tmp) : a.eval (.tmp t) = a.tmps[t]?.getD undef := by simp [Act.eval]
theorem wpOp_plain {P : Program} {ops : Array Oper} {Q : Exit → Act → World → Prop} {i : Nat} {K : Act → World → Prop} {a : Act} {w : World} {o : Oper} (ho : ops[i]? = some o) (hg : o.guard = none) (h : o.wp P a w K Q) : wpOp P ops Q i K a w := by
  unfold wpOp
  simp only [ho]
  rw [if_pos (by simp [Region.wanted, hg])]
  exact .inl h
theorem wp_store_arr {o : Oper} {a : Act} {w : World} {K : Act → World → Prop} {Q : Exit → Act → World → Prop} (x y : Operand) (ho : o.op = .store 25 x y) {g : Nat} {T : TypeId} {old l : List Int} (hg : Arr w g T old)
    (hx : a.eval x = .pointer (some ⟨g, 0, none⟩)) (hy : a.eval y = .agg (u8s l)) (hold : old.length = 64) (hl : l.length = 64) (h : K (a.put o.dst undef) (w.setRow g (u8s l))) : o.wp Tryz.prog a w K Q := by
  unfold Oper.wp execOp
  simp only [ho, hx, hy, Instr.storeAt, Instr.sureAddr, Sem.run_bind, Sem.run_pure, Result.andThen_ok, run_store_arr hg hold hl infoPoly]
  exact h
theorem wp_load_arr {o : Oper} {a : Act} {w : World} {K : Act → World → Prop} {Q : Exit → Act → World → Prop} (x : Operand) (ho : o.op = .load 25 x) {g : Nat} {T : TypeId} {l : List Int} (hg : Arr w g T l) (hx : a.eval x = .pointer (some ⟨g, 0, none⟩)) (hl : l.length = 64)
    (h : K (a.put o.dst (.agg (u8s l))) w) : o.wp Tryz.prog a w K Q :=
  wp_load_row _ x ho g hx T _ (0, 0) _ hg Tryz.underlying25 rfl (by rw [infoPoly, u8s_size, hl]) h

/-- Two worlds that differ at two blocks alone. -/
structure Two (w w' : World) (p q : Nat) : Prop where
  os : w'.os = w.os
  tape : w'.tape = w.tape
  output : w'.output = w.output
  size : w'.heap.size = w.heap.size
  block : ∀ k, k ≠ p → k ≠ q → w'.heap[k]? = w.heap[k]?
theorem Two.arr {w w' : World} {p q g : Nat} {T : TypeId} {l : List Int} (h : Two w w' p q) (ha : Arr w g T l) (h1 : g ≠ p) (h2 : g ≠ q) : Arr w' g T l := (h.block g h1 h2).trans ha
theorem Two.ext {a w w' : World} {p q : Nat} (h : Two w w' p q) (hE : Ext a w) (h1 : a.heap.size ≤ p) (h2 : a.heap.size ≤ q) : Ext a w' :=
  ⟨h.os.trans hE.os, h.tape.trans hE.tape, h.output.trans hE.output, by rw [h.size]; exact hE.size, fun k hk => (h.block k (by omega) (by omega)).trans (hE.block k hk)⟩

theorem region_two {id : Nat} {Q : Exit → Act → World → Prop} {tm : Array Value} {w : World} {o0 o1 o2 o3 : Oper} {d0 d1 : Tmp} (hm : Tryz.prog.follows .mixedOrders = true) (hB : twoB #[o0, o1, o2, o3] = true)
    (x0 x1 p2 p3 : Operand) (h0 : o0.op = .load 25 x0) (h1 : o1.op = .load 25 x1) (h2 : o2.op = .store 25 p2 (.tmp d0)) (h3 : o3.op = .store 25 p3 (.tmp d1))
    (g0 : o0.guard = none) (g1 : o1.guard = none) (g2 : o2.guard = none) (g3 : o3.guard = none) (e0 : o0.dst = some d0) (e1 : o1.dst = some d1) (e2 : o2.dst = none) (e3 : o3.dst = none)
    {a b p q : Nat} {T0 T1 T2 T3 : TypeId} {la lb lp lq : List Int} (A0 : Arr w a T0 la) (A1 : Arr w b T1 lb) (A2 : Arr w p T2 lp) (A3 : Arr w q T3 lq)
    (z0 : la.length = 64) (z1 : lb.length = 64) (z2 : lp.length = 64) (z3 : lq.length = 64) (nb : b ≠ p) (npq : p ≠ q)
    (hs0 : d0 < tm.size) (hs1 : d1 < tm.size) (hne : d0 ≠ d1)
    (ev : ∀ tm' : Array Value, (∀ t, t ≠ d0 → t ≠ d1 → tm'[t]? = tm[t]?) → (Act.mk tm' []).eval x0 = .pointer (some ⟨a, 0, none⟩) ∧ (Act.mk tm' []).eval x1 = .pointer (some ⟨b, 0, none⟩) ∧ (Act.mk tm' []).eval p2 = .pointer (some ⟨p, 0, none⟩) ∧ (Act.mk tm' []).eval p3 = .pointer (some ⟨q, 0, none⟩))
    (h : ∀ w', Two w w' p q → Arr w' p T2 la → Arr w' q T3 lb → Q .normal ⟨(tm.setIfInBounds d0 (.agg (u8s la))).setIfInBounds d1 (.agg (u8s lb)), []⟩ w') :
    (Code.region id #[o0, o1, o2, o3] true).wp Tryz.prog Q ⟨tm, []⟩ w := by
  unfold twoB rdy at hB
  simp only [Bool.and_eq_true, beq_iff_eq] at hB
  obtain ⟨⟨⟨⟨⟨⟨r0, r1⟩, r2⟩, r3⟩, r4⟩, r5⟩, r6⟩ := hB
  refine wp_region_any hm ?_
  obtain ⟨w1, hw1⟩ : ∃ w1, w1 = ({ w with drawn := w.drawn + 1 } : World) := ⟨_, rfl⟩
  have B0 : Arr w1 a T0 la := by rw [hw1]; exact A0
  have B1 : Arr w1 b T1 lb := by rw [hw1]; exact A1
  have B2 : Arr w1 p T2 lp := by rw [hw1]; exact A2
  have B3 : Arr w1 q T3 lq := by rw [hw1]; exact A3
  have ww : Two w w1 p q := by rw [hw1]; exact ⟨rfl, rfl, rfl, rfl, fun _ _ _ => rfl⟩
  rw [← hw1]
  show wpAny Tryz.prog .any #[o0, o1, o2, o3] Q 4 #[false, false, false, false] ⟨tm, []⟩ w1
  have same : ∀ (v0 v1 : Value) t, t ≠ d0 → t ≠ d1 → ((tm.setIfInBounds d0 v0).setIfInBounds d1 v1)[t]? = tm[t]? := fun v0 v1 t h0 h1 => by
    rw [Array.getElem?_setIfInBounds_ne (Ne.symm h1), Array.getElem?_setIfInBounds_ne (Ne.symm h0)]
  have same0 : ∀ (v0 : Value) t, t ≠ d0 → t ≠ d1 → (tm.setIfInBounds d0 v0)[t]? = tm[t]? := fun v0 t h0 h1 => by rw [Array.getElem?_setIfInBounds_ne (Ne.symm h0)]
  have same1 : ∀ (v1 : Value) t, t ≠ d0 → t ≠ d1 → (tm.setIfInBounds d1 v1)[t]? = tm[t]? := fun v1 t h0 h1 => by rw [Array.getElem?_setIfInBounds_ne (Ne.symm h1)]
  have comm : (tm.setIfInBounds d1 (.agg (u8s lb))).setIfInBounds d0 (.agg (u8s la)) = (tm.setIfInBounds d0 (.agg (u8s la))).setIfInBounds d1 (.agg (u8s lb)) := by
    apply Array.ext_getElem?
    intro t
    by_cases x0 : t = d0
    · subst x0
      rw [Array.getElem?_setIfInBounds_self_of_lt (by simpa using hs0), Array.getElem?_setIfInBounds_ne (Ne.symm hne), Array.getElem?_setIfInBounds_self_of_lt hs0]
    · by_cases x1 : t = d1
      · subst x1
        rw [Array.getElem?_setIfInBounds_ne hne, Array.getElem?_setIfInBounds_self_of_lt hs1, Array.getElem?_setIfInBounds_self_of_lt (by simpa using hs1)]
      · rw [Array.getElem?_setIfInBounds_ne (Ne.symm x0), Array.getElem?_setIfInBounds_ne (Ne.symm x1), Array.getElem?_setIfInBounds_ne (Ne.symm x1), Array.getElem?_setIfInBounds_ne (Ne.symm x0)]
  have op0 : ∀ {Q K a w}, o0.wp Tryz.prog a w K Q → wpOp Tryz.prog #[o0, o1, o2, o3] Q 0 K a w := fun h => wpOp_plain rfl g0 h
  have op1 : ∀ {Q K a w}, o1.wp Tryz.prog a w K Q → wpOp Tryz.prog #[o0, o1, o2, o3] Q 1 K a w := fun h => wpOp_plain rfl g1 h
  have op2 : ∀ {Q K a w}, o2.wp Tryz.prog a w K Q → wpOp Tryz.prog #[o0, o1, o2, o3] Q 2 K a w := fun h => wpOp_plain rfl g2 h
  have op3 : ∀ {Q K a w}, o3.wp Tryz.prog a w K Q → wpOp Tryz.prog #[o0, o1, o2, o3] Q 3 K a w := fun h => wpOp_plain rfl g3 h
  -- the last store
  have last : ∀ w2, Two w w2 p q → Arr w2 p T2 la → Arr w2 q T3 lq → wpAny Tryz.prog .any #[o0, o1, o2, o3] Q 1 #[true, true, true, false] ⟨(tm.setIfInBounds d0 (.agg (u8s la))).setIfInBounds d1 (.agg (u8s lb)), []⟩ w2 := fun w2 t2 C2 C3 => by
    refine wpAny_all r5 (by simp) fun i hi => ?_
    obtain rfl : i = 3 := by simpa using hi
    have he := ev _ (same (.agg (u8s la)) (.agg (u8s lb)))
    refine op3 (wp_store_arr p3 (.tmp d1) h3 C3 he.2.2.2 (by rw [eval_tmp, Array.getElem?_setIfInBounds_self_of_lt (by simpa using hs1)]; rfl) z3 z1 ?_)
    rw [e3]
    refine wpAny_done r6 (h _ ?_ (C2.setRow_other npq _) C3.setRow) _
    exact ⟨t2.os, t2.tape, t2.output, by simp [t2.size], fun k k1 k2 => (Go.setRow_other w2 q k _ k2).trans (t2.block k k1 k2)⟩
  -- both read, the first store next
  have mid : wpAny Tryz.prog .any #[o0, o1, o2, o3] Q 2 #[true, true, false, false] ⟨(tm.setIfInBounds d0 (.agg (u8s la))).setIfInBounds d1 (.agg (u8s lb)), []⟩ w1 := by
    refine wpAny_all r3 (by simp) fun i hi => ?_
    obtain rfl : i = 2 := by simpa using hi
    have he := ev _ (same (.agg (u8s la)) (.agg (u8s lb)))
    refine op2 (wp_store_arr p2 (.tmp d0) h2 B2 he.2.2.1 (by rw [eval_tmp, Array.getElem?_setIfInBounds_ne (Ne.symm hne), Array.getElem?_setIfInBounds_self_of_lt hs0]; rfl) z2 z0 ?_)
    rw [e2]
    exact last _ ⟨ww.os, ww.tape, ww.output, by simp [ww.size], fun k k1 k2 => (Go.setRow_other w1 p k _ k1).trans (ww.block k k1 k2)⟩ B2.setRow (B3.setRow_other (Ne.symm npq) _)
  refine wpAny_all r0 (by simp) fun i hi => ?_
  have hi' : i = 0 ∨ i = 1 := by simpa using hi
  rcases hi' with rfl | rfl
  · have he := ev tm (fun _ _ _ => rfl)
    refine op0 (wp_load_arr x0 h0 B0 he.1 z0 ?_)
    rw [e0]
    refine wpAny_all r1 (by simp) fun i hi => ?_
    have hi' : i = 1 ∨ i = 2 := by simpa using hi
    rcases hi' with rfl | rfl
    · have he := ev _ (same0 (.agg (u8s la)))
      refine op1 (wp_load_arr x1 h1 B1 he.2.1 z1 ?_)
      rw [e1]
      exact mid
    · have he := ev _ (same0 (.agg (u8s la)))
      refine op2 (wp_store_arr p2 (.tmp d0) h2 B2 he.2.2.1 (by rw [eval_tmp]; show (tm.setIfInBounds d0 (.agg (u8s la)))[d0]?.getD undef = _; rw [Array.getElem?_setIfInBounds_self_of_lt hs0]; rfl) z2 z0 ?_)
      rw [e2]
      refine wpAny_all r4 (by simp) fun i hi => ?_
      obtain rfl : i = 1 := by simpa using hi
      refine op1 (wp_load_arr x1 h1 (B1.setRow_other nb _) he.2.1 z1 ?_)
      rw [e1]
      exact last _ ⟨ww.os, ww.tape, ww.output, by simp [ww.size], fun k k1 k2 => (Go.setRow_other w1 p k _ k1).trans (ww.block k k1 k2)⟩ B2.setRow (B3.setRow_other (Ne.symm npq) _)
  · have he := ev tm (fun _ _ _ => rfl)
    refine op1 (wp_load_arr x1 h1 B1 he.2.1 z1 ?_)
    rw [e1]
    refine wpAny_all r2 (by simp) fun i hi => ?_
    obtain rfl : i = 0 := by simpa using hi
    have he := ev _ (same1 (.agg (u8s lb)))
    refine op0 (wp_load_arr x0 h0 B0 he.1 z0 ?_)
    rw [e0]
    show wpAny Tryz.prog .any #[o0, o1, o2, o3] Q 2 #[true, true, false, false] ⟨(tm.setIfInBounds d1 (.agg (u8s lb))).setIfInBounds d0 (.agg (u8s la)), []⟩ w1
    rw [comm]
    exact mid

end Go.Proofs.YtaemiknaiccijaaGreat

/- The reference's long division. -/
namespace Go.Proofs.YtaemiknaiccijaaGreat
open Go.RowKit

/-- Where a division stands when k steps are left. -/
structure DivSt (p c : Int) (b : Nat → Int) (m N : Nat) (a : Nat → Int) (k : Nat) (f q : Nat → Int) : Prop where
  rest : ∀ t, dR p c b m k f t = dR p c b m N a t
  below : ∀ s, s < k → q s = 0
  quo : ∀ s, (if s < k then dQ p c b m k f s else q s) = dQ p c b m N a s
  rng : ∀ t, 0 ≤ f t ∧ f t < p
theorem DivSt.start {p c : Int} {b a : Nat → Int} {m N : Nat} (h : ∀ t, 0 ≤ a t ∧ a t < p) : DivSt p c b m N a N a (fun _ => 0) :=
  ⟨fun _ => rfl, fun _ _ => rfl, fun s => by split; rfl; rw [dQ_out _ _ (by omega)], h⟩
theorem DivSt.step {p c : Int} (hp : 0 < p) {b a : Nat → Int} {m N k : Nat} {f q : Nat → Int} (h : DivSt p c b m N a (k + 1) f q) :
    DivSt p c b m N a k (dstep p c b m f k) (fun s => if s = k then qd p c m f k else q s) := by
  refine ⟨fun t => by rw [← h.rest t]; rfl, fun s hs => ?_, fun s => ?_, dstep_range hp h.rng⟩
  · show (if s = k then _ else q s) = 0
    rw [if_neg (by omega)]; exact h.below s (by omega)
  · have := h.quo s
    by_cases e : s = k
    · subst e
      rw [if_pos (by omega)] at this
      rw [if_neg (by omega), ← this]
      show (if s = s then _ else q s) = dQ p c b m (s + 1) f s
      rw [if_pos rfl, dQ_same]
    · by_cases e2 : s < k
      · rw [if_pos (by omega)] at this
        rw [if_pos e2, ← this, dQ_ne e]
      · rw [if_neg (by omega)] at this
        rw [if_neg e2]
        show (if s = k then _ else q s) = _
        rw [if_neg e, this]
/-- Inside a step: the first j coefficients are struck. -/
def dpart (p c : Int) (b : Nat → Int) (m : Nat) (f : Nat → Int) (s j : Nat) : Nat → Int := fun t =>
  if s ≤ t ∧ t < s + j then (f t - qd p c m f s * b (t - s)) % p else f t
theorem dpart_zero (p c : Int) (b : Nat → Int) (m : Nat) (f : Nat → Int) (s : Nat) : dpart p c b m f s 0 = f := by
  funext t; unfold dpart; rw [if_neg (by omega)]
theorem dpart_end (p c : Int) (b : Nat → Int) (m : Nat) (f : Nat → Int) (s : Nat) : dpart p c b m f s (m + 1) = dstep p c b m f s := by
  funext t; unfold dpart dstep
  by_cases h : s ≤ t ∧ t ≤ s + m
  · rw [if_pos h, if_pos ⟨h.1, by omega⟩]
  · rw [if_neg h, if_neg (by omega)]
theorem dpart_none {p c : Int} {b : Nat → Int} {m : Nat} {f : Nat → Int} {s : Nat} (hr : ∀ t, 0 ≤ f t ∧ f t < p) (h : qd p c m f s = 0) (j : Nat) : dpart p c b m f s j = dstep p c b m f s := by
  funext t; unfold dpart dstep
  rw [h]
  have := hr t
  have e : (f t - 0 * b (t - s)) % p = f t := by rw [Int.zero_mul, Int.sub_zero, Int.emod_eq_of_lt this.1 this.2]
  rw [e]
  split <;> split <;> rfl
theorem dpart_step {p c : Int} {b : Nat → Int} {m : Nat} {f : Nat → Int} {s j : Nat} (h : s + j < 64) :
    (tab 64 (dpart p c b m f s j)).set (s + j) ((f (s + j) - qd p c m f s * b j) % p) = tab 64 (dpart p c b m f s (j + 1)) := by
  rw [tab_set 64 _ _ _ h]
  refine tab_congr fun t _ => ?_
  unfold dpart
  by_cases e : t = s + j
  · subst e
    rw [if_pos rfl, if_pos ⟨by omega, by omega⟩, show s + j - s = j by omega]
  · rw [if_neg e]
    by_cases h2 : s ≤ t ∧ t < s + j
    · rw [if_pos h2, if_pos ⟨h2.1, by omega⟩]
    · rw [if_neg h2, if_neg (by omega)]
theorem dpart_at (p c : Int) (b : Nat → Int) (m : Nat) (f : Nat → Int) (s j : Nat) : dpart p c b m f s j (s + j) = f (s + j) := by
  unfold dpart; rw [if_neg (by omega)]

def DivOut (p : Int) (a b : List Int) (w : World) (g m : Nat) (i : Value) (wr : World) : Prop :=
  ∃ (k : Nat) (n : Int) (f q : Nat → Int), i = .int .i64 n ∧ (n = (k : Int) - 1 + m ∨ (k = 0 ∧ n < m)) ∧ -1 ≤ n ∧ n ≤ 63 ∧ DivSt p (invP p (lc b)) (at0 b) m (dn a b) (at0 a) k f q ∧
    Arr wr w.heap.size 25 (tab 64 f) ∧ Arr wr (w.heap.size + 1) 25 (pad b) ∧ Arr wr (w.heap.size + 2) 25 zeros64 ∧ Arr wr (w.heap.size + 3) 25 zeros64 ∧ Arr wr g 25 (tab 64 q) ∧ Ext w wr
def DivIn (p : Int) (b : List Int) (w : World) (g m k : Nat) (f q : Nat → Int) (i : Value) (wr : World) : Prop :=
  ∃ j : Nat, j ≤ m + 1 ∧ i = .int .i64 j ∧ Arr wr w.heap.size 25 (tab 64 (dpart p (invP p (lc b)) (at0 b) m f k j)) ∧ Arr wr (w.heap.size + 1) 25 (pad b) ∧ Arr wr (w.heap.size + 2) 25 zeros64 ∧ Arr wr (w.heap.size + 3) 25 zeros64 ∧
    Arr wr g 25 (tab 64 q) ∧ Ext w wr

set_option maxRecDepth 100000 in
set_option maxHeartbeats 1000000 in
theorem l01Divide_any (p : Int) (a b : List Int) (hp : PrimeP p) (ha : Can p a) (hb : Can p b) (la : a.length ≤ 64) (lb : b.length ≤ 64) (hne : 0 < b.length) (w : World) :
    Calls Tryz.prog 47 #[.int .i64 p, .agg (u8s (pad a)), .agg (u8s (pad b))] w fun e w' =>
      e = .returned (.tuple #[.agg (u8s (pad (dq p a b))), .agg (u8s (pad (dr p a b)))]) ∧ Ext w w' := by
  obtain ⟨m, hm⟩ : ∃ m, b.length = m + 1 := ⟨b.length - 1, by omega⟩
  have HA := Lib.hid ha
  have HB := Lib.hid hb
  have HP := Lib.hid hp
  have HM := Lib.hid hm
  have lm : m ≤ 63 := by omega
  have PL := Lib.hid (pad_length a)
  have QL := Lib.hid (pad_length b)
  have LB := Lib.hid lb
  have hlc := hb.last hne
  have elc : lc b = at0 b m := by unfold lc; rw [hm]; rfl
  rw [show at0 b (b.length - 1) = lc b from rfl] at hlc
  have hinv := invP_range (x := lc b) hp
  have hlo := hp.lo
  have hhi := hp.hi
  have ELC := Lib.hid elc
  clear ha hb hp hm hne elc lb
  have hz := zlit
  obtain ⟨w1, hw1⟩ : ∃ w1, w1 = allocs w 25 [pad a, pad b, zeros64, zeros64] := ⟨_, rfl⟩
  have A1 : Arr w1 w.heap.size 25 (pad a) := by rw [hw1]; exact allocs_arr _ _ 0 rfl
  have A2 : Arr w1 (w.heap.size + 1) 25 (pad b) := by rw [hw1]; exact allocs_arr _ _ 1 rfl
  have A3 : Arr w1 (w.heap.size + 2) 25 zeros64 := by rw [hw1]; exact allocs_arr _ _ 2 rfl
  have A4 : Arr w1 (w.heap.size + 3) 25 zeros64 := by rw [hw1]; exact allocs_arr _ _ 3 rfl
  have E1 : Ext w w1 := by rw [hw1]; exact allocs_ext _ _ _ _ (Ext.refl w)
  have S1 : w1.heap.size = w.heap.size + 4 := by rw [hw1, allocs_size]; rfl
  simp only [allocs] at hw1
  have HW := hw1.symm
  clear hw1
  go_enter Tryz.func47, Tryz.ntmps47
  go_wp2_with (first | (refine wplL _ rfl rfl A2 rfl QL.out ?_) | (go_at_call 49; refine (l01Deg_pad b m HB.out.nz LB.out (by have := HM.out; omega) _).mono ?_; rintro e w2 ⟨rfl, E2⟩) | (refine wplW _ _ rfl rfl (Arr.new _ _ zeros64) rfl rfl zeros64_length zeros64_length ?_))
  clear HW
  intro w3 G3 Z3 B5
  have S2 := E2.size
  have B1 := ((A1.ext E2).alloc _).grown G3 (by omega)
  have B2 := ((A2.ext E2).alloc _).grown G3 (by omega)
  have B3 := ((A3.ext E2).alloc _).grown G3 (by omega)
  have B4 := ((A4.ext E2).alloc _).grown G3 (by omega)
  have E3 : Ext w w3 := ((E1.tr E2).alloc _).grown G3 (by omega)
  have hg : w.heap.size + 4 ≤ w2.heap.size := by omega
  generalize w2.heap.size = g at *
  clear A1 A2 A3 A4 E1 E2 S1 S2 G3 Z3
  have c1 := B2.cell m (by rw [QL.out]; omega)
  rw [at0_pad b LB.out, ← ELC.out] at c1
  go_wp2_with (first | (go_at_call 82; refine (l01Inverse_any p (lc b) HP.out hlc.1 hlc.2 _).mono ?_; rintro e w4 ⟨rfl, rfl⟩) | (refine wplL _ rfl rfl B1 rfl PL.out ?_) | (go_at_call 49; refine (l01Deg_pad a _ HA.out.nz la rfl _).mono ?_; rintro e w4 ⟨rfl, E4⟩))
  have S4 := E4.size
  have D0 : ∀ t, 0 ≤ at0 a t ∧ at0 a t < p := HA.out.inp
  have t0 : Hid (pad a = tab 64 (at0 a)) := Lib.hid rfl
  have g1 := B5.lt
  have LA := Lib.hid la
  clear la c1
  go_loopw [11] (fun i wr => DivOut p a b w g m i wr) (fun i _ => (intOf i + 1).toNat)
  case atStart =>
    refine ⟨dn a b, (a.length : Int) - 1, at0 a, fun _ => 0, rfl, ?_, by omega, by have := LA.out; omega, DivSt.start D0, by rw [← t0.out]; exact B1.ext E4, B2.ext E4, B3.ext E4, B4.ext E4, by rw [← zeros64_tab]; exact B5.ext E4, E3.tr E4⟩
    have := HM.out
    unfold dn
    omega
  case round =>
    obtain ⟨k, n, f, q, rfl, hn, n1, n2, hst, C1, C2, C3, C4, C5, hE⟩ := hrel
    have HST := Lib.hid hst
    clear B1 B2 B3 B4 B5 E3 E4 hst
    by_cases hk : k = 0
    · subst hk
      have tm : decide ((m : Int) ≤ n) = false := by simp; omega
      have hq : Hid (tab 64 q = pad (dq p a b)) := Lib.hid (tab_congr fun s _ => by
        rw [at0_dq, show b.length - 1 = m by have := HM.out; omega, ← HST.out.quo s, if_neg (by omega)])
      have hr : Hid (tab 64 f = pad (dr p a b)) := Lib.hid (tab_congr fun s _ => by
        rw [at0_dr p a b (by have := HM.out; omega), show b.length - 1 = m by have := HM.out; omega, ← HST.out.rest s]
        rfl)
      rw [hq.out] at C5
      rw [hr.out] at C1
      go_wp2
      refine region_two (by kernel_rfl) (by kernel_rfl) _ _ _ _ rfl rfl rfl rfl rfl rfl rfl rfl rfl rfl rfl rfl C5 C1 C3 C4 (pad_length _) (pad_length _) zeros64_length zeros64_length (by omega) (by omega) (Nat.le_of_ble_eq_true rfl) (Nat.le_of_ble_eq_true rfl) (by decide) (fun tm' hsame => ?_) (fun w5 T5 P5 Q5 => ?_)
      · refine ⟨?_, ?_, ?_, ?_⟩
        all_goals (rw [eval_tmp, hsame _ (by decide) (by decide)]; rfl)
      · simp only [List.setIfInBounds_toArray, List.set_cons_zero, List.set_cons_succ]
        go_wp2
        exact bodyPost_ret (res_cc rfl rfl rfl P5 (pad_length _) Q5 (pad_length _) Tryz.underlying25 infoPoly) rfl ⟨rfl, T5.ext hE (by omega) (by omega)⟩
    · obtain ⟨k', rfl⟩ : ∃ k', k = k' + 1 := ⟨k - 1, by omega⟩
      obtain rfl : n = (k' : Int) + m := by omega
      clear hn hk
      have tm : decide ((m : Int) ≤ (k' : Int) + m) = true := by simp; omega
      have c1 := C1.cell (k' + m) (by rw [tab_length]; omega)
      rw [at0_tab_lt _ (by omega)] at c1
      have r1 := HST.out.rng (k' + m)
      have r2 := mulB (K := 7) (C := 7) (by decide) (show -7 ≤ f (k' + m) by omega) (by omega) hinv.1 (by omega)
      have r3 : 0 ≤ f (k' + m) * invP p (lc b) := Int.mul_nonneg r1.1 hinv.1
      have r4 := emod_range (f (k' + m) * invP p (lc b)) p (by omega)
      have f5 := C5.free k'
      have c5 := C5.cell k' (by rw [tab_length]; omega)
      have hp0 : p ≠ 0 := by omega
      have eq : Hid (f (k' + m) * invP p (lc b) % p = qd p (invP p (lc b)) m f k') := Lib.hid rfl
      go_wp2
      have hE2 : Ext w (wr.setCell ⟨g, k', none⟩ (.int .u8 (f (k' + m) * invP p (lc b) % p))) := hE.set (by simp; omega) _
      have D1 := C1.other (a := ⟨g, k', none⟩) (v := .int .u8 (f (k' + m) * invP p (lc b) % p)) (by simp; omega)
      have D2 := C2.other (a := ⟨g, k', none⟩) (v := .int .u8 (f (k' + m) * invP p (lc b) % p)) (by simp; omega)
      have D3 := C3.other (a := ⟨g, k', none⟩) (v := .int .u8 (f (k' + m) * invP p (lc b) % p)) (by simp; omega)
      have D4 := C4.other (a := ⟨g, k', none⟩) (v := .int .u8 (f (k' + m) * invP p (lc b) % p)) (by simp; omega)
      have D5 := C5.set k' (f (k' + m) * invP p (lc b) % p)
      rw [tab_set 64 _ _ _ (by omega)] at D5
      clear C1 C2 C3 C4 C5 hE c1 f5 c5 r1 r2 r3
      generalize f (k' + m) * invP p (lc b) % p = x at *
      generalize wr.setCell ⟨g, k', none⟩ (.int .u8 x) = wr2 at *
      go_loopw [13] (fun i wr => DivIn p b w g m k' f (fun j => if j = k' then x else q j) i wr) (fun i _ => 64 - (intOf i).toNat)
      case atStart => exact ⟨0, by omega, rfl, by rw [dpart_zero]; exact D1, D2, D3, D4, D5, hE2⟩
      case round =>
        obtain ⟨j, hj, rfl, C1, C2, C3, C4, C5, hE⟩ := hrel
        clear D1 D2 D3 D4 D5 hE2
        -- the step is at its end
        have fin : (x = 0 ∨ j = m + 1) → tab 64 (dpart p (invP p (lc b)) (at0 b) m f k' j) = tab 64 (dstep p (invP p (lc b)) (at0 b) m f k') := by
          intro h
          rcases h with h | h
          · rw [dpart_none HST.out.rng (by rw [← eq.out, h])]
          · rw [h, dpart_end]
        have fin2 : tab 64 (fun j => if j = k' then x else q j) = tab 64 (fun s => if s = k' then qd p (invP p (lc b)) m f k' else q s) := by rw [eq.out]
        have FIN := Lib.hid fin
        have FIN2 := Lib.hid fin2
        clear fin fin2
        by_cases hj2 : j ≤ m
        · by_cases hx0 : x = 0
          · have tz : (x != 0) = false := by rw [hx0]; rfl
            have HX0 := Lib.hid hx0
            clear hx0
            go_wp2
            go_roundw
            case rel =>
              refine ⟨k', (k' : Int) + m - 1, _, _, by go_num, .inl (by omega), by omega, by omega, HST.out.step (by omega), ?_, C2, C3, C4, ?_, hE⟩
              · rw [← FIN.out (.inl HX0.out)]; exact C1
              · rw [← FIN2.out]; exact C5
            case measure => simp [intOf]; omega
          · have tz : (x != 0) = true := by simpa using hx0
            clear hx0
            have c1 := C1.cell (k' + j) (by rw [tab_length]; omega)
            rw [at0_tab_lt _ (by omega), dpart_at] at c1
            have f1 := C1.free (k' + j)
            have c2 := C2.cell j (by rw [QL.out]; omega)
            rw [at0_pad b LB.out] at c2
            have r1 := HST.out.rng (k' + j)
            have r2 := HB.out.inp j
            have r3 := mulB (K := 7) (C := 7) (by decide) (show -7 ≤ x by omega) (by omega) r2.1 (by omega)
            have r5 := tmodB (f (k' + j) - x * at0 b j) p hlo hhi
            have i1 : 0 ≤ (k' : Int) + (j : Int) := by omega
            have i2 : (k' : Int) + (j : Int) < 64 := by omega
            have i3 : ((k' : Int) + (j : Int)).toNat = k' + j := by omega
            have i4 : (j : Int) < 64 := by omega
            have G := Lib.hid (go_mod (f (k' + j) - x * at0 b j) p (by omega))
            have r6 := emod_range (f (k' + j) - x * at0 b j) p (by omega)
            go_wp2
            refine wp_region_still_tail 27 (by kernel_rfl) (by kernel_rfl) ?_
            simp only [List.take_succ_cons, List.take_zero, List.drop_succ_cons, List.drop_zero]
            repeat (refine wpStill_step (fun K hK => ?_); go_simp; (try go_bits); refine hK _ ?_; clear hK K)
            refine wpStill_nil ?_
            change wpList _ _ _ _ _ wr.drew
            go_wp2
            go_roundw
            case rel =>
              refine ⟨j + 1, by omega, by go_num, ?_, (C2.other (by simp)).drew, (C3.other (by simp)).drew, (C4.other (by simp)).drew, (C5.other (by simp; omega)).drew, (hE.set (by simp) _).drew⟩
              rw [← dpart_step (by omega), ← eq.out]
              have := (C1.set (k' + j) ((f (k' + j) - x * at0 b j) % p)).drew
              rw [G.out, Int.emod_eq_of_lt r6.1 (by omega)]
              exact this
            case measure => simp [intOf]; omega
        · have hj3 : j = m + 1 := by omega
          have HJ := Lib.hid hj3
          have tz : decide ((j : Int) ≤ m) = false := by simp; omega
          clear hj3
          go_wp2
          go_roundw
          case rel =>
            refine ⟨k', (k' : Int) + m - 1, _, _, by go_num, .inl (by omega), by omega, by omega, HST.out.step (by omega), ?_, C2, C3, C4, ?_, hE⟩
            · rw [← FIN.out (.inr HJ.out)]; exact C1
            · rw [← FIN2.out]; exact C5
          case measure => simp [intOf]; omega

end Go.Proofs.YtaemiknaiccijaaGreat
