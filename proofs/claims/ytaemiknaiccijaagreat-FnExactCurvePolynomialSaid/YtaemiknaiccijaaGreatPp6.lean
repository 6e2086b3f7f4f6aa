/- Lemmas and contracts of functions, for the laws on curves: The reference's numbers of points. -/
import Derived.Test.YtaemiknaiccijaaGreatPp5
import Derived.Deep.MidRow
import Derived.Great.Walk
set_option linter.unusedVariables false
set_option linter.unusedSimpArgs false
namespace Go.Proofs.YtaemiknaiccijaaGreat
open Go.RowKit

def e1 (p : Int) : Nat := ((p - 1) / 2).toNat
def e2 (p : Int) : Nat := ((p * p - 1) / 2).toNat
/-- What the loop has counted over the places with numbers below n. -/
def cntU (f : Nat → Int) (n : Nat) : Int := 1 + sumN n f
theorem cntU_step (f : Nat → Int) (n : Nat) : cntU f (n + 1) = cntU f n + f n := by unfold cntU; rw [sumN]; omega
def PtRel (p : Int) (d m : List Int) (w : World) (gd gm z f : Nat) (k n1 n2 : Value) (wr : World) : Prop :=
  ∃ i : Nat, f + i = p.toNat * p.toNat ∧ k = .int .i64 i ∧ n1 = .int .i64 (cntU (ptS p d m (e1 p)) (min i p.toNat)) ∧ n2 = .int .i64 (cntU (ptS p d m (e2 p)) i) ∧ Hp w wr [(gm, pad m), (gd, pad d)]
theorem cntU_range (p : Int) (d m : List Int) (e n : Nat) : 1 ≤ cntU (ptS p d m e) n ∧ cntU (ptS p d m e) n ≤ 1 + 2 * n := by
  have := sumN_range (ptS_range p d m e) n
  unfold cntU; omega

theorem l07Pow1 {p : Int} {x m : List Int} (hp : OddP p) (hx : Can p x) (hm : Can p m) (lx : x.length ≤ 64) (lm : m.length ≤ 64) (hne : 0 < m.length) (w : World) :
    Calls Tryz.prog 67 #[.int .i64 p, .agg (u8s (pad x)), .int .i64 ((p - 1) / 2), .agg (u8s (pad m))] w fun e w' => e = .returned (.agg (u8s (pad (powM p x (e1 p) m)))) ∧ Ext w w' := by
  have h : ((e1 p : Nat) : Int) = (p - 1) / 2 := by rcases hp with rfl | rfl | rfl <;> decide
  rw [← h]
  exact l01PowMod_any p x m (e1 p) (by rcases hp with rfl | rfl | rfl <;> decide) hp.prime hx hm lx lm hne w
theorem l07Pow2 {p : Int} {x m : List Int} (hp : OddP p) (hx : Can p x) (hm : Can p m) (lx : x.length ≤ 64) (lm : m.length ≤ 64) (hne : 0 < m.length) (w : World) :
    Calls Tryz.prog 67 #[.int .i64 p, .agg (u8s (pad x)), .int .i64 ((p * p - 1) / 2), .agg (u8s (pad m))] w fun e w' => e = .returned (.agg (u8s (pad (powM p x (e2 p) m)))) ∧ Ext w w' := by
  have h : ((e2 p : Nat) : Int) = (p * p - 1) / 2 := by rcases hp with rfl | rfl | rfl <;> decide
  rw [← h]
  exact l01PowMod_any p x m (e2 p) (by rcases hp with rfl | rfl | rfl <;> decide) hp.prime hx hm lx lm hne w

set_option maxRecDepth 100000 in
set_option maxHeartbeats 4000000 in
theorem l07Points_any (p : Int) (d : List Int) (hp : OddP p) (hd : Can p d) (ld : d.length ≤ 64) (w : World) :
    Calls Tryz.prog 40 #[.int .i64 p, .agg (u8s (pad d))] w fun e w' => e = .returned (.tuple #[.int .i64 (cntU (ptS p d (fld p) (e1 p)) p.toNat), .int .i64 (cntU (ptS p d (fld p) (e2 p)) (p.toNat * p.toNat))]) ∧ Ext w w' := by
  have hz := zlit
  have HO := Lib.hid hp
  have HP := Lib.hid hp.prime
  have HD := Lib.hid hd
  have HM := Lib.hid (fld_can hp)
  have lo := HP.out.lo
  have hi := HP.out.hi
  have lm : (fld p).length = 3 := rfl
  have pt : ((p.toNat : Nat) : Int) = p := by omega
  have PT := Lib.hid pt
  have pp : Hid (((p.toNat * p.toNat : Nat) : Int) = p * p) := Lib.hid (by rw [Int.natCast_mul, pt])
  have qq : 9 ≤ p * p ∧ p * p ≤ 49 := by rcases hp with rfl | rfl | rfl <;> decide
  clear hp hd pt
  have F := Hp.start w
  go_enter Tryz.func40, Tryz.ntmps40
  go_wp2_with (first | ((with_reducible show wpList _ _ _ _ _ _); first | (apply hpLd F; exact rfl; exact rfl; exact rfl; (· repeat (first | exact Has.head | apply Has.tail))) | (apply hpBox F; exact rfl; exact rfl; exact rfl; (· with_reducible first | exact pad_length _ | exact zeros64_length | exact tab_length _ _ | assumption)) | (apply hpAlloc F; exact rfl; exact rfl) | (apply hpSt F; exact rfl; exact rfl; exact rfl; exact rfl; (· repeat (first | exact Upd.head | apply Upd.tail)); (· with_reducible first | exact pad_length _ | exact zeros64_length | exact tab_length _ _ | assumption))))
  clear F
  intro gd w1 F
  go_wp2_with (first | (go_at_call 64; refine (l07Field_any p HO.out _).mono ?_; rintro e w2 ⟨rfl, E2⟩; replace F := F.next E2) | ((with_reducible show wpList _ _ _ _ _ _); first | (apply hpLd F; exact rfl; exact rfl; exact rfl; (· repeat (first | exact Has.head | apply Has.tail))) | (apply hpBox F; exact rfl; exact rfl; exact rfl; (· with_reducible first | exact pad_length _ | exact zeros64_length | exact tab_length _ _ | assumption)) | (apply hpAlloc F; exact rfl; exact rfl) | (apply hpSt F; exact rfl; exact rfl; exact rfl; exact rfl; (· repeat (first | exact Upd.head | apply Upd.tail)); (· with_reducible first | exact pad_length _ | exact zeros64_length | exact tab_length _ _ | assumption))))
  clear F
  intro gm0 w1 F
  go_wp2_with (first | ((with_reducible show wpList _ _ _ _ _ _); first | (apply hpLd F; exact rfl; exact rfl; exact rfl; (· repeat (first | exact Has.head | apply Has.tail))) | (apply hpBox F; exact rfl; exact rfl; exact rfl; (· with_reducible first | exact pad_length _ | exact zeros64_length | exact tab_length _ _ | assumption)) | (apply hpAlloc F; exact rfl; exact rfl) | (apply hpSt F; exact rfl; exact rfl; exact rfl; exact rfl; (· repeat (first | exact Upd.head | apply Upd.tail)); (· with_reducible first | exact pad_length _ | exact zeros64_length | exact tab_length _ _ | assumption))))
  clear F
  intro w3 F
  try simp only [List.set_cons_zero, List.set_cons_succ] at F
  go_wp2_with (first | ((with_reducible show wpList _ _ _ _ _ _); first | (apply hpLd F; exact rfl; exact rfl; exact rfl; (· repeat (first | exact Has.head | apply Has.tail))) | (apply hpBox F; exact rfl; exact rfl; exact rfl; (· with_reducible first | exact pad_length _ | exact zeros64_length | exact tab_length _ _ | assumption)) | (apply hpAlloc F; exact rfl; exact rfl) | (apply hpSt F; exact rfl; exact rfl; exact rfl; exact rfl; (· repeat (first | exact Upd.head | apply Upd.tail)); (· with_reducible first | exact pad_length _ | exact zeros64_length | exact tab_length _ _ | assumption))))
  generalize hM : fld p = m at *
  have MEQ := Lib.hid hM
  clear hM
  go_loopg [6, 7, 9] (p.toNat * p.toNat) (fun f n1 n2 k wr => PtRel p d m w gd gm0 0 f k n1 n2 wr)
  case atStart => exact ⟨0, rfl, rfl, by rw [Nat.zero_min]; rfl, rfl, F⟩
  case round =>
    clear F
    obtain ⟨k, hf, rfl, rfl, rfl, F⟩ := hrel
    have c1 := cntU_range p d m (e1 p) (min k p.toNat)
    have c2 := cntU_range p d m (e2 p) k
    by_cases hk : k = p.toNat * p.toNat
    · have t1 : decide ((k : Int) < p * p) = false := decide_eq_false (by have := pp.out; omega)
      have K := Lib.hid hk
      have mn : min k p.toNat = p.toNat := by
        rw [hk]; exact Nat.min_eq_right (Nat.le_mul_of_pos_left _ (by omega))
      rw [mn]
      clear hk mn hf
      go_wp2_with (first | ((with_reducible show wpList _ _ _ _ _ _); first | (apply hpLd F; exact rfl; exact rfl; exact rfl; (· repeat (first | exact Has.head | apply Has.tail))) | (apply hpBox F; exact rfl; exact rfl; exact rfl; (· with_reducible first | exact pad_length _ | exact zeros64_length | exact tab_length _ _ | assumption)) | (apply hpAlloc F; exact rfl; exact rfl) | (apply hpSt F; exact rfl; exact rfl; exact rfl; exact rfl; (· repeat (first | exact Upd.head | apply Upd.tail)); (· with_reducible first | exact pad_length _ | exact zeros64_length | exact tab_length _ _ | assumption))))
      go_ret2
      rw [K.out, ← MEQ.out]
      exact ⟨rfl, F.ext⟩
    · have kq : (k : Int) < p * p := by have := pp.out; omega
      have t1 : decide ((k : Int) < p * p) = true := decide_eq_true kq
      have HOF := Lib.hid (l01Of_any p k lo hi (Nat.lt_of_lt_of_le (show k < 100 by omega) (by decide)))
      have NC := Lib.hid (numr_can (show 0 < p by omega) k)
      have NL := numr_le p k
      have AS := atr_spec HP.out d (numr p k) HM.out (by omega) (by omega)
      have AC := Lib.hid AS.1
      have AL := AS.2
      clear AS
      go_wp2_with (first | ((with_reducible show wpList _ _ _ _ _ _); first | (apply hpLd F; exact rfl; exact rfl; exact rfl; (· repeat (first | exact Has.head | apply Has.tail))) | (apply hpBox F; exact rfl; exact rfl; exact rfl; (· with_reducible first | exact pad_length _ | exact zeros64_length | exact tab_length _ _ | assumption)) | (apply hpAlloc F; exact rfl; exact rfl) | (apply hpSt F; exact rfl; exact rfl; exact rfl; exact rfl; (· repeat (first | exact Upd.head | apply Upd.tail)); (· with_reducible first | exact pad_length _ | exact zeros64_length | exact tab_length _ _ | assumption))))
      refine region_ext 8 (by kernel_rfl) (by kernel_rfl) (by kernel_rfl) [] [eqv (.int .i64 p), eqv (.agg (u8s (pad d))), eqv (.int .i64 p), eqv (.int .i64 k), eqv (.agg (u8s (pad (numr p k)))), eqv (.agg (u8s (pad m))), eqv (.agg (u8s (pad (atr p d (numr p k) m)))), isArr wr.heap.size 25 zeros64]
        ⟨mono_eqv _, mono_eqv _, mono_eqv _, mono_eqv _, mono_eqv _, mono_eqv _, mono_eqv _, mono_arr _ _ _, trivial⟩ (fun vals => ?_) (fun vals w9 hE9 hS9 hN9 => ?_)
      · simp only [List.take_succ_cons, List.take_zero]
        refine ⟨fun w8 hE8 hk => doesK_plain rfl fun K hK => ?_, ?_⟩
        · go_simp
          (try go_bits)
          exact hK _ _ rfl (Ext.refl _) rfl
        simp only [Act.put, List.setIfInBounds_toArray, List.set_cons_zero, List.set_cons_succ]
        refine ⟨fun w8 hE8 hk => doesK_plain rfl fun K hK => ?_, ?_⟩
        · exact wp_load_row _ _ rfl _ (by first | rfl | simp [*]) _ _ (0, 0) _ ((F.at_ 1 rfl).ext hE8) Tryz.underlying25 rfl (by rw [infoPoly, u8s_size, pad_length _]) (hK _ _ rfl (Ext.refl _) rfl)
        simp only [Act.put, List.setIfInBounds_toArray, List.set_cons_zero, List.set_cons_succ]
        refine ⟨fun w8 hE8 hk => doesK_plain rfl fun K hK => ?_, ?_⟩
        · go_simp
          (try go_bits)
          exact hK _ _ rfl (Ext.refl _) rfl
        simp only [Act.put, List.setIfInBounds_toArray, List.set_cons_zero, List.set_cons_succ]
        refine ⟨fun w8 hE8 hk => doesK_plain rfl fun K hK => ?_, ?_⟩
        · go_simp
          (try go_bits)
          exact hK _ _ rfl (Ext.refl _) rfl
        simp only [Act.put, List.setIfInBounds_toArray, List.set_cons_zero, List.set_cons_succ]
        refine ⟨fun w8 hE8 hk => doesK_plain rfl fun K hK => ?_, ?_⟩
        · have k2 : vals 2 = .int .i64 p := hk 2 (by decide) (by kernel_rfl)
          have k3 : vals 3 = .int .i64 k := hk 3 (by decide) (by kernel_rfl)
          go_simp
          refine (HOF.out _).mono ?_
          rintro e7 w7 ⟨rfl, hE7⟩
          exact hK _ _ rfl hE7 rfl
        simp only [Act.put, List.setIfInBounds_toArray, List.set_cons_zero, List.set_cons_succ]
        refine ⟨fun w8 hE8 hk => doesK_plain rfl fun K hK => ?_, ?_⟩
        · exact wp_load_row _ _ rfl _ (by first | rfl | simp [*]) _ _ (0, 0) _ ((F.at_ 0 rfl).ext hE8) Tryz.underlying25 rfl (by rw [infoPoly, u8s_size, pad_length _]) (hK _ _ rfl (Ext.refl _) rfl)
        simp only [Act.put, List.setIfInBounds_toArray, List.set_cons_zero, List.set_cons_succ]
        refine ⟨fun w8 hE8 hk => doesK_plain rfl fun K hK => ?_, ?_⟩
        · have k0 : vals 0 = .int .i64 p := hk 0 (by decide) (by kernel_rfl)
          have k1 : vals 1 = .agg (u8s (pad d)) := hk 1 (by decide) (by kernel_rfl)
          have k4 : vals 4 = .agg (u8s (pad (numr p k))) := hk 4 (by decide) (by kernel_rfl)
          have k5 : vals 5 = .agg (u8s (pad m)) := hk 5 (by decide) (by kernel_rfl)
          go_simp
          refine (l07At_any p d (numr p k) m HP.out HD.out NC.out HM.out ld NL (by omega) (by omega) _).mono ?_
          rintro e7 w7 ⟨rfl, hE7⟩
          exact hK _ _ rfl hE7 rfl
        simp only [Act.put, List.setIfInBounds_toArray, List.set_cons_zero, List.set_cons_succ]
        refine ⟨fun w8 hE8 hk => doesK_plain rfl fun K hK => ?_, ?_⟩
        · go_simp
          exact hK _ _ ⟨_, rfl, by have := hE8.size; omega, Arr.new _ _ _⟩ ((Ext.refl _).alloc _) rfl
        exact trivial
      simp only [List.take_succ_cons, List.take_zero, List.drop_succ_cons, List.drop_zero, preAct, Nat.reduceAdd, Act.put, List.setIfInBounds_toArray, List.set_cons_zero, List.set_cons_succ]
      have k0 : vals 0 = .int .i64 p := hS9 0 (by decide) 
      have k1 : vals 1 = .agg (u8s (pad d)) := hS9 1 (by decide) 
      have k2 : vals 2 = .int .i64 p := hS9 2 (by decide) 
      have k3 : vals 3 = .int .i64 k := hS9 3 (by decide) 
      have k4 : vals 4 = .agg (u8s (pad (numr p k))) := hS9 4 (by decide) 
      have k5 : vals 5 = .agg (u8s (pad m)) := hS9 5 (by decide) 
      have k6 : vals 6 = .agg (u8s (pad (atr p d (numr p k) m))) := hS9 6 (by decide) 
      obtain ⟨g7, k7, b7, a7⟩ : isArr wr.heap.size 25 zeros64 (vals 7) _ := hS9 7 (by decide) 
      simp only [k0, k1, k2, k3, k4, k5, k6, k7]
      clear hN9 hS9 k0 k1 k2 k3 k4 k5 k6 k7
      replace F := F.addNew hE9 a7 zeros64_length b7
      clear hE9 a7 b7
      go_wp2_with (first | ((with_reducible show wpList _ _ _ _ _ _); first | (apply hpLd F; exact rfl; exact rfl; exact rfl; (· repeat (first | exact Has.head | apply Has.tail))) | (apply hpBox F; exact rfl; exact rfl; exact rfl; (· with_reducible first | exact pad_length _ | exact zeros64_length | exact tab_length _ _ | assumption)) | (apply hpAlloc F; exact rfl; exact rfl) | (apply hpSt F; exact rfl; exact rfl; exact rfl; exact rfl; (· repeat (first | exact Upd.head | apply Upd.tail)); (· with_reducible first | exact pad_length _ | exact zeros64_length | exact tab_length _ _ | assumption))))
      clear F
      intro w4 F
      try simp only [List.set_cons_zero, List.set_cons_succ] at F
      have S2 : Hid (ptS p d m (e2 p) k = if (atr p d (numr p k) m).length = 0 then 1 else if powM p (atr p d (numr p k) m) (e2 p) m == [1] then 2 else 0) := Lib.hid rfl
      have S1 : Hid (ptS p d m (e1 p) k = if (atr p d (numr p k) m).length = 0 then 1 else if powM p (atr p d (numr p k) m) (e1 p) m == [1] then 2 else 0) := Lib.hid rfl
      have U2 := Lib.hid (cntU_step (ptS p d m (e2 p)) k)
      have U1 := Lib.hid (cntU_step (ptS p d m (e1 p)) k)
      generalize hX : atr p d (numr p k) m = x at *
      have HX := Lib.hid hX
      have kz : (0 : Int) ≤ k ∧ (k : Int) < 50 := by omega
      have P2 := powM_spec HP.out AC.out HM.out (by omega) (e2 p)
      have P1 := powM_spec HP.out AC.out HM.out (by omega) (e1 p)
      have E2' := Lib.hid (pad_beq P2.1.nz (can_one (show 1 < p by omega)).nz (by omega) (by decide))
      have E1' := Lib.hid (pad_beq P1.1.nz (can_one (show 1 < p by omega)).nz (by omega) (by decide))
      have PL2 : (pad (powM p x (e2 p) m)).length = 64 := pad_length _
      have PL1 : (pad (powM p x (e1 p) m)).length = 64 := pad_length _
      have CP2 := Lib.hid (l07Pow2 HO.out AC.out HM.out AL (by omega) (by omega))
      have CP1 := Lib.hid (l07Pow1 HO.out AC.out HM.out AL (by omega) (by omega))
      have hn : k < p.toNat * p.toNat := by omega
      clear hX P1 P2 hk
      by_cases hx : x.length = 0
      · have t2 : decide ((x.length : Int) - 1 < 0) = true := decide_eq_true (by omega)
        have T2 : Hid (cntU (ptS p d m (e2 p)) (k + 1) = cntU (ptS p d m (e2 p)) k + 1) := Lib.hid (by rw [U2.out, S2.out]; simp [hx])
        have Q2 : Hid (e1 p = e1 p) := Lib.hid rfl
        by_cases kp : k < p.toNat
        · have t3 : decide ((k : Int) ≥ p) = false := decide_eq_false (by omega)
          have t4 : decide (p ≤ (k : Int)) = false := decide_eq_false (by omega)
          have m1 : min k p.toNat = k := by omega
          have m2 : min (k + 1) p.toNat = k + 1 := by omega
          rw [m1] at c1 ⊢
          have T1 : Hid (cntU (ptS p d m (e1 p)) (min (k + 1) p.toNat) = cntU (ptS p d m (e1 p)) k + 1) := Lib.hid (by rw [m2, U1.out, S1.out]; simp [hx])
          have Q1 : Hid (e1 p = e1 p) := Lib.hid rfl
          clear m1 m2 kp hx
          go_wp2_with (first | (go_at_call 49; refine (l01Deg_pad x _ AC.out.nz AL rfl _).mono ?_; rintro e w5 ⟨rfl, E5⟩; replace F := F.next E5) | (go_at_call 67; with_reducible refine (CP2.out _).mono ?_; rintro e w5 ⟨rfl, E5⟩; replace F := F.next E5) | (go_at_call 67; with_reducible refine (CP1.out _).mono ?_; rintro e w5 ⟨rfl, E5⟩; replace F := F.next E5) | (go_at_call 48; refine (l01One_any _).mono ?_; rintro e w5 ⟨rfl, E5⟩; replace F := F.next E5) | (apply wplEql; exact rfl; exact rfl; exact rfl; exact rfl; exact pad_length _; exact pad_length _; first | rw [Q2.out] | rw [Q1.out]) | ((with_reducible show wpList _ _ _ _ _ _); first | (apply hpLd F; exact rfl; exact rfl; exact rfl; (· repeat (first | exact Has.head | apply Has.tail))) | (apply hpBox F; exact rfl; exact rfl; exact rfl; (· with_reducible first | exact pad_length _ | exact zeros64_length | exact tab_length _ _ | assumption)) | (apply hpAlloc F; exact rfl; exact rfl) | (apply hpSt F; exact rfl; exact rfl; exact rfl; exact rfl; (· repeat (first | exact Upd.head | apply Upd.tail)); (· with_reducible first | exact pad_length _ | exact zeros64_length | exact tab_length _ _ | assumption))))
          go_roundg (gk - 1)
          case measure => omega
          case rel => exact ⟨k + 1, by omega, by go_num, by rw [T1.out], by rw [T2.out], F.tail⟩
        · have t3 : decide ((k : Int) ≥ p) = true := decide_eq_true (by omega)
          have t4 : decide (p ≤ (k : Int)) = true := decide_eq_true (by omega)
          have m1 : min k p.toNat = p.toNat := by omega
          have m2 : min (k + 1) p.toNat = p.toNat := by omega
          rw [m1] at c1 ⊢
          have T1 : Hid (cntU (ptS p d m (e1 p)) (min (k + 1) p.toNat) = cntU (ptS p d m (e1 p)) p.toNat) := Lib.hid (by rw [m2])
          have Q1 : Hid (e1 p = e1 p) := Lib.hid rfl
          clear m1 m2 kp hx
          go_wp2_with (first | (go_at_call 49; refine (l01Deg_pad x _ AC.out.nz AL rfl _).mono ?_; rintro e w5 ⟨rfl, E5⟩; replace F := F.next E5) | (go_at_call 67; with_reducible refine (CP2.out _).mono ?_; rintro e w5 ⟨rfl, E5⟩; replace F := F.next E5) | (go_at_call 67; with_reducible refine (CP1.out _).mono ?_; rintro e w5 ⟨rfl, E5⟩; replace F := F.next E5) | (go_at_call 48; refine (l01One_any _).mono ?_; rintro e w5 ⟨rfl, E5⟩; replace F := F.next E5) | (apply wplEql; exact rfl; exact rfl; exact rfl; exact rfl; exact pad_length _; exact pad_length _; first | rw [Q2.out] | rw [Q1.out]) | ((with_reducible show wpList _ _ _ _ _ _); first | (apply hpLd F; exact rfl; exact rfl; exact rfl; (· repeat (first | exact Has.head | apply Has.tail))) | (apply hpBox F; exact rfl; exact rfl; exact rfl; (· with_reducible first | exact pad_length _ | exact zeros64_length | exact tab_length _ _ | assumption)) | (apply hpAlloc F; exact rfl; exact rfl) | (apply hpSt F; exact rfl; exact rfl; exact rfl; exact rfl; (· repeat (first | exact Upd.head | apply Upd.tail)); (· with_reducible first | exact pad_length _ | exact zeros64_length | exact tab_length _ _ | assumption))))
          go_roundg (gk - 1)
          case measure => omega
          case rel => exact ⟨k + 1, by omega, by go_num, by rw [T1.out], by rw [T2.out], F.tail⟩
      · have t2 : decide ((x.length : Int) - 1 < 0) = false := decide_eq_false (by omega)
        cases q2 : powM p x (e2 p) m == [1]
        · have T2 : Hid (cntU (ptS p d m (e2 p)) (k + 1) = cntU (ptS p d m (e2 p)) k) := Lib.hid (by rw [U2.out, S2.out]; simp [hx, q2])
          have Q2 : Hid ((pad (powM p x (e2 p) m) == pad [1]) = false) := Lib.hid (by rw [E2'.out, q2])
          clear q2
          by_cases kp : k < p.toNat
          · have t3 : decide ((k : Int) ≥ p) = false := decide_eq_false (by omega)
            have t4 : decide (p ≤ (k : Int)) = false := decide_eq_false (by omega)
            have m1 : min k p.toNat = k := by omega
            have m2 : min (k + 1) p.toNat = k + 1 := by omega
            rw [m1] at c1 ⊢
            cases q1 : powM p x (e1 p) m == [1]
            · have T1 : Hid (cntU (ptS p d m (e1 p)) (min (k + 1) p.toNat) = cntU (ptS p d m (e1 p)) k) := Lib.hid (by rw [m2, U1.out, S1.out]; simp [hx, q1])
              have Q1 : Hid ((pad (powM p x (e1 p) m) == pad [1]) = false) := Lib.hid (by rw [E1'.out, q1])
              clear m1 m2 kp hx q1
              go_wp2_with (first | (go_at_call 49; refine (l01Deg_pad x _ AC.out.nz AL rfl _).mono ?_; rintro e w5 ⟨rfl, E5⟩; replace F := F.next E5) | (go_at_call 67; with_reducible refine (CP2.out _).mono ?_; rintro e w5 ⟨rfl, E5⟩; replace F := F.next E5) | (go_at_call 67; with_reducible refine (CP1.out _).mono ?_; rintro e w5 ⟨rfl, E5⟩; replace F := F.next E5) | (go_at_call 48; refine (l01One_any _).mono ?_; rintro e w5 ⟨rfl, E5⟩; replace F := F.next E5) | (apply wplEql; exact rfl; exact rfl; exact rfl; exact rfl; exact pad_length _; exact pad_length _; first | rw [Q2.out] | rw [Q1.out]) | ((with_reducible show wpList _ _ _ _ _ _); first | (apply hpLd F; exact rfl; exact rfl; exact rfl; (· repeat (first | exact Has.head | apply Has.tail))) | (apply hpBox F; exact rfl; exact rfl; exact rfl; (· with_reducible first | exact pad_length _ | exact zeros64_length | exact tab_length _ _ | assumption)) | (apply hpAlloc F; exact rfl; exact rfl) | (apply hpSt F; exact rfl; exact rfl; exact rfl; exact rfl; (· repeat (first | exact Upd.head | apply Upd.tail)); (· with_reducible first | exact pad_length _ | exact zeros64_length | exact tab_length _ _ | assumption))))
              go_roundg (gk - 1)
              case measure => omega
              case rel => exact ⟨k + 1, by omega, by go_num, by rw [T1.out], by rw [T2.out], F.tail⟩
            · have T1 : Hid (cntU (ptS p d m (e1 p)) (min (k + 1) p.toNat) = cntU (ptS p d m (e1 p)) k + 2) := Lib.hid (by rw [m2, U1.out, S1.out]; simp [hx, q1])
              have Q1 : Hid ((pad (powM p x (e1 p) m) == pad [1]) = true) := Lib.hid (by rw [E1'.out, q1])
              clear m1 m2 kp hx q1
              go_wp2_with (first | (go_at_call 49; refine (l01Deg_pad x _ AC.out.nz AL rfl _).mono ?_; rintro e w5 ⟨rfl, E5⟩; replace F := F.next E5) | (go_at_call 67; with_reducible refine (CP2.out _).mono ?_; rintro e w5 ⟨rfl, E5⟩; replace F := F.next E5) | (go_at_call 67; with_reducible refine (CP1.out _).mono ?_; rintro e w5 ⟨rfl, E5⟩; replace F := F.next E5) | (go_at_call 48; refine (l01One_any _).mono ?_; rintro e w5 ⟨rfl, E5⟩; replace F := F.next E5) | (apply wplEql; exact rfl; exact rfl; exact rfl; exact rfl; exact pad_length _; exact pad_length _; first | rw [Q2.out] | rw [Q1.out]) | ((with_reducible show wpList _ _ _ _ _ _); first | (apply hpLd F; exact rfl; exact rfl; exact rfl; (· repeat (first | exact Has.head | apply Has.tail))) | (apply hpBox F; exact rfl; exact rfl; exact rfl; (· with_reducible first | exact pad_length _ | exact zeros64_length | exact tab_length _ _ | assumption)) | (apply hpAlloc F; exact rfl; exact rfl) | (apply hpSt F; exact rfl; exact rfl; exact rfl; exact rfl; (· repeat (first | exact Upd.head | apply Upd.tail)); (· with_reducible first | exact pad_length _ | exact zeros64_length | exact tab_length _ _ | assumption))))
              go_roundg (gk - 1)
              case measure => omega
              case rel => exact ⟨k + 1, by omega, by go_num, by rw [T1.out], by rw [T2.out], F.tail⟩
          · have t3 : decide ((k : Int) ≥ p) = true := decide_eq_true (by omega)
            have t4 : decide (p ≤ (k : Int)) = true := decide_eq_true (by omega)
            have m1 : min k p.toNat = p.toNat := by omega
            have m2 : min (k + 1) p.toNat = p.toNat := by omega
            rw [m1] at c1 ⊢
            have T1 : Hid (cntU (ptS p d m (e1 p)) (min (k + 1) p.toNat) = cntU (ptS p d m (e1 p)) p.toNat) := Lib.hid (by rw [m2])
            have Q1 : Hid (e1 p = e1 p) := Lib.hid rfl
            clear m1 m2 kp hx
            go_wp2_with (first | (go_at_call 49; refine (l01Deg_pad x _ AC.out.nz AL rfl _).mono ?_; rintro e w5 ⟨rfl, E5⟩; replace F := F.next E5) | (go_at_call 67; with_reducible refine (CP2.out _).mono ?_; rintro e w5 ⟨rfl, E5⟩; replace F := F.next E5) | (go_at_call 67; with_reducible refine (CP1.out _).mono ?_; rintro e w5 ⟨rfl, E5⟩; replace F := F.next E5) | (go_at_call 48; refine (l01One_any _).mono ?_; rintro e w5 ⟨rfl, E5⟩; replace F := F.next E5) | (apply wplEql; exact rfl; exact rfl; exact rfl; exact rfl; exact pad_length _; exact pad_length _; first | rw [Q2.out] | rw [Q1.out]) | ((with_reducible show wpList _ _ _ _ _ _); first | (apply hpLd F; exact rfl; exact rfl; exact rfl; (· repeat (first | exact Has.head | apply Has.tail))) | (apply hpBox F; exact rfl; exact rfl; exact rfl; (· with_reducible first | exact pad_length _ | exact zeros64_length | exact tab_length _ _ | assumption)) | (apply hpAlloc F; exact rfl; exact rfl) | (apply hpSt F; exact rfl; exact rfl; exact rfl; exact rfl; (· repeat (first | exact Upd.head | apply Upd.tail)); (· with_reducible first | exact pad_length _ | exact zeros64_length | exact tab_length _ _ | assumption))))
            go_roundg (gk - 1)
            case measure => omega
            case rel => exact ⟨k + 1, by omega, by go_num, by rw [T1.out], by rw [T2.out], F.tail⟩
        · have T2 : Hid (cntU (ptS p d m (e2 p)) (k + 1) = cntU (ptS p d m (e2 p)) k + 2) := Lib.hid (by rw [U2.out, S2.out]; simp [hx, q2])
          have Q2 : Hid ((pad (powM p x (e2 p) m) == pad [1]) = true) := Lib.hid (by rw [E2'.out, q2])
          clear q2
          by_cases kp : k < p.toNat
          · have t3 : decide ((k : Int) ≥ p) = false := decide_eq_false (by omega)
            have t4 : decide (p ≤ (k : Int)) = false := decide_eq_false (by omega)
            have m1 : min k p.toNat = k := by omega
            have m2 : min (k + 1) p.toNat = k + 1 := by omega
            rw [m1] at c1 ⊢
            cases q1 : powM p x (e1 p) m == [1]
            · have T1 : Hid (cntU (ptS p d m (e1 p)) (min (k + 1) p.toNat) = cntU (ptS p d m (e1 p)) k) := Lib.hid (by rw [m2, U1.out, S1.out]; simp [hx, q1])
              have Q1 : Hid ((pad (powM p x (e1 p) m) == pad [1]) = false) := Lib.hid (by rw [E1'.out, q1])
              clear m1 m2 kp hx q1
              go_wp2_with (first | (go_at_call 49; refine (l01Deg_pad x _ AC.out.nz AL rfl _).mono ?_; rintro e w5 ⟨rfl, E5⟩; replace F := F.next E5) | (go_at_call 67; with_reducible refine (CP2.out _).mono ?_; rintro e w5 ⟨rfl, E5⟩; replace F := F.next E5) | (go_at_call 67; with_reducible refine (CP1.out _).mono ?_; rintro e w5 ⟨rfl, E5⟩; replace F := F.next E5) | (go_at_call 48; refine (l01One_any _).mono ?_; rintro e w5 ⟨rfl, E5⟩; replace F := F.next E5) | (apply wplEql; exact rfl; exact rfl; exact rfl; exact rfl; exact pad_length _; exact pad_length _; first | rw [Q2.out] | rw [Q1.out]) | ((with_reducible show wpList _ _ _ _ _ _); first | (apply hpLd F; exact rfl; exact rfl; exact rfl; (· repeat (first | exact Has.head | apply Has.tail))) | (apply hpBox F; exact rfl; exact rfl; exact rfl; (· with_reducible first | exact pad_length _ | exact zeros64_length | exact tab_length _ _ | assumption)) | (apply hpAlloc F; exact rfl; exact rfl) | (apply hpSt F; exact rfl; exact rfl; exact rfl; exact rfl; (· repeat (first | exact Upd.head | apply Upd.tail)); (· with_reducible first | exact pad_length _ | exact zeros64_length | exact tab_length _ _ | assumption))))
              go_roundg (gk - 1)
              case measure => omega
              case rel => exact ⟨k + 1, by omega, by go_num, by rw [T1.out], by rw [T2.out], F.tail⟩
            · have T1 : Hid (cntU (ptS p d m (e1 p)) (min (k + 1) p.toNat) = cntU (ptS p d m (e1 p)) k + 2) := Lib.hid (by rw [m2, U1.out, S1.out]; simp [hx, q1])
              have Q1 : Hid ((pad (powM p x (e1 p) m) == pad [1]) = true) := Lib.hid (by rw [E1'.out, q1])
              clear m1 m2 kp hx q1
              go_wp2_with (first | (go_at_call 49; refine (l01Deg_pad x _ AC.out.nz AL rfl _).mono ?_; rintro e w5 ⟨rfl, E5⟩; replace F := F.next E5) | (go_at_call 67; with_reducible refine (CP2.out _).mono ?_; rintro e w5 ⟨rfl, E5⟩; replace F := F.next E5) | (go_at_call 67; with_reducible refine (CP1.out _).mono ?_; rintro e w5 ⟨rfl, E5⟩; replace F := F.next E5) | (go_at_call 48; refine (l01One_any _).mono ?_; rintro e w5 ⟨rfl, E5⟩; replace F := F.next E5) | (apply wplEql; exact rfl; exact rfl; exact rfl; exact rfl; exact pad_length _; exact pad_length _; first | rw [Q2.out] | rw [Q1.out]) | ((with_reducible show wpList _ _ _ _ _ _); first | (apply hpLd F; exact rfl; exact rfl; exact rfl; (· repeat (first | exact Has.head | apply Has.tail))) | (apply hpBox F; exact rfl; exact rfl; exact rfl; (· with_reducible first | exact pad_length _ | exact zeros64_length | exact tab_length _ _ | assumption)) | (apply hpAlloc F; exact rfl; exact rfl) | (apply hpSt F; exact rfl; exact rfl; exact rfl; exact rfl; (· repeat (first | exact Upd.head | apply Upd.tail)); (· with_reducible first | exact pad_length _ | exact zeros64_length | exact tab_length _ _ | assumption))))
              go_roundg (gk - 1)
              case measure => omega
              case rel => exact ⟨k + 1, by omega, by go_num, by rw [T1.out], by rw [T2.out], F.tail⟩
          · have t3 : decide ((k : Int) ≥ p) = true := decide_eq_true (by omega)
            have t4 : decide (p ≤ (k : Int)) = true := decide_eq_true (by omega)
            have m1 : min k p.toNat = p.toNat := by omega
            have m2 : min (k + 1) p.toNat = p.toNat := by omega
            rw [m1] at c1 ⊢
            have T1 : Hid (cntU (ptS p d m (e1 p)) (min (k + 1) p.toNat) = cntU (ptS p d m (e1 p)) p.toNat) := Lib.hid (by rw [m2])
            have Q1 : Hid (e1 p = e1 p) := Lib.hid rfl
            clear m1 m2 kp hx
            go_wp2_with (first | (go_at_call 49; refine (l01Deg_pad x _ AC.out.nz AL rfl _).mono ?_; rintro e w5 ⟨rfl, E5⟩; replace F := F.next E5) | (go_at_call 67; with_reducible refine (CP2.out _).mono ?_; rintro e w5 ⟨rfl, E5⟩; replace F := F.next E5) | (go_at_call 67; with_reducible refine (CP1.out _).mono ?_; rintro e w5 ⟨rfl, E5⟩; replace F := F.next E5) | (go_at_call 48; refine (l01One_any _).mono ?_; rintro e w5 ⟨rfl, E5⟩; replace F := F.next E5) | (apply wplEql; exact rfl; exact rfl; exact rfl; exact rfl; exact pad_length _; exact pad_length _; first | rw [Q2.out] | rw [Q1.out]) | ((with_reducible show wpList _ _ _ _ _ _); first | (apply hpLd F; exact rfl; exact rfl; exact rfl; (· repeat (first | exact Has.head | apply Has.tail))) | (apply hpBox F; exact rfl; exact rfl; exact rfl; (· with_reducible first | exact pad_length _ | exact zeros64_length | exact tab_length _ _ | assumption)) | (apply hpAlloc F; exact rfl; exact rfl) | (apply hpSt F; exact rfl; exact rfl; exact rfl; exact rfl; (· repeat (first | exact Upd.head | apply Upd.tail)); (· with_reducible first | exact pad_length _ | exact zeros64_length | exact tab_length _ _ | assumption))))
            go_roundg (gk - 1)
            case measure => omega
            case rel => exact ⟨k + 1, by omega, by go_num, by rw [T1.out], by rw [T2.out], F.tail⟩

end Go.Proofs.YtaemiknaiccijaaGreat

/- Slices of polynomials: how they read, and what a slice literal of one makes. -/
namespace Go.Proofs.YtaemiknaiccijaaGreat
open Go.RowKit

/-- A slice of polynomials, at A, reads as L (raw arrays of 64). -/
def PsAt (w : World) (A : Option Addr) (L : List (List Int)) : Prop :=
  L.length ≤ 1000000 ∧ (∀ x ∈ L, x.length = 64) ∧ (0 < L.length → ∃ b o, A = some ⟨b, o, none⟩ ∧ ∀ i x, L[i]? = some x → w.rangeAt b (o + i * 64) (u8s x).toList)
theorem PsAt.nil (w : World) (A : Option Addr) : PsAt w A [] := ⟨by simp, by simp, fun h => absurd h (by simp)⟩
theorem u8s_toList (l : List Int) : (u8s l).toList = l.map (Value.int .u8) := by simp [u8s]
theorem range_u8s {w : World} {b o : Nat} {x : List Int} : w.rangeAt b o (u8s x).toList ↔ ∀ j, j < x.length → w.cell? ⟨b, o + j, none⟩ = some (.int .u8 (at0 x j)) := by
  unfold World.rangeAt
  rw [u8s_toList]
  constructor
  · intro h j hj
    have e : at0 x j = x[j] := by simp [at0, hj]
    exact h j _ (by rw [List.getElem?_map, List.getElem?_eq_getElem hj, e]; rfl)
  · intro h j v hv
    rw [List.getElem?_map, Option.map_eq_some_iff] at hv
    obtain ⟨y, hy, rfl⟩ := hv
    obtain ⟨hj, e⟩ := List.getElem?_eq_some_iff.1 hy
    have e2 : at0 x j = y := by simp [at0, hj, e]
    rw [h j hj, e2]
theorem range_below {w w' : World} {b o : Nat} {cs : List Value} (h : w.rangeAt b o cs) (hb : Ext w w') : w'.rangeAt b o cs := fun j v hv => by
  have c := h j v hv
  exact (hb.cell (World.block_lt_of_cell? w _ c)).trans c
theorem PsAt.below {w w' : World} {A : Option Addr} {L : List (List Int)} (h : PsAt w A L) (hb : Ext w w') : PsAt w' A L :=
  ⟨h.1, h.2.1, fun hn => by
    obtain ⟨b, o, e, hc⟩ := h.2.2 hn
    exact ⟨b, o, e, fun i x hx => range_below (hc i x hx) hb⟩⟩
theorem PsAt.drew {w : World} {A : Option Addr} {L : List (List Int)} (h : PsAt w A L) : PsAt w.drew A L := h
/-- One block that holds them all. -/
def flat : List (List Int) → List Int
  | [] => []
  | x :: xs => x ++ flat xs
theorem flat_length : ∀ (L : List (List Int)), (∀ x ∈ L, x.length = 64) → (flat L).length = L.length * 64
  | [], _ => rfl
  | x :: xs, h => by
    rw [flat, List.length_append, flat_length xs (fun y hy => h y (by simp [hy])), h x (by simp), List.length_cons]; omega
theorem flat_at : ∀ (L : List (List Int)) (i : Nat) (x : List Int), (∀ y ∈ L, y.length = 64) → L[i]? = some x → ∀ j, j < 64 → at0 (flat L) (i * 64 + j) = at0 x j
  | [], i, x, _, h => by simp at h
  | y :: ys, 0, x, hl, h => by
    simp only [List.getElem?_cons_zero, Option.some.injEq] at h
    subst h
    intro j hj
    rw [flat, Nat.zero_mul, Nat.zero_add, at0_append_lt _ _ _ (by rw [hl y (by simp)]; exact hj)]
  | y :: ys, i + 1, x, hl, h => by
    intro j hj
    have hy := hl y (by simp)
    rw [flat, at0_append_ge _ _ _ (by rw [hy]; omega), hy, show (i + 1) * 64 + j - 64 = i * 64 + j by omega]
    exact flat_at ys i x (fun z hz => hl z (by simp [hz])) (by simpa using h) j hj
theorem Arr.polys {w : World} {g : Nat} {T : TypeId} {L : List (List Int)} (h : Arr w g T (flat L)) (hl : ∀ x ∈ L, x.length = 64) (hm : L.length ≤ 1000000) : PsAt w (some ⟨g, 0, none⟩) L :=
  ⟨hm, hl, fun _ => ⟨g, 0, rfl, fun i x hx => range_u8s.2 fun j hj => by
    have hx64 := hl x (List.mem_of_getElem? hx)
    have hi := (List.getElem?_eq_some_iff.1 hx).1
    rw [Nat.zero_add, h.cell _ (by rw [flat_length L hl]; omega), flat_at L i x hl hx j (by omega)]⟩⟩

/-- A slice literal of one polynomial. -/
theorem fill_one (l : List Int) (hl : l.length = 64) (cells : Array Value) (hc : cells.size = 64) :
    Instr.fill (fun i => some (i * 64, 64)) cells [(0, .agg (u8s l))] = some (u8s l) := by
  obtain ⟨r, h1, h2, h3⟩ := Great.fill_dense (s := 64) (by decide) [.agg (u8s l)] 0 cells (by intro v hv; simp at hv; subst hv; simp [Value.cells, u8s_size, hl]) (by simp [hc])
  have e : Instr.fill (fun i => some (i * 64, 64)) cells (([Value.agg (u8s l)].zipIdx 0).map fun x => (x.2, x.1)) = Instr.fill (fun i => some (i * 64, 64)) cells [(0, .agg (u8s l))] := rfl
  rw [e] at h1
  rw [h1]
  congr 1
  apply Array.ext
  · rw [h2, hc, u8s_size, hl]
  · intro k k1 k2
    have := h3 k
    have k3 : k < 64 := by omega
    rw [if_pos (by simp; omega), Nat.div_eq_of_lt k3, Nat.mod_eq_of_lt k3, Array.getElem?_eq_getElem k1] at this
    simp only [Nat.sub_self, List.getElem?_cons_zero, Option.bind_some, Value.cells, Array.getElem?_eq_getElem k2, Option.some.injEq] at this
    exact this
theorem built_one (l : List Int) (hl : l.length = 64) : Tryz.prog.builtSlice 25 1 [(0, .agg (u8s l))] = some (u8s l) := by
  unfold Program.builtSlice
  have hi := infoPoly
  have hz : ((Tryz.prog.info? 25).bind (·.zero)).isSome = true := by kernel_rfl
  cases h : Tryz.prog.info? 25 with
  | none => rw [h] at hi; cases hi
  | some i =>
    rw [h] at hi hz
    have hs : i.size = 64 := by simpa using hi
    simp only [Option.bind_some] at hz
    obtain ⟨z, hz⟩ := Option.isSome_iff_exists.1 hz
    simp only [hz, hs]
    rw [if_neg (by decide)]
    exact fill_one l hl _ (by simp)
section
variable {ops : Array Oper} {rest : List Oper} {o : Oper} {a : Act} {w : World} {Q : Exit → Act → World → Prop}
theorem wplOne (x : Operand) (ho : o.op = .buildSlice 29 1 #[(0, x)]) (hgd : o.guard = none) {l : List Int} (hx : a.eval x = .agg (u8s l)) (hl : l.length = 64)
    (h : ∀ w' g, Ext w w' → Arr w' g 25 l → w.heap.size ≤ g → wpList Tryz.prog ops Q rest (a.put o.dst (.slice (some ⟨g, 0, none⟩) 1 1)) w') : wpList Tryz.prog ops Q (o :: rest) a w :=
  Great.wpList_buildSliceTo hgd _ _ 1 _ ho w.heap.size rfl o.dst rfl Tryz.underlying29 (u8s l) (by
    have e : ((#[(0, x)] : Array (Nat × Operand)).map fun (i, x) => (i, a.eval x)).toList = [(0, .agg (u8s l))] := by simp [hx]
    rw [e]; exact built_one l hl) (h _ _ ((Ext.refl w).alloc _) (Arr.new w _ l) (Nat.le_refl _))
/-- One polynomial out of a slice of them. -/
theorem wplElem (x : Operand) (ho : o.op = .load 25 x) (hgd : o.guard = none) {b p : Nat} {l : List Int} (hg : w.rangeAt b p (u8s l).toList) (hx : a.eval x = .pointer (some ⟨b, p, none⟩)) (hl : l.length = 64)
    (h : wpList Tryz.prog ops Q rest (a.put o.dst (.agg (u8s l))) w) : wpList Tryz.prog ops Q (o :: rest) a w :=
  wpList_load_mid hgd _ x ho b p hx _ _ hg Tryz.underlying25 rfl (by rw [infoPoly, u8s_toList, List.length_map, hl]) (by simpa using h)
end

end Go.Proofs.YtaemiknaiccijaaGreat

/- The reference's check of lists of polynomials. -/
namespace Go.Proofs.YtaemiknaiccijaaGreat
open Go.RowKit

def codeP (p : Int) (L : List (List Int)) : Int := if primeB p && L.all (isPB p) then 0 else 1
theorem codeP_good {p : Int} {L : List (List Int)} (h : codeP p L = 0) : PrimeP p ∧ ∀ x ∈ L, isPB p x = true := by
  unfold codeP at h
  split at h
  · rename_i e
    rw [Bool.and_eq_true, List.all_eq_true] at e
    exact ⟨(primeB_iff p).1 e.1, e.2⟩
  · omega

def CodeRel (p : Int) (L : List (List Int)) (w : World) (f : Nat) (i : Value) (wr : World) : Prop :=
  ∃ k : Nat, f + k = L.length ∧ i = .int .i64 k ∧ (L.take k).all (isPB p) = true ∧ Ext w wr

set_option maxRecDepth 100000 in
set_option maxHeartbeats 400000 in
theorem l01Code_any (p : Int) (A : Option Addr) (cap : Nat) (L : List (List Int)) (w : World) (hL : PsAt w A L) (hb : ∀ x ∈ L, IsB x) :
    Calls Tryz.prog 95 #[.int .i64 p, .slice A L.length cap] w fun e w' => e = .returned (.int .i64 (codeP p L)) ∧ Ext w w' := by
  have HB := Lib.hid hb
  have HL := Lib.hid hL
  have hm := hL.1
  have E := Ext.refl w
  clear hb hL
  by_cases hp : primeB p = true
  · have G : Hid (codeP p L = if L.all (isPB p) then 0 else 1) := Lib.hid (by rw [codeP, hp, Bool.true_and])
    go_enter Tryz.func95, Tryz.ntmps95
    go_wp2_with (first | (go_at_call 94; refine (l01Prime_any _ _).mono ?_; rintro e w' ⟨rfl, rfl⟩))
    go_loopg [5] L.length (fun f i wr => CodeRel p L w f i wr)
    case atStart => exact ⟨0, by omega, rfl, by simp, E⟩
    case round =>
      clear E
      obtain ⟨k, hf, rfl, hall, E⟩ := hrel
      have HA := Lib.hid hall
      have HLw := Lib.hid (HL.out.below E)
      clear hall
      by_cases hk : k < L.length
      · have t1 : decide ((k : Int) < (L.length : Int)) = true := decide_eq_true (by omega)
        obtain ⟨b, o, rfl, hr⟩ := HLw.out.2.2 (by omega)
        obtain ⟨x, hx⟩ : ∃ x, L[k]? = some x := ⟨L[k], List.getElem?_eq_getElem hk⟩
        have r := hr k x hx
        have R := Lib.hid r
        have x64 : x.length = 64 := HLw.out.2.1 x (List.mem_of_getElem? hx)
        have XB := Lib.hid (HB.out x (List.mem_of_getElem? hx))
        have TK : Hid (L.take (k + 1) = L.take k ++ [x]) := Lib.hid (by rw [List.take_add_one, hx]; rfl)
        have NA : Hid (isPB p x = false → L.all (isPB p) = false) := Lib.hid (fun h => by
          rw [Bool.eq_false_iff, Ne, List.all_eq_true]; intro h2; rw [h2 x (List.mem_of_getElem? hx)] at h; cases h)
        clear hr r hx
        cases hq : isPB p x with
        | true =>
          have Q := Lib.hid hq
          clear hq
          go_wp2_with (first | (go_at_call 61; refine (l01Is_any p x x64 XB.out _).mono ?_; rintro e w' ⟨rfl, E2⟩; replace E := E.tr E2; rw [Q.out]) | ((with_reducible show wpList _ _ _ _ _ _); apply wplElem; exact rfl; exact rfl; exact R.out; exact rfl; exact x64))
          go_roundg (gk - 1)
          case measure => omega
          case rel => exact ⟨k + 1, by omega, by go_num, by rw [TK.out, List.all_append, HA.out]; simp [Q.out], E⟩
        | false =>
          have Q := Lib.hid hq
          have G2 := Lib.hid (NA.out hq)
          clear hq
          go_wp2_with (first | (go_at_call 61; refine (l01Is_any p x x64 XB.out _).mono ?_; rintro e w' ⟨rfl, E2⟩; replace E := E.tr E2; rw [Q.out]) | ((with_reducible show wpList _ _ _ _ _ _); apply wplElem; exact rfl; exact rfl; exact R.out; exact rfl; exact x64))
          go_ret
          exact ⟨ret_int (by rw [G.out, G2.out]; rfl), E⟩
      · have t1 : decide ((k : Int) < (L.length : Int)) = false := decide_eq_false (by omega)
        have G2 : Hid (L.all (isPB p) = true) := Lib.hid (by have := HA.out; rwa [List.take_of_length_le (by omega)] at this)
        go_wp2
        go_ret
        exact ⟨ret_int (by rw [G.out, G2.out]; rfl), E⟩
  · have hp' : primeB p = false := by simpa using hp
    have G : Hid (codeP p L = 1) := Lib.hid (by rw [codeP, hp']; rfl)
    clear hp
    go_enter Tryz.func95, Tryz.ntmps95
    go_wp2_with (first | (go_at_call 94; refine (l01Prime_any _ _).mono ?_; rintro e w' ⟨rfl, rfl⟩))
    go_ret
    exact ⟨ret_int G.out.symm, E⟩

end Go.Proofs.YtaemiknaiccijaaGreat

/- The program's tests of lists of polynomials: closures, polysCode. -/
namespace Go.Proofs.YtaemiknaiccijaaGreat
open Go.RowKit

set_option maxRecDepth 100000 in
set_option maxHeartbeats 400000 in
theorem polysFn_any (p : Int) (B : Nat) (l : List Int) (hl : l.length = 64) (hb : IsB l) (w : World) (hc : w.cell? ⟨B, 0, none⟩ = some (.int .i64 p)) :
    Calls Tryz.prog 133 #[.agg (u8s l), .pointer (some ⟨B, 0, none⟩)] w fun e w' => e = .returned (.bool (allLt p l 64)) ∧ Ext w w' := by
  have CF := Lib.hid fun W => isPoly_any p l hl hb W
  have HL := Lib.hid hl
  have A1 := Lib.hid (Arr.new w 25 l)
  have C1 := cellE hc ((Ext.refl w).alloc (.cells (u8s l) 25))
  clear hl hb hc
  generalize allLt p l 64 = r at CF ⊢
  go_enter Tryz.func133, Tryz.ntmps133
  go_wp2_with (first | ((with_reducible show wpList _ _ _ _ _ _); apply wplL; exact rfl; exact rfl; exact A1.out; exact rfl; exact HL.out) | (go_at_call 103; (with_reducible refine (CF.out _).mono ?_); rintro e w' ⟨rfl, hE⟩))
  go_ret
  exact ⟨rfl, ((Ext.refl w).alloc _).tr hE⟩

/-- A function value that is a predicate on polynomials, from the world w0 on. -/
def PredP (w0 : World) (g : Nat) (cb : Array Value) (L : List (List Int)) (pr : List Int → Bool) : Prop :=
  ∀ W x, x ∈ L → Ext w0 W → Calls Tryz.prog g (#[.agg (u8s x)] ++ cb) W fun e w' => e = .returned (.bool (pr x)) ∧ Ext W w'
theorem PredP.below {w0 w : World} {g : Nat} {cb : Array Value} {L : List (List Int)} {pr : List Int → Bool} (h : PredP w0 g cb L pr) (hE : Ext w0 w) : PredP w g cb L pr :=
  fun W x hx hW => h W x hx (hE.tr hW)

set_option maxRecDepth 100000 in
set_option maxHeartbeats 400000 in
theorem notPolys_any (g : Nat) (cb : Array Value) (eg : ∀ args w, (callFunc g args).run Tryz.prog w = .ok (.enter g args) w) (C : Nat) (l : List Int) (r : Bool) (hl : l.length = 64) (w : World) (hf : w.cell? ⟨C, 0, none⟩ = some (.func (.func g) #[] cb))
    (hp : ∀ W, Ext w W → Calls Tryz.prog g (#[.agg (u8s l)] ++ cb) W fun e w' => e = .returned (.bool r) ∧ Ext W w') :
    Calls Tryz.prog 115 #[.agg (u8s l), .pointer (some ⟨C, 0, none⟩)] w fun e w' => e = .returned (.bool (!r)) ∧ Ext w w' := by
  have CF := Lib.hid hp
  have HL := Lib.hid hl
  have A1 := Lib.hid (Arr.new w 25 l)
  have E1 := (Ext.refl w).alloc (.cells (u8s l) 25)
  have C1 := cellE hf E1
  clear hl hp hf
  go_enter Tryz.func115, Tryz.ntmps115
  go_wp2_with (first | ((with_reducible show wpList _ _ _ _ _ _); apply wplL; exact rfl; exact rfl; exact A1.out; exact rfl; exact HL.out) | (go_at_fn g; (refine (CF.out _ E1).mono ?_); rintro e w' ⟨rfl, hE⟩))
  go_ret
  exact ⟨rfl, E1.tr hE⟩

def IxRelE {α : Type} (L : List α) (pr : α → Bool) (w : World) (f : Nat) (i : Value) (wr : World) : Prop :=
  ∃ k : Nat, f + k = L.length ∧ i = .int .i64 k ∧ (L.take k).any pr = false ∧ Ext w wr
def SgnE (b : Bool) (w : World) (e : Ending) (w' : World) : Prop := ∃ i : Int, e = .returned (.int .i64 i) ∧ Sgn b i ∧ Ext w w'

set_option maxRecDepth 100000 in
set_option maxHeartbeats 1000000 in
theorem indexPolys_any (g : Nat) (cb : Array Value) (eg : ∀ args w, (callFunc g args).run Tryz.prog w = .ok (.enter g args) w) (C : Nat) (A : Option Addr) (cap : Nat) (L : List (List Int)) (pr : List Int → Bool) (w : World) (hL : PsAt w A L) (hf : w.cell? ⟨C, 0, none⟩ = some (.func (.func g) #[] cb)) (hp : PredP w g cb L pr) :
    Calls Tryz.prog 131 #[.slice A L.length cap, .func (.func 115) #[] #[.pointer (some ⟨C, 0, none⟩)]] w (SgnE (L.any fun x => !pr x) w) := by
  have HL := Lib.hid hL
  have HF := Lib.hid hf
  have HP := Lib.hid hp
  have EG := Lib.hid eg
  have lm := hL.1
  clear hL hf hp eg
  go_enter Tryz.func131, Tryz.ntmps131
  go_wp2
  go_loopg [8] L.length (fun f i wr => IxRelE L (fun x => !pr x) w f i wr)
  case atStart => exact ⟨0, by omega, rfl, rfl, Ext.refl w⟩
  case round =>
    obtain ⟨k, hk, rfl, ha, E⟩ := hrel
    have HA := Lib.hid ha
    clear ha
    by_cases h : k < L.length
    · have HLw := Lib.hid (HL.out.below E)
      obtain ⟨b, o, rfl, hr⟩ := HLw.out.2.2 (by omega)
      have t1 : decide ((k : Int) < (L.length : Int)) = true := decide_eq_true (by omega)
      have R := Lib.hid (hr k L[k] (List.getElem?_eq_getElem h))
      have x64 : L[k].length = 64 := HLw.out.2.1 _ (List.getElem_mem h)
      have X64 := Lib.hid x64
      have KK := Lib.hid (notPolys_any g cb EG.out C L[k] (pr L[k]) x64 wr (cellE HF.out E) fun W hW => HP.out W _ (List.getElem_mem h) (E.tr hW))
      have AS := Lib.hid (any_take_succ L (fun x => !pr x) k h)
      have AN := Lib.hid (any_of_at L (fun x => !pr x) k h)
      generalize L[k] = x at R X64 KK AS AN
      clear hr x64
      cases hx : pr x with
      | true =>
        have q : Hid ((!pr x) = false) := Lib.hid (by rw [hx]; rfl)
        clear hx
        go_wp2_with (first | (go_at_call 115; (with_reducible refine KK.out.mono ?_); rintro e w' ⟨rfl, E2⟩; rw [q.out]) | ((with_reducible show wpList _ _ _ _ _ _); apply wplElem; exact rfl; exact rfl; exact R.out; exact rfl; exact X64.out))
        go_roundg (gk - 1)
        case measure => omega
        case rel => exact ⟨k + 1, by omega, by go_num, by rw [AS.out, HA.out, q.out]; rfl, E.tr E2⟩
      | false =>
        have q : Hid ((!pr x) = true) := Lib.hid (by rw [hx]; rfl)
        have AN2 := Lib.hid (AN.out q.out)
        clear hx
        go_wp2_with (first | (go_at_call 115; (with_reducible refine KK.out.mono ?_); rintro e w' ⟨rfl, E2⟩; rw [q.out]) | ((with_reducible show wpList _ _ _ _ _ _); apply wplElem; exact rfl; exact rfl; exact R.out; exact rfl; exact X64.out))
        go_ret
        exact ⟨k, rfl, ⟨fun _ => by omega, fun h2 => by rw [AN2.out] at h2; cases h2⟩, E.tr E2⟩
    · have t1 : decide ((k : Int) < (L.length : Int)) = false := decide_eq_false (by omega)
      have AN : Hid (L.any (fun x => !pr x) = false) := Lib.hid (by have := HA.out; rwa [List.take_of_length_le (by omega)] at this)
      go_wp2
      go_ret
      exact ⟨-1, rfl, ⟨(fun h2 => by rw [AN.out] at h2; cases h2), fun _ => rfl⟩, E⟩

set_option maxHeartbeats 400000 in
theorem containsPolys_any (g : Nat) (cb : Array Value) (eg : ∀ args w, (callFunc g args).run Tryz.prog w = .ok (.enter g args) w) (C : Nat) (A : Option Addr) (cap : Nat) (L : List (List Int)) (pr : List Int → Bool) (w : World) (hL : PsAt w A L) (hf : w.cell? ⟨C, 0, none⟩ = some (.func (.func g) #[] cb)) (hp : PredP w g cb L pr) :
    Calls Tryz.prog 114 #[.slice A L.length cap, .func (.func 115) #[] #[.pointer (some ⟨C, 0, none⟩)]] w fun e w' => e = .returned (.bool (L.any fun x => !pr x)) ∧ Ext w w' := by
  have K := Lib.hid (indexPolys_any g cb eg C A cap L pr w hL hf hp)
  clear hL hf hp eg
  generalize (L.any fun x => !pr x) = r at K
  go_enter Tryz.func114, Tryz.ntmps114
  cases r with
  | true =>
    go_wp2_with (first | (go_at_call 131; (with_reducible refine K.out.mono ?_); rintro e w' ⟨i, rfl, ⟨h1, h2⟩, E⟩; replace h1 := h1 rfl; clear h2; have h3 : decide (i ≥ 0) = true := decide_eq_true h1))
    go_ret
    exact ⟨rfl, E⟩
  | false =>
    go_wp2_with (first | (go_at_call 131; (with_reducible refine K.out.mono ?_); rintro e w' ⟨i, rfl, ⟨h1, h2⟩, E⟩; obtain rfl := h2 rfl; clear h1 h2))
    go_ret
    exact ⟨rfl, E⟩

set_option maxHeartbeats 400000 in
theorem arePolys_any (g : Nat) (cb : Array Value) (eg : ∀ args w, (callFunc g args).run Tryz.prog w = .ok (.enter g args) w) (A : Option Addr) (cap : Nat) (L : List (List Int)) (pr : List Int → Bool) (w : World) (hL : PsAt w A L) (hp : PredP w g cb L pr) :
    Calls Tryz.prog 86 #[.slice A L.length cap, .func (.func g) #[] cb] w fun e w' => e = .returned (.bool (L.all pr)) ∧ Ext w w' := by
  have G : Hid (L.all pr = !(L.any fun c => !pr c)) := Lib.hid (by rw [List.all_eq_not_any_not])
  rw [G.out]
  have E1 := (Ext.refl w).alloc (.cells #[.func (.func g) #[] cb] 108)
  have CF := Lib.hid (containsPolys_any g cb eg w.heap.size A cap L pr _ (hL.below E1) (cell_new w (.func (.func g) #[] cb) 108) (hp.below E1))
  clear G hL hp
  generalize (L.any fun c => !pr c) = r at CF
  go_enter Tryz.func86, Tryz.ntmps86
  go_wp2_with (first | (go_at_call 114; (with_reducible refine CF.out.mono ?_); rintro e w' ⟨rfl, E2⟩))
  go_ret
  exact ⟨rfl, E1.tr E2⟩

set_option maxHeartbeats 400000 in
theorem polysCode_any (p : Int) (A : Option Addr) (cap : Nat) (L : List (List Int)) (w : World) (hL : PsAt w A L) (hb : ∀ x ∈ L, IsB x) :
    Calls Tryz.prog 119 #[.int .i64 p, .slice A L.length cap] w fun e w' => e = .returned (.int .i64 (codeP p L)) ∧ Ext w w' := by
  have E1 := (Ext.refl w).alloc (.cells #[.int .i64 p] 2)
  have C1 : Hid ((w.alloc (.cells #[.int .i64 p] 2)).cell? ⟨w.heap.size, 0, none⟩ = some (.int .i64 p)) := Lib.hid (cell_new w _ _)
  have CF := Lib.hid (arePolys_any 133 #[.pointer (some ⟨w.heap.size, 0, none⟩)] (enters_of Tryz.func133 (by kernel_rfl) rfl) A cap L (fun x => allLt p x 64) _ (hL.below E1) (fun W x hx hW => polysFn_any p w.heap.size x (hL.2.1 x hx) (hb x hx) W (cellE C1.out hW)))
  by_cases hp : primeB p = true
  · have P := Lib.hid hp
    have G : Hid (codeP p L = if L.all (fun x => allLt p x 64) then 0 else 1) := Lib.hid (by
      rw [codeP, hp, Bool.true_and]
      have : (fun x => allLt p x 64) = isPB p := by funext x; rw [isPB, hp, Bool.and_true]
      rw [this])
    clear hL hb hp
    cases hr : L.all (fun x => allLt p x 64) with
    | true =>
      have R := Lib.hid hr
      clear hr
      go_enter Tryz.func119, Tryz.ntmps119
      go_wp2_with (first | (go_at_call 118; (with_reducible refine (isPrime_any p _).mono ?_); rintro e w' ⟨rfl, rfl⟩; rw [P.out]) | (go_at_call 86; (with_reducible refine CF.out.mono ?_); rintro e w' ⟨rfl, E2⟩; rw [R.out]))
      go_ret
      exact ⟨ret_int (by rw [G.out, R.out]; rfl), E1.tr E2⟩
    | false =>
      have R := Lib.hid hr
      clear hr
      go_enter Tryz.func119, Tryz.ntmps119
      go_wp2_with (first | (go_at_call 118; (with_reducible refine (isPrime_any p _).mono ?_); rintro e w' ⟨rfl, rfl⟩; rw [P.out]) | (go_at_call 86; (with_reducible refine CF.out.mono ?_); rintro e w' ⟨rfl, E2⟩; rw [R.out]))
      go_ret
      exact ⟨ret_int (by rw [G.out, R.out]; rfl), E1.tr E2⟩
  · have hp' : primeB p = false := by simpa using hp
    have P := Lib.hid hp'
    have G : Hid (codeP p L = 1) := Lib.hid (by rw [codeP, hp']; rfl)
    clear hL hb hp hp'
    go_enter Tryz.func119, Tryz.ntmps119
    go_wp2_with (first | (go_at_call 118; (with_reducible refine (isPrime_any p _).mono ?_); rintro e w' ⟨rfl, rfl⟩; rw [P.out]))
    go_ret
    exact ⟨ret_int G.out.symm, E1⟩

end Go.Proofs.YtaemiknaiccijaaGreat

/- The reference's derivative. -/
namespace Go.Proofs.YtaemiknaiccijaaGreat
open Go.RowKit

def derC (p : Int) (a : List Int) (i : Nat) : Int := ((i : Int) + 1) % p * at0 a (i + 1) % p
def derTo (p : Int) (a : List Int) (i : Nat) : List Int := tab 64 fun j => if j < i then derC p a j else 0
theorem derTo_zero (p : Int) (a : List Int) : derTo p a 0 = zeros64 := by rw [zeros64_tab]; exact tab_congr fun j _ => if_neg (by omega)
theorem derTo_step (p : Int) (a : List Int) (i : Nat) (h : i < 64) : (derTo p a i).set i (derC p a i) = derTo p a (i + 1) := by
  unfold derTo
  rw [tab_set 64 _ _ _ h]
  refine tab_congr fun j _ => ?_
  by_cases e : j = i
  · subst e; rw [if_pos rfl, if_pos (by omega)]
  · rw [if_neg e]
    by_cases h2 : j < i
    · rw [if_pos h2, if_pos (by omega)]
    · rw [if_neg h2, if_neg (by omega)]
theorem derTo_end (p : Int) (a : List Int) : derTo p a 63 = pad (derr p a) := tab_congr fun j _ => by rw [derr, at0_rowN]; rfl
theorem derr_can {p : Int} (hp : 0 < p) (a : List Int) : Can p (derr p a) := can_rowN hp fun _ _ => emod_range _ _ hp
theorem derr_le (p : Int) (a : List Int) : (derr p a).length ≤ 64 := Nat.le_trans (rowN_le _ _) (by decide)
/-- Go's own reckoning of a coefficient of the derivative. -/
theorem derC_go (p : Int) (a : List Int) (i : Nat) (lo : 2 ≤ p) (hi : p ≤ 7) (ha : 0 ≤ at0 a (i + 1)) :
    ((((i : Int) + 1) % p) * at0 a (i + 1)).tmod p % 256 = derC p a i := by
  have r1 := emod_range ((i : Int) + 1) p (by omega)
  have h2 : 0 ≤ ((i : Int) + 1) % p * at0 a (i + 1) := Int.mul_nonneg r1.1 ha
  have r2 := emod_range (((i : Int) + 1) % p * at0 a (i + 1)) p (by omega)
  rw [Int.tmod_eq_emod_of_nonneg h2, Int.emod_eq_of_lt r2.1 (by omega)]
  rfl
theorem isPB_pad {p : Int} {a : List Int} (hp : PrimeP p) (ha : Can p a) : isPB p (pad a) = true := by
  rw [isPB, (primeB_iff p).2 hp, Bool.and_true, allLt_iff]
  intro j hj
  rw [pad, at0_tab, if_pos hj]
  exact (ha.inp j).2
theorem codeP_one {p : Int} {a : List Int} (hp : PrimeP p) (ha : Can p a) : codeP p [pad a] = 0 := by
  rw [codeP, (primeB_iff p).2 hp, List.all_cons, isPB_pad hp ha]; rfl

def DerRel (p : Int) (a : List Int) (w : World) (ga g1 g2 f : Nat) (i : Value) (wr : World) : Prop :=
  ∃ n : Nat, f + n = 63 ∧ i = .int .i64 ((n : Int) + 1) ∧ Hp w wr [(g2, derTo p a n), (g1, zeros64), (ga, pad a)]

theorem one_polys {w : World} {g : Nat} {T : TypeId} {l : List Int} (h : Arr w g T l) (hl : l.length = 64) : PsAt w (some ⟨g, 0, none⟩) [l] :=
  Arr.polys (L := [l]) (by rw [flat, flat, List.append_nil]; exact h) (by intro x hx; simp at hx; subst hx; exact hl) (by simp)
theorem l01Code_one {p : Int} {a : List Int} (hp : PrimeP p) (ha : Can p a) (la : a.length ≤ 64) (w : World) (g T : Nat) (h : Arr w g T (pad a)) :
    Calls Tryz.prog 95 #[.int .i64 p, .slice (some ⟨g, 0, none⟩) 1 1] w fun e w' => e = .returned (.int .i64 0) ∧ Ext w w' := by
  have := l01Code_any p (some ⟨g, 0, none⟩) 1 [pad a] w (one_polys h (pad_length _)) (by
    intro x hx; simp at hx; subst hx; exact fun j => by rw [at0_pad a la]; have := ha.inp j; have := hp.hi; omega)
  rw [codeP_one hp ha] at this
  exact this

set_option maxRecDepth 100000 in
set_option maxHeartbeats 1000000 in
theorem DerivativeOf_any (p : Int) (a : List Int) (hp : PrimeP p) (ha : Can p a) (la : a.length ≤ 64) (w : World) :
    Calls Tryz.prog 62 #[.int .i64 p, .agg (u8s (pad a))] w fun e w' => e = .returned (.tuple #[.agg (u8s (pad (derr p a))), .int .i64 0]) ∧ Ext w w' := by
  have hz := zlit
  have lo := hp.lo
  have hi := hp.hi
  have HA := Lib.hid ha
  have CD := Lib.hid (fun w g T => l01Code_one hp ha la w g T)
  have BA : Hid (IsB (pad a)) := Lib.hid (fun j => by rw [at0_pad a la]; have := ha.inp j; omega)
  clear hp ha
  have F := Hp.start w
  go_enter Tryz.func62, Tryz.ntmps62
  go_wp2_with (first | ((with_reducible show wpList _ _ _ _ _ _); first | (apply hpLd F; exact rfl; exact rfl; exact rfl; (· repeat (first | exact Has.head | apply Has.tail))) | (apply hpBox F; exact rfl; exact rfl; exact rfl; (· with_reducible first | exact pad_length _ | exact zeros64_length | exact tab_length _ _ | assumption)) | (apply hpAlloc F; exact rfl; exact rfl) | (apply hpSt F; exact rfl; exact rfl; exact rfl; exact rfl; (· repeat (first | exact Upd.head | apply Upd.tail)); (· with_reducible first | exact pad_length _ | exact zeros64_length | exact tab_length _ _ | assumption))))
  clear F
  intro ga w1 F
  go_wp2_with (first | ((with_reducible show wpList _ _ _ _ _ _); first | (apply hpLd F; exact rfl; exact rfl; exact rfl; (· repeat (first | exact Has.head | apply Has.tail))) | (apply hpBox F; exact rfl; exact rfl; exact rfl; (· with_reducible first | exact pad_length _ | exact zeros64_length | exact tab_length _ _ | assumption)) | (apply hpAlloc F; exact rfl; exact rfl) | (apply hpSt F; exact rfl; exact rfl; exact rfl; exact rfl; (· repeat (first | exact Upd.head | apply Upd.tail)); (· with_reducible first | exact pad_length _ | exact zeros64_length | exact tab_length _ _ | assumption))))
  clear F
  intro g1 w2 F
  go_wp2_with (first | ((with_reducible show wpList _ _ _ _ _ _); apply wplOne; exact rfl; exact rfl; exact rfl; exact pad_length _; intro w3 g3 E3 A3 B3; replace F := F.next E3) | (go_at_call 95; refine (CD.out _ _ _ A3).mono ?_; rintro e w4 ⟨rfl, E4⟩; replace F := F.next E4) | ((with_reducible show wpList _ _ _ _ _ _); first | (apply hpLd F; exact rfl; exact rfl; exact rfl; (· repeat (first | exact Has.head | apply Has.tail))) | (apply hpBox F; exact rfl; exact rfl; exact rfl; (· with_reducible first | exact pad_length _ | exact zeros64_length | exact tab_length _ _ | assumption)) | (apply hpAlloc F; exact rfl; exact rfl) | (apply hpSt F; exact rfl; exact rfl; exact rfl; exact rfl; (· repeat (first | exact Upd.head | apply Upd.tail)); (· with_reducible first | exact pad_length _ | exact zeros64_length | exact tab_length _ _ | assumption))))
  clear F
  intro g2 w5 F
  go_wp2_with (first | ((with_reducible show wpList _ _ _ _ _ _); first | (apply hpLd F; exact rfl; exact rfl; exact rfl; (· repeat (first | exact Has.head | apply Has.tail))) | (apply hpBox F; exact rfl; exact rfl; exact rfl; (· with_reducible first | exact pad_length _ | exact zeros64_length | exact tab_length _ _ | assumption)) | (apply hpAlloc F; exact rfl; exact rfl) | (apply hpSt F; exact rfl; exact rfl; exact rfl; exact rfl; (· repeat (first | exact Upd.head | apply Upd.tail)); (· with_reducible first | exact pad_length _ | exact zeros64_length | exact tab_length _ _ | assumption))))
  clear F
  intro w6 F
  try simp only [List.set_cons_zero, List.set_cons_succ] at F
  go_wp2_with (first | ((with_reducible show wpList _ _ _ _ _ _); first | (apply hpLd F; exact rfl; exact rfl; exact rfl; (· repeat (first | exact Has.head | apply Has.tail))) | (apply hpBox F; exact rfl; exact rfl; exact rfl; (· with_reducible first | exact pad_length _ | exact zeros64_length | exact tab_length _ _ | assumption)) | (apply hpAlloc F; exact rfl; exact rfl) | (apply hpSt F; exact rfl; exact rfl; exact rfl; exact rfl; (· repeat (first | exact Upd.head | apply Upd.tail)); (· with_reducible first | exact pad_length _ | exact zeros64_length | exact tab_length _ _ | assumption))))
  go_loopg [8] 63 (fun f i wr => DerRel p a w ga g1 g2 f i wr)
  case atStart => exact ⟨0, rfl, rfl, by rw [derTo_zero]; exact F⟩
  case round =>
    clear F
    obtain ⟨n, hf, rfl, F⟩ := hrel
    by_cases hn : n < 63
    · have t1 : decide ((n : Int) + 1 < 64) = true := decide_eq_true (by omega)
      have c1 := F.cell 2 rfl (n + 1) (by omega)
      rw [at0_pad a la] at c1
      have f1 := F.free 0 rfl n
      have c2 := F.cell 0 rfl n (by omega)
      have b1 := BA.out (n + 1)
      rw [at0_pad a la] at b1
      have hp0 : p ≠ 0 := by omega
      have q1 := tmodB ((n : Int) + 1) p lo hi
      have q1' : 0 ≤ ((n : Int) + 1).tmod p := Int.tmod_nonneg _ (by omega)
      have q2 := mulB (by decide : (0:Int) ≤ 6) q1.1 q1.2 b1.1 b1.2
      have e1 := Int.tmod_eq_emod_of_nonneg (b := p) (show 0 ≤ (n : Int) + 1 by omega)
      rw [e1] at q1 q1' q2
      clear e1
      have q3 := tmodB (((n : Int) + 1) % p * at0 a (n + 1)) p lo hi
      have i1 : (0 : Int) ≤ (n : Int) + 1 := by omega
      have i2 : (n : Int) + 1 < 64 := by omega
      have i3 : ((n : Int) + 1).toNat = n + 1 := by omega
      have i4 : ((n : Int) + 1 - 1).toNat = n := by omega
      have i5 : (n : Int) + 1 - 1 = n := by omega
      have i6 : (n : Int) < 64 := by omega
      have i7 : (0 : Int) ≤ (n : Int) := by omega
      go_wp2
      refine wp_region_still_tail 13 (by kernel_rfl) (by kernel_rfl) ?_
      simp only [List.take_succ_cons, List.take_zero, List.drop_succ_cons, List.drop_zero]
      repeat (refine wpStill_step (fun K hK => ?_); go_simp; (try go_bits); refine hK _ ?_; clear hK K)
      refine wpStill_nil ?_
      change wpList _ _ _ _ _ wr.drew
      go_wp2
      have V := Lib.hid (derC_go p a n lo hi b1.1)
      have ST := Lib.hid (derTo_step p a n (by omega))
      go_roundg (gk - 1)
      case measure => omega
      case rel =>
        refine ⟨n + 1, by omega, by go_num, ?_⟩
        rw [← ST.out, ← V.out]
        exact (F.setCell 0 rfl n _).drew
    · have t1 : decide ((n : Int) + 1 < 64) = false := decide_eq_false (by omega)
      have G : Hid (derTo p a n = pad (derr p a)) := Lib.hid (by rw [show n = 63 by omega, derTo_end])
      rw [G.out] at F
      go_wp2_with (first | ((with_reducible show wpList _ _ _ _ _ _); first | (apply hpLd F; exact rfl; exact rfl; exact rfl; (· repeat (first | exact Has.head | apply Has.tail))) | (apply hpBox F; exact rfl; exact rfl; exact rfl; (· with_reducible first | exact pad_length _ | exact zeros64_length | exact tab_length _ _ | assumption)) | (apply hpAlloc F; exact rfl; exact rfl) | (apply hpSt F; exact rfl; exact rfl; exact rfl; exact rfl; (· repeat (first | exact Upd.head | apply Upd.tail)); (· with_reducible first | exact pad_length _ | exact zeros64_length | exact tab_length _ _ | assumption))))
      clear F
      intro w7 F
      try simp only [List.set_cons_zero, List.set_cons_succ] at F
      go_wp2_with (first | ((with_reducible show wpList _ _ _ _ _ _); first | (apply hpLd F; exact rfl; exact rfl; exact rfl; (· repeat (first | exact Has.head | apply Has.tail))) | (apply hpBox F; exact rfl; exact rfl; exact rfl; (· with_reducible first | exact pad_length _ | exact zeros64_length | exact tab_length _ _ | assumption)) | (apply hpAlloc F; exact rfl; exact rfl) | (apply hpSt F; exact rfl; exact rfl; exact rfl; exact rfl; (· repeat (first | exact Upd.head | apply Upd.tail)); (· with_reducible first | exact pad_length _ | exact zeros64_length | exact tab_length _ _ | assumption))))
      exact bodyPost_ret (res_ct rfl rfl rfl (F.at_ 1 rfl) (pad_length _) Tryz.underlying25 infoPoly) rfl ⟨rfl, F.ext⟩

end Go.Proofs.YtaemiknaiccijaaGreat

/- The reference's discriminants, CountPoints, CurvePolynomial. -/
namespace Go.Proofs.YtaemiknaiccijaaGreat
open Go.RowKit

def isDS (p : Int) (a : List Int) : Bool := (a.length == 2 || a.length == 4 || a.length == 6) && (gcdr p a (derr p a)).length == 1
def isD (p : Int) (l : List Int) : Bool := isPB p l && p != 2 && isDS p (trim l)

set_option maxHeartbeats 400000 in
theorem l07Is_bad (p : Int) (l : List Int) (hl : l.length = 64) (hb : IsB l) (hbad : isPB p l = false ∨ p = 2) (w : World) :
    Calls Tryz.prog 39 #[.int .i64 p, .agg (u8s l)] w fun e w' => e = .returned (.bool (isD p l)) ∧ Ext w w' := by
  have G : Hid (isD p l = false) := Lib.hid (by
    rcases hbad with h | h
    · rw [isD, h]; rfl
    · rw [isD, h]; simp)
  have HB := Lib.hid hb
  have hz := zlit
  have F := Hp.start w
  clear hb
  cases hq : isPB p l with
  | false =>
    have Q := Lib.hid hq
    clear hq hbad
    go_enter Tryz.func39, Tryz.ntmps39
    go_wp2_with (first | ((with_reducible show wpList _ _ _ _ _ _); first | (apply hpLd F; exact rfl; exact rfl; exact rfl; (· repeat (first | exact Has.head | apply Has.tail))) | (apply hpBox F; exact rfl; exact rfl; exact rfl; (· with_reducible first | exact pad_length _ | exact zeros64_length | exact tab_length _ _ | assumption)) | (apply hpAlloc F; exact rfl; exact rfl) | (apply hpSt F; exact rfl; exact rfl; exact rfl; exact rfl; (· repeat (first | exact Upd.head | apply Upd.tail)); (· with_reducible first | exact pad_length _ | exact zeros64_length | exact tab_length _ _ | assumption))))
    clear F
    intro g w1 F
    go_wp2_with (first | (go_at_call 61; refine (l01Is_any p l hl HB.out _).mono ?_; rintro e w2 ⟨rfl, E2⟩; replace F := F.next E2; rw [Q.out]) | ((with_reducible show wpList _ _ _ _ _ _); first | (apply hpLd F; exact rfl; exact rfl; exact rfl; (· repeat (first | exact Has.head | apply Has.tail))) | (apply hpBox F; exact rfl; exact rfl; exact rfl; (· with_reducible first | exact pad_length _ | exact zeros64_length | exact tab_length _ _ | assumption)) | (apply hpAlloc F; exact rfl; exact rfl) | (apply hpSt F; exact rfl; exact rfl; exact rfl; exact rfl; (· repeat (first | exact Upd.head | apply Upd.tail)); (· with_reducible first | exact pad_length _ | exact zeros64_length | exact tab_length _ _ | assumption))))
    go_ret
    exact ⟨ret_bool G.out.symm, F.ext⟩
  | true =>
    have p2 : p = 2 := by simpa [hq] using hbad
    subst p2
    have Q := Lib.hid hq
    clear hq hbad
    go_enter Tryz.func39, Tryz.ntmps39
    go_wp2_with (first | ((with_reducible show wpList _ _ _ _ _ _); first | (apply hpLd F; exact rfl; exact rfl; exact rfl; (· repeat (first | exact Has.head | apply Has.tail))) | (apply hpBox F; exact rfl; exact rfl; exact rfl; (· with_reducible first | exact pad_length _ | exact zeros64_length | exact tab_length _ _ | assumption)) | (apply hpAlloc F; exact rfl; exact rfl) | (apply hpSt F; exact rfl; exact rfl; exact rfl; exact rfl; (· repeat (first | exact Upd.head | apply Upd.tail)); (· with_reducible first | exact pad_length _ | exact zeros64_length | exact tab_length _ _ | assumption))))
    clear F
    intro g w1 F
    go_wp2_with (first | (go_at_call 61; refine (l01Is_any 2 l hl HB.out _).mono ?_; rintro e w2 ⟨rfl, E2⟩; replace F := F.next E2; rw [Q.out]) | ((with_reducible show wpList _ _ _ _ _ _); first | (apply hpLd F; exact rfl; exact rfl; exact rfl; (· repeat (first | exact Has.head | apply Has.tail))) | (apply hpBox F; exact rfl; exact rfl; exact rfl; (· with_reducible first | exact pad_length _ | exact zeros64_length | exact tab_length _ _ | assumption)) | (apply hpAlloc F; exact rfl; exact rfl) | (apply hpSt F; exact rfl; exact rfl; exact rfl; exact rfl; (· repeat (first | exact Upd.head | apply Upd.tail)); (· with_reducible first | exact pad_length _ | exact zeros64_length | exact tab_length _ _ | assumption))))
    go_ret
    exact ⟨ret_bool G.out.symm, F.ext⟩

set_option maxRecDepth 100000 in
set_option maxHeartbeats 1000000 in
theorem l07Is_good (p : Int) (a : List Int) (hp : OddP p) (ha : Can p a) (la : a.length ≤ 64) (w : World) :
    Calls Tryz.prog 39 #[.int .i64 p, .agg (u8s (pad a))] w fun e w' => e = .returned (.bool (isDS p a)) ∧ Ext w w' := by
  have HP := Lib.hid hp.prime
  have HA := Lib.hid ha
  have BA : Hid (IsB (pad a)) := Lib.hid (fun j => by rw [at0_pad a la]; have := ha.inp j; have := hp.prime.hi; omega)
  have Q := Lib.hid (isPB_pad hp.prime ha)
  have p2 : decide (p = 2) = false := decide_eq_false (by rcases hp with rfl | rfl | rfl <;> decide)
  have p3 : (p == 2) = false := by simpa using p2
  have lo := HP.out.lo
  have DC := Lib.hid (derr_can (show 0 < p by omega) a)
  have DL := derr_le p a
  have GC := Lib.hid (gcdr_can (show 0 < p by omega) a (derr p a))
  have GL := gcdr_le HP.out ha DC.out la DL
  have hz := zlit
  have F := Hp.start w
  clear hp ha
  go_enter Tryz.func39, Tryz.ntmps39
  go_wp2_with (first | ((with_reducible show wpList _ _ _ _ _ _); first | (apply hpLd F; exact rfl; exact rfl; exact rfl; (· repeat (first | exact Has.head | apply Has.tail))) | (apply hpBox F; exact rfl; exact rfl; exact rfl; (· with_reducible first | exact pad_length _ | exact zeros64_length | exact tab_length _ _ | assumption)) | (apply hpAlloc F; exact rfl; exact rfl) | (apply hpSt F; exact rfl; exact rfl; exact rfl; exact rfl; (· repeat (first | exact Upd.head | apply Upd.tail)); (· with_reducible first | exact pad_length _ | exact zeros64_length | exact tab_length _ _ | assumption))))
  clear F
  intro ga w1 F
  have GB : Hid ((((gcdr p a (derr p a)).length : Int) - 1 == 0) = ((gcdr p a (derr p a)).length == 1)) := Lib.hid (by
    rw [Bool.eq_iff_iff, beq_iff_eq, beq_iff_eq]; omega)
  by_cases hd : a.length = 2 ∨ a.length = 4 ∨ a.length = 6
  · have G : Hid (isDS p a = ((gcdr p a (derr p a)).length == 1)) := Lib.hid (by
      rcases hd with h | h | h <;> simp [isDS, h])
    have hd' : (((a.length : Int) - 1 != 1) = false) ∨ (((a.length : Int) - 1 != 1) = true ∧ ((a.length : Int) - 1 != 3) = false) ∨ (((a.length : Int) - 1 != 1) = true ∧ ((a.length : Int) - 1 != 3) = true ∧ ((a.length : Int) - 1 != 5) = false) := by
      rcases hd with h | h | h <;> rw [h] <;> decide
    clear hd
    rcases hd' with t1 | ⟨t1, t2⟩ | ⟨t1, t2, t3⟩
    · skip
      go_wp2_with (first | (go_at_call 61; refine (l01Is_any p (pad a) (pad_length _) BA.out _).mono ?_; rintro e w2 ⟨rfl, E2⟩; replace F := F.next E2; rw [Q.out]) | (go_at_call 49; refine (l01Deg_pad a _ HA.out.nz la rfl _).mono ?_; rintro e w2 ⟨rfl, E2⟩; replace F := F.next E2) | (go_at_call 62; refine (DerivativeOf_any p a HP.out HA.out la _).mono ?_; rintro e w2 ⟨rfl, E2⟩; replace F := F.next E2) | ((with_reducible show wpList _ _ _ _ _ _); first | (apply hpLd F; exact rfl; exact rfl; exact rfl; (· repeat (first | exact Has.head | apply Has.tail))) | (apply hpBox F; exact rfl; exact rfl; exact rfl; (· with_reducible first | exact pad_length _ | exact zeros64_length | exact tab_length _ _ | assumption)) | (apply hpAlloc F; exact rfl; exact rfl) | (apply hpSt F; exact rfl; exact rfl; exact rfl; exact rfl; (· repeat (first | exact Upd.head | apply Upd.tail)); (· with_reducible first | exact pad_length _ | exact zeros64_length | exact tab_length _ _ | assumption))))
      clear F
      intro g6 w6 F
      go_wp2_with (first | ((with_reducible show wpList _ _ _ _ _ _); first | (apply hpLd F; exact rfl; exact rfl; exact rfl; (· repeat (first | exact Has.head | apply Has.tail))) | (apply hpBox F; exact rfl; exact rfl; exact rfl; (· with_reducible first | exact pad_length _ | exact zeros64_length | exact tab_length _ _ | assumption)) | (apply hpAlloc F; exact rfl; exact rfl) | (apply hpSt F; exact rfl; exact rfl; exact rfl; exact rfl; (· repeat (first | exact Upd.head | apply Upd.tail)); (· with_reducible first | exact pad_length _ | exact zeros64_length | exact tab_length _ _ | assumption))))
      clear F
      intro w7 F
      try simp only [List.set_cons_zero, List.set_cons_succ] at F
      go_wp2_with (first | (go_at_call 63; refine (l01Gcd_any p a (derr p a) HP.out HA.out DC.out la DL _).mono ?_; rintro e w8 ⟨rfl, E2⟩; replace F := F.next E2) | (go_at_call 49; refine (l01Deg_pad _ _ GC.out.nz GL rfl _).mono ?_; rintro e w9 ⟨rfl, E2⟩; replace F := F.next E2) | ((with_reducible show wpList _ _ _ _ _ _); first | (apply hpLd F; exact rfl; exact rfl; exact rfl; (· repeat (first | exact Has.head | apply Has.tail))) | (apply hpBox F; exact rfl; exact rfl; exact rfl; (· with_reducible first | exact pad_length _ | exact zeros64_length | exact tab_length _ _ | assumption)) | (apply hpAlloc F; exact rfl; exact rfl) | (apply hpSt F; exact rfl; exact rfl; exact rfl; exact rfl; (· repeat (first | exact Upd.head | apply Upd.tail)); (· with_reducible first | exact pad_length _ | exact zeros64_length | exact tab_length _ _ | assumption))))
      go_ret
      exact ⟨ret_bool (by rw [G.out, GB.out]), F.ext⟩
    · skip
      go_wp2_with (first | (go_at_call 61; refine (l01Is_any p (pad a) (pad_length _) BA.out _).mono ?_; rintro e w2 ⟨rfl, E2⟩; replace F := F.next E2; rw [Q.out]) | (go_at_call 49; refine (l01Deg_pad a _ HA.out.nz la rfl _).mono ?_; rintro e w2 ⟨rfl, E2⟩; replace F := F.next E2) | (go_at_call 62; refine (DerivativeOf_any p a HP.out HA.out la _).mono ?_; rintro e w2 ⟨rfl, E2⟩; replace F := F.next E2) | ((with_reducible show wpList _ _ _ _ _ _); first | (apply hpLd F; exact rfl; exact rfl; exact rfl; (· repeat (first | exact Has.head | apply Has.tail))) | (apply hpBox F; exact rfl; exact rfl; exact rfl; (· with_reducible first | exact pad_length _ | exact zeros64_length | exact tab_length _ _ | assumption)) | (apply hpAlloc F; exact rfl; exact rfl) | (apply hpSt F; exact rfl; exact rfl; exact rfl; exact rfl; (· repeat (first | exact Upd.head | apply Upd.tail)); (· with_reducible first | exact pad_length _ | exact zeros64_length | exact tab_length _ _ | assumption))))
      clear F
      intro g6 w6 F
      go_wp2_with (first | ((with_reducible show wpList _ _ _ _ _ _); first | (apply hpLd F; exact rfl; exact rfl; exact rfl; (· repeat (first | exact Has.head | apply Has.tail))) | (apply hpBox F; exact rfl; exact rfl; exact rfl; (· with_reducible first | exact pad_length _ | exact zeros64_length | exact tab_length _ _ | assumption)) | (apply hpAlloc F; exact rfl; exact rfl) | (apply hpSt F; exact rfl; exact rfl; exact rfl; exact rfl; (· repeat (first | exact Upd.head | apply Upd.tail)); (· with_reducible first | exact pad_length _ | exact zeros64_length | exact tab_length _ _ | assumption))))
      clear F
      intro w7 F
      try simp only [List.set_cons_zero, List.set_cons_succ] at F
      go_wp2_with (first | (go_at_call 63; refine (l01Gcd_any p a (derr p a) HP.out HA.out DC.out la DL _).mono ?_; rintro e w8 ⟨rfl, E2⟩; replace F := F.next E2) | (go_at_call 49; refine (l01Deg_pad _ _ GC.out.nz GL rfl _).mono ?_; rintro e w9 ⟨rfl, E2⟩; replace F := F.next E2) | ((with_reducible show wpList _ _ _ _ _ _); first | (apply hpLd F; exact rfl; exact rfl; exact rfl; (· repeat (first | exact Has.head | apply Has.tail))) | (apply hpBox F; exact rfl; exact rfl; exact rfl; (· with_reducible first | exact pad_length _ | exact zeros64_length | exact tab_length _ _ | assumption)) | (apply hpAlloc F; exact rfl; exact rfl) | (apply hpSt F; exact rfl; exact rfl; exact rfl; exact rfl; (· repeat (first | exact Upd.head | apply Upd.tail)); (· with_reducible first | exact pad_length _ | exact zeros64_length | exact tab_length _ _ | assumption))))
      go_ret
      exact ⟨ret_bool (by rw [G.out, GB.out]), F.ext⟩
    · skip
      go_wp2_with (first | (go_at_call 61; refine (l01Is_any p (pad a) (pad_length _) BA.out _).mono ?_; rintro e w2 ⟨rfl, E2⟩; replace F := F.next E2; rw [Q.out]) | (go_at_call 49; refine (l01Deg_pad a _ HA.out.nz la rfl _).mono ?_; rintro e w2 ⟨rfl, E2⟩; replace F := F.next E2) | (go_at_call 62; refine (DerivativeOf_any p a HP.out HA.out la _).mono ?_; rintro e w2 ⟨rfl, E2⟩; replace F := F.next E2) | ((with_reducible show wpList _ _ _ _ _ _); first | (apply hpLd F; exact rfl; exact rfl; exact rfl; (· repeat (first | exact Has.head | apply Has.tail))) | (apply hpBox F; exact rfl; exact rfl; exact rfl; (· with_reducible first | exact pad_length _ | exact zeros64_length | exact tab_length _ _ | assumption)) | (apply hpAlloc F; exact rfl; exact rfl) | (apply hpSt F; exact rfl; exact rfl; exact rfl; exact rfl; (· repeat (first | exact Upd.head | apply Upd.tail)); (· with_reducible first | exact pad_length _ | exact zeros64_length | exact tab_length _ _ | assumption))))
      clear F
      intro g6 w6 F
      go_wp2_with (first | ((with_reducible show wpList _ _ _ _ _ _); first | (apply hpLd F; exact rfl; exact rfl; exact rfl; (· repeat (first | exact Has.head | apply Has.tail))) | (apply hpBox F; exact rfl; exact rfl; exact rfl; (· with_reducible first | exact pad_length _ | exact zeros64_length | exact tab_length _ _ | assumption)) | (apply hpAlloc F; exact rfl; exact rfl) | (apply hpSt F; exact rfl; exact rfl; exact rfl; exact rfl; (· repeat (first | exact Upd.head | apply Upd.tail)); (· with_reducible first | exact pad_length _ | exact zeros64_length | exact tab_length _ _ | assumption))))
      clear F
      intro w7 F
      try simp only [List.set_cons_zero, List.set_cons_succ] at F
      go_wp2_with (first | (go_at_call 63; refine (l01Gcd_any p a (derr p a) HP.out HA.out DC.out la DL _).mono ?_; rintro e w8 ⟨rfl, E2⟩; replace F := F.next E2) | (go_at_call 49; refine (l01Deg_pad _ _ GC.out.nz GL rfl _).mono ?_; rintro e w9 ⟨rfl, E2⟩; replace F := F.next E2) | ((with_reducible show wpList _ _ _ _ _ _); first | (apply hpLd F; exact rfl; exact rfl; exact rfl; (· repeat (first | exact Has.head | apply Has.tail))) | (apply hpBox F; exact rfl; exact rfl; exact rfl; (· with_reducible first | exact pad_length _ | exact zeros64_length | exact tab_length _ _ | assumption)) | (apply hpAlloc F; exact rfl; exact rfl) | (apply hpSt F; exact rfl; exact rfl; exact rfl; exact rfl; (· repeat (first | exact Upd.head | apply Upd.tail)); (· with_reducible first | exact pad_length _ | exact zeros64_length | exact tab_length _ _ | assumption))))
      go_ret
      exact ⟨ret_bool (by rw [G.out, GB.out]), F.ext⟩
  · have G : Hid (isDS p a = false) := Lib.hid (by
      have h1 : (a.length == 2) = false := by simp; omega
      have h2 : (a.length == 4) = false := by simp; omega
      have h3 : (a.length == 6) = false := by simp; omega
      rw [isDS, h1, h2, h3]; rfl)
    have t1 : ((a.length : Int) - 1 != 1) = true := by simp; omega
    have t2 : ((a.length : Int) - 1 != 3) = true := by simp; omega
    have t3 : ((a.length : Int) - 1 != 5) = true := by simp; omega
    clear hd
    go_wp2_with (first | (go_at_call 61; refine (l01Is_any p (pad a) (pad_length _) BA.out _).mono ?_; rintro e w2 ⟨rfl, E2⟩; replace F := F.next E2; rw [Q.out]) | (go_at_call 49; refine (l01Deg_pad a _ HA.out.nz la rfl _).mono ?_; rintro e w2 ⟨rfl, E2⟩; replace F := F.next E2) | (go_at_call 62; refine (DerivativeOf_any p a HP.out HA.out la _).mono ?_; rintro e w2 ⟨rfl, E2⟩; replace F := F.next E2) | ((with_reducible show wpList _ _ _ _ _ _); first | (apply hpLd F; exact rfl; exact rfl; exact rfl; (· repeat (first | exact Has.head | apply Has.tail))) | (apply hpBox F; exact rfl; exact rfl; exact rfl; (· with_reducible first | exact pad_length _ | exact zeros64_length | exact tab_length _ _ | assumption)) | (apply hpAlloc F; exact rfl; exact rfl) | (apply hpSt F; exact rfl; exact rfl; exact rfl; exact rfl; (· repeat (first | exact Upd.head | apply Upd.tail)); (· with_reducible first | exact pad_length _ | exact zeros64_length | exact tab_length _ _ | assumption))))
    go_ret
    exact ⟨ret_bool G.out.symm, F.ext⟩

end Go.Proofs.YtaemiknaiccijaaGreat

/- The reference's CountPoints and CurvePolynomial. -/
namespace Go.Proofs.YtaemiknaiccijaaGreat
open Go.RowKit

/-- A whole array that is a polynomial over the field of p elements is the array of its row. -/
theorem isPB_row {p : Int} {l : List Int} (hl : l.length = 64) (hb : IsB l) (h : isPB p l = true) : PrimeP p ∧ Can p (trim l) ∧ (trim l).length ≤ 64 ∧ pad (trim l) = l := by
  rw [isPB, Bool.and_eq_true, allLt_iff] at h
  have hp := (primeB_iff p).1 h.2
  refine ⟨hp, can_trim fun j => ?_, ?_, pad_trim hl⟩
  · rcases Nat.lt_or_ge j 64 with hj | hj
    · exact ⟨(hb j).1, h.1 j hj⟩
    · rw [at0_out l j (by omega)]; have := hp.lo; omega
  · rw [← hl]; exact rowN_le _ _
theorem l07Is_any (p : Int) (l : List Int) (hl : l.length = 64) (hb : IsB l) (w : World) :
    Calls Tryz.prog 39 #[.int .i64 p, .agg (u8s l)] w fun e w' => e = .returned (.bool (isD p l)) ∧ Ext w w' := by
  by_cases h : isPB p l = true ∧ p ≠ 2
  · obtain ⟨hp, hc, h64, he⟩ := isPB_row hl hb h.1
    have ho : OddP p := by rcases hp with h' | h' | h' | h' <;> first | exact absurd h' h.2 | (unfold OddP; omega)
    have := l07Is_good p (trim l) ho hc h64 w
    rw [he] at this
    have e : isD p l = isDS p (trim l) := by
      rw [isD, h.1, show (p != 2) = true by simpa using h.2]; rfl
    rw [e]; exact this
  · refine l07Is_bad p l hl hb ?_ w
    by_cases h1 : isPB p l = true
    · exact .inr (Decidable.byContradiction fun h2 => h ⟨h1, h2⟩)
    · exact .inl (by simpa using h1)
theorem isD_row {p : Int} {l : List Int} (hl : l.length = 64) (hb : IsB l) (h : isD p l = true) : OddP p ∧ Can p (trim l) ∧ (trim l).length ≤ 64 ∧ pad (trim l) = l ∧ isDS p (trim l) = true := by
  rw [isD, Bool.and_eq_true, Bool.and_eq_true] at h
  obtain ⟨⟨h1, h2⟩, h3⟩ := h
  obtain ⟨hp, hc, h64, he⟩ := isPB_row hl hb h1
  have h2' : p ≠ 2 := by simpa using h2
  exact ⟨by rcases hp with h' | h' | h' | h' <;> first | exact absurd h' h2' | (unfold OddP; omega), hc, h64, he, h3⟩

/-- A call that hands back a slice of whole numbers and a code. -/
def GivesInts (L : List Int) (c : Int) (w : World) (e : Ending) (w' : World) : Prop :=
  ∃ A cap, e = .returned (.tuple #[.slice A L.length cap, .int .i64 c]) ∧ RowAt w' A L ∧ Ext w w'

def n1S (p : Int) (d : List Int) : Int := cntU (ptS p d (fld p) (e1 p)) p.toNat
def n2S (p : Int) (d : List Int) : Int := cntU (ptS p d (fld p) (e2 p)) (p.toNat * p.toNat)
def countS (p : Int) (l : List Int) : List Int := if isD p l then [n1S p (trim l), n2S p (trim l)] else []

set_option maxRecDepth 100000 in
set_option maxHeartbeats 1000000 in
theorem CountPoints_any (p : Int) (l : List Int) (hl : l.length = 64) (hb : IsB l) (w : World) :
    Calls Tryz.prog 20 #[.int .i64 p, .agg (u8s l)] w (GivesInts (countS p l) (if isD p l then 0 else 1) w) := by
  have HB := Lib.hid hb
  have hz := zlit
  have F := Hp.start w
  cases hd : isD p l with
  | false =>
    have Q := Lib.hid hd
    have G : Hid (countS p l = []) := Lib.hid (by rw [countS, hd]; rfl)
    clear hb hd
    go_enter Tryz.func20, Tryz.ntmps20
    go_wp2_with (first | ((with_reducible show wpList _ _ _ _ _ _); first | (apply hpLd F; exact rfl; exact rfl; exact rfl; (· repeat (first | exact Has.head | apply Has.tail))) | (apply hpBox F; exact rfl; exact rfl; exact rfl; (· with_reducible first | exact pad_length _ | exact zeros64_length | exact tab_length _ _ | assumption)) | (apply hpAlloc F; exact rfl; exact rfl) | (apply hpSt F; exact rfl; exact rfl; exact rfl; exact rfl; (· repeat (first | exact Upd.head | apply Upd.tail)); (· with_reducible first | exact pad_length _ | exact zeros64_length | exact tab_length _ _ | assumption))))
    clear F
    intro ga w1 F
    go_wp2_with (first | (go_at_call 39; refine (l07Is_any p l hl HB.out _).mono ?_; rintro e w2 ⟨rfl, E2⟩; replace F := F.next E2; rw [Q.out]) | ((with_reducible show wpList _ _ _ _ _ _); first | (apply hpLd F; exact rfl; exact rfl; exact rfl; (· repeat (first | exact Has.head | apply Has.tail))) | (apply hpBox F; exact rfl; exact rfl; exact rfl; (· with_reducible first | exact pad_length _ | exact zeros64_length | exact tab_length _ _ | assumption)) | (apply hpAlloc F; exact rfl; exact rfl) | (apply hpSt F; exact rfl; exact rfl; exact rfl; exact rfl; (· repeat (first | exact Upd.head | apply Upd.tail)); (· with_reducible first | exact pad_length _ | exact zeros64_length | exact tab_length _ _ | assumption))))
    go_ret2
    rw [G.out]
    exact ⟨none, 0, rfl, RowAt.nil _ _, F.ext⟩
  | true =>
    have Q := Lib.hid hd
    have hr := isD_row hl hb hd
    have G : Hid (countS p l = [n1S p (trim l), n2S p (trim l)]) := Lib.hid (by rw [countS, hd]; rfl)
    have HO := Lib.hid hr.1
    have HC := Lib.hid hr.2.1
    have L64 := hr.2.2.1
    have PC := l07Points_any p (trim l) HO.out HC.out L64
    rw [hr.2.2.2.1] at PC
    replace PC := Lib.hid PC
    clear hb hd hr
    go_enter Tryz.func20, Tryz.ntmps20
    go_wp2_with (first | ((with_reducible show wpList _ _ _ _ _ _); first | (apply hpLd F; exact rfl; exact rfl; exact rfl; (· repeat (first | exact Has.head | apply Has.tail))) | (apply hpBox F; exact rfl; exact rfl; exact rfl; (· with_reducible first | exact pad_length _ | exact zeros64_length | exact tab_length _ _ | assumption)) | (apply hpAlloc F; exact rfl; exact rfl) | (apply hpSt F; exact rfl; exact rfl; exact rfl; exact rfl; (· repeat (first | exact Upd.head | apply Upd.tail)); (· with_reducible first | exact pad_length _ | exact zeros64_length | exact tab_length _ _ | assumption))))
    clear F
    intro ga w1 F
    go_wp2_with (first | (go_at_call 39; refine (l07Is_any p l hl HB.out _).mono ?_; rintro e w2 ⟨rfl, E2⟩; replace F := F.next E2; rw [Q.out]) | (go_at_call 40; refine (PC.out _).mono ?_; rintro e w3 ⟨rfl, E2⟩; replace F := F.next E2) | ((with_reducible show wpList _ _ _ _ _ _); first | (apply hpLd F; exact rfl; exact rfl; exact rfl; (· repeat (first | exact Has.head | apply Has.tail))) | (apply hpBox F; exact rfl; exact rfl; exact rfl; (· with_reducible first | exact pad_length _ | exact zeros64_length | exact tab_length _ _ | assumption)) | (apply hpAlloc F; exact rfl; exact rfl) | (apply hpSt F; exact rfl; exact rfl; exact rfl; exact rfl; (· repeat (first | exact Upd.head | apply Upd.tail)); (· with_reducible first | exact pad_length _ | exact zeros64_length | exact tab_length _ _ | assumption))))
    go_ret2
    rw [G.out]
    exact ⟨_, 2, rfl, (Ints.new _ 2 [n1S p (trim l), n2S p (trim l)]).row' (by simp), F.ext.alloc _⟩

theorem sq_range {a : Int} (h1 : -20 ≤ a) (h2 : a ≤ 20) : 0 ≤ a * a ∧ a * a ≤ 400 := by
  constructor
  · rcases Int.le_total 0 a with h | h
    · exact Int.mul_nonneg h h
    · exact Int.mul_nonneg_of_nonpos_of_nonpos h h
  · rcases Int.le_total 0 a with h | h
    · exact Int.le_trans (Int.mul_le_mul h2 h2 h (by decide)) (by decide)
    · have := Int.mul_le_mul (show -a ≤ 20 by omega) (show -a ≤ 20 by omega) (by omega) (by decide)
      rw [Int.neg_mul_neg] at this
      exact Int.le_trans this (by decide)
/-- The coefficients of the L polynomial out of the numbers of points, by the genus. -/
def lpoly (p n1 n2 : Int) (g : Nat) : List Int :=
  if g = 0 then [1] else if g = 1 then [1, n1 - p - 1, p] else
    [1, n1 - p - 1, (n2 - p * p - 1 + (n1 - p - 1) * (n1 - p - 1)).tdiv 2, p * (n1 - p - 1), p * p]
def polyS (p : Int) (l : List Int) : List Int := if isD p l then lpoly p (n1S p (trim l)) (n2S p (trim l)) (((trim l).length - 2) / 2) else []
theorem n1S_range {p : Int} (hp : OddP p) (d : List Int) : 1 ≤ n1S p d ∧ n1S p d ≤ 15 := by
  have := cntU_range p d (fld p) (e1 p) p.toNat
  rcases hp with rfl | rfl | rfl <;> exact ⟨this.1, Int.le_trans this.2 (by decide)⟩
theorem n2S_range {p : Int} (hp : OddP p) (d : List Int) : 1 ≤ n2S p d ∧ n2S p d ≤ 99 := by
  have := cntU_range p d (fld p) (e2 p) (p.toNat * p.toNat)
  rcases hp with rfl | rfl | rfl <;> exact ⟨this.1, Int.le_trans this.2 (by decide)⟩

set_option maxRecDepth 100000 in
set_option maxHeartbeats 1000000 in
theorem CurvePolynomial_any (p : Int) (l : List Int) (hl : l.length = 64) (hb : IsB l) (w : World) :
    Calls Tryz.prog 25 #[.int .i64 p, .agg (u8s l)] w (GivesInts (polyS p l) (if isD p l then 0 else 1) w) := by
  have HB := Lib.hid hb
  have hz := zlit
  have F := Hp.start w
  cases hd : isD p l with
  | false =>
    have Q := Lib.hid hd
    have G : Hid (polyS p l = []) := Lib.hid (by rw [polyS, hd]; rfl)
    clear hb hd
    go_enter Tryz.func25, Tryz.ntmps25
    go_wp2_with (first | ((with_reducible show wpList _ _ _ _ _ _); first | (apply hpLd F; exact rfl; exact rfl; exact rfl; (· repeat (first | exact Has.head | apply Has.tail))) | (apply hpBox F; exact rfl; exact rfl; exact rfl; (· with_reducible first | exact pad_length _ | exact zeros64_length | exact tab_length _ _ | assumption)) | (apply hpAlloc F; exact rfl; exact rfl) | (apply hpSt F; exact rfl; exact rfl; exact rfl; exact rfl; (· repeat (first | exact Upd.head | apply Upd.tail)); (· with_reducible first | exact pad_length _ | exact zeros64_length | exact tab_length _ _ | assumption))))
    clear F
    intro ga w1 F
    go_wp2_with (first | (go_at_call 39; refine (l07Is_any p l hl HB.out _).mono ?_; rintro e w2 ⟨rfl, E2⟩; replace F := F.next E2; rw [Q.out]) | ((with_reducible show wpList _ _ _ _ _ _); first | (apply hpLd F; exact rfl; exact rfl; exact rfl; (· repeat (first | exact Has.head | apply Has.tail))) | (apply hpBox F; exact rfl; exact rfl; exact rfl; (· with_reducible first | exact pad_length _ | exact zeros64_length | exact tab_length _ _ | assumption)) | (apply hpAlloc F; exact rfl; exact rfl) | (apply hpSt F; exact rfl; exact rfl; exact rfl; exact rfl; (· repeat (first | exact Upd.head | apply Upd.tail)); (· with_reducible first | exact pad_length _ | exact zeros64_length | exact tab_length _ _ | assumption))))
    go_ret2
    rw [G.out]
    exact ⟨none, 0, rfl, RowAt.nil _ _, F.ext⟩
  | true =>
    have Q := Lib.hid hd
    have hr := isD_row hl hb hd
    have G : Hid (polyS p l = lpoly p (n1S p (trim l)) (n2S p (trim l)) (((trim l).length - 2) / 2)) := Lib.hid (by rw [polyS, hd]; rfl)
    have HO := Lib.hid hr.1
    have HC := Lib.hid hr.2.1
    have L64 := hr.2.2.1
    have PC := l07Points_any p (trim l) HO.out HC.out L64
    rw [hr.2.2.2.1] at PC
    replace PC := Lib.hid PC
    have ln : (trim l).length = 2 ∨ (trim l).length = 4 ∨ (trim l).length = 6 := by
      have := hr.2.2.2.2
      rw [isDS, Bool.and_eq_true, Bool.or_eq_true, Bool.or_eq_true, beq_iff_eq, beq_iff_eq, beq_iff_eq] at this
      omega
    have r1 := n1S_range HO.out (trim l)
    have r2 := n2S_range HO.out (trim l)
    have lo := HO.out.prime.lo
    have hi := HO.out.prime.hi
    have m1 : -140 ≤ p * (n1S p (trim l) - p - 1) ∧ p * (n1S p (trim l) - p - 1) ≤ 140 := by
      have := mulB (k := n1S p (trim l) - p - 1) (b := p) (K := 20) (C := 7) (by decide) (by omega) (by omega) (by omega) hi
      rw [Int.mul_comm p]; exact this
    have m2 := sq_range (a := n1S p (trim l) - p - 1) (by omega) (by omega)
    have m3 : 9 ≤ p * p ∧ p * p ≤ 49 := by rcases HO.out with h | h | h <;> rw [h] <;> decide
    have GE := l07Genus_any (trim l) HC.out.nz L64 (by omega)
    rw [hr.2.2.2.1] at GE
    replace GE := Lib.hid GE
    clear hb hd hr
    generalize hN1 : n1S p (trim l) = N1 at *
    generalize hN2 : n2S p (trim l) = N2 at *
    unfold n1S at hN1
    unfold n2S at hN2
    rw [hN1, hN2] at PC
    clear hN1 hN2
    generalize hLn : (trim l).length = n at *
    have HL := Lib.hid hLn
    clear hLn
    rcases ln with rfl | rfl | rfl
    · have GG : Hid (polyS p l = [1]) := Lib.hid (by rw [G.out]; rfl)
      go_enter Tryz.func25, Tryz.ntmps25
      go_wp2_with (first | ((with_reducible show wpList _ _ _ _ _ _); first | (apply hpLd F; exact rfl; exact rfl; exact rfl; (· repeat (first | exact Has.head | apply Has.tail))) | (apply hpBox F; exact rfl; exact rfl; exact rfl; (· with_reducible first | exact pad_length _ | exact zeros64_length | exact tab_length _ _ | assumption)) | (apply hpAlloc F; exact rfl; exact rfl) | (apply hpSt F; exact rfl; exact rfl; exact rfl; exact rfl; (· repeat (first | exact Upd.head | apply Upd.tail)); (· with_reducible first | exact pad_length _ | exact zeros64_length | exact tab_length _ _ | assumption))))
      clear F
      intro ga w1 F
      go_wp2_with (first | (go_at_call 39; refine (l07Is_any p l hl HB.out _).mono ?_; rintro e w2 ⟨rfl, E2⟩; replace F := F.next E2; rw [Q.out]) | (go_at_call 40; refine (PC.out _).mono ?_; rintro e w3 ⟨rfl, E2⟩; replace F := F.next E2) | (go_at_call 44; refine (GE.out _).mono ?_; rintro e w4 ⟨rfl, E2⟩; replace F := F.next E2) | ((with_reducible show wpList _ _ _ _ _ _); first | (apply hpLd F; exact rfl; exact rfl; exact rfl; (· repeat (first | exact Has.head | apply Has.tail))) | (apply hpBox F; exact rfl; exact rfl; exact rfl; (· with_reducible first | exact pad_length _ | exact zeros64_length | exact tab_length _ _ | assumption)) | (apply hpAlloc F; exact rfl; exact rfl) | (apply hpSt F; exact rfl; exact rfl; exact rfl; exact rfl; (· repeat (first | exact Upd.head | apply Upd.tail)); (· with_reducible first | exact pad_length _ | exact zeros64_length | exact tab_length _ _ | assumption))))
      go_ret2
      rw [GG.out]
      exact ⟨_, 1, rfl, (Ints.new _ 2 [1]).row' (by simp), F.ext.alloc _⟩
    · have GG : Hid (polyS p l = [1, N1 - p - 1, p]) := Lib.hid (by rw [G.out]; rfl)
      go_enter Tryz.func25, Tryz.ntmps25
      go_wp2_with (first | ((with_reducible show wpList _ _ _ _ _ _); first | (apply hpLd F; exact rfl; exact rfl; exact rfl; (· repeat (first | exact Has.head | apply Has.tail))) | (apply hpBox F; exact rfl; exact rfl; exact rfl; (· with_reducible first | exact pad_length _ | exact zeros64_length | exact tab_length _ _ | assumption)) | (apply hpAlloc F; exact rfl; exact rfl) | (apply hpSt F; exact rfl; exact rfl; exact rfl; exact rfl; (· repeat (first | exact Upd.head | apply Upd.tail)); (· with_reducible first | exact pad_length _ | exact zeros64_length | exact tab_length _ _ | assumption))))
      clear F
      intro ga w1 F
      go_wp2_with (first | (go_at_call 39; refine (l07Is_any p l hl HB.out _).mono ?_; rintro e w2 ⟨rfl, E2⟩; replace F := F.next E2; rw [Q.out]) | (go_at_call 40; refine (PC.out _).mono ?_; rintro e w3 ⟨rfl, E2⟩; replace F := F.next E2) | (go_at_call 44; refine (GE.out _).mono ?_; rintro e w4 ⟨rfl, E2⟩; replace F := F.next E2) | ((with_reducible show wpList _ _ _ _ _ _); first | (apply hpLd F; exact rfl; exact rfl; exact rfl; (· repeat (first | exact Has.head | apply Has.tail))) | (apply hpBox F; exact rfl; exact rfl; exact rfl; (· with_reducible first | exact pad_length _ | exact zeros64_length | exact tab_length _ _ | assumption)) | (apply hpAlloc F; exact rfl; exact rfl) | (apply hpSt F; exact rfl; exact rfl; exact rfl; exact rfl; (· repeat (first | exact Upd.head | apply Upd.tail)); (· with_reducible first | exact pad_length _ | exact zeros64_length | exact tab_length _ _ | assumption))))
      go_ret2
      rw [GG.out]
      exact ⟨_, 3, rfl, (Ints.new _ 2 [1, N1 - p - 1, p]).row' (by simp), F.ext.alloc _⟩
    · have GG : Hid (polyS p l = [1, N1 - p - 1, (N2 - p * p - 1 + (N1 - p - 1) * (N1 - p - 1)).tdiv 2, p * (N1 - p - 1), p * p]) := Lib.hid (by rw [G.out]; rfl)
      go_enter Tryz.func25, Tryz.ntmps25
      go_wp2_with (first | ((with_reducible show wpList _ _ _ _ _ _); first | (apply hpLd F; exact rfl; exact rfl; exact rfl; (· repeat (first | exact Has.head | apply Has.tail))) | (apply hpBox F; exact rfl; exact rfl; exact rfl; (· with_reducible first | exact pad_length _ | exact zeros64_length | exact tab_length _ _ | assumption)) | (apply hpAlloc F; exact rfl; exact rfl) | (apply hpSt F; exact rfl; exact rfl; exact rfl; exact rfl; (· repeat (first | exact Upd.head | apply Upd.tail)); (· with_reducible first | exact pad_length _ | exact zeros64_length | exact tab_length _ _ | assumption))))
      clear F
      intro ga w1 F
      go_wp2_with (first | (go_at_call 39; refine (l07Is_any p l hl HB.out _).mono ?_; rintro e w2 ⟨rfl, E2⟩; replace F := F.next E2; rw [Q.out]) | (go_at_call 40; refine (PC.out _).mono ?_; rintro e w3 ⟨rfl, E2⟩; replace F := F.next E2) | (go_at_call 44; refine (GE.out _).mono ?_; rintro e w4 ⟨rfl, E2⟩; replace F := F.next E2) | ((with_reducible show wpList _ _ _ _ _ _); first | (apply hpLd F; exact rfl; exact rfl; exact rfl; (· repeat (first | exact Has.head | apply Has.tail))) | (apply hpBox F; exact rfl; exact rfl; exact rfl; (· with_reducible first | exact pad_length _ | exact zeros64_length | exact tab_length _ _ | assumption)) | (apply hpAlloc F; exact rfl; exact rfl) | (apply hpSt F; exact rfl; exact rfl; exact rfl; exact rfl; (· repeat (first | exact Upd.head | apply Upd.tail)); (· with_reducible first | exact pad_length _ | exact zeros64_length | exact tab_length _ _ | assumption))))
      go_ret2
      rw [GG.out]
      exact ⟨_, 5, rfl, (Ints.new _ 2 [1, N1 - p - 1, (N2 - p * p - 1 + (N1 - p - 1) * (N1 - p - 1)).tdiv 2, p * (N1 - p - 1), p * p]).row' (by simp), F.ext.alloc _⟩

end Go.Proofs.YtaemiknaiccijaaGreat

/- The program's derivative, and its test for discriminants. -/
namespace Go.Proofs.YtaemiknaiccijaaGreat
open Go.RowKit

theorem polysCode_one {p : Int} {a : List Int} (hp : PrimeP p) (ha : Can p a) (la : a.length ≤ 64) (w : World) (g T : Nat) (h : Arr w g T (pad a)) :
    Calls Tryz.prog 119 #[.int .i64 p, .slice (some ⟨g, 0, none⟩) 1 1] w fun e w' => e = .returned (.int .i64 0) ∧ Ext w w' := by
  have := polysCode_any p (some ⟨g, 0, none⟩) 1 [pad a] w (one_polys h (pad_length _)) (by
    intro x hx; simp at hx; subst hx; exact fun j => by rw [at0_pad a la]; have := ha.inp j; have := hp.hi; omega)
  rw [codeP_one hp ha] at this
  exact this
/-- The program's own reckoning of a coefficient of the derivative. -/
theorem derC_impl (p : Int) (a : List Int) (i : Nat) (lo : 2 ≤ p) (hi : p ≤ 7) (ha : 0 ≤ at0 a (i + 1)) :
    (((i : Int) + 1) * at0 a (i + 1)) % p % 256 = derC p a i := by
  have r2 := emod_range (((i : Int) + 1) * at0 a (i + 1)) p (by omega)
  rw [Int.emod_eq_of_lt r2.1 (by omega), derC, Int.mul_emod ((i : Int) + 1) (at0 a (i + 1)), Int.mul_emod (((i : Int) + 1) % p) (at0 a (i + 1)), Int.emod_emod]

set_option maxRecDepth 100000 in
set_option maxHeartbeats 1000000 in
theorem derivative_any (p : Int) (a : List Int) (hp : PrimeP p) (ha : Can p a) (la : a.length ≤ 64) (w : World) :
    Calls Tryz.prog 98 #[.int .i64 p, .agg (u8s (pad a))] w fun e w' => e = .returned (.tuple #[.agg (u8s (pad (derr p a))), .int .i64 0]) ∧ Ext w w' := by
  have hz := zlit
  have lo := hp.lo
  have hi := hp.hi
  have HA := Lib.hid ha
  have CD := Lib.hid (fun w g T => polysCode_one hp ha la w g T)
  have BA : Hid (IsB (pad a)) := Lib.hid (fun j => by rw [at0_pad a la]; have := ha.inp j; omega)
  clear hp ha
  have F := Hp.start w
  go_enter Tryz.func98, Tryz.ntmps98
  go_wp2_with (first | ((with_reducible show wpList _ _ _ _ _ _); first | (apply hpLd F; exact rfl; exact rfl; exact rfl; (· repeat (first | exact Has.head | apply Has.tail))) | (apply hpBox F; exact rfl; exact rfl; exact rfl; (· with_reducible first | exact pad_length _ | exact zeros64_length | exact tab_length _ _ | assumption)) | (apply hpAlloc F; exact rfl; exact rfl) | (apply hpSt F; exact rfl; exact rfl; exact rfl; exact rfl; (· repeat (first | exact Upd.head | apply Upd.tail)); (· with_reducible first | exact pad_length _ | exact zeros64_length | exact tab_length _ _ | assumption))))
  clear F
  intro ga w1 F
  go_wp2_with (first | ((with_reducible show wpList _ _ _ _ _ _); first | (apply hpLd F; exact rfl; exact rfl; exact rfl; (· repeat (first | exact Has.head | apply Has.tail))) | (apply hpBox F; exact rfl; exact rfl; exact rfl; (· with_reducible first | exact pad_length _ | exact zeros64_length | exact tab_length _ _ | assumption)) | (apply hpAlloc F; exact rfl; exact rfl) | (apply hpSt F; exact rfl; exact rfl; exact rfl; exact rfl; (· repeat (first | exact Upd.head | apply Upd.tail)); (· with_reducible first | exact pad_length _ | exact zeros64_length | exact tab_length _ _ | assumption))))
  clear F
  intro g1 w2 F
  go_wp2_with (first | ((with_reducible show wpList _ _ _ _ _ _); apply wplOne; exact rfl; exact rfl; exact rfl; exact pad_length _; intro w3 g3 E3 A3 B3; replace F := F.next E3) | (go_at_call 119; refine (CD.out _ _ _ A3).mono ?_; rintro e w4 ⟨rfl, E4⟩; replace F := F.next E4) | ((with_reducible show wpList _ _ _ _ _ _); first | (apply hpLd F; exact rfl; exact rfl; exact rfl; (· repeat (first | exact Has.head | apply Has.tail))) | (apply hpBox F; exact rfl; exact rfl; exact rfl; (· with_reducible first | exact pad_length _ | exact zeros64_length | exact tab_length _ _ | assumption)) | (apply hpAlloc F; exact rfl; exact rfl) | (apply hpSt F; exact rfl; exact rfl; exact rfl; exact rfl; (· repeat (first | exact Upd.head | apply Upd.tail)); (· with_reducible first | exact pad_length _ | exact zeros64_length | exact tab_length _ _ | assumption))))
  clear F
  intro g2 w6 F
  go_wp2_with (first | ((with_reducible show wpList _ _ _ _ _ _); first | (apply hpLd F; exact rfl; exact rfl; exact rfl; (· repeat (first | exact Has.head | apply Has.tail))) | (apply hpBox F; exact rfl; exact rfl; exact rfl; (· with_reducible first | exact pad_length _ | exact zeros64_length | exact tab_length _ _ | assumption)) | (apply hpAlloc F; exact rfl; exact rfl) | (apply hpSt F; exact rfl; exact rfl; exact rfl; exact rfl; (· repeat (first | exact Upd.head | apply Upd.tail)); (· with_reducible first | exact pad_length _ | exact zeros64_length | exact tab_length _ _ | assumption))))
  go_loopg [8] 63 (fun f i wr => DerRel p a w ga g1 g2 f i wr)
  case atStart => exact ⟨0, rfl, rfl, by rw [derTo_zero]; exact F⟩
  case round =>
    clear F
    obtain ⟨n, hf, rfl, F⟩ := hrel
    by_cases hn : n < 63
    · have t1 : decide ((n : Int) + 1 < 64) = true := decide_eq_true (by omega)
      have c1 := F.cell 2 rfl (n + 1) (by omega)
      rw [at0_pad a la] at c1
      have f1 := F.free 0 rfl n
      have c2 := F.cell 0 rfl n (by omega)
      have b1 := BA.out (n + 1)
      rw [at0_pad a la] at b1
      have hp0 : p ≠ 0 := by omega
      have q2 := mulB (by decide : (0:Int) ≤ 64) (show -64 ≤ (n : Int) + 1 by omega) (show (n : Int) + 1 ≤ 64 by omega) b1.1 b1.2
      have q2' : 0 ≤ ((n : Int) + 1) * at0 a (n + 1) := Int.mul_nonneg (by omega) b1.1
      have q3 := tmodB (((n : Int) + 1) * at0 a (n + 1)) p lo hi
      have i1 : (0 : Int) ≤ (n : Int) + 1 := by omega
      have i2 : (n : Int) + 1 < 64 := by omega
      have i3 : ((n : Int) + 1).toNat = n + 1 := by omega
      have i4 : ((n : Int) + 1 - 1).toNat = n := by omega
      have i5 : (n : Int) + 1 - 1 = n := by omega
      have i6 : (n : Int) < 64 := by omega
      have i7 : (0 : Int) ≤ (n : Int) := by omega
      go_wp2
      have V := Lib.hid (derC_impl p a n lo hi b1.1)
      have ST := Lib.hid (derTo_step p a n (by omega))
      go_roundg (gk - 1)
      case measure => omega
      case rel =>
        refine ⟨n + 1, by omega, by go_num, ?_⟩
        rw [← ST.out, ← V.out]
        exact F.setCell 0 rfl n _
    · have t1 : decide ((n : Int) + 1 < 64) = false := decide_eq_false (by omega)
      have G : Hid (derTo p a n = pad (derr p a)) := Lib.hid (by rw [show n = 63 by omega, derTo_end])
      rw [G.out] at F
      go_wp2_with (first | ((with_reducible show wpList _ _ _ _ _ _); first | (apply hpLd F; exact rfl; exact rfl; exact rfl; (· repeat (first | exact Has.head | apply Has.tail))) | (apply hpBox F; exact rfl; exact rfl; exact rfl; (· with_reducible first | exact pad_length _ | exact zeros64_length | exact tab_length _ _ | assumption)) | (apply hpAlloc F; exact rfl; exact rfl) | (apply hpSt F; exact rfl; exact rfl; exact rfl; exact rfl; (· repeat (first | exact Upd.head | apply Upd.tail)); (· with_reducible first | exact pad_length _ | exact zeros64_length | exact tab_length _ _ | assumption))))
      clear F
      intro w7 F
      try simp only [List.set_cons_zero, List.set_cons_succ] at F
      go_wp2_with (first | ((with_reducible show wpList _ _ _ _ _ _); first | (apply hpLd F; exact rfl; exact rfl; exact rfl; (· repeat (first | exact Has.head | apply Has.tail))) | (apply hpBox F; exact rfl; exact rfl; exact rfl; (· with_reducible first | exact pad_length _ | exact zeros64_length | exact tab_length _ _ | assumption)) | (apply hpAlloc F; exact rfl; exact rfl) | (apply hpSt F; exact rfl; exact rfl; exact rfl; exact rfl; (· repeat (first | exact Upd.head | apply Upd.tail)); (· with_reducible first | exact pad_length _ | exact zeros64_length | exact tab_length _ _ | assumption))))
      exact bodyPost_ret (res_ct rfl rfl rfl (F.at_ 1 rfl) (pad_length _) Tryz.underlying25 infoPoly) rfl ⟨rfl, F.ext⟩

theorem scal_len {p : Int} (hp : PrimeP p) {a : List Int} (ha : Can p a) {c : Int} (h1 : 1 ≤ c) (h2 : c < p) : (scal p a c).length = a.length := by
  have l := scal_le p a c
  rcases Nat.lt_or_ge (scal p a c).length a.length with h | h
  · have A := ha.last (by omega)
    have := at0_scal p a c (a.length - 1)
    rw [at0_out _ _ (by omega)] at this
    exact absurd this.symm (mul_ne hp h1 h2 A.1 A.2)
  · omega
/-- A greatest common divisor of length 1 is 1. -/
theorem bezD_one {p : Int} (hp : PrimeP p) {a b : List Int} (ha : Can p a) (hb : Can p b) (la : a.length ≤ 64) (lb : b.length ≤ 64) (hne : a.length ≠ 0) :
    isOneB (bezD p a b) = ((gcdr p a b).length == 1) := by
  obtain ⟨c1, _, _, _, _, _, c7⟩ := bez0_inv hp ha hb la lb (.inl hne)
  have A := c1.last c7
  have i1 := invP_pos hp A.1 A.2
  have i2 := (invP_range (x := lc (bez0 p a b).1) hp).2
  have L := scal_len hp c1 i1 i2
  have e : gcdr p a b = bezD p a b := if_neg (by omega)
  rw [e, isOneB, Bool.eq_iff_iff, beq_iff_eq, beq_iff_eq]
  constructor
  · intro h; rw [h]; rfl
  · intro h
    have h1 : (bez0 p a b).1.length = 1 := by rw [← L]; exact h
    have m := invP_mul hp A.1 A.2
    refine list_ext0 h fun j hj => ?_
    have j0 : j = 0 := by omega
    subst j0
    unfold bezD
    rw [at0_scal]
    have e0 : lc (bez0 p a b).1 = at0 (bez0 p a b).1 0 := by unfold lc; rw [h1]
    have e1 : at0 (bez0 p a b).1 ((bez0 p a b).1.length - 1) = at0 (bez0 p a b).1 0 := e0
    rw [e1] at m
    rw [e0, m]; rfl
/-- The program's test. -/
theorem isDS_impl {p : Int} (hp : PrimeP p) {a : List Int} (ha : Can p a) (la : a.length ≤ 64) (hd : a.length = 2 ∨ a.length = 4 ∨ a.length = 6) : isDS p a = isOneB (bezD p a (derr p a)) := by
  rw [bezD_one hp ha (derr_can (by have := hp.lo; omega) a) la (derr_le p a) (by omega), isDS]
  rcases hd with h | h | h <;> simp [h]

end Go.Proofs.YtaemiknaiccijaaGreat
