/- Lemmas and contracts of functions, for the laws: The reference's numbers of points. -/
import Derived.Test.YtaemiknaiccijaaGreatRm9
import Derived.Test.YtaemiknaiccijaaGreatRm1
import Derived.Deep.MidRow
import Derived.Great.Walk
set_option linter.unusedVariables false
set_option linter.unusedSimpArgs false
namespace Go.Proofs.YtaemiknaiccijaaGreat
open Go.RowKit

def e1 (p : Int) : Nat := ((p - 1) / 2).toNat
def e2 (p : Int) : Nat := ((p * p - 1) / 2).toNat
/-- What the loop has counted over the places with numbers below n. -/
def cntU (f : Nat → Int) (n : Nat) : Int := 1 + sumN n f
theorem cntU_step (f : Nat → Int) (n : Nat) : cntU f (n + 1) = cntU f n + f n := by unfold cntU; rw [sumN]; omega
def PtRel (p : Int) (d m : List Int) (w : World) (gd gm z f : Nat) (k n1 n2 : Value) (wr : World) : Prop :=
  ∃ i : Nat, f + i = p.toNat * p.toNat ∧ k = .int .i64 i ∧ n1 = .int .i64 (cntU (ptS p d m (e1 p)) (min i p.toNat)) ∧ n2 = .int .i64 (cntU (ptS p d m (e2 p)) i) ∧ Hp w wr [(gm, pad m), (gd, pad d)]
theorem cntU_range (p : Int) (d m : List Int) (e n : Nat) : 1 ≤ cntU (ptS p d m e) n ∧ cntU (ptS p d m e) n ≤ 1 + 2 * n := by
  have := sumN_range (ptS_range p d m e) n
  unfold cntU; omega

theorem l07Pow1 {p : Int} {x m : List Int} (hp : OddP p) (hx : Can p x) (hm : Can p m) (lx : x.length ≤ 64) (lm : m.length ≤ 64) (hne : 0 < m.length) (w : World) :
    Calls Tryz.prog 67 #[.int .i64 p, .agg (u8s (pad x)), .int .i64 ((p - 1) / 2), .agg (u8s (pad m))] w fun e w' => e = .returned (.agg (u8s (pad (powM p x (e1 p) m)))) ∧ Ext w w' := by
  have h : ((e1 p : Nat) : Int) = (p - 1) / 2 := by rcases hp with rfl | rfl | rfl <;> decide
  rw [← h]
  exact l01PowMod_any p x m (e1 p) (by rcases hp with rfl | rfl | rfl <;> decide) hp.prime hx hm lx lm hne w
theorem l07Pow2 {p : Int} {x m : List Int} (hp : OddP p) (hx : Can p x) (hm : Can p m) (lx : x.length ≤ 64) (lm : m.length ≤ 64) (hne : 0 < m.length) (w : World) :
    Calls Tryz.prog 67 #[.int .i64 p, .agg (u8s (pad x)), .int .i64 ((p * p - 1) / 2), .agg (u8s (pad m))] w fun e w' => e = .returned (.agg (u8s (pad (powM p x (e2 p) m)))) ∧ Ext w w' := by
  have h : ((e2 p : Nat) : Int) = (p * p - 1) / 2 := by rcases hp with rfl | rfl | rfl <;> decide
  rw [← h]
  exact l01PowMod_any p x m (e2 p) (by rcases hp with rfl | rfl | rfl <;> decide) hp.prime hx hm lx lm hne w

set_option maxRecDepth 100000 in
set_option maxHeartbeats 4000000 in
theorem l07Points_any (p : Int) (d : List Int) (hp : OddP p) (hd : Can p d) (ld : d.length ≤ 64) (w : World) :
    Calls Tryz.prog 40 #[.int .i64 p, .agg (u8s (pad d))] w fun e w' => e = .returned (.tuple #[.int .i64 (cntU (ptS p d (fld p) (e1 p)) p.toNat), .int .i64 (cntU (ptS p d (fld p) (e2 p)) (p.toNat * p.toNat))]) ∧ Ext w w' := by
  have hz := zlit
  have HO := Lib.hid hp
  have HP := Lib.hid hp.prime
  have HD := Lib.hid hd
  have HM := Lib.hid (fld_can hp)
  have lo := HP.out.lo
  have hi := HP.out.hi
  have lm : (fld p).length = 3 := rfl
  have pt : ((p.toNat : Nat) : Int) = p := by omega
  have PT := Lib.hid pt
  have pp : Hid (((p.toNat * p.toNat : Nat) : Int) = p * p) := Lib.hid (by rw [Int.natCast_mul, pt])
  have qq : 9 ≤ p * p ∧ p * p ≤ 49 := by rcases hp with rfl | rfl | rfl <;> decide
  clear hp hd pt
  have F := Hp.start w
  go_enter Tryz.func40, Tryz.ntmps40
  go_wp2_with (first | ((with_reducible show wpList _ _ _ _ _ _); first | (apply hpLd F; exact rfl; exact rfl; exact rfl; (· repeat (first | exact Has.head | apply Has.tail))) | (apply hpBox F; exact rfl; exact rfl; exact rfl; (· with_reducible first | exact pad_length _ | exact zeros64_length | exact tab_length _ _ | assumption)) | (apply hpAlloc F; exact rfl; exact rfl) | (apply hpSt F; exact rfl; exact rfl; exact rfl; exact rfl; (· repeat (first | exact Upd.head | apply Upd.tail)); (· with_reducible first | exact pad_length _ | exact zeros64_length | exact tab_length _ _ | assumption))))
  clear F
  intro gd w1 F
  go_wp2_with (first | (go_at_call 64; refine (l07Field_any p HO.out _).mono ?_; rintro e w2 ⟨rfl, E2⟩; replace F := F.next E2) | ((with_reducible show wpList _ _ _ _ _ _); first | (apply hpLd F; exact rfl; exact rfl; exact rfl; (· repeat (first | exact Has.head | apply Has.tail))) | (apply hpBox F; exact rfl; exact rfl; exact rfl; (· with_reducible first | exact pad_length _ | exact zeros64_length | exact tab_length _ _ | assumption)) | (apply hpAlloc F; exact rfl; exact rfl) | (apply hpSt F; exact rfl; exact rfl; exact rfl; exact rfl; (· repeat (first | exact Upd.head | apply Upd.tail)); (· with_reducible first | exact pad_length _ | exact zeros64_length | exact tab_length _ _ | assumption))))
  clear F
  intro gm0 w1 F
  go_wp2_with (first | ((with_reducible show wpList _ _ _ _ _ _); first | (apply hpLd F; exact rfl; exact rfl; exact rfl; (· repeat (first | exact Has.head | apply Has.tail))) | (apply hpBox F; exact rfl; exact rfl; exact rfl; (· with_reducible first | exact pad_length _ | exact zeros64_length | exact tab_length _ _ | assumption)) | (apply hpAlloc F; exact rfl; exact rfl) | (apply hpSt F; exact rfl; exact rfl; exact rfl; exact rfl; (· repeat (first | exact Upd.head | apply Upd.tail)); (· with_reducible first | exact pad_length _ | exact zeros64_length | exact tab_length _ _ | assumption))))
  clear F
  intro w3 F
  try simp only [List.set_cons_zero, List.set_cons_succ] at F
  go_wp2_with (first | ((with_reducible show wpList _ _ _ _ _ _); first | (apply hpLd F; exact rfl; exact rfl; exact rfl; (· repeat (first | exact Has.head | apply Has.tail))) | (apply hpBox F; exact rfl; exact rfl; exact rfl; (· with_reducible first | exact pad_length _ | exact zeros64_length | exact tab_length _ _ | assumption)) | (apply hpAlloc F; exact rfl; exact rfl) | (apply hpSt F; exact rfl; exact rfl; exact rfl; exact rfl; (· repeat (first | exact Upd.head | apply Upd.tail)); (· with_reducible first | exact pad_length _ | exact zeros64_length | exact tab_length _ _ | assumption))))
  generalize hM : fld p = m at *
  have MEQ := Lib.hid hM
  clear hM
  go_loopg [6, 7, 9] (p.toNat * p.toNat) (fun f n1 n2 k wr => PtRel p d m w gd gm0 0 f k n1 n2 wr)
  case atStart => exact ⟨0, rfl, rfl, by rw [Nat.zero_min]; rfl, rfl, F⟩
  case round =>
    clear F
    obtain ⟨k, hf, rfl, rfl, rfl, F⟩ := hrel
    have c1 := cntU_range p d m (e1 p) (min k p.toNat)
    have c2 := cntU_range p d m (e2 p) k
    by_cases hk : k = p.toNat * p.toNat
    · have t1 : decide ((k : Int) < p * p) = false := decide_eq_false (by have := pp.out; omega)
      have K := Lib.hid hk
      have mn : min k p.toNat = p.toNat := by
        rw [hk]; exact Nat.min_eq_right (Nat.le_mul_of_pos_left _ (by omega))
      rw [mn]
      clear hk mn hf
      go_wp2_with (first | ((with_reducible show wpList _ _ _ _ _ _); first | (apply hpLd F; exact rfl; exact rfl; exact rfl; (· repeat (first | exact Has.head | apply Has.tail))) | (apply hpBox F; exact rfl; exact rfl; exact rfl; (· with_reducible first | exact pad_length _ | exact zeros64_length | exact tab_length _ _ | assumption)) | (apply hpAlloc F; exact rfl; exact rfl) | (apply hpSt F; exact rfl; exact rfl; exact rfl; exact rfl; (· repeat (first | exact Upd.head | apply Upd.tail)); (· with_reducible first | exact pad_length _ | exact zeros64_length | exact tab_length _ _ | assumption))))
      go_ret2
      rw [K.out, ← MEQ.out]
      exact ⟨rfl, F.ext⟩
    · have kq : (k : Int) < p * p := by have := pp.out; omega
      have t1 : decide ((k : Int) < p * p) = true := decide_eq_true kq
      have HOF := Lib.hid (l01Of_any p k lo hi (Nat.lt_of_lt_of_le (show k < 100 by omega) (by decide)))
      have NC := Lib.hid (numr_can (show 0 < p by omega) k)
      have NL := numr_le p k
      have AS := atr_spec HP.out d (numr p k) HM.out (by omega) (by omega)
      have AC := Lib.hid AS.1
      have AL := AS.2
      clear AS
      go_wp2_with (first | ((with_reducible show wpList _ _ _ _ _ _); first | (apply hpLd F; exact rfl; exact rfl; exact rfl; (· repeat (first | exact Has.head | apply Has.tail))) | (apply hpBox F; exact rfl; exact rfl; exact rfl; (· with_reducible first | exact pad_length _ | exact zeros64_length | exact tab_length _ _ | assumption)) | (apply hpAlloc F; exact rfl; exact rfl) | (apply hpSt F; exact rfl; exact rfl; exact rfl; exact rfl; (· repeat (first | exact Upd.head | apply Upd.tail)); (· with_reducible first | exact pad_length _ | exact zeros64_length | exact tab_length _ _ | assumption))))
      refine region_ext 8 (by kernel_rfl) (by kernel_rfl) (by kernel_rfl) [] [eqv (.int .i64 p), eqv (.agg (u8s (pad d))), eqv (.int .i64 p), eqv (.int .i64 k), eqv (.agg (u8s (pad (numr p k)))), eqv (.agg (u8s (pad m))), eqv (.agg (u8s (pad (atr p d (numr p k) m)))), isArr wr.heap.size 25 zeros64]
        ⟨mono_eqv _, mono_eqv _, mono_eqv _, mono_eqv _, mono_eqv _, mono_eqv _, mono_eqv _, mono_arr _ _ _, trivial⟩ (fun vals => ?_) (fun vals w9 hE9 hS9 hN9 => ?_)
      · simp only [List.take_succ_cons, List.take_zero]
        refine ⟨fun w8 hE8 hk => doesK_plain rfl fun K hK => ?_, ?_⟩
        · go_simp
          (try go_bits)
          exact hK _ _ rfl (Ext.refl _) rfl
        simp only [Act.put, List.setIfInBounds_toArray, List.set_cons_zero, List.set_cons_succ]
        refine ⟨fun w8 hE8 hk => doesK_plain rfl fun K hK => ?_, ?_⟩
        · exact wp_load_row _ _ rfl _ (by first | rfl | simp [*]) _ _ (0, 0) _ ((F.at_ 1 rfl).ext hE8) Tryz.underlying25 rfl (by rw [infoPoly, u8s_size, pad_length _]) (hK _ _ rfl (Ext.refl _) rfl)
        simp only [Act.put, List.setIfInBounds_toArray, List.set_cons_zero, List.set_cons_succ]
        refine ⟨fun w8 hE8 hk => doesK_plain rfl fun K hK => ?_, ?_⟩
        · go_simp
          (try go_bits)
          exact hK _ _ rfl (Ext.refl _) rfl
        simp only [Act.put, List.setIfInBounds_toArray, List.set_cons_zero, List.set_cons_succ]
        refine ⟨fun w8 hE8 hk => doesK_plain rfl fun K hK => ?_, ?_⟩
        · go_simp
          (try go_bits)
          exact hK _ _ rfl (Ext.refl _) rfl
        simp only [Act.put, List.setIfInBounds_toArray, List.set_cons_zero, List.set_cons_succ]
        refine ⟨fun w8 hE8 hk => doesK_plain rfl fun K hK => ?_, ?_⟩
        · have k2 : vals 2 = .int .i64 p := hk 2 (by decide) (by kernel_rfl)
          have k3 : vals 3 = .int .i64 k := hk 3 (by decide) (by kernel_rfl)
          go_simp
          refine (HOF.out _).mono ?_
          rintro e7 w7 ⟨rfl, hE7⟩
          exact hK _ _ rfl hE7 rfl
        simp only [Act.put, List.setIfInBounds_toArray, List.set_cons_zero, List.set_cons_succ]
        refine ⟨fun w8 hE8 hk => doesK_plain rfl fun K hK => ?_, ?_⟩
        · exact wp_load_row _ _ rfl _ (by first | rfl | simp [*]) _ _ (0, 0) _ ((F.at_ 0 rfl).ext hE8) Tryz.underlying25 rfl (by rw [infoPoly, u8s_size, pad_length _]) (hK _ _ rfl (Ext.refl _) rfl)
        simp only [Act.put, List.setIfInBounds_toArray, List.set_cons_zero, List.set_cons_succ]
        refine ⟨fun w8 hE8 hk => doesK_plain rfl fun K hK => ?_, ?_⟩
        · have k0 : vals 0 = .int .i64 p := hk 0 (by decide) (by kernel_rfl)
          have k1 : vals 1 = .agg (u8s (pad d)) := hk 1 (by decide) (by kernel_rfl)
          have k4 : vals 4 = .agg (u8s (pad (numr p k))) := hk 4 (by decide) (by kernel_rfl)
          have k5 : vals 5 = .agg (u8s (pad m)) := hk 5 (by decide) (by kernel_rfl)
          go_simp
          refine (l07At_any p d (numr p k) m HP.out HD.out NC.out HM.out ld NL (by omega) (by omega) _).mono ?_
          rintro e7 w7 ⟨rfl, hE7⟩
          exact hK _ _ rfl hE7 rfl
        simp only [Act.put, List.setIfInBounds_toArray, List.set_cons_zero, List.set_cons_succ]
        refine ⟨fun w8 hE8 hk => doesK_plain rfl fun K hK => ?_, ?_⟩
        · go_simp
          exact hK _ _ ⟨_, rfl, by have := hE8.size; omega, Arr.new _ _ _⟩ ((Ext.refl _).alloc _) rfl
        exact trivial
      simp only [List.take_succ_cons, List.take_zero, List.drop_succ_cons, List.drop_zero, preAct, Nat.reduceAdd, Act.put, List.setIfInBounds_toArray, List.set_cons_zero, List.set_cons_succ]
      have k0 : vals 0 = .int .i64 p := hS9 0 (by decide) 
      have k1 : vals 1 = .agg (u8s (pad d)) := hS9 1 (by decide) 
      have k2 : vals 2 = .int .i64 p := hS9 2 (by decide) 
      have k3 : vals 3 = .int .i64 k := hS9 3 (by decide) 
      have k4 : vals 4 = .agg (u8s (pad (numr p k))) := hS9 4 (by decide) 
      have k5 : vals 5 = .agg (u8s (pad m)) := hS9 5 (by decide) 
      have k6 : vals 6 = .agg (u8s (pad (atr p d (numr p k) m))) := hS9 6 (by decide) 
      obtain ⟨g7, k7, b7, a7⟩ : isArr wr.heap.size 25 zeros64 (vals 7) _ := hS9 7 (by decide) 
      simp only [k0, k1, k2, k3, k4, k5, k6, k7]
      clear hN9 hS9 k0 k1 k2 k3 k4 k5 k6 k7
      replace F := F.addNew hE9 a7 zeros64_length b7
      clear hE9 a7 b7
      go_wp2_with (first | ((with_reducible show wpList _ _ _ _ _ _); first | (apply hpLd F; exact rfl; exact rfl; exact rfl; (· repeat (first | exact Has.head | apply Has.tail))) | (apply hpBox F; exact rfl; exact rfl; exact rfl; (· with_reducible first | exact pad_length _ | exact zeros64_length | exact tab_length _ _ | assumption)) | (apply hpAlloc F; exact rfl; exact rfl) | (apply hpSt F; exact rfl; exact rfl; exact rfl; exact rfl; (· repeat (first | exact Upd.head | apply Upd.tail)); (· with_reducible first | exact pad_length _ | exact zeros64_length | exact tab_length _ _ | assumption))))
      clear F
      intro w4 F
      try simp only [List.set_cons_zero, List.set_cons_succ] at F
      have S2 : Hid (ptS p d m (e2 p) k = if (atr p d (numr p k) m).length = 0 then 1 else if powM p (atr p d (numr p k) m) (e2 p) m == [1] then 2 else 0) := Lib.hid rfl
      have S1 : Hid (ptS p d m (e1 p) k = if (atr p d (numr p k) m).length = 0 then 1 else if powM p (atr p d (numr p k) m) (e1 p) m == [1] then 2 else 0) := Lib.hid rfl
      have U2 := Lib.hid (cntU_step (ptS p d m (e2 p)) k)
      have U1 := Lib.hid (cntU_step (ptS p d m (e1 p)) k)
      generalize hX : atr p d (numr p k) m = x at *
      have HX := Lib.hid hX
      have kz : (0 : Int) ≤ k ∧ (k : Int) < 50 := by omega
      have P2 := powM_spec HP.out AC.out HM.out (by omega) (e2 p)
      have P1 := powM_spec HP.out AC.out HM.out (by omega) (e1 p)
      have E2' := Lib.hid (pad_beq P2.1.nz (can_one (show 1 < p by omega)).nz (by omega) (by decide))
      have E1' := Lib.hid (pad_beq P1.1.nz (can_one (show 1 < p by omega)).nz (by omega) (by decide))
      have PL2 : (pad (powM p x (e2 p) m)).length = 64 := pad_length _
      have PL1 : (pad (powM p x (e1 p) m)).length = 64 := pad_length _
      have CP2 := Lib.hid (l07Pow2 HO.out AC.out HM.out AL (by omega) (by omega))
      have CP1 := Lib.hid (l07Pow1 HO.out AC.out HM.out AL (by omega) (by omega))
      have hn : k < p.toNat * p.toNat := by omega
      clear hX P1 P2 hk
      by_cases hx : x.length = 0
      · have t2 : decide ((x.length : Int) - 1 < 0) = true := decide_eq_true (by omega)
        have T2 : Hid (cntU (ptS p d m (e2 p)) (k + 1) = cntU (ptS p d m (e2 p)) k + 1) := Lib.hid (by rw [U2.out, S2.out]; simp [hx])
        have Q2 : Hid (e1 p = e1 p) := Lib.hid rfl
        by_cases kp : k < p.toNat
        · have t3 : decide ((k : Int) ≥ p) = false := decide_eq_false (by omega)
          have t4 : decide (p ≤ (k : Int)) = false := decide_eq_false (by omega)
          have m1 : min k p.toNat = k := by omega
          have m2 : min (k + 1) p.toNat = k + 1 := by omega
          rw [m1] at c1 ⊢
          have T1 : Hid (cntU (ptS p d m (e1 p)) (min (k + 1) p.toNat) = cntU (ptS p d m (e1 p)) k + 1) := Lib.hid (by rw [m2, U1.out, S1.out]; simp [hx])
          have Q1 : Hid (e1 p = e1 p) := Lib.hid rfl
          clear m1 m2 kp hx
          go_wp2_with (first | (go_at_call 49; refine (l01Deg_pad x _ AC.out.nz AL rfl _).mono ?_; rintro e w5 ⟨rfl, E5⟩; replace F := F.next E5) | (go_at_call 67; with_reducible refine (CP2.out _).mono ?_; rintro e w5 ⟨rfl, E5⟩; replace F := F.next E5) | (go_at_call 67; with_reducible refine (CP1.out _).mono ?_; rintro e w5 ⟨rfl, E5⟩; replace F := F.next E5) | (go_at_call 48; refine (l01One_any _).mono ?_; rintro e w5 ⟨rfl, E5⟩; replace F := F.next E5) | (apply wplEql; exact rfl; exact rfl; exact rfl; exact rfl; exact pad_length _; exact pad_length _; first | rw [Q2.out] | rw [Q1.out]) | ((with_reducible show wpList _ _ _ _ _ _); first | (apply hpLd F; exact rfl; exact rfl; exact rfl; (· repeat (first | exact Has.head | apply Has.tail))) | (apply hpBox F; exact rfl; exact rfl; exact rfl; (· with_reducible first | exact pad_length _ | exact zeros64_length | exact tab_length _ _ | assumption)) | (apply hpAlloc F; exact rfl; exact rfl) | (apply hpSt F; exact rfl; exact rfl; exact rfl; exact rfl; (· repeat (first | exact Upd.head | apply Upd.tail)); (· with_reducible first | exact pad_length _ | exact zeros64_length | exact tab_length _ _ | assumption))))
          go_roundg (gk - 1)
          case measure => omega
          case rel => exact ⟨k + 1, by omega, by go_num, by rw [T1.out], by rw [T2.out], F.tail⟩
        · have t3 : decide ((k : Int) ≥ p) = true := decide_eq_true (by omega)
          have t4 : decide (p ≤ (k : Int)) = true := decide_eq_true (by omega)
          have m1 : min k p.toNat = p.toNat := by omega
          have m2 : min (k + 1) p.toNat = p.toNat := by omega
          rw [m1] at c1 ⊢
          have T1 : Hid (cntU (ptS p d m (e1 p)) (min (k + 1) p.toNat) = cntU (ptS p d m (e1 p)) p.toNat) := Lib.hid (by rw [m2])
          have Q1 : Hid (e1 p = e1 p) := Lib.hid rfl
          clear m1 m2 kp hx
          go_wp2_with (first | (go_at_call 49; refine (l01Deg_pad x _ AC.out.nz AL rfl _).mono ?_; rintro e w5 ⟨rfl, E5⟩; replace F := F.next E5) | (go_at_call 67; with_reducible refine (CP2.out _).mono ?_; rintro e w5 ⟨rfl, E5⟩; replace F := F.next E5) | (go_at_call 67; with_reducible refine (CP1.out _).mono ?_; rintro e w5 ⟨rfl, E5⟩; replace F := F.next E5) | (go_at_call 48; refine (l01One_any _).mono ?_; rintro e w5 ⟨rfl, E5⟩; replace F := F.next E5) | (apply wplEql; exact rfl; exact rfl; exact rfl; exact rfl; exact pad_length _; exact pad_length _; first | rw [Q2.out] | rw [Q1.out]) | ((with_reducible show wpList _ _ _ _ _ _); first | (apply hpLd F; exact rfl; exact rfl; exact rfl; (· repeat (first | exact Has.head | apply Has.tail))) | (apply hpBox F; exact rfl; exact rfl; exact rfl; (· with_reducible first | exact pad_length _ | exact zeros64_length | exact tab_length _ _ | assumption)) | (apply hpAlloc F; exact rfl; exact rfl) | (apply hpSt F; exact rfl; exact rfl; exact rfl; exact rfl; (· repeat (first | exact Upd.head | apply Upd.tail)); (· with_reducible first | exact pad_length _ | exact zeros64_length | exact tab_length _ _ | assumption))))
          go_roundg (gk - 1)
          case measure => omega
          case rel => exact ⟨k + 1, by omega, by go_num, by rw [T1.out], by rw [T2.out], F.tail⟩
      · have t2 : decide ((x.length : Int) - 1 < 0) = false := decide_eq_false (by omega)
        cases q2 : powM p x (e2 p) m == [1]
        · have T2 : Hid (cntU (ptS p d m (e2 p)) (k + 1) = cntU (ptS p d m (e2 p)) k) := Lib.hid (by rw [U2.out, S2.out]; simp [hx, q2])
          have Q2 : Hid ((pad (powM p x (e2 p) m) == pad [1]) = false) := Lib.hid (by rw [E2'.out, q2])
          clear q2
          by_cases kp : k < p.toNat
          · have t3 : decide ((k : Int) ≥ p) = false := decide_eq_false (by omega)
            have t4 : decide (p ≤ (k : Int)) = false := decide_eq_false (by omega)
            have m1 : min k p.toNat = k := by omega
            have m2 : min (k + 1) p.toNat = k + 1 := by omega
            rw [m1] at c1 ⊢
            cases q1 : powM p x (e1 p) m == [1]
            · have T1 : Hid (cntU (ptS p d m (e1 p)) (min (k + 1) p.toNat) = cntU (ptS p d m (e1 p)) k) := Lib.hid (by rw [m2, U1.out, S1.out]; simp [hx, q1])
              have Q1 : Hid ((pad (powM p x (e1 p) m) == pad [1]) = false) := Lib.hid (by rw [E1'.out, q1])
              clear m1 m2 kp hx q1
              go_wp2_with (first | (go_at_call 49; refine (l01Deg_pad x _ AC.out.nz AL rfl _).mono ?_; rintro e w5 ⟨rfl, E5⟩; replace F := F.next E5) | (go_at_call 67; with_reducible refine (CP2.out _).mono ?_; rintro e w5 ⟨rfl, E5⟩; replace F := F.next E5) | (go_at_call 67; with_reducible refine (CP1.out _).mono ?_; rintro e w5 ⟨rfl, E5⟩; replace F := F.next E5) | (go_at_call 48; refine (l01One_any _).mono ?_; rintro e w5 ⟨rfl, E5⟩; replace F := F.next E5) | (apply wplEql; exact rfl; exact rfl; exact rfl; exact rfl; exact pad_length _; exact pad_length _; first | rw [Q2.out] | rw [Q1.out]) | ((with_reducible show wpList _ _ _ _ _ _); first | (apply hpLd F; exact rfl; exact rfl; exact rfl; (· repeat (first | exact Has.head | apply Has.tail))) | (apply hpBox F; exact rfl; exact rfl; exact rfl; (· with_reducible first | exact pad_length _ | exact zeros64_length | exact tab_length _ _ | assumption)) | (apply hpAlloc F; exact rfl; exact rfl) | (apply hpSt F; exact rfl; exact rfl; exact rfl; exact rfl; (· repeat (first | exact Upd.head | apply Upd.tail)); (· with_reducible first | exact pad_length _ | exact zeros64_length | exact tab_length _ _ | assumption))))
              go_roundg (gk - 1)
              case measure => omega
              case rel => exact ⟨k + 1, by omega, by go_num, by rw [T1.out], by rw [T2.out], F.tail⟩
            · have T1 : Hid (cntU (ptS p d m (e1 p)) (min (k + 1) p.toNat) = cntU (ptS p d m (e1 p)) k + 2) := Lib.hid (by rw [m2, U1.out, S1.out]; simp [hx, q1])
              have Q1 : Hid ((pad (powM p x (e1 p) m) == pad [1]) = true) := Lib.hid (by rw [E1'.out, q1])
              clear m1 m2 kp hx q1
              go_wp2_with (first | (go_at_call 49; refine (l01Deg_pad x _ AC.out.nz AL rfl _).mono ?_; rintro e w5 ⟨rfl, E5⟩; replace F := F.next E5) | (go_at_call 67; with_reducible refine (CP2.out _).mono ?_; rintro e w5 ⟨rfl, E5⟩; replace F := F.next E5) | (go_at_call 67; with_reducible refine (CP1.out _).mono ?_; rintro e w5 ⟨rfl, E5⟩; replace F := F.next E5) | (go_at_call 48; refine (l01One_any _).mono ?_; rintro e w5 ⟨rfl, E5⟩; replace F := F.next E5) | (apply wplEql; exact rfl; exact rfl; exact rfl; exact rfl; exact pad_length _; exact pad_length _; first | rw [Q2.out] | rw [Q1.out]) | ((with_reducible show wpList _ _ _ _ _ _); first | (apply hpLd F; exact rfl; exact rfl; exact rfl; (· repeat (first | exact Has.head | apply Has.tail))) | (apply hpBox F; exact rfl; exact rfl; exact rfl; (· with_reducible first | exact pad_length _ | exact zeros64_length | exact tab_length _ _ | assumption)) | (apply hpAlloc F; exact rfl; exact rfl) | (apply hpSt F; exact rfl; exact rfl; exact rfl; exact rfl; (· repeat (first | exact Upd.head | apply Upd.tail)); (· with_reducible first | exact pad_length _ | exact zeros64_length | exact tab_length _ _ | assumption))))
              go_roundg (gk - 1)
              case measure => omega
              case rel => exact ⟨k + 1, by omega, by go_num, by rw [T1.out], by rw [T2.out], F.tail⟩
          · have t3 : decide ((k : Int) ≥ p) = true := decide_eq_true (by omega)
            have t4 : decide (p ≤ (k : Int)) = true := decide_eq_true (by omega)
            have m1 : min k p.toNat = p.toNat := by omega
            have m2 : min (k + 1) p.toNat = p.toNat := by omega
            rw [m1] at c1 ⊢
            have T1 : Hid (cntU (ptS p d m (e1 p)) (min (k + 1) p.toNat) = cntU (ptS p d m (e1 p)) p.toNat) := Lib.hid (by rw [m2])
            have Q1 : Hid (e1 p = e1 p) := Lib.hid rfl
            clear m1 m2 kp hx
            go_wp2_with (first | (go_at_call 49; refine (l01Deg_pad x _ AC.out.nz AL rfl _).mono ?_; rintro e w5 ⟨rfl, E5⟩; replace F := F.next E5) | (go_at_call 67; with_reducible refine (CP2.out _).mono ?_; rintro e w5 ⟨rfl, E5⟩; replace F := F.next E5) | (go_at_call 67; with_reducible refine (CP1.out _).mono ?_; rintro e w5 ⟨rfl, E5⟩; replace F := F.next E5) | (go_at_call 48; refine (l01One_any _).mono ?_; rintro e w5 ⟨rfl, E5⟩; replace F := F.next E5) | (apply wplEql; exact rfl; exact rfl; exact rfl; exact rfl; exact pad_length _; exact pad_length _; first | rw [Q2.out] | rw [Q1.out]) | ((with_reducible show wpList _ _ _ _ _ _); first | (apply hpLd F; exact rfl; exact rfl; exact rfl; (· repeat (first | exact Has.head | apply Has.tail))) | (apply hpBox F; exact rfl; exact rfl; exact rfl; (· with_reducible first | exact pad_length _ | exact zeros64_length | exact tab_length _ _ | assumption)) | (apply hpAlloc F; exact rfl; exact rfl) | (apply hpSt F; exact rfl; exact rfl; exact rfl; exact rfl; (· repeat (first | exact Upd.head | apply Upd.tail)); (· with_reducible first | exact pad_length _ | exact zeros64_length | exact tab_length _ _ | assumption))))
            go_roundg (gk - 1)
            case measure => omega
            case rel => exact ⟨k + 1, by omega, by go_num, by rw [T1.out], by rw [T2.out], F.tail⟩
        · have T2 : Hid (cntU (ptS p d m (e2 p)) (k + 1) = cntU (ptS p d m (e2 p)) k + 2) := Lib.hid (by rw [U2.out, S2.out]; simp [hx, q2])
          have Q2 : Hid ((pad (powM p x (e2 p) m) == pad [1]) = true) := Lib.hid (by rw [E2'.out, q2])
          clear q2
          by_cases kp : k < p.toNat
          · have t3 : decide ((k : Int) ≥ p) = false := decide_eq_false (by omega)
            have t4 : decide (p ≤ (k : Int)) = false := decide_eq_false (by omega)
            have m1 : min k p.toNat = k := by omega
            have m2 : min (k + 1) p.toNat = k + 1 := by omega
            rw [m1] at c1 ⊢
            cases q1 : powM p x (e1 p) m == [1]
            · have T1 : Hid (cntU (ptS p d m (e1 p)) (min (k + 1) p.toNat) = cntU (ptS p d m (e1 p)) k) := Lib.hid (by rw [m2, U1.out, S1.out]; simp [hx, q1])
              have Q1 : Hid ((pad (powM p x (e1 p) m) == pad [1]) = false) := Lib.hid (by rw [E1'.out, q1])
              clear m1 m2 kp hx q1
              go_wp2_with (first | (go_at_call 49; refine (l01Deg_pad x _ AC.out.nz AL rfl _).mono ?_; rintro e w5 ⟨rfl, E5⟩; replace F := F.next E5) | (go_at_call 67; with_reducible refine (CP2.out _).mono ?_; rintro e w5 ⟨rfl, E5⟩; replace F := F.next E5) | (go_at_call 67; with_reducible refine (CP1.out _).mono ?_; rintro e w5 ⟨rfl, E5⟩; replace F := F.next E5) | (go_at_call 48; refine (l01One_any _).mono ?_; rintro e w5 ⟨rfl, E5⟩; replace F := F.next E5) | (apply wplEql; exact rfl; exact rfl; exact rfl; exact rfl; exact pad_length _; exact pad_length _; first | rw [Q2.out] | rw [Q1.out]) | ((with_reducible show wpList _ _ _ _ _ _); first | (apply hpLd F; exact rfl; exact rfl; exact rfl; (· repeat (first | exact Has.head | apply Has.tail))) | (apply hpBox F; exact rfl; exact rfl; exact rfl; (· with_reducible first | exact pad_length _ | exact zeros64_length | exact tab_length _ _ | assumption)) | (apply hpAlloc F; exact rfl; exact rfl) | (apply hpSt F; exact rfl; exact rfl; exact rfl; exact rfl; (· repeat (first | exact Upd.head | apply Upd.tail)); (· with_reducible first | exact pad_length _ | exact zeros64_length | exact tab_length _ _ | assumption))))
              go_roundg (gk - 1)
              case measure => omega
              case rel => exact ⟨k + 1, by omega, by go_num, by rw [T1.out], by rw [T2.out], F.tail⟩
            · have T1 : Hid (cntU (ptS p d m (e1 p)) (min (k + 1) p.toNat) = cntU (ptS p d m (e1 p)) k + 2) := Lib.hid (by rw [m2, U1.out, S1.out]; simp [hx, q1])
              have Q1 : Hid ((pad (powM p x (e1 p) m) == pad [1]) = true) := Lib.hid (by rw [E1'.out, q1])
              clear m1 m2 kp hx q1
              go_wp2_with (first | (go_at_call 49; refine (l01Deg_pad x _ AC.out.nz AL rfl _).mono ?_; rintro e w5 ⟨rfl, E5⟩; replace F := F.next E5) | (go_at_call 67; with_reducible refine (CP2.out _).mono ?_; rintro e w5 ⟨rfl, E5⟩; replace F := F.next E5) | (go_at_call 67; with_reducible refine (CP1.out _).mono ?_; rintro e w5 ⟨rfl, E5⟩; replace F := F.next E5) | (go_at_call 48; refine (l01One_any _).mono ?_; rintro e w5 ⟨rfl, E5⟩; replace F := F.next E5) | (apply wplEql; exact rfl; exact rfl; exact rfl; exact rfl; exact pad_length _; exact pad_length _; first | rw [Q2.out] | rw [Q1.out]) | ((with_reducible show wpList _ _ _ _ _ _); first | (apply hpLd F; exact rfl; exact rfl; exact rfl; (· repeat (first | exact Has.head | apply Has.tail))) | (apply hpBox F; exact rfl; exact rfl; exact rfl; (· with_reducible first | exact pad_length _ | exact zeros64_length | exact tab_length _ _ | assumption)) | (apply hpAlloc F; exact rfl; exact rfl) | (apply hpSt F; exact rfl; exact rfl; exact rfl; exact rfl; (· repeat (first | exact Upd.head | apply Upd.tail)); (· with_reducible first | exact pad_length _ | exact zeros64_length | exact tab_length _ _ | assumption))))
              go_roundg (gk - 1)
              case measure => omega
              case rel => exact ⟨k + 1, by omega, by go_num, by rw [T1.out], by rw [T2.out], F.tail⟩
          · have t3 : decide ((k : Int) ≥ p) = true := decide_eq_true (by omega)
            have t4 : decide (p ≤ (k : Int)) = true := decide_eq_true (by omega)
            have m1 : min k p.toNat = p.toNat := by omega
            have m2 : min (k + 1) p.toNat = p.toNat := by omega
            rw [m1] at c1 ⊢
            have T1 : Hid (cntU (ptS p d m (e1 p)) (min (k + 1) p.toNat) = cntU (ptS p d m (e1 p)) p.toNat) := Lib.hid (by rw [m2])
            have Q1 : Hid (e1 p = e1 p) := Lib.hid rfl
            clear m1 m2 kp hx
            go_wp2_with (first | (go_at_call 49; refine (l01Deg_pad x _ AC.out.nz AL rfl _).mono ?_; rintro e w5 ⟨rfl, E5⟩; replace F := F.next E5) | (go_at_call 67; with_reducible refine (CP2.out _).mono ?_; rintro e w5 ⟨rfl, E5⟩; replace F := F.next E5) | (go_at_call 67; with_reducible refine (CP1.out _).mono ?_; rintro e w5 ⟨rfl, E5⟩; replace F := F.next E5) | (go_at_call 48; refine (l01One_any _).mono ?_; rintro e w5 ⟨rfl, E5⟩; replace F := F.next E5) | (apply wplEql; exact rfl; exact rfl; exact rfl; exact rfl; exact pad_length _; exact pad_length _; first | rw [Q2.out] | rw [Q1.out]) | ((with_reducible show wpList _ _ _ _ _ _); first | (apply hpLd F; exact rfl; exact rfl; exact rfl; (· repeat (first | exact Has.head | apply Has.tail))) | (apply hpBox F; exact rfl; exact rfl; exact rfl; (· with_reducible first | exact pad_length _ | exact zeros64_length | exact tab_length _ _ | assumption)) | (apply hpAlloc F; exact rfl; exact rfl) | (apply hpSt F; exact rfl; exact rfl; exact rfl; exact rfl; (· repeat (first | exact Upd.head | apply Upd.tail)); (· with_reducible first | exact pad_length _ | exact zeros64_length | exact tab_length _ _ | assumption))))
            go_roundg (gk - 1)
            case measure => omega
            case rel => exact ⟨k + 1, by omega, by go_num, by rw [T1.out], by rw [T2.out], F.tail⟩

end Go.Proofs.YtaemiknaiccijaaGreat

/- Slices of polynomials: how they read, and what a slice literal of one makes. -/
namespace Go.Proofs.YtaemiknaiccijaaGreat
open Go.RowKit

/-- A slice of polynomials, at A, reads as L (raw arrays of 64). -/
def PsAt (w : World) (A : Option Addr) (L : List (List Int)) : Prop :=
  L.length ≤ 2000000 ∧ (∀ x ∈ L, x.length = 64) ∧ (0 < L.length → ∃ b o, A = some ⟨b, o, none⟩ ∧ ∀ i x, L[i]? = some x → w.rangeAt b (o + i * 64) (u8s x).toList)
theorem PsAt.nil (w : World) (A : Option Addr) : PsAt w A [] := ⟨by simp, by simp, fun h => absurd h (by simp)⟩
theorem u8s_toList (l : List Int) : (u8s l).toList = l.map (Value.int .u8) := by simp [u8s]
theorem range_u8s {w : World} {b o : Nat} {x : List Int} : w.rangeAt b o (u8s x).toList ↔ ∀ j, j < x.length → w.cell? ⟨b, o + j, none⟩ = some (.int .u8 (at0 x j)) := by
  unfold World.rangeAt
  rw [u8s_toList]
  constructor
  · intro h j hj
    have e : at0 x j = x[j] := by simp [at0, hj]
    exact h j _ (by rw [List.getElem?_map, List.getElem?_eq_getElem hj, e]; rfl)
  · intro h j v hv
    rw [List.getElem?_map, Option.map_eq_some_iff] at hv
    obtain ⟨y, hy, rfl⟩ := hv
    obtain ⟨hj, e⟩ := List.getElem?_eq_some_iff.1 hy
    have e2 : at0 x j = y := by simp [at0, hj, e]
    rw [h j hj, e2]
theorem range_below {w w' : World} {b o : Nat} {cs : List Value} (h : w.rangeAt b o cs) (hb : Ext w w') : w'.rangeAt b o cs := fun j v hv => by
  have c := h j v hv
  exact (hb.cell (World.block_lt_of_cell? w _ c)).trans c
theorem PsAt.below {w w' : World} {A : Option Addr} {L : List (List Int)} (h : PsAt w A L) (hb : Ext w w') : PsAt w' A L :=
  ⟨h.1, h.2.1, fun hn => by
    obtain ⟨b, o, e, hc⟩ := h.2.2 hn
    exact ⟨b, o, e, fun i x hx => range_below (hc i x hx) hb⟩⟩
theorem PsAt.drew {w : World} {A : Option Addr} {L : List (List Int)} (h : PsAt w A L) : PsAt w.drew A L := h
/-- One block that holds them all. -/
def flat : List (List Int) → List Int
  | [] => []
  | x :: xs => x ++ flat xs
theorem flat_length : ∀ (L : List (List Int)), (∀ x ∈ L, x.length = 64) → (flat L).length = L.length * 64
  | [], _ => rfl
  | x :: xs, h => by
    rw [flat, List.length_append, flat_length xs (fun y hy => h y (by simp [hy])), h x (by simp), List.length_cons]; omega
theorem flat_at : ∀ (L : List (List Int)) (i : Nat) (x : List Int), (∀ y ∈ L, y.length = 64) → L[i]? = some x → ∀ j, j < 64 → at0 (flat L) (i * 64 + j) = at0 x j
  | [], i, x, _, h => by simp at h
  | y :: ys, 0, x, hl, h => by
    simp only [List.getElem?_cons_zero, Option.some.injEq] at h
    subst h
    intro j hj
    rw [flat, Nat.zero_mul, Nat.zero_add, at0_append_lt _ _ _ (by rw [hl y (by simp)]; exact hj)]
  | y :: ys, i + 1, x, hl, h => by
    intro j hj
    have hy := hl y (by simp)
    rw [flat, at0_append_ge _ _ _ (by rw [hy]; omega), hy, show (i + 1) * 64 + j - 64 = i * 64 + j by omega]
    exact flat_at ys i x (fun z hz => hl z (by simp [hz])) (by simpa using h) j hj
theorem Arr.polys {w : World} {g : Nat} {T : TypeId} {L : List (List Int)} (h : Arr w g T (flat L)) (hl : ∀ x ∈ L, x.length = 64) (hm : L.length ≤ 2000000) : PsAt w (some ⟨g, 0, none⟩) L :=
  ⟨hm, hl, fun _ => ⟨g, 0, rfl, fun i x hx => range_u8s.2 fun j hj => by
    have hx64 := hl x (List.mem_of_getElem? hx)
    have hi := (List.getElem?_eq_some_iff.1 hx).1
    rw [Nat.zero_add, h.cell _ (by rw [flat_length L hl]; omega), flat_at L i x hl hx j (by omega)]⟩⟩

/-- A slice literal of one polynomial. -/
theorem fill_one (l : List Int) (hl : l.length = 64) (cells : Array Value) (hc : cells.size = 64) :
    Instr.fill (fun i => some (i * 64, 64)) cells [(0, .agg (u8s l))] = some (u8s l) := by
  obtain ⟨r, h1, h2, h3⟩ := Great.fill_dense (s := 64) (by decide) [.agg (u8s l)] 0 cells (by intro v hv; simp at hv; subst hv; simp [Value.cells, u8s_size, hl]) (by simp [hc])
  have e : Instr.fill (fun i => some (i * 64, 64)) cells (([Value.agg (u8s l)].zipIdx 0).map fun x => (x.2, x.1)) = Instr.fill (fun i => some (i * 64, 64)) cells [(0, .agg (u8s l))] := rfl
  rw [e] at h1
  rw [h1]
  congr 1
  apply Array.ext
  · rw [h2, hc, u8s_size, hl]
  · intro k k1 k2
    have := h3 k
    have k3 : k < 64 := by omega
    rw [if_pos (by simp; omega), Nat.div_eq_of_lt k3, Nat.mod_eq_of_lt k3, Array.getElem?_eq_getElem k1] at this
    simp only [Nat.sub_self, List.getElem?_cons_zero, Option.bind_some, Value.cells, Array.getElem?_eq_getElem k2, Option.some.injEq] at this
    exact this
theorem built_one (l : List Int) (hl : l.length = 64) : Tryz.prog.builtSlice 25 1 [(0, .agg (u8s l))] = some (u8s l) := by
  unfold Program.builtSlice
  have hi := infoPoly
  have hz : ((Tryz.prog.info? 25).bind (·.zero)).isSome = true := by kernel_rfl
  cases h : Tryz.prog.info? 25 with
  | none => rw [h] at hi; cases hi
  | some i =>
    rw [h] at hi hz
    have hs : i.size = 64 := by simpa using hi
    simp only [Option.bind_some] at hz
    obtain ⟨z, hz⟩ := Option.isSome_iff_exists.1 hz
    simp only [hz, hs]
    rw [if_neg (by decide)]
    exact fill_one l hl _ (by simp)
section
variable {ops : Array Oper} {rest : List Oper} {o : Oper} {a : Act} {w : World} {Q : Exit → Act → World → Prop}
theorem wplOne (x : Operand) (ho : o.op = .buildSlice 29 1 #[(0, x)]) (hgd : o.guard = none) {l : List Int} (hx : a.eval x = .agg (u8s l)) (hl : l.length = 64)
    (h : ∀ w' g, Ext w w' → Arr w' g 25 l → w.heap.size ≤ g → wpList Tryz.prog ops Q rest (a.put o.dst (.slice (some ⟨g, 0, none⟩) 1 1)) w') : wpList Tryz.prog ops Q (o :: rest) a w :=
  Great.wpList_buildSliceTo hgd _ _ 1 _ ho w.heap.size rfl o.dst rfl Tryz.underlying29 (u8s l) (by
    have e : ((#[(0, x)] : Array (Nat × Operand)).map fun (i, x) => (i, a.eval x)).toList = [(0, .agg (u8s l))] := by simp [hx]
    rw [e]; exact built_one l hl) (h _ _ ((Ext.refl w).alloc _) (Arr.new w _ l) (Nat.le_refl _))
/-- One polynomial out of a slice of them. -/
theorem wplElem (x : Operand) (ho : o.op = .load 25 x) (hgd : o.guard = none) {b p : Nat} {l : List Int} (hg : w.rangeAt b p (u8s l).toList) (hx : a.eval x = .pointer (some ⟨b, p, none⟩)) (hl : l.length = 64)
    (h : wpList Tryz.prog ops Q rest (a.put o.dst (.agg (u8s l))) w) : wpList Tryz.prog ops Q (o :: rest) a w :=
  wpList_load_mid hgd _ x ho b p hx _ _ hg Tryz.underlying25 rfl (by rw [infoPoly, u8s_toList, List.length_map, hl]) (by simpa using h)
end

end Go.Proofs.YtaemiknaiccijaaGreat

/- The reference's check of lists of polynomials. -/
namespace Go.Proofs.YtaemiknaiccijaaGreat
open Go.RowKit

def codeP (p : Int) (L : List (List Int)) : Int := if primeB p && L.all (isPB p) then 0 else 1
theorem codeP_good {p : Int} {L : List (List Int)} (h : codeP p L = 0) : PrimeP p ∧ ∀ x ∈ L, isPB p x = true := by
  unfold codeP at h
  split at h
  · rename_i e
    rw [Bool.and_eq_true, List.all_eq_true] at e
    exact ⟨(primeB_iff p).1 e.1, e.2⟩
  · omega

def CodeRel (p : Int) (L : List (List Int)) (w : World) (f : Nat) (i : Value) (wr : World) : Prop :=
  ∃ k : Nat, f + k = L.length ∧ i = .int .i64 k ∧ (L.take k).all (isPB p) = true ∧ Ext w wr

set_option maxRecDepth 100000 in
set_option maxHeartbeats 400000 in
theorem l01Code_any (p : Int) (A : Option Addr) (cap : Nat) (L : List (List Int)) (w : World) (hL : PsAt w A L) (hb : ∀ x ∈ L, IsB x) :
    Calls Tryz.prog 95 #[.int .i64 p, .slice A L.length cap] w fun e w' => e = .returned (.int .i64 (codeP p L)) ∧ Ext w w' := by
  have HB := Lib.hid hb
  have HL := Lib.hid hL
  have hm := hL.1
  have E := Ext.refl w
  clear hb hL
  by_cases hp : primeB p = true
  · have G : Hid (codeP p L = if L.all (isPB p) then 0 else 1) := Lib.hid (by rw [codeP, hp, Bool.true_and])
    go_enter Tryz.func95, Tryz.ntmps95
    go_wp2_with (first | (go_at_call 94; refine (l01Prime_any _ _).mono ?_; rintro e w' ⟨rfl, rfl⟩))
    go_loopg [5] L.length (fun f i wr => CodeRel p L w f i wr)
    case atStart => exact ⟨0, by omega, rfl, by simp, E⟩
    case round =>
      clear E
      obtain ⟨k, hf, rfl, hall, E⟩ := hrel
      have HA := Lib.hid hall
      have HLw := Lib.hid (HL.out.below E)
      clear hall
      by_cases hk : k < L.length
      · have t1 : decide ((k : Int) < (L.length : Int)) = true := decide_eq_true (by omega)
        obtain ⟨b, o, rfl, hr⟩ := HLw.out.2.2 (by omega)
        obtain ⟨x, hx⟩ : ∃ x, L[k]? = some x := ⟨L[k], List.getElem?_eq_getElem hk⟩
        have r := hr k x hx
        have R := Lib.hid r
        have x64 : x.length = 64 := HLw.out.2.1 x (List.mem_of_getElem? hx)
        have XB := Lib.hid (HB.out x (List.mem_of_getElem? hx))
        have TK : Hid (L.take (k + 1) = L.take k ++ [x]) := Lib.hid (by rw [List.take_add_one, hx]; rfl)
        have NA : Hid (isPB p x = false → L.all (isPB p) = false) := Lib.hid (fun h => by
          rw [Bool.eq_false_iff, Ne, List.all_eq_true]; intro h2; rw [h2 x (List.mem_of_getElem? hx)] at h; cases h)
        clear hr r hx
        cases hq : isPB p x with
        | true =>
          have Q := Lib.hid hq
          clear hq
          go_wp2_with (first | (go_at_call 61; refine (l01Is_any p x x64 XB.out _).mono ?_; rintro e w' ⟨rfl, E2⟩; replace E := E.tr E2; rw [Q.out]) | ((with_reducible show wpList _ _ _ _ _ _); apply wplElem; exact rfl; exact rfl; exact R.out; exact rfl; exact x64))
          go_roundg (gk - 1)
          case measure => omega
          case rel => exact ⟨k + 1, by omega, by go_num, by rw [TK.out, List.all_append, HA.out]; simp [Q.out], E⟩
        | false =>
          have Q := Lib.hid hq
          have G2 := Lib.hid (NA.out hq)
          clear hq
          go_wp2_with (first | (go_at_call 61; refine (l01Is_any p x x64 XB.out _).mono ?_; rintro e w' ⟨rfl, E2⟩; replace E := E.tr E2; rw [Q.out]) | ((with_reducible show wpList _ _ _ _ _ _); apply wplElem; exact rfl; exact rfl; exact R.out; exact rfl; exact x64))
          go_ret
          exact ⟨ret_int (by rw [G.out, G2.out]; rfl), E⟩
      · have t1 : decide ((k : Int) < (L.length : Int)) = false := decide_eq_false (by omega)
        have G2 : Hid (L.all (isPB p) = true) := Lib.hid (by have := HA.out; rwa [List.take_of_length_le (by omega)] at this)
        go_wp2
        go_ret
        exact ⟨ret_int (by rw [G.out, G2.out]; rfl), E⟩
  · have hp' : primeB p = false := by simpa using hp
    have G : Hid (codeP p L = 1) := Lib.hid (by rw [codeP, hp']; rfl)
    clear hp
    go_enter Tryz.func95, Tryz.ntmps95
    go_wp2_with (first | (go_at_call 94; refine (l01Prime_any _ _).mono ?_; rintro e w' ⟨rfl, rfl⟩))
    go_ret
    exact ⟨ret_int G.out.symm, E⟩

end Go.Proofs.YtaemiknaiccijaaGreat
