/- Lemmas and contracts of functions, for the laws: The reference's powers by a modulus, and its test for irreducible polynomials. -/
import Derived.Test.YtaemiknaiccijaaGreatRm5
import Derived.Test.YtaemiknaiccijaaGreatRm7
import Derived.Test.YtaemiknaiccijaaGreatRm1
set_option linter.unusedVariables false
set_option linter.unusedSimpArgs false
namespace Go.Proofs.YtaemiknaiccijaaGreat
open Go.RowKit

def PwRel (p : Int) (a m : List Int) (k0 : Nat) (w : World) (ga gm z go gs n : Nat) (i : Value) (wr : World) : Prop :=
  ∃ (k : Nat) (out sq : List Int), k ≤ n ∧ i = .int .i64 k ∧ (k : Int) ≤ 1000000000000 ∧ Can p out ∧ out.length < m.length ∧ Can p sq ∧ sq.length < m.length ∧ pwF p m n k out sq = powM p a k0 m ∧
    Hp w wr [(gs, pad sq), (go, pad out), (z, zeros64), (gm, pad m), (ga, pad a)]

set_option maxRecDepth 100000 in
set_option maxHeartbeats 2000000 in
theorem l01PowMod_any (p : Int) (a m : List Int) (k : Nat) (hk : (k : Int) ≤ 1000000000000) (hp : PrimeP p) (ha : Can p a) (hm : Can p m) (la : a.length ≤ 64) (lm : m.length ≤ 64) (hne : 0 < m.length) (w : World) :
    Calls Tryz.prog 67 #[.int .i64 p, .agg (u8s (pad a)), .int .i64 k, .agg (u8s (pad m))] w fun e w' => e = .returned (.agg (u8s (pad (powM p a k m)))) ∧ Ext w w' := by
  have hz := zlit
  have HP := Lib.hid hp
  have HA := Lib.hid ha
  have HM := Lib.hid hm
  have NE := Lib.hid hne
  have lo := hp.lo
  have hi := hp.hi
  have ONE := Lib.hid (can_one (show 1 < p by omega))
  have D1 := Lib.hid (dr_can (show 0 < p by omega) ONE.out.inp (b := m))
  have D2 := Lib.hid (dr_can (show 0 < p by omega) ha.inp (b := m))
  have L1 := dr_lt hp hm hne (a := [1])
  have L2 := dr_lt hp hm hne (a := a)
  clear ha hm hp hne
  have F := Hp.start w
  go_enter Tryz.func67, Tryz.ntmps67
  go_wp2_with (first | ((with_reducible show wpList _ _ _ _ _ _); first | (apply hpLd F; exact rfl; exact rfl; exact rfl; (· repeat (first | exact Has.head | apply Has.tail))) | (apply hpBox F; exact rfl; exact rfl; exact rfl; (· with_reducible first | exact pad_length _ | exact zeros64_length | exact tab_length _ _ | assumption)) | (apply hpAlloc F; exact rfl; exact rfl) | (apply hpSt F; exact rfl; exact rfl; exact rfl; exact rfl; (· repeat (first | exact Upd.head | apply Upd.tail)); (· with_reducible first | exact pad_length _ | exact zeros64_length | exact tab_length _ _ | assumption))))
  clear F
  intro ga w1 F
  go_wp2_with (first | ((with_reducible show wpList _ _ _ _ _ _); first | (apply hpLd F; exact rfl; exact rfl; exact rfl; (· repeat (first | exact Has.head | apply Has.tail))) | (apply hpBox F; exact rfl; exact rfl; exact rfl; (· with_reducible first | exact pad_length _ | exact zeros64_length | exact tab_length _ _ | assumption)) | (apply hpAlloc F; exact rfl; exact rfl) | (apply hpSt F; exact rfl; exact rfl; exact rfl; exact rfl; (· repeat (first | exact Upd.head | apply Upd.tail)); (· with_reducible first | exact pad_length _ | exact zeros64_length | exact tab_length _ _ | assumption))))
  clear F
  intro gm w1 F
  go_wp2_with (first | ((with_reducible show wpList _ _ _ _ _ _); first | (apply hpLd F; exact rfl; exact rfl; exact rfl; (· repeat (first | exact Has.head | apply Has.tail))) | (apply hpBox F; exact rfl; exact rfl; exact rfl; (· with_reducible first | exact pad_length _ | exact zeros64_length | exact tab_length _ _ | assumption)) | (apply hpAlloc F; exact rfl; exact rfl) | (apply hpSt F; exact rfl; exact rfl; exact rfl; exact rfl; (· repeat (first | exact Upd.head | apply Upd.tail)); (· with_reducible first | exact pad_length _ | exact zeros64_length | exact tab_length _ _ | assumption))))
  clear F
  intro z w1 F
  go_wp2_with (first | ((with_reducible show wpList _ _ _ _ _ _); first | (apply hpLd F; exact rfl; exact rfl; exact rfl; (· repeat (first | exact Has.head | apply Has.tail))) | (apply hpBox F; exact rfl; exact rfl; exact rfl; (· with_reducible first | exact pad_length _ | exact zeros64_length | exact tab_length _ _ | assumption)) | (apply hpAlloc F; exact rfl; exact rfl) | (apply hpSt F; exact rfl; exact rfl; exact rfl; exact rfl; (· repeat (first | exact Upd.head | apply Upd.tail)); (· with_reducible first | exact pad_length _ | exact zeros64_length | exact tab_length _ _ | assumption))))
  refine region_ext 10 (by kernel_rfl) (by kernel_rfl) (by kernel_rfl) [8,9] [eqv (.int .i64 p), eqv (.agg (u8s (pad [1]))), eqv (.agg (u8s (pad m))), eqv (.agg (u8s (pad (dr p [1] m)))), eqv (.int .i64 p), eqv (.agg (u8s (pad a))), eqv (.agg (u8s (pad m))), eqv (.agg (u8s (pad (dr p a m)))), isArr w1.heap.size 25 zeros64, isArr w1.heap.size 25 zeros64]
    ⟨mono_eqv _, mono_eqv _, mono_eqv _, mono_eqv _, mono_eqv _, mono_eqv _, mono_eqv _, mono_eqv _, mono_arr _ _ _, mono_arr _ _ _, trivial⟩ (fun vals => ?_) (fun vals w9 hE9 hS9 hN9 => ?_)
  · simp only [List.take_succ_cons, List.take_zero]
    refine ⟨fun w8 hE8 hk => doesK_plain rfl fun K hK => ?_, ?_⟩
    · go_simp
      (try go_bits)
      exact hK _ _ rfl (Ext.refl _) rfl
    simp only [Act.put, List.setIfInBounds_toArray, List.set_cons_zero, List.set_cons_succ]
    refine ⟨fun w8 hE8 hk => doesK_plain rfl fun K hK => ?_, ?_⟩
    · go_simp
      refine (l01One_any _).mono ?_
      rintro e7 w7 ⟨rfl, hE7⟩
      exact hK _ _ rfl hE7 rfl
    simp only [Act.put, List.setIfInBounds_toArray, List.set_cons_zero, List.set_cons_succ]
    refine ⟨fun w8 hE8 hk => doesK_plain rfl fun K hK => ?_, ?_⟩
    · exact wp_load_row _ _ rfl _ (by first | rfl | simp [*]) _ _ (0, 0) _ ((F.at_ 1 rfl).ext hE8) Tryz.underlying25 rfl (by rw [infoPoly, u8s_size, pad_length _]) (hK _ _ rfl (Ext.refl _) rfl)
    simp only [Act.put, List.setIfInBounds_toArray, List.set_cons_zero, List.set_cons_succ]
    refine ⟨fun w8 hE8 hk => doesK_plain rfl fun K hK => ?_, ?_⟩
    · have k0 : vals 0 = .int .i64 p := hk 0 (by decide) (by kernel_rfl)
      have k1 : vals 1 = .agg (u8s (pad [1])) := hk 1 (by decide) (by kernel_rfl)
      have k2 : vals 2 = .agg (u8s (pad m)) := hk 2 (by decide) (by kernel_rfl)
      go_simp
      refine (l01Mod_any p [1] m HP.out ONE.out HM.out (by decide) lm NE.out _).mono ?_
      rintro e7 w7 ⟨rfl, hE7⟩
      exact hK _ _ rfl hE7 rfl
    simp only [Act.put, List.setIfInBounds_toArray, List.set_cons_zero, List.set_cons_succ]
    refine ⟨fun w8 hE8 hk => doesK_plain rfl fun K hK => ?_, ?_⟩
    · go_simp
      (try go_bits)
      exact hK _ _ rfl (Ext.refl _) rfl
    simp only [Act.put, List.setIfInBounds_toArray, List.set_cons_zero, List.set_cons_succ]
    refine ⟨fun w8 hE8 hk => doesK_plain rfl fun K hK => ?_, ?_⟩
    · exact wp_load_row _ _ rfl _ (by first | rfl | simp [*]) _ _ (0, 0) _ ((F.at_ 2 rfl).ext hE8) Tryz.underlying25 rfl (by rw [infoPoly, u8s_size, pad_length _]) (hK _ _ rfl (Ext.refl _) rfl)
    simp only [Act.put, List.setIfInBounds_toArray, List.set_cons_zero, List.set_cons_succ]
    refine ⟨fun w8 hE8 hk => doesK_plain rfl fun K hK => ?_, ?_⟩
    · exact wp_load_row _ _ rfl _ (by first | rfl | simp [*]) _ _ (0, 0) _ ((F.at_ 1 rfl).ext hE8) Tryz.underlying25 rfl (by rw [infoPoly, u8s_size, pad_length _]) (hK _ _ rfl (Ext.refl _) rfl)
    simp only [Act.put, List.setIfInBounds_toArray, List.set_cons_zero, List.set_cons_succ]
    refine ⟨fun w8 hE8 hk => doesK_plain rfl fun K hK => ?_, ?_⟩
    · have k3 : vals 3 = .agg (u8s (pad (dr p [1] m))) := hk 3 (by decide) (by kernel_rfl)
      have k4 : vals 4 = .int .i64 p := hk 4 (by decide) (by kernel_rfl)
      have k5 : vals 5 = .agg (u8s (pad a)) := hk 5 (by decide) (by kernel_rfl)
      have k6 : vals 6 = .agg (u8s (pad m)) := hk 6 (by decide) (by kernel_rfl)
      go_simp
      refine (l01Mod_any p a m HP.out HA.out HM.out la lm NE.out _).mono ?_
      rintro e7 w7 ⟨rfl, hE7⟩
      exact hK _ _ rfl hE7 rfl
    simp only [Act.put, List.setIfInBounds_toArray, List.set_cons_zero, List.set_cons_succ]
    refine ⟨fun w8 hE8 hk => doesK_plain rfl fun K hK => ?_, ?_⟩
    · go_simp
      exact hK _ _ ⟨⟨_, rfl, by have := hE8.size; omega, Arr.new _ _ _⟩, rfl, by simp⟩ ((Ext.refl _).alloc _) rfl
    simp only [Act.put, List.setIfInBounds_toArray, List.set_cons_zero, List.set_cons_succ]
    refine ⟨fun w8 hE8 hk => doesK_plain rfl fun K hK => ?_, ?_⟩
    · go_simp
      exact hK _ _ ⟨⟨_, rfl, by have := hE8.size; omega, Arr.new _ _ _⟩, rfl, by simp⟩ ((Ext.refl _).alloc _) rfl
    exact trivial
  simp only [List.take_succ_cons, List.take_zero, List.drop_succ_cons, List.drop_zero, preAct, Nat.reduceAdd, Act.put, List.setIfInBounds_toArray, List.set_cons_zero, List.set_cons_succ]
  have k0 : vals 0 = .int .i64 p := hS9 0 (by decide) 
  have k1 : vals 1 = .agg (u8s (pad [1])) := hS9 1 (by decide) 
  have k2 : vals 2 = .agg (u8s (pad m)) := hS9 2 (by decide) 
  have k3 : vals 3 = .agg (u8s (pad (dr p [1] m))) := hS9 3 (by decide) 
  have k4 : vals 4 = .int .i64 p := hS9 4 (by decide) 
  have k5 : vals 5 = .agg (u8s (pad a)) := hS9 5 (by decide) 
  have k6 : vals 6 = .agg (u8s (pad m)) := hS9 6 (by decide) 
  have k7 : vals 7 = .agg (u8s (pad (dr p a m))) := hS9 7 (by decide) 
  obtain ⟨g8, k8, b8, a8⟩ : isArr w1.heap.size 25 zeros64 (vals 8) _ := hS9 8 (by decide) 
  obtain ⟨g9, k9, b9, a9⟩ : isArr w1.heap.size 25 zeros64 (vals 9) _ := hS9 9 (by decide) 
  simp only [k0, k1, k2, k3, k4, k5, k6, k7, k8, k9]
  have ne9 : g8 ≠ g9 := fun e => hN9 8 9 (by decide) (by decide) rfl rfl (by decide) (by rw [k8, k9, e])
  clear hN9 hS9 k0 k1 k2 k3 k4 k5 k6 k7 k8 k9
  replace F := F.addNew2 hE9 a8 zeros64_length b8 a9 zeros64_length b9 ne9
  clear hE9 a8 b8 a9 b9 ne9
  go_wp2_with (first | ((with_reducible show wpList _ _ _ _ _ _); first | (apply hpLd F; exact rfl; exact rfl; exact rfl; (· repeat (first | exact Has.head | apply Has.tail))) | (apply hpBox F; exact rfl; exact rfl; exact rfl; (· with_reducible first | exact pad_length _ | exact zeros64_length | exact tab_length _ _ | assumption)) | (apply hpAlloc F; exact rfl; exact rfl) | (apply hpSt F; exact rfl; exact rfl; exact rfl; exact rfl; (· repeat (first | exact Upd.head | apply Upd.tail)); (· with_reducible first | exact pad_length _ | exact zeros64_length | exact tab_length _ _ | assumption))))
  clear F
  intro w1 F
  try simp only [List.set_cons_zero, List.set_cons_succ] at F
  go_wp2_with (first | ((with_reducible show wpList _ _ _ _ _ _); first | (apply hpLd F; exact rfl; exact rfl; exact rfl; (· repeat (first | exact Has.head | apply Has.tail))) | (apply hpBox F; exact rfl; exact rfl; exact rfl; (· with_reducible first | exact pad_length _ | exact zeros64_length | exact tab_length _ _ | assumption)) | (apply hpAlloc F; exact rfl; exact rfl) | (apply hpSt F; exact rfl; exact rfl; exact rfl; exact rfl; (· repeat (first | exact Upd.head | apply Upd.tail)); (· with_reducible first | exact pad_length _ | exact zeros64_length | exact tab_length _ _ | assumption))))
  clear F
  intro w1 F
  try simp only [List.set_cons_zero, List.set_cons_succ] at F
  go_wp2_with (first | ((with_reducible show wpList _ _ _ _ _ _); first | (apply hpLd F; exact rfl; exact rfl; exact rfl; (· repeat (first | exact Has.head | apply Has.tail))) | (apply hpBox F; exact rfl; exact rfl; exact rfl; (· with_reducible first | exact pad_length _ | exact zeros64_length | exact tab_length _ _ | assumption)) | (apply hpAlloc F; exact rfl; exact rfl) | (apply hpSt F; exact rfl; exact rfl; exact rfl; exact rfl; (· repeat (first | exact Upd.head | apply Upd.tail)); (· with_reducible first | exact pad_length _ | exact zeros64_length | exact tab_length _ _ | assumption))))
  go_loopg [2] k (fun n i wr => PwRel p a m k w ga gm z g8 g9 n i wr)
  case atStart => exact ⟨k, _, _, Nat.le_refl _, rfl, hk, D1.out, L1, D2.out, L2, rfl, F⟩
  case round =>
    clear F D1 D2 L1 L2 hk
    obtain ⟨kk, out, sq, hk, rfl, hkb, co, lo1, cs, ls, hpw, F⟩ := hrel
    have HPW := Lib.hid hpw
    have CO := Lib.hid co
    have CS := Lib.hid cs
    clear hpw co cs
    by_cases k0 : kk = 0
    · subst k0
      have G : Hid (pad out = pad (powM p a k m)) := Lib.hid (by rw [← HPW.out, pwF_zero])
      rw [G.out] at F
      go_wp2_with (first | ((with_reducible show wpList _ _ _ _ _ _); first | (apply hpLd F; exact rfl; exact rfl; exact rfl; (· repeat (first | exact Has.head | apply Has.tail))) | (apply hpBox F; exact rfl; exact rfl; exact rfl; (· with_reducible first | exact pad_length _ | exact zeros64_length | exact tab_length _ _ | assumption)) | (apply hpAlloc F; exact rfl; exact rfl) | (apply hpSt F; exact rfl; exact rfl; exact rfl; exact rfl; (· repeat (first | exact Upd.head | apply Upd.tail)); (· with_reducible first | exact pad_length _ | exact zeros64_length | exact tab_length _ _ | assumption))))
      clear F
      intro w1 F
      try simp only [List.set_cons_zero, List.set_cons_succ] at F
      go_wp2_with (first | ((with_reducible show wpList _ _ _ _ _ _); first | (apply hpLd F; exact rfl; exact rfl; exact rfl; (· repeat (first | exact Has.head | apply Has.tail))) | (apply hpBox F; exact rfl; exact rfl; exact rfl; (· with_reducible first | exact pad_length _ | exact zeros64_length | exact tab_length _ _ | assumption)) | (apply hpAlloc F; exact rfl; exact rfl) | (apply hpSt F; exact rfl; exact rfl; exact rfl; exact rfl; (· repeat (first | exact Upd.head | apply Upd.tail)); (· with_reducible first | exact pad_length _ | exact zeros64_length | exact tab_length _ _ | assumption))))
      exact bodyPost_ret (res_c rfl rfl (F.at_ 2 rfl) (pad_length _) Tryz.underlying25 infoPoly) rfl ⟨rfl, F.ext⟩
    · have K0 := Lib.hid k0
      have kp : 1 ≤ kk := by omega
      obtain ⟨n, rfl⟩ : ∃ n, gk = n + 1 := ⟨gk - 1, by omega⟩
      have M1 := mulm_spec HP.out out sq HM.out NE.out
      have M2 := mulm_spec HP.out sq sq HM.out NE.out
      have C1 := Lib.hid M1.1
      have C2 := Lib.hid M2.1
      have L1 := M1.2
      have L2 := M2.2
      have hd : (kk : Int) / 2 = ((kk / 2 : Nat) : Int) := by omega
      have HD := Lib.hid hd
      clear k0 M1 M2 hd
      by_cases hodd : kk % 2 = 1
      · have to : ((kk : Int) % 2 == 1) = true := by simp; omega
        have ST := Lib.hid (pwF_step p m n kk out sq K0.out)
        have HO := Lib.hid hodd
        clear hodd
        go_wp2_with (first | (go_at_call 51; refine (l01MulMod_any p out sq m HP.out CO.out CS.out HM.out (by omega) (by omega) lm NE.out _).mono ?_; rintro e w2 ⟨rfl, E2⟩; replace F := F.next E2) | ((with_reducible show wpList _ _ _ _ _ _); first | (apply hpLd F; exact rfl; exact rfl; exact rfl; (· repeat (first | exact Has.head | apply Has.tail))) | (apply hpBox F; exact rfl; exact rfl; exact rfl; (· with_reducible first | exact pad_length _ | exact zeros64_length | exact tab_length _ _ | assumption)) | (apply hpAlloc F; exact rfl; exact rfl) | (apply hpSt F; exact rfl; exact rfl; exact rfl; exact rfl; (· repeat (first | exact Upd.head | apply Upd.tail)); (· with_reducible first | exact pad_length _ | exact zeros64_length | exact tab_length _ _ | assumption))))
        clear F
        intro w1 F
        try simp only [List.set_cons_zero, List.set_cons_succ] at F
        go_wp2_with (first | (go_at_call 51; refine (l01MulMod_any p sq sq m HP.out CS.out CS.out HM.out (by omega) (by omega) lm NE.out _).mono ?_; rintro e w2 ⟨rfl, E2⟩; replace F := F.next E2) | ((with_reducible show wpList _ _ _ _ _ _); first | (apply hpLd F; exact rfl; exact rfl; exact rfl; (· repeat (first | exact Has.head | apply Has.tail))) | (apply hpBox F; exact rfl; exact rfl; exact rfl; (· with_reducible first | exact pad_length _ | exact zeros64_length | exact tab_length _ _ | assumption)) | (apply hpAlloc F; exact rfl; exact rfl) | (apply hpSt F; exact rfl; exact rfl; exact rfl; exact rfl; (· repeat (first | exact Upd.head | apply Upd.tail)); (· with_reducible first | exact pad_length _ | exact zeros64_length | exact tab_length _ _ | assumption))))
        clear F
        intro w1 F
        try simp only [List.set_cons_zero, List.set_cons_succ] at F
        go_wp2_with (first | ((with_reducible show wpList _ _ _ _ _ _); first | (apply hpLd F; exact rfl; exact rfl; exact rfl; (· repeat (first | exact Has.head | apply Has.tail))) | (apply hpBox F; exact rfl; exact rfl; exact rfl; (· with_reducible first | exact pad_length _ | exact zeros64_length | exact tab_length _ _ | assumption)) | (apply hpAlloc F; exact rfl; exact rfl) | (apply hpSt F; exact rfl; exact rfl; exact rfl; exact rfl; (· repeat (first | exact Upd.head | apply Upd.tail)); (· with_reducible first | exact pad_length _ | exact zeros64_length | exact tab_length _ _ | assumption))))
        go_roundg n
        case measure => omega
        case rel => exact ⟨kk / 2, _, _, by omega, by rw [HD.out], by omega, C1.out, L1, C2.out, L2, by rw [← HPW.out, ST.out, if_pos HO.out], F⟩
      · have to : ((kk : Int) % 2 == 1) = false := by simp; omega
        have ST := Lib.hid (pwF_step p m n kk out sq K0.out)
        have HO := Lib.hid hodd
        clear hodd
        go_wp2_with (first | (go_at_call 51; refine (l01MulMod_any p sq sq m HP.out CS.out CS.out HM.out (by omega) (by omega) lm NE.out _).mono ?_; rintro e w2 ⟨rfl, E2⟩; replace F := F.next E2) | ((with_reducible show wpList _ _ _ _ _ _); first | (apply hpLd F; exact rfl; exact rfl; exact rfl; (· repeat (first | exact Has.head | apply Has.tail))) | (apply hpBox F; exact rfl; exact rfl; exact rfl; (· with_reducible first | exact pad_length _ | exact zeros64_length | exact tab_length _ _ | assumption)) | (apply hpAlloc F; exact rfl; exact rfl) | (apply hpSt F; exact rfl; exact rfl; exact rfl; exact rfl; (· repeat (first | exact Upd.head | apply Upd.tail)); (· with_reducible first | exact pad_length _ | exact zeros64_length | exact tab_length _ _ | assumption))))
        clear F
        intro w1 F
        try simp only [List.set_cons_zero, List.set_cons_succ] at F
        go_wp2_with (first | ((with_reducible show wpList _ _ _ _ _ _); first | (apply hpLd F; exact rfl; exact rfl; exact rfl; (· repeat (first | exact Has.head | apply Has.tail))) | (apply hpBox F; exact rfl; exact rfl; exact rfl; (· with_reducible first | exact pad_length _ | exact zeros64_length | exact tab_length _ _ | assumption)) | (apply hpAlloc F; exact rfl; exact rfl) | (apply hpSt F; exact rfl; exact rfl; exact rfl; exact rfl; (· repeat (first | exact Upd.head | apply Upd.tail)); (· with_reducible first | exact pad_length _ | exact zeros64_length | exact tab_length _ _ | assumption))))
        go_roundg n
        case measure => omega
        case rel => exact ⟨kk / 2, _, _, by omega, by rw [HD.out], by omega, CO.out, lo1, C2.out, L2, by rw [← HPW.out, ST.out, if_neg HO.out], F⟩

def IrRel (p : Int) (m : List Int) (w : World) (gm gp n : Nat) (i : Value) (wr : World) : Prop :=
  ∃ (k c : Nat) (pw : List Int), n = c ∧ k + c = (m.length - 1) / 2 + 1 ∧ i = .int .i64 k ∧ 1 ≤ k ∧ Can p pw ∧ pw.length < m.length ∧ irrF p m c pw = irrS p m ∧ Hp w wr [(gp, pad pw), (gm, pad m)]

set_option maxRecDepth 100000 in
set_option maxHeartbeats 2000000 in
theorem l01Irreducible_any (p : Int) (m : List Int) (hp : PrimeP p) (hm : Can p m) (lm : m.length ≤ 64) (hne : 0 < m.length) (w : World) :
    Calls Tryz.prog 96 #[.int .i64 p, .agg (u8s (pad m))] w fun e w' => e = .returned (.bool (irrS p m)) ∧ Ext w w' := by
  have hz := zlit
  have HP := Lib.hid hp
  have HM := Lib.hid hm
  have NE := Lib.hid hne
  have lo := hp.lo
  have hi := hp.hi
  have TEE := Lib.hid (can_tee (show 1 < p by omega))
  have D1 := Lib.hid (dr_can (show 0 < p by omega) TEE.out.inp (b := m))
  have L1 := dr_lt hp hm hne (a := [0, 1])
  clear hm hp hne
  have F := Hp.start w
  go_enter Tryz.func96, Tryz.ntmps96
  go_wp2_with (first | ((with_reducible show wpList _ _ _ _ _ _); first | (apply hpLd F; exact rfl; exact rfl; exact rfl; (· repeat (first | exact Has.head | apply Has.tail))) | (apply hpBox F; exact rfl; exact rfl; exact rfl; (· with_reducible first | exact pad_length _ | exact zeros64_length | exact tab_length _ _ | assumption)) | (apply hpAlloc F; exact rfl; exact rfl) | (apply hpSt F; exact rfl; exact rfl; exact rfl; exact rfl; (· repeat (first | exact Upd.head | apply Upd.tail)); (· with_reducible first | exact pad_length _ | exact zeros64_length | exact tab_length _ _ | assumption))))
  clear F
  intro gm w1 F
  go_wp2_with (first | ((with_reducible show wpList _ _ _ _ _ _); first | (apply hpLd F; exact rfl; exact rfl; exact rfl; (· repeat (first | exact Has.head | apply Has.tail))) | (apply hpBox F; exact rfl; exact rfl; exact rfl; (· with_reducible first | exact pad_length _ | exact zeros64_length | exact tab_length _ _ | assumption)) | (apply hpAlloc F; exact rfl; exact rfl) | (apply hpSt F; exact rfl; exact rfl; exact rfl; exact rfl; (· repeat (first | exact Upd.head | apply Upd.tail)); (· with_reducible first | exact pad_length _ | exact zeros64_length | exact tab_length _ _ | assumption))))
  refine region_ext 8 (by kernel_rfl) (by kernel_rfl) (by kernel_rfl) [] [eqv (.agg (u8s (pad m))), eqv (.int .i64 ((m.length : Int) - 1)), eqv (.int .i64 p), eqv (.agg (u8s (pad [0, 1]))), eqv (.agg (u8s (pad m))), eqv (.agg (u8s (pad (dr p [0, 1] m)))), isArr w1.heap.size 25 zeros64, eqv (.int .i64 ((m.length : Int) - 1))]
    ⟨mono_eqv _, mono_eqv _, mono_eqv _, mono_eqv _, mono_eqv _, mono_eqv _, mono_arr _ _ _, mono_eqv _, trivial⟩ (fun vals => ?_) (fun vals w9 hE9 hS9 hN9 => ?_)
  · simp only [List.take_succ_cons, List.take_zero]
    refine ⟨fun w8 hE8 hk => doesK_plain rfl fun K hK => ?_, ?_⟩
    · exact wp_load_row _ _ rfl _ (by first | rfl | simp [*]) _ _ (0, 0) _ ((F.at_ 0 rfl).ext hE8) Tryz.underlying25 rfl (by rw [infoPoly, u8s_size, pad_length _]) (hK _ _ rfl (Ext.refl _) rfl)
    simp only [Act.put, List.setIfInBounds_toArray, List.set_cons_zero, List.set_cons_succ]
    refine ⟨fun w8 hE8 hk => doesK_plain rfl fun K hK => ?_, ?_⟩
    · have k0 : vals 0 = .agg (u8s (pad m)) := hk 0 (by decide) (by kernel_rfl)
      go_simp
      refine (l01Deg_pad m _ HM.out.nz lm rfl _).mono ?_
      rintro e7 w7 ⟨rfl, hE7⟩
      exact hK _ _ rfl hE7 rfl
    simp only [Act.put, List.setIfInBounds_toArray, List.set_cons_zero, List.set_cons_succ]
    refine ⟨fun w8 hE8 hk => doesK_plain rfl fun K hK => ?_, ?_⟩
    · go_simp
      (try go_bits)
      exact hK _ _ rfl (Ext.refl _) rfl
    simp only [Act.put, List.setIfInBounds_toArray, List.set_cons_zero, List.set_cons_succ]
    refine ⟨fun w8 hE8 hk => doesK_plain rfl fun K hK => ?_, ?_⟩
    · have k1 : vals 1 = .int .i64 ((m.length : Int) - 1) := hk 1 (by decide) (by kernel_rfl)
      go_simp
      refine (l01T_any _).mono ?_
      rintro e7 w7 ⟨rfl, hE7⟩
      exact hK _ _ rfl hE7 rfl
    simp only [Act.put, List.setIfInBounds_toArray, List.set_cons_zero, List.set_cons_succ]
    refine ⟨fun w8 hE8 hk => doesK_plain rfl fun K hK => ?_, ?_⟩
    · exact wp_load_row _ _ rfl _ (by first | rfl | simp [*]) _ _ (0, 0) _ ((F.at_ 0 rfl).ext hE8) Tryz.underlying25 rfl (by rw [infoPoly, u8s_size, pad_length _]) (hK _ _ rfl (Ext.refl _) rfl)
    simp only [Act.put, List.setIfInBounds_toArray, List.set_cons_zero, List.set_cons_succ]
    refine ⟨fun w8 hE8 hk => doesK_plain rfl fun K hK => ?_, ?_⟩
    · have k2 : vals 2 = .int .i64 p := hk 2 (by decide) (by kernel_rfl)
      have k3 : vals 3 = .agg (u8s (pad [0, 1])) := hk 3 (by decide) (by kernel_rfl)
      have k4 : vals 4 = .agg (u8s (pad m)) := hk 4 (by decide) (by kernel_rfl)
      go_simp
      refine (l01Mod_any p [0, 1] m HP.out TEE.out HM.out (by decide) lm NE.out _).mono ?_
      rintro e7 w7 ⟨rfl, hE7⟩
      exact hK _ _ rfl hE7 rfl
    simp only [Act.put, List.setIfInBounds_toArray, List.set_cons_zero, List.set_cons_succ]
    refine ⟨fun w8 hE8 hk => doesK_plain rfl fun K hK => ?_, ?_⟩
    · go_simp
      exact hK _ _ ⟨_, rfl, by have := hE8.size; omega, Arr.new _ _ _⟩ ((Ext.refl _).alloc _) rfl
    simp only [Act.put, List.setIfInBounds_toArray, List.set_cons_zero, List.set_cons_succ]
    refine ⟨fun w8 hE8 hk => doesK_plain rfl fun K hK => ?_, ?_⟩
    · have k0 : vals 0 = .agg (u8s (pad m)) := hk 0 (by decide) (by kernel_rfl)
      have k1 : vals 1 = .int .i64 ((m.length : Int) - 1) := hk 1 (by decide) (by kernel_rfl)
      have k5 : vals 5 = .agg (u8s (pad (dr p [0, 1] m))) := hk 5 (by decide) (by kernel_rfl)
      obtain ⟨g6, k6, b6, a6⟩ : isArr w1.heap.size 25 zeros64 (vals 6) _ := hk 6 (by decide) (by kernel_rfl)
      go_simp
      (try go_bits)
      exact hK _ _ rfl (Ext.refl _) rfl
    exact trivial
  simp only [List.take_succ_cons, List.take_zero, List.drop_succ_cons, List.drop_zero, preAct, Nat.reduceAdd, Act.put, List.setIfInBounds_toArray, List.set_cons_zero, List.set_cons_succ]
  have k0 : vals 0 = .agg (u8s (pad m)) := hS9 0 (by decide) 
  have k1 : vals 1 = .int .i64 ((m.length : Int) - 1) := hS9 1 (by decide) 
  have k2 : vals 2 = .int .i64 p := hS9 2 (by decide) 
  have k3 : vals 3 = .agg (u8s (pad [0, 1])) := hS9 3 (by decide) 
  have k4 : vals 4 = .agg (u8s (pad m)) := hS9 4 (by decide) 
  have k5 : vals 5 = .agg (u8s (pad (dr p [0, 1] m))) := hS9 5 (by decide) 
  obtain ⟨g6, k6, b6, a6⟩ : isArr w1.heap.size 25 zeros64 (vals 6) _ := hS9 6 (by decide) 
  have k7 : vals 7 = .int .i64 ((m.length : Int) - 1) := hS9 7 (by decide) 
  simp only [k0, k1, k2, k3, k4, k5, k6, k7]
  clear hN9 hS9 k0 k1 k2 k3 k4 k5 k6 k7
  replace F := F.addNew hE9 a6 zeros64_length b6
  clear hE9 a6 b6
  go_wp2_with (first | ((with_reducible show wpList _ _ _ _ _ _); first | (apply hpLd F; exact rfl; exact rfl; exact rfl; (· repeat (first | exact Has.head | apply Has.tail))) | (apply hpBox F; exact rfl; exact rfl; exact rfl; (· with_reducible first | exact pad_length _ | exact zeros64_length | exact tab_length _ _ | assumption)) | (apply hpAlloc F; exact rfl; exact rfl) | (apply hpSt F; exact rfl; exact rfl; exact rfl; exact rfl; (· repeat (first | exact Upd.head | apply Upd.tail)); (· with_reducible first | exact pad_length _ | exact zeros64_length | exact tab_length _ _ | assumption))))
  clear F
  intro w1 F
  try simp only [List.set_cons_zero, List.set_cons_succ] at F
  by_cases n1 : m.length < 2
  · have t1 : decide ((m.length : Int) - 1 < 1) = true := by simp; omega
    have G : Hid (irrS p m = false) := Lib.hid (by unfold irrS; rw [show decide (2 ≤ m.length) = false by simp; omega]; rfl)
    go_wp2
    go_ret
    exact ⟨ret_bool G.out.symm, F.ext⟩
  · have t1 : decide ((m.length : Int) - 1 < 1) = false := by simp; omega
    have G : Hid (irrF p m ((m.length - 1) / 2) (dr p [0, 1] m) = irrS p m) := Lib.hid (by unfold irrS; rw [show decide (2 ≤ m.length) = true by simp; omega]; rfl)
    go_wp2
    go_loopg [7] ((m.length - 1) / 2) (fun n i wr => IrRel p m w gm g6 n i wr)
    case atStart => exact ⟨1, (m.length - 1) / 2, _, rfl, by omega, rfl, Nat.le_refl _, D1.out, L1, G.out, F⟩
    case round =>
      clear F D1 L1
      obtain ⟨k, c, pw, hc, hkc, rfl, k1, cp, lp, hir, F⟩ := hrel
      have HIR := Lib.hid hir
      have CP := Lib.hid cp
      clear hir cp
      by_cases c0 : c = 0
      · subst c0
        have t2 : decide (2 * (k : Int) ≤ (m.length : Int) - 1) = false := by simp; omega
        have t3 : decide ((k : Int) * 2 ≤ (m.length : Int) - 1) = false := by simp; omega
        go_wp2
        go_ret
        exact ⟨ret_bool (by rw [← HIR.out]; rfl), F.ext⟩
      · obtain ⟨d, rfl⟩ : ∃ d, c = d + 1 := ⟨c - 1, by omega⟩
        have t2 : decide (2 * (k : Int) ≤ (m.length : Int) - 1) = true := by simp; omega
        have PS := powM_spec HP.out CP.out HM.out NE.out p.toNat
        have C1 := Lib.hid PS.1
        have L1 := PS.2
        have C2 := Lib.hid (comb_can (show 0 < p by omega) (powM p pw p.toNat m) [0, 1] (-1))
        have L2 : (comb p (powM p pw p.toNat m) [0, 1] (-1)).length ≤ 64 := by have := comb_le p (powM p pw p.toNat m) [0, 1] (-1); simp at this; omega
        have C3 := Lib.hid (gcdr_can (show 0 < p by omega) m (comb p (powM p pw p.toNat m) [0, 1] (-1)))
        have PN : Hid (((p.toNat : Nat) : Int) = p) := Lib.hid (by omega)
        have GL : (gcdr p m (comb p (powM p pw p.toNat m) [0, 1] (-1))).length ≤ 64 := gcdr_le HP.out HM.out C2.out lm L2
        clear c0 PS
        have CALL := l01PowMod_any p pw m p.toNat (by omega) HP.out CP.out HM.out (by omega) lm NE.out
        rw [PN.out] at CALL
        have HCALL := Lib.hid CALL
        clear CALL
        go_wp2_with (first | (go_at_call 67; refine (HCALL.out _).mono ?_; rintro e w2 ⟨rfl, E2⟩; replace F := F.next E2) | ((with_reducible show wpList _ _ _ _ _ _); first | (apply hpLd F; exact rfl; exact rfl; exact rfl; (· repeat (first | exact Has.head | apply Has.tail))) | (apply hpBox F; exact rfl; exact rfl; exact rfl; (· with_reducible first | exact pad_length _ | exact zeros64_length | exact tab_length _ _ | assumption)) | (apply hpAlloc F; exact rfl; exact rfl) | (apply hpSt F; exact rfl; exact rfl; exact rfl; exact rfl; (· repeat (first | exact Upd.head | apply Upd.tail)); (· with_reducible first | exact pad_length _ | exact zeros64_length | exact tab_length _ _ | assumption))))
        clear F
        intro w1 F
        try simp only [List.set_cons_zero, List.set_cons_succ] at F
        go_wp2_with (first | ((with_reducible show wpList _ _ _ _ _ _); first | (apply hpLd F; exact rfl; exact rfl; exact rfl; (· repeat (first | exact Has.head | apply Has.tail))) | (apply hpBox F; exact rfl; exact rfl; exact rfl; (· with_reducible first | exact pad_length _ | exact zeros64_length | exact tab_length _ _ | assumption)) | (apply hpAlloc F; exact rfl; exact rfl) | (apply hpSt F; exact rfl; exact rfl; exact rfl; exact rfl; (· repeat (first | exact Upd.head | apply Upd.tail)); (· with_reducible first | exact pad_length _ | exact zeros64_length | exact tab_length _ _ | assumption))))
        refine region_ext 8 (by kernel_rfl) (by kernel_rfl) (by kernel_rfl) [] [eqv (.int .i64 p), eqv (.agg (u8s (pad m))), eqv (.int .i64 p), eqv (.agg (u8s (pad (powM p pw p.toNat m)))), eqv (.agg (u8s (pad [0, 1]))), eqv (.agg (u8s (pad (comb p (powM p pw p.toNat m) [0, 1] (-1))))), eqv (.agg (u8s (pad (gcdr p m (comb p (powM p pw p.toNat m) [0, 1] (-1)))))), eqv (.int .i64 (((gcdr p m (comb p (powM p pw p.toNat m) [0, 1] (-1))).length : Int) - 1))]
          ⟨mono_eqv _, mono_eqv _, mono_eqv _, mono_eqv _, mono_eqv _, mono_eqv _, mono_eqv _, mono_eqv _, trivial⟩ (fun vals => ?_) (fun vals w9 hE9 hS9 hN9 => ?_)
        · simp only [List.take_succ_cons, List.take_zero]
          refine ⟨fun w8 hE8 hk => doesK_plain rfl fun K hK => ?_, ?_⟩
          · go_simp
            (try go_bits)
            exact hK _ _ rfl (Ext.refl _) rfl
          simp only [Act.put, List.setIfInBounds_toArray, List.set_cons_zero, List.set_cons_succ]
          refine ⟨fun w8 hE8 hk => doesK_plain rfl fun K hK => ?_, ?_⟩
          · exact wp_load_row _ _ rfl _ (by first | rfl | simp [*]) _ _ (0, 0) _ ((F.at_ 1 rfl).ext hE8) Tryz.underlying25 rfl (by rw [infoPoly, u8s_size, pad_length _]) (hK _ _ rfl (Ext.refl _) rfl)
          simp only [Act.put, List.setIfInBounds_toArray, List.set_cons_zero, List.set_cons_succ]
          refine ⟨fun w8 hE8 hk => doesK_plain rfl fun K hK => ?_, ?_⟩
          · go_simp
            (try go_bits)
            exact hK _ _ rfl (Ext.refl _) rfl
          simp only [Act.put, List.setIfInBounds_toArray, List.set_cons_zero, List.set_cons_succ]
          refine ⟨fun w8 hE8 hk => doesK_plain rfl fun K hK => ?_, ?_⟩
          · exact wp_load_row _ _ rfl _ (by first | rfl | simp [*]) _ _ (0, 0) _ ((F.at_ 0 rfl).ext hE8) Tryz.underlying25 rfl (by rw [infoPoly, u8s_size, pad_length _]) (hK _ _ rfl (Ext.refl _) rfl)
          simp only [Act.put, List.setIfInBounds_toArray, List.set_cons_zero, List.set_cons_succ]
          refine ⟨fun w8 hE8 hk => doesK_plain rfl fun K hK => ?_, ?_⟩
          · go_simp
            refine (l01T_any _).mono ?_
            rintro e7 w7 ⟨rfl, hE7⟩
            exact hK _ _ rfl hE7 rfl
          simp only [Act.put, List.setIfInBounds_toArray, List.set_cons_zero, List.set_cons_succ]
          refine ⟨fun w8 hE8 hk => doesK_plain rfl fun K hK => ?_, ?_⟩
          · have k2 : vals 2 = .int .i64 p := hk 2 (by decide) (by kernel_rfl)
            have k3 : vals 3 = .agg (u8s (pad (powM p pw p.toNat m))) := hk 3 (by decide) (by kernel_rfl)
            have k4 : vals 4 = .agg (u8s (pad [0, 1])) := hk 4 (by decide) (by kernel_rfl)
            go_simp
            refine (l01Add_pad p (-1) (powM p pw p.toNat m) [0, 1] HP.out C1.out TEE.out (by omega) (by decide) (by decide) (by decide) _).mono ?_
            rintro e7 w7 ⟨rfl, hE7⟩
            exact hK _ _ rfl hE7 rfl
          simp only [Act.put, List.setIfInBounds_toArray, List.set_cons_zero, List.set_cons_succ]
          refine ⟨fun w8 hE8 hk => doesK_plain rfl fun K hK => ?_, ?_⟩
          · have k0 : vals 0 = .int .i64 p := hk 0 (by decide) (by kernel_rfl)
            have k1 : vals 1 = .agg (u8s (pad m)) := hk 1 (by decide) (by kernel_rfl)
            have k5 : vals 5 = .agg (u8s (pad (comb p (powM p pw p.toNat m) [0, 1] (-1)))) := hk 5 (by decide) (by kernel_rfl)
            go_simp
            refine (l01Gcd_any p m _ HP.out HM.out C2.out lm L2 _).mono ?_
            rintro e7 w7 ⟨rfl, hE7⟩
            exact hK _ _ rfl hE7 rfl
          simp only [Act.put, List.setIfInBounds_toArray, List.set_cons_zero, List.set_cons_succ]
          refine ⟨fun w8 hE8 hk => doesK_plain rfl fun K hK => ?_, ?_⟩
          · have k6 : vals 6 = .agg (u8s (pad (gcdr p m (comb p (powM p pw p.toNat m) [0, 1] (-1))))) := hk 6 (by decide) (by kernel_rfl)
            go_simp
            refine (l01Deg_pad _ _ C3.out.nz GL rfl _).mono ?_
            rintro e7 w7 ⟨rfl, hE7⟩
            exact hK _ _ rfl hE7 rfl
          exact trivial
        simp only [List.take_succ_cons, List.take_zero, List.drop_succ_cons, List.drop_zero, preAct, Nat.reduceAdd, Act.put, List.setIfInBounds_toArray, List.set_cons_zero, List.set_cons_succ]
        have k0 : vals 0 = .int .i64 p := hS9 0 (by decide) 
        have k1 : vals 1 = .agg (u8s (pad m)) := hS9 1 (by decide) 
        have k2 : vals 2 = .int .i64 p := hS9 2 (by decide) 
        have k3 : vals 3 = .agg (u8s (pad (powM p pw p.toNat m))) := hS9 3 (by decide) 
        have k4 : vals 4 = .agg (u8s (pad [0, 1])) := hS9 4 (by decide) 
        have k5 : vals 5 = .agg (u8s (pad (comb p (powM p pw p.toNat m) [0, 1] (-1)))) := hS9 5 (by decide) 
        have k6 : vals 6 = .agg (u8s (pad (gcdr p m (comb p (powM p pw p.toNat m) [0, 1] (-1))))) := hS9 6 (by decide) 
        have k7 : vals 7 = .int .i64 (((gcdr p m (comb p (powM p pw p.toNat m) [0, 1] (-1))).length : Int) - 1) := hS9 7 (by decide) 
        simp only [k0, k1, k2, k3, k4, k5, k6, k7]
        clear hN9 hS9 k0 k1 k2 k3 k4 k5 k6 k7
        replace F := F.next hE9
        clear hE9
        by_cases gl : (gcdr p m (comb p (powM p pw p.toNat m) [0, 1] (-1))).length = 1
        · have t4 : (((gcdr p m (comb p (powM p pw p.toNat m) [0, 1] (-1))).length : Int) - 1 != 0) = false := by simp; omega
          have GG : Hid (irrF p m (d + 1) pw = irrF p m d (powM p pw p.toNat m)) := Lib.hid (by rw [irrF, gl]; rfl)
          clear gl
          go_wp2
          go_roundg d
          case measure => omega
          case rel => exact ⟨k + 1, d, _, rfl, by omega, by go_num, by omega, C1.out, L1, by rw [← HIR.out, GG.out], F⟩
        · have t4 : (((gcdr p m (comb p (powM p pw p.toNat m) [0, 1] (-1))).length : Int) - 1 != 0) = true := by simp; omega
          have GG : Hid (irrF p m (d + 1) pw = false) := Lib.hid (by rw [irrF, show ((gcdr p m (comb p (powM p pw p.toNat m) [0, 1] (-1))).length == 1) = false by simpa using gl]; rfl)
          clear gl
          go_wp2
          go_ret
          exact ⟨ret_bool (by rw [← HIR.out, GG.out]), F.ext⟩

end Go.Proofs.YtaemiknaiccijaaGreat

/- Two polynomials are held against each other: what == and != answer. -/
namespace Go.Proofs.YtaemiknaiccijaaGreat
open Go.RowKit

theorem all_range_eq0 : ∀ (xs ys : List Int), xs.length = ys.length → ((List.range xs.length).all fun i => at0 xs i == at0 ys i) = (xs == ys)
  | [], [], _ => rfl
  | x :: xs, y :: ys, h => by
    have ih := all_range_eq0 xs ys (by simpa using h)
    rw [List.length_cons, List.range_succ_eq_map, List.all_cons, List.all_map]
    have e : ((fun i => at0 (x :: xs) i == at0 (y :: ys) i) ∘ Nat.succ) = fun i => at0 xs i == at0 ys i := by
      funext i; simp [at0]
    rw [e, ih]
    simp [at0, List.cons_beq_cons]
  | [], _ :: _, h => by simp at h
  | _ :: _, [], h => by simp at h
section
variable {P : Program} (w : World)
theorem run_equalIn_arr (d : Nat) (t e : TypeId) (n : Nat) (ht : P.underlying t = some (.array n e)) (he : P.underlying e = some (.int .u8)) (hsz : ∀ w, (sizeOf e).run P w = .ok 1 w)
    (xs ys : List Int) (hx : xs.length = n) (hy : ys.length = n) :
    (Op.equalIn (d + 2) t (.agg (u8s xs)) (.agg (u8s ys))).run P w = .ok (xs == ys) w := by
  rw [← all_range_eq0 xs ys (hx.trans hy.symm), hx, List.range_eq_range', Op.equalIn]
  simp only [Sem.run_bind, run_underlying ht, Result.andThen_ok, hsz, Std.Legacy.Range.forIn_eq_forIn_range', Std.Legacy.Range.size, Nat.sub_zero, Nat.add_sub_cancel, Nat.div_one]
  have hl : ∀ i ∈ List.range' 0 n 1, i < n := fun i hi => by simpa using (List.mem_range'_1.1 hi).2
  generalize List.range' 0 n 1 = l at hl ⊢
  induction l with
  | nil => simp
  | cons i l ih =>
    have hi : i < n := hl i (by simp)
    have px : (part e (u8s xs) (i * 1)).run P w = .ok (.int .u8 (at0 xs i)) w := by
      have := u8s_get xs i (by omega)
      simp [part, isAgg, run_underlying he, this]
    have py : (part e (u8s ys) (i * 1)).run P w = .ok (.int .u8 (at0 ys i)) w := by
      have := u8s_get ys i (by omega)
      simp [part, isAgg, run_underlying he, this]
    have pe : (Op.equalIn (d + 1) e (.int .u8 (at0 xs i)) (.int .u8 (at0 ys i))).run P w = .ok (at0 xs i == at0 ys i) w := run_equalIn_int w d e .u8 .u8 _ _ he
    simp only [List.forIn_cons, Sem.run_bind, px, py, pe, Result.andThen_ok, List.all_cons]
    cases hb : (at0 xs i == at0 ys i)
    · simp
    · simp only [Bool.not_true, Bool.false_eq_true, if_false, Sem.run_pure, Result.andThen_ok, Bool.true_and]
      exact ih fun j hj => hl j (by simp [hj])
end
theorem infoByte : (Tryz.prog.info? 5).map (·.size) = some 1 := by kernel_rfl
theorem sizeByte (w : World) : (sizeOf 5).run Tryz.prog w = .ok 1 w := by
  have h := infoByte
  cases hi : Tryz.prog.info? 5 with
  | none => rw [hi] at h; cases h
  | some i =>
    rw [hi] at h
    have hz : i.size = 1 := by simpa using h
    simp [sizeOf, typeInfo, hi, hz]
theorem guardPoly : Tryz.prog.eqGuardType Tryz.prog.depth 25 = false := by kernel_rfl
theorem run_eql_arr (w : World) (xs ys : List Int) (hx : xs.length = 64) (hy : ys.length = 64) : (binOp .eql 25 (.agg (u8s xs)) (.agg (u8s ys))).run Tryz.prog w = .ok (.bool (xs == ys)) w := by
  rw [run_eql_struct, run_equalIn_arr w 9998 _ _ 64 Tryz.underlying25 Tryz.underlying5 sizeByte xs ys hx hy]
  rfl
theorem run_neq_arr (w : World) (xs ys : List Int) (hx : xs.length = 64) (hy : ys.length = 64) : (binOp .neq 25 (.agg (u8s xs)) (.agg (u8s ys))).run Tryz.prog w = .ok (.bool (!(xs == ys))) w := by
  rw [run_neq_struct, run_equalIn_arr w 9998 _ _ 64 Tryz.underlying25 Tryz.underlying5 sizeByte xs ys hx hy]
  rfl
theorem run_eqGuard_arr (w : World) (op : BinOp) (x y : Operand) (xs ys : Array Value) : (eqGuard op 25 x y (.agg xs) (.agg ys)).run Tryz.prog w = .ok () w := by
  have h := guardPoly
  unfold eqGuard
  cases op <;> simp [h]
section
variable {ops : Array Oper} {rest : List Oper} {o : Oper} {a : Act} {w : World} {Q : Exit → Act → World → Prop} {x y : Operand} {l l' : List Int}
theorem wp_eql_arr {K : Act → World → Prop} (ho : o.op = .binOp .eql 25 x y 25) (hx : a.eval x = .agg (u8s l)) (hy : a.eval y = .agg (u8s l')) (hl : l.length = 64) (hl' : l'.length = 64) (h : K (a.put o.dst (.bool (l == l'))) w) : o.wp Tryz.prog a w K Q := by
  unfold Oper.wp execOp
  simp only [ho, hx, hy, Sem.run_bind, run_eqGuard_arr, Result.andThen_ok, run_eql_arr w l l' hl hl', Sem.run_pure]
  exact h
theorem wp_neq_arr {K : Act → World → Prop} (ho : o.op = .binOp .neq 25 x y 25) (hx : a.eval x = .agg (u8s l)) (hy : a.eval y = .agg (u8s l')) (hl : l.length = 64) (hl' : l'.length = 64) (h : K (a.put o.dst (.bool (!(l == l')))) w) : o.wp Tryz.prog a w K Q := by
  unfold Oper.wp execOp
  simp only [ho, hx, hy, Sem.run_bind, run_eqGuard_arr, Result.andThen_ok, run_neq_arr w l l' hl hl', Sem.run_pure]
  exact h
theorem wplEql (ho : o.op = .binOp .eql 25 x y 25) (hw : Region.wanted o (yielded ops a.tmps) = true) (hx : a.eval x = .agg (u8s l)) (hy : a.eval y = .agg (u8s l')) (hl : l.length = 64) (hl' : l'.length = 64) (h : wpList Tryz.prog ops Q rest (a.put o.dst (.bool (l == l'))) w) : wpList Tryz.prog ops Q (o :: rest) a w := by
  unfold wpList
  rw [if_pos hw]
  exact .inl (wp_eql_arr ho hx hy hl hl' h)
theorem wplNeq (ho : o.op = .binOp .neq 25 x y 25) (hw : Region.wanted o (yielded ops a.tmps) = true) (hx : a.eval x = .agg (u8s l)) (hy : a.eval y = .agg (u8s l')) (hl : l.length = 64) (hl' : l'.length = 64) (h : wpList Tryz.prog ops Q rest (a.put o.dst (.bool (!(l == l')))) w) : wpList Tryz.prog ops Q (o :: rest) a w := by
  unfold wpList
  rw [if_pos hw]
  exact .inl (wp_neq_arr ho hx hy hl hl' h)
end
theorem pad_beq {a b : List Int} (ha : NZ a) (hb : NZ b) (la : a.length ≤ 64) (lb : b.length ≤ 64) : (pad a == pad b) = (a == b) := by
  rw [Bool.eq_iff_iff]
  simp only [beq_iff_eq]
  exact ⟨fun h => pad_inj ha hb la lb h, fun h => by rw [h]⟩

end Go.Proofs.YtaemiknaiccijaaGreat
