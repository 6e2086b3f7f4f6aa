/- Lemmas and contracts of functions, for the laws: The reference's fields and residues. -/
import Derived.Test.YtaemiknaiccijaaGreatRm11
import Derived.Test.YtaemiknaiccijaaGreatRm24
import Derived.Test.YtaemiknaiccijaaGreatRm10
set_option linter.unusedVariables false
set_option linter.unusedSimpArgs false
namespace Go.Proofs.YtaemiknaiccijaaGreat
open Go.RowKit

def fldB (p : Int) (l : List Int) : Bool := isPB p l && (monicB (trim l) && (inB (((trim l).length : Int) - 1) 1 4 && irrS p (trim l)))
set_option maxRecDepth 100000 in
set_option maxHeartbeats 1000000 in
theorem l03Field_any (p : Int) (l : List Int) (hl : l.length = 64) (hb : IsB l) (w : World) :
    Calls Tryz.prog 80 #[.int .i64 p, .agg (u8s l)] w fun e w' => e = .returned (.bool (fldB p l)) ∧ Ext w w' := by
  have IS := Lib.hid fun W => l01Is_any p l hl hb W
  cases h1 : isPB p l with
  | false =>
    rw [h1] at IS
    have G : Hid (fldB p l = false) := Lib.hid (by rw [fldB, h1]; rfl)
    have F := Hp.start w
    clear h1 hb
    go_enter Tryz.func80, Tryz.ntmps80
    go_wp2_with (first | ((with_reducible show wpList _ _ _ _ _ _); first | (apply hpLd F; exact rfl; exact rfl; exact rfl; (· repeat (first | exact Has.head | apply Has.tail))) | (apply hpBox F; exact rfl; exact rfl; exact rfl; (· with_reducible first | exact pad_length _ | exact zeros64_length | exact tab_length _ _ | assumption)) | (apply hpAlloc F; exact rfl; exact rfl) | (apply hpSt F; exact rfl; exact rfl; exact rfl; exact rfl; (· repeat (first | exact Upd.head | apply Upd.tail)); (· with_reducible first | exact pad_length _ | exact zeros64_length | exact tab_length _ _ | assumption))))
    clear F
    intro ga w1 F
    go_wp2_with (first | (go_at_call 61; (with_reducible refine (IS.out _).mono ?_); rintro e w2 ⟨rfl, E2⟩; replace F := F.next E2) | ((with_reducible show wpList _ _ _ _ _ _); first | (apply hpLd F; exact rfl; exact rfl; exact rfl; (· repeat (first | exact Has.head | apply Has.tail))) | (apply hpBox F; exact rfl; exact rfl; exact rfl; (· with_reducible first | exact pad_length _ | exact zeros64_length | exact tab_length _ _ | assumption)) | (apply hpAlloc F; exact rfl; exact rfl) | (apply hpSt F; exact rfl; exact rfl; exact rfl; exact rfl; (· repeat (first | exact Upd.head | apply Upd.tail)); (· with_reducible first | exact pad_length _ | exact zeros64_length | exact tab_length _ _ | assumption))))
    go_ret
    exact ⟨ret_bool G.out.symm, F.ext⟩
  | true =>
    rw [h1] at IS
    obtain ⟨hp, hc, h64, he⟩ := isPB_row hl hb h1
    have MO' := fun W => l01Monic_any (trim l) hc.nz h64 W
    rw [he] at MO'
    have DG' := fun W => l01Deg_pad (trim l) (((trim l).length : Int) - 1) hc.nz h64 rfl W
    rw [he] at DG'
    have MO := Lib.hid MO'
    have DG := Lib.hid DG'
    have F := Hp.start w
    cases h2 : monicB (trim l) with
    | false =>
      rw [h2] at MO
      have G : Hid (fldB p l = false) := Lib.hid (by rw [fldB, h1, h2]; rfl)
      clear h1 h2 hb he MO' DG' hp hc
      go_enter Tryz.func80, Tryz.ntmps80
      go_wp2_with (first | ((with_reducible show wpList _ _ _ _ _ _); first | (apply hpLd F; exact rfl; exact rfl; exact rfl; (· repeat (first | exact Has.head | apply Has.tail))) | (apply hpBox F; exact rfl; exact rfl; exact rfl; (· with_reducible first | exact pad_length _ | exact zeros64_length | exact tab_length _ _ | assumption)) | (apply hpAlloc F; exact rfl; exact rfl) | (apply hpSt F; exact rfl; exact rfl; exact rfl; exact rfl; (· repeat (first | exact Upd.head | apply Upd.tail)); (· with_reducible first | exact pad_length _ | exact zeros64_length | exact tab_length _ _ | assumption))))
      clear F
      intro ga w1 F
      go_wp2_with (first | (go_at_call 61; (with_reducible refine (IS.out _).mono ?_); rintro e w2 ⟨rfl, E2⟩; replace F := F.next E2) | (go_at_call 110; (with_reducible refine (MO.out _).mono ?_); rintro e w2 ⟨rfl, E2⟩; replace F := F.next E2) | ((with_reducible show wpList _ _ _ _ _ _); first | (apply hpLd F; exact rfl; exact rfl; exact rfl; (· repeat (first | exact Has.head | apply Has.tail))) | (apply hpBox F; exact rfl; exact rfl; exact rfl; (· with_reducible first | exact pad_length _ | exact zeros64_length | exact tab_length _ _ | assumption)) | (apply hpAlloc F; exact rfl; exact rfl) | (apply hpSt F; exact rfl; exact rfl; exact rfl; exact rfl; (· repeat (first | exact Upd.head | apply Upd.tail)); (· with_reducible first | exact pad_length _ | exact zeros64_length | exact tab_length _ _ | assumption))))
      go_ret
      exact ⟨ret_bool G.out.symm, F.ext⟩
    | true =>
      rw [h2] at MO
      have IN := Lib.hid fun W => l01In_any (((trim l).length : Int) - 1) 1 4 W
      have np : 0 < (trim l).length := by
        rw [monicB, Bool.and_eq_true, decide_eq_true_eq] at h2
        exact h2.1
      have IR' := fun W => l01Irreducible_any p (trim l) hp hc h64 np W
      rw [he] at IR'
      have IR := Lib.hid IR'
      cases h3 : inB (((trim l).length : Int) - 1) 1 4 with
      | false =>
        rw [h3] at IN
        have G : Hid (fldB p l = false) := Lib.hid (by rw [fldB, h1, h2, h3]; rfl)
        clear h1 h2 h3 hb he MO' DG' IR' hp hc
        go_enter Tryz.func80, Tryz.ntmps80
        go_wp2_with (first | ((with_reducible show wpList _ _ _ _ _ _); first | (apply hpLd F; exact rfl; exact rfl; exact rfl; (· repeat (first | exact Has.head | apply Has.tail))) | (apply hpBox F; exact rfl; exact rfl; exact rfl; (· with_reducible first | exact pad_length _ | exact zeros64_length | exact tab_length _ _ | assumption)) | (apply hpAlloc F; exact rfl; exact rfl) | (apply hpSt F; exact rfl; exact rfl; exact rfl; exact rfl; (· repeat (first | exact Upd.head | apply Upd.tail)); (· with_reducible first | exact pad_length _ | exact zeros64_length | exact tab_length _ _ | assumption))))
        clear F
        intro ga w1 F
        go_wp2_with (first | (go_at_call 61; (with_reducible refine (IS.out _).mono ?_); rintro e w2 ⟨rfl, E2⟩; replace F := F.next E2) | (go_at_call 110; (with_reducible refine (MO.out _).mono ?_); rintro e w2 ⟨rfl, E2⟩; replace F := F.next E2) | (go_at_call 49; (with_reducible refine (DG.out _).mono ?_); rintro e w2 ⟨rfl, E2⟩; replace F := F.next E2) | (go_at_call 111; (with_reducible refine (IN.out _).mono ?_); rintro e w2 ⟨rfl, rfl⟩) | ((with_reducible show wpList _ _ _ _ _ _); first | (apply hpLd F; exact rfl; exact rfl; exact rfl; (· repeat (first | exact Has.head | apply Has.tail))) | (apply hpBox F; exact rfl; exact rfl; exact rfl; (· with_reducible first | exact pad_length _ | exact zeros64_length | exact tab_length _ _ | assumption)) | (apply hpAlloc F; exact rfl; exact rfl) | (apply hpSt F; exact rfl; exact rfl; exact rfl; exact rfl; (· repeat (first | exact Upd.head | apply Upd.tail)); (· with_reducible first | exact pad_length _ | exact zeros64_length | exact tab_length _ _ | assumption))))
        go_ret
        exact ⟨ret_bool G.out.symm, F.ext⟩
      | true =>
        rw [h3] at IN
        have G : Hid (fldB p l = irrS p (trim l)) := Lib.hid (by rw [fldB, h1, h2, h3]; rfl)
        clear h1 h2 h3 hb he MO' DG' IR' hp hc
        rw [G.out]
        generalize irrS p (trim l) = r at IR
        go_enter Tryz.func80, Tryz.ntmps80
        go_wp2_with (first | ((with_reducible show wpList _ _ _ _ _ _); first | (apply hpLd F; exact rfl; exact rfl; exact rfl; (· repeat (first | exact Has.head | apply Has.tail))) | (apply hpBox F; exact rfl; exact rfl; exact rfl; (· with_reducible first | exact pad_length _ | exact zeros64_length | exact tab_length _ _ | assumption)) | (apply hpAlloc F; exact rfl; exact rfl) | (apply hpSt F; exact rfl; exact rfl; exact rfl; exact rfl; (· repeat (first | exact Upd.head | apply Upd.tail)); (· with_reducible first | exact pad_length _ | exact zeros64_length | exact tab_length _ _ | assumption))))
        clear F
        intro ga w1 F
        go_wp2_with (first | (go_at_call 61; (with_reducible refine (IS.out _).mono ?_); rintro e w2 ⟨rfl, E2⟩; replace F := F.next E2) | (go_at_call 110; (with_reducible refine (MO.out _).mono ?_); rintro e w2 ⟨rfl, E2⟩; replace F := F.next E2) | (go_at_call 49; (with_reducible refine (DG.out _).mono ?_); rintro e w2 ⟨rfl, E2⟩; replace F := F.next E2) | (go_at_call 111; (with_reducible refine (IN.out _).mono ?_); rintro e w2 ⟨rfl, rfl⟩) | (go_at_call 96; (with_reducible refine (IR.out _).mono ?_); rintro e w2 ⟨rfl, E2⟩; replace F := F.next E2) | ((with_reducible show wpList _ _ _ _ _ _); first | (apply hpLd F; exact rfl; exact rfl; exact rfl; (· repeat (first | exact Has.head | apply Has.tail))) | (apply hpBox F; exact rfl; exact rfl; exact rfl; (· with_reducible first | exact pad_length _ | exact zeros64_length | exact tab_length _ _ | assumption)) | (apply hpAlloc F; exact rfl; exact rfl) | (apply hpSt F; exact rfl; exact rfl; exact rfl; exact rfl; (· repeat (first | exact Upd.head | apply Upd.tail)); (· with_reducible first | exact pad_length _ | exact zeros64_length | exact tab_length _ _ | assumption))))
        go_ret
        exact ⟨rfl, F.ext⟩

def resB (p : Int) (m l : List Int) : Bool := isPB p l && decide ((trim l).length < m.length)
set_option maxRecDepth 100000 in
set_option maxHeartbeats 1000000 in
theorem l03Residue_any (p : Int) (m l : List Int) (hz : NZ m) (lm : m.length ≤ 64) (hl : l.length = 64) (hb : IsB l) (w : World) :
    Calls Tryz.prog 81 #[.int .i64 p, .agg (u8s (pad m)), .agg (u8s l)] w fun e w' => e = .returned (.bool (resB p m l)) ∧ Ext w w' := by
  have IS := Lib.hid fun W => l01Is_any p l hl hb W
  have DM := Lib.hid fun W => l01Deg_pad m ((m.length : Int) - 1) hz lm rfl W
  have F := Hp.start w
  cases h1 : isPB p l with
  | false =>
    rw [h1] at IS
    have G : Hid (resB p m l = false) := Lib.hid (by rw [resB, h1]; rfl)
    clear h1 hb hz
    go_enter Tryz.func81, Tryz.ntmps81
    go_wp2_with (first | ((with_reducible show wpList _ _ _ _ _ _); first | (apply hpLd F; exact rfl; exact rfl; exact rfl; (· repeat (first | exact Has.head | apply Has.tail))) | (apply hpBox F; exact rfl; exact rfl; exact rfl; (· with_reducible first | exact pad_length _ | exact zeros64_length | exact tab_length _ _ | assumption)) | (apply hpAlloc F; exact rfl; exact rfl) | (apply hpSt F; exact rfl; exact rfl; exact rfl; exact rfl; (· repeat (first | exact Upd.head | apply Upd.tail)); (· with_reducible first | exact pad_length _ | exact zeros64_length | exact tab_length _ _ | assumption))))
    clear F
    intro gm w1 F
    go_wp2_with (first | ((with_reducible show wpList _ _ _ _ _ _); first | (apply hpLd F; exact rfl; exact rfl; exact rfl; (· repeat (first | exact Has.head | apply Has.tail))) | (apply hpBox F; exact rfl; exact rfl; exact rfl; (· with_reducible first | exact pad_length _ | exact zeros64_length | exact tab_length _ _ | assumption)) | (apply hpAlloc F; exact rfl; exact rfl) | (apply hpSt F; exact rfl; exact rfl; exact rfl; exact rfl; (· repeat (first | exact Upd.head | apply Upd.tail)); (· with_reducible first | exact pad_length _ | exact zeros64_length | exact tab_length _ _ | assumption))))
    clear F
    intro gl w2 F
    go_wp2_with (first | ((with_reducible show wpList _ _ _ _ _ _); first | (apply hpLd F; exact rfl; exact rfl; exact rfl; (· repeat (first | exact Has.head | apply Has.tail))) | (apply hpBox F; exact rfl; exact rfl; exact rfl; (· with_reducible first | exact pad_length _ | exact zeros64_length | exact tab_length _ _ | assumption)) | (apply hpAlloc F; exact rfl; exact rfl) | (apply hpSt F; exact rfl; exact rfl; exact rfl; exact rfl; (· repeat (first | exact Upd.head | apply Upd.tail)); (· with_reducible first | exact pad_length _ | exact zeros64_length | exact tab_length _ _ | assumption))))
    refine region_ext 9 (by kernel_rfl) (by kernel_rfl) (by kernel_rfl) [] [eqv (.int .i64 p), eqv (.agg (u8s l)), eqv (.bool false), eqv (.bool false), eqv (undef), eqv (undef), eqv (undef), eqv (undef), eqv (undef)]
      ⟨mono_eqv _, mono_eqv _, mono_eqv _, mono_eqv _, mono_eqv _, mono_eqv _, mono_eqv _, mono_eqv _, mono_eqv _, trivial⟩ (fun vals => ?_) (fun vals w9 hE9 hS9 hN9 => ?_)
    · simp only [List.take_succ_cons, List.take_zero]
      refine ⟨fun w8 hE8 hk => doesK_plain rfl fun K hK => ?_, ?_⟩
      · go_simp
        (try go_bits)
        exact hK _ _ rfl (Ext.refl _) rfl
      simp only [Act.put, List.setIfInBounds_toArray, List.set_cons_zero, List.set_cons_succ]
      refine ⟨fun w8 hE8 hk => doesK_plain rfl fun K hK => ?_, ?_⟩
      · exact wp_load_row _ _ rfl _ (by first | rfl | simp [*]) _ _ (0, 0) _ ((F.at_ 0 rfl).ext hE8) Tryz.underlying25 rfl (by rw [infoPoly, u8s_size, hl]) (hK _ _ rfl (Ext.refl _) rfl)
      simp only [Act.put, List.setIfInBounds_toArray, List.set_cons_zero, List.set_cons_succ]
      refine ⟨fun w8 hE8 hk => doesK_plain rfl fun K hK => ?_, ?_⟩
      · have k0 : vals 0 = .int .i64 p := hk 0 (by decide) (by kernel_rfl)
        have k1 : vals 1 = .agg (u8s l) := hk 1 (by decide) (by kernel_rfl)
        go_simp
        refine (IS.out _).mono ?_
        rintro e7 w7 ⟨rfl, hE7⟩
        exact hK _ _ rfl hE7 rfl
      simp only [Act.put, List.setIfInBounds_toArray, List.set_cons_zero, List.set_cons_succ]
      refine ⟨fun w8 hE8 hk => doesK_plain rfl fun K hK => ?_, ?_⟩
      · have k2 : vals 2 = .bool false := hk 2 (by decide) (by kernel_rfl)
        go_simp
        (try go_bits)
        exact hK _ _ rfl (Ext.refl _) rfl
      simp only [Act.put, List.setIfInBounds_toArray, List.set_cons_zero, List.set_cons_succ]
      refine ⟨fun w8 hE8 hk => fun K hK => ?_, ?_⟩
      · have k3 : vals 3 = .bool false := hk 3 (by decide) (by kernel_rfl)
        rw [if_neg (by simp [Region.wanted, yielded, k3])]
        exact hK _ _ rfl (Ext.refl _) rfl
      simp only [Act.put, List.setIfInBounds_toArray, List.set_cons_zero, List.set_cons_succ]
      refine ⟨fun w8 hE8 hk => fun K hK => ?_, ?_⟩
      · have k3 : vals 3 = .bool false := hk 3 (by decide) (by kernel_rfl)
        have k4 : vals 4 = undef := hk 4 (by decide) (by kernel_rfl)
        rw [if_neg (by simp [Region.wanted, yielded, k3])]
        exact hK _ _ rfl (Ext.refl _) rfl
      simp only [Act.put, List.setIfInBounds_toArray, List.set_cons_zero, List.set_cons_succ]
      refine ⟨fun w8 hE8 hk => fun K hK => ?_, ?_⟩
      · have k3 : vals 3 = .bool false := hk 3 (by decide) (by kernel_rfl)
        rw [if_neg (by simp [Region.wanted, yielded, k3])]
        exact hK _ _ rfl (Ext.refl _) rfl
      simp only [Act.put, List.setIfInBounds_toArray, List.set_cons_zero, List.set_cons_succ]
      refine ⟨fun w8 hE8 hk => fun K hK => ?_, ?_⟩
      · have k3 : vals 3 = .bool false := hk 3 (by decide) (by kernel_rfl)
        have k5 : vals 5 = undef := hk 5 (by decide) (by kernel_rfl)
        have k6 : vals 6 = undef := hk 6 (by decide) (by kernel_rfl)
        rw [if_neg (by simp [Region.wanted, yielded, k3])]
        exact hK _ _ rfl (Ext.refl _) rfl
      simp only [Act.put, List.setIfInBounds_toArray, List.set_cons_zero, List.set_cons_succ]
      refine ⟨fun w8 hE8 hk => fun K hK => ?_, ?_⟩
      · have k3 : vals 3 = .bool false := hk 3 (by decide) (by kernel_rfl)
        have k5 : vals 5 = undef := hk 5 (by decide) (by kernel_rfl)
        have k7 : vals 7 = undef := hk 7 (by decide) (by kernel_rfl)
        rw [if_neg (by simp [Region.wanted, yielded, k3])]
        exact hK _ _ rfl (Ext.refl _) rfl
      exact trivial
    simp only [List.take_succ_cons, List.take_zero, List.drop_succ_cons, List.drop_zero, preAct, Nat.reduceAdd, Act.put, List.setIfInBounds_toArray, List.set_cons_zero, List.set_cons_succ]
    have k0 : vals 0 = .int .i64 p := hS9 0 (by decide) 
    have k1 : vals 1 = .agg (u8s l) := hS9 1 (by decide) 
    have k2 : vals 2 = .bool false := hS9 2 (by decide) 
    have k3 : vals 3 = .bool false := hS9 3 (by decide) 
    have k4 : vals 4 = undef := hS9 4 (by decide) 
    have k5 : vals 5 = undef := hS9 5 (by decide) 
    have k6 : vals 6 = undef := hS9 6 (by decide) 
    have k7 : vals 7 = undef := hS9 7 (by decide) 
    have k8 : vals 8 = undef := hS9 8 (by decide) 
    simp only [k0, k1, k2, k3, k4, k5, k6, k7, k8]
    clear hN9 hS9 k0 k1 k2 k3 k4 k5 k6 k7 k8
    go_wp2
    go_ret
    exact ⟨ret_bool (by rw [G.out]), (F.next hE9).ext⟩
  | true =>
    rw [h1] at IS
    obtain ⟨hp, hc, h64, he⟩ := isPB_row hl hb h1
    have DG' := fun W => l01Deg_pad (trim l) (((trim l).length : Int) - 1) hc.nz h64 rfl W
    rw [he] at DG'
    have DG := Lib.hid DG'
    have G : Hid (resB p m l = decide ((trim l).length < m.length)) := Lib.hid (by rw [resB, h1]; rfl)
    clear h1 hb he DG' hp hc
    go_enter Tryz.func81, Tryz.ntmps81
    go_wp2_with (first | ((with_reducible show wpList _ _ _ _ _ _); first | (apply hpLd F; exact rfl; exact rfl; exact rfl; (· repeat (first | exact Has.head | apply Has.tail))) | (apply hpBox F; exact rfl; exact rfl; exact rfl; (· with_reducible first | exact pad_length _ | exact zeros64_length | exact tab_length _ _ | assumption)) | (apply hpAlloc F; exact rfl; exact rfl) | (apply hpSt F; exact rfl; exact rfl; exact rfl; exact rfl; (· repeat (first | exact Upd.head | apply Upd.tail)); (· with_reducible first | exact pad_length _ | exact zeros64_length | exact tab_length _ _ | assumption))))
    clear F
    intro gm w1 F
    go_wp2_with (first | ((with_reducible show wpList _ _ _ _ _ _); first | (apply hpLd F; exact rfl; exact rfl; exact rfl; (· repeat (first | exact Has.head | apply Has.tail))) | (apply hpBox F; exact rfl; exact rfl; exact rfl; (· with_reducible first | exact pad_length _ | exact zeros64_length | exact tab_length _ _ | assumption)) | (apply hpAlloc F; exact rfl; exact rfl) | (apply hpSt F; exact rfl; exact rfl; exact rfl; exact rfl; (· repeat (first | exact Upd.head | apply Upd.tail)); (· with_reducible first | exact pad_length _ | exact zeros64_length | exact tab_length _ _ | assumption))))
    clear F
    intro gl w2 F
    go_wp2_with (first | ((with_reducible show wpList _ _ _ _ _ _); first | (apply hpLd F; exact rfl; exact rfl; exact rfl; (· repeat (first | exact Has.head | apply Has.tail))) | (apply hpBox F; exact rfl; exact rfl; exact rfl; (· with_reducible first | exact pad_length _ | exact zeros64_length | exact tab_length _ _ | assumption)) | (apply hpAlloc F; exact rfl; exact rfl) | (apply hpSt F; exact rfl; exact rfl; exact rfl; exact rfl; (· repeat (first | exact Upd.head | apply Upd.tail)); (· with_reducible first | exact pad_length _ | exact zeros64_length | exact tab_length _ _ | assumption))))
    refine region_ext 9 (by kernel_rfl) (by kernel_rfl) (by kernel_rfl) [] [eqv (.int .i64 p), eqv (.agg (u8s l)), eqv (.bool true), eqv (.bool true), eqv (.agg (u8s l)), eqv (.int .i64 (((trim l).length : Int) - 1)), eqv (.agg (u8s (pad m))), eqv (.int .i64 ((m.length : Int) - 1)), eqv (.bool (decide ((trim l).length < m.length)))]
      ⟨mono_eqv _, mono_eqv _, mono_eqv _, mono_eqv _, mono_eqv _, mono_eqv _, mono_eqv _, mono_eqv _, mono_eqv _, trivial⟩ (fun vals => ?_) (fun vals w9 hE9 hS9 hN9 => ?_)
    · simp only [List.take_succ_cons, List.take_zero]
      refine ⟨fun w8 hE8 hk => doesK_plain rfl fun K hK => ?_, ?_⟩
      · go_simp
        (try go_bits)
        exact hK _ _ rfl (Ext.refl _) rfl
      simp only [Act.put, List.setIfInBounds_toArray, List.set_cons_zero, List.set_cons_succ]
      refine ⟨fun w8 hE8 hk => doesK_plain rfl fun K hK => ?_, ?_⟩
      · exact wp_load_row _ _ rfl _ (by first | rfl | simp [*]) _ _ (0, 0) _ ((F.at_ 0 rfl).ext hE8) Tryz.underlying25 rfl (by rw [infoPoly, u8s_size, hl]) (hK _ _ rfl (Ext.refl _) rfl)
      simp only [Act.put, List.setIfInBounds_toArray, List.set_cons_zero, List.set_cons_succ]
      refine ⟨fun w8 hE8 hk => doesK_plain rfl fun K hK => ?_, ?_⟩
      · have k0 : vals 0 = .int .i64 p := hk 0 (by decide) (by kernel_rfl)
        have k1 : vals 1 = .agg (u8s l) := hk 1 (by decide) (by kernel_rfl)
        go_simp
        refine (IS.out _).mono ?_
        rintro e7 w7 ⟨rfl, hE7⟩
        exact hK _ _ rfl hE7 rfl
      simp only [Act.put, List.setIfInBounds_toArray, List.set_cons_zero, List.set_cons_succ]
      refine ⟨fun w8 hE8 hk => doesK_plain rfl fun K hK => ?_, ?_⟩
      · have k2 : vals 2 = .bool true := hk 2 (by decide) (by kernel_rfl)
        go_simp
        (try go_bits)
        exact hK _ _ rfl (Ext.refl _) rfl
      simp only [Act.put, List.setIfInBounds_toArray, List.set_cons_zero, List.set_cons_succ]
      refine ⟨fun w8 hE8 hk => fun K hK => ?_, ?_⟩
      · have k3 : vals 3 = .bool true := hk 3 (by decide) (by kernel_rfl)
        rw [if_pos (by simp [Region.wanted, yielded, k3])]
        exact wp_load_row _ _ rfl _ (by first | rfl | simp [*]) _ _ (0, 0) _ ((F.at_ 0 rfl).ext hE8) Tryz.underlying25 rfl (by rw [infoPoly, u8s_size, hl]) (hK _ _ rfl (Ext.refl _) rfl)
      simp only [Act.put, List.setIfInBounds_toArray, List.set_cons_zero, List.set_cons_succ]
      refine ⟨fun w8 hE8 hk => fun K hK => ?_, ?_⟩
      · have k3 : vals 3 = .bool true := hk 3 (by decide) (by kernel_rfl)
        have k4 : vals 4 = .agg (u8s l) := hk 4 (by decide) (by kernel_rfl)
        rw [if_pos (by simp [Region.wanted, yielded, k3])]
        go_simp
        refine (DG.out _).mono ?_
        rintro e7 w7 ⟨rfl, hE7⟩
        exact hK _ _ rfl hE7 rfl
      simp only [Act.put, List.setIfInBounds_toArray, List.set_cons_zero, List.set_cons_succ]
      refine ⟨fun w8 hE8 hk => fun K hK => ?_, ?_⟩
      · have k3 : vals 3 = .bool true := hk 3 (by decide) (by kernel_rfl)
        rw [if_pos (by simp [Region.wanted, yielded, k3])]
        exact wp_load_row _ _ rfl _ (by first | rfl | simp [*]) _ _ (0, 0) _ ((F.at_ 1 rfl).ext hE8) Tryz.underlying25 rfl (by rw [infoPoly, u8s_size, pad_length _]) (hK _ _ rfl (Ext.refl _) rfl)
      simp only [Act.put, List.setIfInBounds_toArray, List.set_cons_zero, List.set_cons_succ]
      refine ⟨fun w8 hE8 hk => fun K hK => ?_, ?_⟩
      · have k3 : vals 3 = .bool true := hk 3 (by decide) (by kernel_rfl)
        have k5 : vals 5 = .int .i64 (((trim l).length : Int) - 1) := hk 5 (by decide) (by kernel_rfl)
        have k6 : vals 6 = .agg (u8s (pad m)) := hk 6 (by decide) (by kernel_rfl)
        rw [if_pos (by simp [Region.wanted, yielded, k3])]
        go_simp
        refine (DM.out _).mono ?_
        rintro e7 w7 ⟨rfl, hE7⟩
        exact hK _ _ rfl hE7 rfl
      simp only [Act.put, List.setIfInBounds_toArray, List.set_cons_zero, List.set_cons_succ]
      refine ⟨fun w8 hE8 hk => fun K hK => ?_, ?_⟩
      · have k3 : vals 3 = .bool true := hk 3 (by decide) (by kernel_rfl)
        have k5 : vals 5 = .int .i64 (((trim l).length : Int) - 1) := hk 5 (by decide) (by kernel_rfl)
        have k7 : vals 7 = .int .i64 ((m.length : Int) - 1) := hk 7 (by decide) (by kernel_rfl)
        rw [if_pos (by simp [Region.wanted, yielded, k3])]
        go_simp
        (try go_bits)
        exact hK _ _ rfl (Ext.refl _) rfl
      exact trivial
    simp only [List.take_succ_cons, List.take_zero, List.drop_succ_cons, List.drop_zero, preAct, Nat.reduceAdd, Act.put, List.setIfInBounds_toArray, List.set_cons_zero, List.set_cons_succ]
    have k0 : vals 0 = .int .i64 p := hS9 0 (by decide) 
    have k1 : vals 1 = .agg (u8s l) := hS9 1 (by decide) 
    have k2 : vals 2 = .bool true := hS9 2 (by decide) 
    have k3 : vals 3 = .bool true := hS9 3 (by decide) 
    have k4 : vals 4 = .agg (u8s l) := hS9 4 (by decide) 
    have k5 : vals 5 = .int .i64 (((trim l).length : Int) - 1) := hS9 5 (by decide) 
    have k6 : vals 6 = .agg (u8s (pad m)) := hS9 6 (by decide) 
    have k7 : vals 7 = .int .i64 ((m.length : Int) - 1) := hS9 7 (by decide) 
    have k8 : vals 8 = .bool (decide ((trim l).length < m.length)) := hS9 8 (by decide) 
    simp only [k0, k1, k2, k3, k4, k5, k6, k7, k8]
    clear hN9 hS9 k0 k1 k2 k3 k4 k5 k6 k7 k8
    go_wp2
    go_ret
    exact ⟨ret_bool (by rw [G.out]), (F.next hE9).ext⟩

end Go.Proofs.YtaemiknaiccijaaGreat

/- The reference's check of a field and its residues. -/
namespace Go.Proofs.YtaemiknaiccijaaGreat
open Go.RowKit

theorem fldB_row {p : Int} {l : List Int} (hl : l.length = 64) (hb : IsB l) (h : fldB p l = true) : PrimeP p ∧ Can p (trim l) ∧ 2 ≤ (trim l).length ∧ (trim l).length ≤ 5 ∧ lc (trim l) = 1 ∧ pad (trim l) = l ∧ irrS p (trim l) = true := by
  rw [fldB, Bool.and_eq_true, Bool.and_eq_true, Bool.and_eq_true, monicB, Bool.and_eq_true, inB, Bool.and_eq_true] at h
  obtain ⟨h1, ⟨h2, h3⟩, ⟨h4, h5⟩, h6⟩ := h
  obtain ⟨hp, hc, h64, he⟩ := isPB_row hl hb h1
  have a := of_decide_eq_true h4
  have b := of_decide_eq_true h5
  exact ⟨hp, hc, by omega, by omega, by simpa using h3, he, h6⟩
def resC (p : Int) (l : List Int) (L : List (List Int)) : Int := if fldB p l && L.all (resB p (trim l)) then 0 else 1
def RcRel (p : Int) (m : List Int) (L : List (List Int)) (w1 : World) (f : Nat) (i : Value) (wr : World) : Prop :=
  ∃ k : Nat, f + k = L.length ∧ i = .int .i64 k ∧ (L.take k).any (fun x => !resB p m x) = false ∧ Ext w1 wr

set_option maxRecDepth 100000 in
set_option maxHeartbeats 1000000 in
theorem l03Residues_any (p : Int) (l : List Int) (A : Option Addr) (cap : Nat) (L : List (List Int)) (hl : l.length = 64) (hb : IsB l) (w : World) (hL : PsAt w A L) (hB : ∀ x ∈ L, IsB x) :
    Calls Tryz.prog 46 #[.int .i64 p, .agg (u8s l), .slice A L.length cap] w fun e w' => e = .returned (.int .i64 (resC p l L)) ∧ Ext w w' := by
  have FD := Lib.hid fun W => l03Field_any p l hl hb W
  have HL := Lib.hid hL
  have HB := Lib.hid hB
  have lm := hL.1
  have F := Hp.start w
  cases h1 : fldB p l with
  | false =>
    rw [h1] at FD
    have G : Hid (resC p l L = 1) := Lib.hid (by rw [resC, h1]; rfl)
    clear h1 hb hL hB
    go_enter Tryz.func46, Tryz.ntmps46
    go_wp2_with (first | ((with_reducible show wpList _ _ _ _ _ _); first | (apply hpLd F; exact rfl; exact rfl; exact rfl; (· repeat (first | exact Has.head | apply Has.tail))) | (apply hpBox F; exact rfl; exact rfl; exact rfl; (· with_reducible first | exact pad_length _ | exact zeros64_length | exact tab_length _ _ | assumption)) | (apply hpAlloc F; exact rfl; exact rfl) | (apply hpSt F; exact rfl; exact rfl; exact rfl; exact rfl; (· repeat (first | exact Upd.head | apply Upd.tail)); (· with_reducible first | exact pad_length _ | exact zeros64_length | exact tab_length _ _ | assumption))))
    clear F
    intro gl w1 F
    go_wp2_with (first | (go_at_call 80; (with_reducible refine (FD.out _).mono ?_); rintro e w2 ⟨rfl, E2⟩; replace F := F.next E2) | ((with_reducible show wpList _ _ _ _ _ _); first | (apply hpLd F; exact rfl; exact rfl; exact rfl; (· repeat (first | exact Has.head | apply Has.tail))) | (apply hpBox F; exact rfl; exact rfl; exact rfl; (· with_reducible first | exact pad_length _ | exact zeros64_length | exact tab_length _ _ | assumption)) | (apply hpAlloc F; exact rfl; exact rfl) | (apply hpSt F; exact rfl; exact rfl; exact rfl; exact rfl; (· repeat (first | exact Upd.head | apply Upd.tail)); (· with_reducible first | exact pad_length _ | exact zeros64_length | exact tab_length _ _ | assumption))))
    go_ret
    exact ⟨ret_int G.out.symm, F.ext⟩
  | true =>
    rw [h1] at FD
    obtain ⟨hp, hc, m2, m5, _, he, _⟩ := fldB_row hl hb h1
    have G : Hid (resC p l L = if L.all (resB p (trim l)) then 0 else 1) := Lib.hid (by rw [resC, h1]; rfl)
    have RS : Hid (∀ x W, x.length = 64 → IsB x → Calls Tryz.prog 81 #[.int .i64 p, .agg (u8s l), .agg (u8s x)] W fun e w' => e = .returned (.bool (resB p (trim l) x)) ∧ Ext W w') := Lib.hid fun x W h64 hbx => by
      have := l03Residue_any p (trim l) x hc.nz (by omega) h64 hbx W
      rwa [he] at this
    clear h1 hb hL hB he hc hp
    go_enter Tryz.func46, Tryz.ntmps46
    go_wp2_with (first | ((with_reducible show wpList _ _ _ _ _ _); first | (apply hpLd F; exact rfl; exact rfl; exact rfl; (· repeat (first | exact Has.head | apply Has.tail))) | (apply hpBox F; exact rfl; exact rfl; exact rfl; (· with_reducible first | exact pad_length _ | exact zeros64_length | exact tab_length _ _ | assumption)) | (apply hpAlloc F; exact rfl; exact rfl) | (apply hpSt F; exact rfl; exact rfl; exact rfl; exact rfl; (· repeat (first | exact Upd.head | apply Upd.tail)); (· with_reducible first | exact pad_length _ | exact zeros64_length | exact tab_length _ _ | assumption))))
    clear F
    intro gl w1 F
    go_wp2_with (first | (go_at_call 80; (with_reducible refine (FD.out _).mono ?_); rintro e w2 ⟨rfl, E2⟩; replace F := F.next E2) | ((with_reducible show wpList _ _ _ _ _ _); first | (apply hpLd F; exact rfl; exact rfl; exact rfl; (· repeat (first | exact Has.head | apply Has.tail))) | (apply hpBox F; exact rfl; exact rfl; exact rfl; (· with_reducible first | exact pad_length _ | exact zeros64_length | exact tab_length _ _ | assumption)) | (apply hpAlloc F; exact rfl; exact rfl) | (apply hpSt F; exact rfl; exact rfl; exact rfl; exact rfl; (· repeat (first | exact Upd.head | apply Upd.tail)); (· with_reducible first | exact pad_length _ | exact zeros64_length | exact tab_length _ _ | assumption))))
    have FA := Lib.hid (F.at_ 0 rfl)
    have E0 := F.ext
    clear F
    go_loopg [7] L.length (fun f i wr => RcRel p (trim l) L w2 f i wr)
    case atStart => exact ⟨0, by omega, rfl, rfl, Ext.refl _⟩
    case round =>
      obtain ⟨k, hk, rfl, ha, E⟩ := hrel
      have HA := Lib.hid ha
      clear ha
      by_cases h : k < L.length
      · have HLw := Lib.hid (HL.out.below (E0.tr E))
        obtain ⟨b, o, rfl, hr⟩ := HLw.out.2.2 (by omega)
        have t1 : decide ((k : Int) < (L.length : Int)) = true := decide_eq_true (by omega)
        have i1 : k < L.length := h
        have i2 : (k : Int) < (L.length : Int) := by omega
        have R := Lib.hid (hr k L[k] (List.getElem?_eq_getElem h))
        have X64 : L[k].length = 64 := HLw.out.2.1 _ (List.getElem_mem h)
        have XB := Lib.hid (HB.out _ (List.getElem_mem h))
        have AS := Lib.hid (any_take_succ L (fun x => !resB p (trim l) x) k h)
        have AN := Lib.hid (any_of_at L (fun x => !resB p (trim l) x) k h)
        generalize L[k] = x at R X64 XB AS AN
        have RSx := Lib.hid fun W => RS.out x W X64 XB.out
        have LN : Hid ((u8s x).toList.length = 64) := Lib.hid (by rw [u8s_toList, List.length_map, X64])
        clear hr
        go_wp2
        refine region_ext 6 (by kernel_rfl) (by kernel_rfl) (by kernel_rfl) [] [eqv (.int .i64 p), eqv (.agg (u8s l)), eqv (.slice (some ⟨b, o, none⟩) L.length cap), eqv (.int .i64 (k : Int)), eqv (.pointer (some ⟨b, o + k * 64, none⟩)), eqv (.agg (u8s x))]
          ⟨mono_eqv _, mono_eqv _, mono_eqv _, mono_eqv _, mono_eqv _, mono_eqv _, trivial⟩ (fun vals => ?_) (fun vals w9 hE9 hS9 hN9 => ?_)
        · simp only [List.take_succ_cons, List.take_zero]
          refine ⟨fun w8 hE8 hk => doesK_plain rfl fun K hK => ?_, ?_⟩
          · go_simp
            (try go_bits)
            exact hK _ _ rfl (Ext.refl _) rfl
          simp only [Act.put, List.setIfInBounds_toArray, List.set_cons_zero, List.set_cons_succ]
          refine ⟨fun w8 hE8 hk => doesK_plain rfl fun K hK => ?_, ?_⟩
          · exact wp_load_row _ _ rfl _ (by first | rfl | simp [*]) _ _ (0, 0) _ ((FA.out.ext E).ext hE8) Tryz.underlying25 rfl (by rw [infoPoly, u8s_size, hl]) (hK _ _ rfl (Ext.refl _) rfl)
          simp only [Act.put, List.setIfInBounds_toArray, List.set_cons_zero, List.set_cons_succ]
          refine ⟨fun w8 hE8 hk => doesK_plain rfl fun K hK => ?_, ?_⟩
          · go_simp
            (try go_bits)
            exact hK _ _ rfl (Ext.refl _) rfl
          simp only [Act.put, List.setIfInBounds_toArray, List.set_cons_zero, List.set_cons_succ]
          refine ⟨fun w8 hE8 hk => doesK_plain rfl fun K hK => ?_, ?_⟩
          · go_simp
            (try go_bits)
            exact hK _ _ rfl (Ext.refl _) rfl
          simp only [Act.put, List.setIfInBounds_toArray, List.set_cons_zero, List.set_cons_succ]
          refine ⟨fun w8 hE8 hk => doesK_plain rfl fun K hK => ?_, ?_⟩
          · have k2 : vals 2 = .slice (some ⟨b, o, none⟩) L.length cap := hk 2 (by decide) (by kernel_rfl)
            have k3 : vals 3 = .int .i64 (k : Int) := hk 3 (by decide) (by kernel_rfl)
            go_simp
            (try go_bits)
            exact hK _ _ rfl (Ext.refl _) rfl
          simp only [Act.put, List.setIfInBounds_toArray, List.set_cons_zero, List.set_cons_succ]
          refine ⟨fun w8 hE8 hk => doesK_plain rfl fun K hK => ?_, ?_⟩
          · have k4 : vals 4 = .pointer (some ⟨b, o + k * 64, none⟩) := hk 4 (by decide) (by kernel_rfl)
            exact wp_load_mid _ _ rfl b (o + k * 64) k4 _ _ (range_below R.out hE8) Tryz.underlying25 rfl (by rw [infoPoly, LN.out]) (hK _ _ rfl (Ext.refl _) rfl)
          exact trivial
        simp only [List.take_succ_cons, List.take_zero, List.drop_succ_cons, List.drop_zero, preAct, Nat.reduceAdd, Act.put, List.setIfInBounds_toArray, List.set_cons_zero, List.set_cons_succ]
        have k0 : vals 0 = .int .i64 p := hS9 0 (by decide) 
        have k1 : vals 1 = .agg (u8s l) := hS9 1 (by decide) 
        have k2 : vals 2 = .slice (some ⟨b, o, none⟩) L.length cap := hS9 2 (by decide) 
        have k3 : vals 3 = .int .i64 (k : Int) := hS9 3 (by decide) 
        have k4 : vals 4 = .pointer (some ⟨b, o + k * 64, none⟩) := hS9 4 (by decide) 
        have k5 : vals 5 = .agg (u8s x) := hS9 5 (by decide) 
        simp only [k0, k1, k2, k3, k4, k5]
        clear hN9 hS9 k0 k1 k2 k3 k4 k5
        cases hx : resB p (trim l) x with
        | true =>
          have q : Hid ((!resB p (trim l) x) = false) := Lib.hid (by rw [hx]; rfl)
          rw [hx] at RSx
          clear hx
          go_wp2_with (first | (go_at_call 81; (with_reducible refine (RSx.out _).mono ?_); rintro e w7 ⟨rfl, E7⟩))
          go_roundg (gk - 1)
          case measure => omega
          case rel => exact ⟨k + 1, by omega, by go_num, by rw [AS.out, HA.out, q.out]; rfl, E.tr (hE9.tr E7)⟩
        | false =>
          have q : Hid ((!resB p (trim l) x) = true) := Lib.hid (by rw [hx]; rfl)
          have G2 : Hid (L.all (resB p (trim l)) = false) := Lib.hid (by rw [List.all_eq_not_any_not, AN.out q.out]; rfl)
          rw [hx] at RSx
          clear hx
          go_wp2_with (first | (go_at_call 81; (with_reducible refine (RSx.out _).mono ?_); rintro e w7 ⟨rfl, E7⟩))
          go_ret
          exact ⟨ret_int (by rw [G.out, G2.out]; rfl), E0.tr (E.tr (hE9.tr E7))⟩
      · have t1 : decide ((k : Int) < (L.length : Int)) = false := decide_eq_false (by omega)
        have G2 : Hid (L.all (resB p (trim l)) = true) := Lib.hid (by
          have := HA.out
          rw [List.take_of_length_le (by omega)] at this
          rw [List.all_eq_not_any_not, this]; rfl)
        go_wp2
        go_ret
        exact ⟨ret_int (by rw [G.out, G2.out]; rfl), E0.tr E⟩

def lstC (p : Int) (l : List Int) (L : List (List Int)) (most : Int) : Int := if resC p l L = 0 then (if most < (L.length : Int) then 2 else 0) else 1
theorem resC_01 (p : Int) (l : List Int) (L : List (List Int)) : resC p l L = 0 ∨ resC p l L = 1 := by unfold resC; split <;> simp
set_option maxRecDepth 100000 in
set_option maxHeartbeats 1000000 in
theorem l09Listed_any (p most : Int) (l : List Int) (A : Option Addr) (cap : Nat) (L : List (List Int)) (hl : l.length = 64) (hb : IsB l) (w : World) (hL : PsAt w A L) (hB : ∀ x ∈ L, IsB x) :
    Calls Tryz.prog 27 #[.int .i64 p, .agg (u8s l), .slice A L.length cap, .int .i64 most] w fun e w' => e = .returned (.int .i64 (lstC p l L most)) ∧ Ext w w' := by
  have RC := Lib.hid fun W h => l03Residues_any p l A cap L hl hb W h hB
  have HL := Lib.hid hL
  have lm := hL.1
  have F := Hp.start w
  rcases resC_01 p l L with h1 | h1
  · by_cases h2 : most < (L.length : Int)
    · have G : Hid (lstC p l L most = 2) := Lib.hid (by rw [lstC, h1, if_pos rfl, if_pos h2])
      have t1 : decide ((L.length : Int) > most) = true := decide_eq_true h2
      have t2 : decide (most < (L.length : Int)) = true := decide_eq_true h2
      rw [h1] at RC
      clear h1 hb hL hB
      go_enter Tryz.func27, Tryz.ntmps27
      go_wp2_with (first | ((with_reducible show wpList _ _ _ _ _ _); first | (apply hpLd F; exact rfl; exact rfl; exact rfl; (· repeat (first | exact Has.head | apply Has.tail))) | (apply hpBox F; exact rfl; exact rfl; exact rfl; (· with_reducible first | exact pad_length _ | exact zeros64_length | exact tab_length _ _ | assumption)) | (apply hpAlloc F; exact rfl; exact rfl) | (apply hpSt F; exact rfl; exact rfl; exact rfl; exact rfl; (· repeat (first | exact Upd.head | apply Upd.tail)); (· with_reducible first | exact pad_length _ | exact zeros64_length | exact tab_length _ _ | assumption))))
      clear F
      intro gl w1 F
      go_wp2_with (first | (go_at_call 46; (with_reducible refine (RC.out _ (HL.out.below F.ext)).mono ?_); rintro e w2 ⟨rfl, E2⟩; replace F := F.next E2) | ((with_reducible show wpList _ _ _ _ _ _); first | (apply hpLd F; exact rfl; exact rfl; exact rfl; (· repeat (first | exact Has.head | apply Has.tail))) | (apply hpBox F; exact rfl; exact rfl; exact rfl; (· with_reducible first | exact pad_length _ | exact zeros64_length | exact tab_length _ _ | assumption)) | (apply hpAlloc F; exact rfl; exact rfl) | (apply hpSt F; exact rfl; exact rfl; exact rfl; exact rfl; (· repeat (first | exact Upd.head | apply Upd.tail)); (· with_reducible first | exact pad_length _ | exact zeros64_length | exact tab_length _ _ | assumption))))
      go_ret
      exact ⟨ret_int G.out.symm, F.ext⟩
    · have G : Hid (lstC p l L most = 0) := Lib.hid (by rw [lstC, h1, if_pos rfl, if_neg h2])
      have t1 : decide ((L.length : Int) > most) = false := decide_eq_false h2
      have t2 : decide (most < (L.length : Int)) = false := decide_eq_false h2
      rw [h1] at RC
      clear h1 hb hL hB
      go_enter Tryz.func27, Tryz.ntmps27
      go_wp2_with (first | ((with_reducible show wpList _ _ _ _ _ _); first | (apply hpLd F; exact rfl; exact rfl; exact rfl; (· repeat (first | exact Has.head | apply Has.tail))) | (apply hpBox F; exact rfl; exact rfl; exact rfl; (· with_reducible first | exact pad_length _ | exact zeros64_length | exact tab_length _ _ | assumption)) | (apply hpAlloc F; exact rfl; exact rfl) | (apply hpSt F; exact rfl; exact rfl; exact rfl; exact rfl; (· repeat (first | exact Upd.head | apply Upd.tail)); (· with_reducible first | exact pad_length _ | exact zeros64_length | exact tab_length _ _ | assumption))))
      clear F
      intro gl w1 F
      go_wp2_with (first | (go_at_call 46; (with_reducible refine (RC.out _ (HL.out.below F.ext)).mono ?_); rintro e w2 ⟨rfl, E2⟩; replace F := F.next E2) | ((with_reducible show wpList _ _ _ _ _ _); first | (apply hpLd F; exact rfl; exact rfl; exact rfl; (· repeat (first | exact Has.head | apply Has.tail))) | (apply hpBox F; exact rfl; exact rfl; exact rfl; (· with_reducible first | exact pad_length _ | exact zeros64_length | exact tab_length _ _ | assumption)) | (apply hpAlloc F; exact rfl; exact rfl) | (apply hpSt F; exact rfl; exact rfl; exact rfl; exact rfl; (· repeat (first | exact Upd.head | apply Upd.tail)); (· with_reducible first | exact pad_length _ | exact zeros64_length | exact tab_length _ _ | assumption))))
      go_ret
      exact ⟨ret_int G.out.symm, F.ext⟩
  · have G : Hid (lstC p l L most = 1) := Lib.hid (by rw [lstC, h1]; rfl)
    rw [h1] at RC
    clear h1 hb hL hB
    go_enter Tryz.func27, Tryz.ntmps27
    go_wp2_with (first | ((with_reducible show wpList _ _ _ _ _ _); first | (apply hpLd F; exact rfl; exact rfl; exact rfl; (· repeat (first | exact Has.head | apply Has.tail))) | (apply hpBox F; exact rfl; exact rfl; exact rfl; (· with_reducible first | exact pad_length _ | exact zeros64_length | exact tab_length _ _ | assumption)) | (apply hpAlloc F; exact rfl; exact rfl) | (apply hpSt F; exact rfl; exact rfl; exact rfl; exact rfl; (· repeat (first | exact Upd.head | apply Upd.tail)); (· with_reducible first | exact pad_length _ | exact zeros64_length | exact tab_length _ _ | assumption))))
    clear F
    intro gl w1 F
    go_wp2_with (first | (go_at_call 46; (with_reducible refine (RC.out _ (HL.out.below F.ext)).mono ?_); rintro e w2 ⟨rfl, E2⟩; replace F := F.next E2) | ((with_reducible show wpList _ _ _ _ _ _); first | (apply hpLd F; exact rfl; exact rfl; exact rfl; (· repeat (first | exact Has.head | apply Has.tail))) | (apply hpBox F; exact rfl; exact rfl; exact rfl; (· with_reducible first | exact pad_length _ | exact zeros64_length | exact tab_length _ _ | assumption)) | (apply hpAlloc F; exact rfl; exact rfl) | (apply hpSt F; exact rfl; exact rfl; exact rfl; exact rfl; (· repeat (first | exact Upd.head | apply Upd.tail)); (· with_reducible first | exact pad_length _ | exact zeros64_length | exact tab_length _ _ | assumption))))
    go_ret
    exact ⟨ret_int G.out.symm, F.ext⟩

end Go.Proofs.YtaemiknaiccijaaGreat
