/- Lemmas and contracts of functions, for the laws: The reference's greatest common divisors with their factors. -/
import Derived.Test.YtaemiknaiccijaaGreatRm4
import Derived.Deep.LoopGhost
set_option linter.unusedVariables false
set_option linter.unusedSimpArgs false
namespace Go.Proofs.YtaemiknaiccijaaGreat
open Go.RowKit

/-- The blocks at the head of a round of the chain. -/
def BezRel (p : Int) (a0 b0 : List Int) (w : World) (ga gb z1 z2 z3 gu gx gv gy n : Nat) (wr : World) : Prop :=
  ∃ (a b u x v y : List Int), bezF p n a b u x v y = bez0 p a0 b0 ∧ b.length < n ∧ BezInv p a b u x v y ∧
    Hp w wr [(gy, pad y), (gv, pad v), (gx, pad x), (gu, pad u), (z3, zeros64), (z2, zeros64), (z1, zeros64), (gb, pad b), (ga, pad a)]

set_option maxRecDepth 100000 in
set_option maxHeartbeats 2000000 in
theorem l01Bezout_any (p : Int) (a0 b0 : List Int) (hp : PrimeP p) (ha : Can p a0) (hb : Can p b0) (la : a0.length ≤ 64) (lb : b0.length ≤ 64) (hne : a0.length ≠ 0 ∨ b0.length ≠ 0) (w : World) :
    Calls Tryz.prog 84 #[.int .i64 p, .agg (u8s (pad a0)), .agg (u8s (pad b0))] w fun e w' =>
      e = .returned (.tuple #[.agg (u8s (pad (bezD p a0 b0))), .agg (u8s (pad (bezU p a0 b0))), .agg (u8s (pad (bezV p a0 b0)))]) ∧ Ext w w' := by
  have hz := zlit
  have INV := Lib.hid (BezInv.start hp ha hb la lb hne)
  have HP := Lib.hid hp
  have HE := Lib.hid (bez0_inv hp ha hb la lb hne)
  clear ha hb hne hp
  have F := Hp.start w
  go_enter Tryz.func84, Tryz.ntmps84
  go_wp2_with (first | ((with_reducible show wpList _ _ _ _ _ _); first | (apply hpLd F; exact rfl; exact rfl; exact rfl; (· repeat (first | exact Has.head | apply Has.tail))) | (apply hpBox F; exact rfl; exact rfl; exact rfl; (· with_reducible first | exact pad_length _ | exact zeros64_length | exact tab_length _ _ | assumption)) | (apply hpAlloc F; exact rfl; exact rfl) | (apply hpSt F; exact rfl; exact rfl; exact rfl; exact rfl; (· repeat (first | exact Upd.head | apply Upd.tail)); (· with_reducible first | exact pad_length _ | exact zeros64_length | exact tab_length _ _ | assumption))))
  clear F
  intro ga w1 F
  go_wp2_with (first | ((with_reducible show wpList _ _ _ _ _ _); first | (apply hpLd F; exact rfl; exact rfl; exact rfl; (· repeat (first | exact Has.head | apply Has.tail))) | (apply hpBox F; exact rfl; exact rfl; exact rfl; (· with_reducible first | exact pad_length _ | exact zeros64_length | exact tab_length _ _ | assumption)) | (apply hpAlloc F; exact rfl; exact rfl) | (apply hpSt F; exact rfl; exact rfl; exact rfl; exact rfl; (· repeat (first | exact Upd.head | apply Upd.tail)); (· with_reducible first | exact pad_length _ | exact zeros64_length | exact tab_length _ _ | assumption))))
  clear F
  intro gb w1 F
  go_wp2_with (first | ((with_reducible show wpList _ _ _ _ _ _); first | (apply hpLd F; exact rfl; exact rfl; exact rfl; (· repeat (first | exact Has.head | apply Has.tail))) | (apply hpBox F; exact rfl; exact rfl; exact rfl; (· with_reducible first | exact pad_length _ | exact zeros64_length | exact tab_length _ _ | assumption)) | (apply hpAlloc F; exact rfl; exact rfl) | (apply hpSt F; exact rfl; exact rfl; exact rfl; exact rfl; (· repeat (first | exact Upd.head | apply Upd.tail)); (· with_reducible first | exact pad_length _ | exact zeros64_length | exact tab_length _ _ | assumption))))
  clear F
  intro z1 w1 F
  go_wp2_with (first | ((with_reducible show wpList _ _ _ _ _ _); first | (apply hpLd F; exact rfl; exact rfl; exact rfl; (· repeat (first | exact Has.head | apply Has.tail))) | (apply hpBox F; exact rfl; exact rfl; exact rfl; (· with_reducible first | exact pad_length _ | exact zeros64_length | exact tab_length _ _ | assumption)) | (apply hpAlloc F; exact rfl; exact rfl) | (apply hpSt F; exact rfl; exact rfl; exact rfl; exact rfl; (· repeat (first | exact Upd.head | apply Upd.tail)); (· with_reducible first | exact pad_length _ | exact zeros64_length | exact tab_length _ _ | assumption))))
  clear F
  intro z2 w1 F
  go_wp2_with (first | ((with_reducible show wpList _ _ _ _ _ _); first | (apply hpLd F; exact rfl; exact rfl; exact rfl; (· repeat (first | exact Has.head | apply Has.tail))) | (apply hpBox F; exact rfl; exact rfl; exact rfl; (· with_reducible first | exact pad_length _ | exact zeros64_length | exact tab_length _ _ | assumption)) | (apply hpAlloc F; exact rfl; exact rfl) | (apply hpSt F; exact rfl; exact rfl; exact rfl; exact rfl; (· repeat (first | exact Upd.head | apply Upd.tail)); (· with_reducible first | exact pad_length _ | exact zeros64_length | exact tab_length _ _ | assumption))))
  clear F
  intro z3 w1 F
  go_wp2_with (first | (go_at_call 48; refine (l01One_any _).mono ?_; rintro e w2 ⟨rfl, E2⟩; replace F := F.next E2) | ((with_reducible show wpList _ _ _ _ _ _); first | (apply hpLd F; exact rfl; exact rfl; exact rfl; (· repeat (first | exact Has.head | apply Has.tail))) | (apply hpBox F; exact rfl; exact rfl; exact rfl; (· with_reducible first | exact pad_length _ | exact zeros64_length | exact tab_length _ _ | assumption)) | (apply hpAlloc F; exact rfl; exact rfl) | (apply hpSt F; exact rfl; exact rfl; exact rfl; exact rfl; (· repeat (first | exact Upd.head | apply Upd.tail)); (· with_reducible first | exact pad_length _ | exact zeros64_length | exact tab_length _ _ | assumption))))
  clear F
  intro gu w1 F
  go_wp2_with (first | ((with_reducible show wpList _ _ _ _ _ _); first | (apply hpLd F; exact rfl; exact rfl; exact rfl; (· repeat (first | exact Has.head | apply Has.tail))) | (apply hpBox F; exact rfl; exact rfl; exact rfl; (· with_reducible first | exact pad_length _ | exact zeros64_length | exact tab_length _ _ | assumption)) | (apply hpAlloc F; exact rfl; exact rfl) | (apply hpSt F; exact rfl; exact rfl; exact rfl; exact rfl; (· repeat (first | exact Upd.head | apply Upd.tail)); (· with_reducible first | exact pad_length _ | exact zeros64_length | exact tab_length _ _ | assumption))))
  clear F
  intro gx w1 F
  go_wp2_with (first | ((with_reducible show wpList _ _ _ _ _ _); first | (apply hpLd F; exact rfl; exact rfl; exact rfl; (· repeat (first | exact Has.head | apply Has.tail))) | (apply hpBox F; exact rfl; exact rfl; exact rfl; (· with_reducible first | exact pad_length _ | exact zeros64_length | exact tab_length _ _ | assumption)) | (apply hpAlloc F; exact rfl; exact rfl) | (apply hpSt F; exact rfl; exact rfl; exact rfl; exact rfl; (· repeat (first | exact Upd.head | apply Upd.tail)); (· with_reducible first | exact pad_length _ | exact zeros64_length | exact tab_length _ _ | assumption))))
  clear F
  intro gv w1 F
  go_wp2_with (first | ((with_reducible show wpList _ _ _ _ _ _); first | (apply hpLd F; exact rfl; exact rfl; exact rfl; (· repeat (first | exact Has.head | apply Has.tail))) | (apply hpBox F; exact rfl; exact rfl; exact rfl; (· with_reducible first | exact pad_length _ | exact zeros64_length | exact tab_length _ _ | assumption)) | (apply hpAlloc F; exact rfl; exact rfl) | (apply hpSt F; exact rfl; exact rfl; exact rfl; exact rfl; (· repeat (first | exact Upd.head | apply Upd.tail)); (· with_reducible first | exact pad_length _ | exact zeros64_length | exact tab_length _ _ | assumption))))
  clear F
  intro gy w1 F
  go_wp2_with (first | ((with_reducible show wpList _ _ _ _ _ _); first | (apply hpLd F; exact rfl; exact rfl; exact rfl; (· repeat (first | exact Has.head | apply Has.tail))) | (apply hpBox F; exact rfl; exact rfl; exact rfl; (· with_reducible first | exact pad_length _ | exact zeros64_length | exact tab_length _ _ | assumption)) | (apply hpAlloc F; exact rfl; exact rfl) | (apply hpSt F; exact rfl; exact rfl; exact rfl; exact rfl; (· repeat (first | exact Upd.head | apply Upd.tail)); (· with_reducible first | exact pad_length _ | exact zeros64_length | exact tab_length _ _ | assumption))))
  clear F
  intro w1 F
  try simp only [List.set_cons_zero, List.set_cons_succ] at F
  go_wp2_with (first | ((with_reducible show wpList _ _ _ _ _ _); first | (apply hpLd F; exact rfl; exact rfl; exact rfl; (· repeat (first | exact Has.head | apply Has.tail))) | (apply hpBox F; exact rfl; exact rfl; exact rfl; (· with_reducible first | exact pad_length _ | exact zeros64_length | exact tab_length _ _ | assumption)) | (apply hpAlloc F; exact rfl; exact rfl) | (apply hpSt F; exact rfl; exact rfl; exact rfl; exact rfl; (· repeat (first | exact Upd.head | apply Upd.tail)); (· with_reducible first | exact pad_length _ | exact zeros64_length | exact tab_length _ _ | assumption))))
  clear F
  intro w1 F
  try simp only [List.set_cons_zero, List.set_cons_succ] at F
  go_wp2_with (first | ((with_reducible show wpList _ _ _ _ _ _); first | (apply hpLd F; exact rfl; exact rfl; exact rfl; (· repeat (first | exact Has.head | apply Has.tail))) | (apply hpBox F; exact rfl; exact rfl; exact rfl; (· with_reducible first | exact pad_length _ | exact zeros64_length | exact tab_length _ _ | assumption)) | (apply hpAlloc F; exact rfl; exact rfl) | (apply hpSt F; exact rfl; exact rfl; exact rfl; exact rfl; (· repeat (first | exact Upd.head | apply Upd.tail)); (· with_reducible first | exact pad_length _ | exact zeros64_length | exact tab_length _ _ | assumption))))
  clear F
  intro w1 F
  try simp only [List.set_cons_zero, List.set_cons_succ] at F
  go_wp2_with (first | ((with_reducible show wpList _ _ _ _ _ _); first | (apply hpLd F; exact rfl; exact rfl; exact rfl; (· repeat (first | exact Has.head | apply Has.tail))) | (apply hpBox F; exact rfl; exact rfl; exact rfl; (· with_reducible first | exact pad_length _ | exact zeros64_length | exact tab_length _ _ | assumption)) | (apply hpAlloc F; exact rfl; exact rfl) | (apply hpSt F; exact rfl; exact rfl; exact rfl; exact rfl; (· repeat (first | exact Upd.head | apply Upd.tail)); (· with_reducible first | exact pad_length _ | exact zeros64_length | exact tab_length _ _ | assumption))))
  clear F
  intro w1 F
  try simp only [List.set_cons_zero, List.set_cons_succ] at F
  go_wp2_with (first | ((with_reducible show wpList _ _ _ _ _ _); first | (apply hpLd F; exact rfl; exact rfl; exact rfl; (· repeat (first | exact Has.head | apply Has.tail))) | (apply hpBox F; exact rfl; exact rfl; exact rfl; (· with_reducible first | exact pad_length _ | exact zeros64_length | exact tab_length _ _ | assumption)) | (apply hpAlloc F; exact rfl; exact rfl) | (apply hpSt F; exact rfl; exact rfl; exact rfl; exact rfl; (· repeat (first | exact Upd.head | apply Upd.tail)); (· with_reducible first | exact pad_length _ | exact zeros64_length | exact tab_length _ _ | assumption))))
  go_loopg [] (b0.length + 1) (fun n wr => BezRel p a0 b0 w ga gb z1 z2 z3 gu gx gv gy n wr)
  case atStart =>
    rw [← pad_nil] at F
    refine ⟨a0, b0, [1], [], [], [1], rfl, by omega, INV.out, ?_⟩
    rw [pad_nil] at *
    exact F
  case round =>
    clear F INV la lb
    obtain ⟨a, b, u, x, v, y, hf, hn, inv, F⟩ := hrel
    have HF := Lib.hid hf
    have IN := Lib.hid inv
    clear hf inv
    by_cases hb : b.length = 0
    · have HB := Lib.hid hb
      have tb : decide ((0 : Int) ≤ (b.length : Int) - 1) = false := by simp; omega
      have hb' : b.length < 1 := by omega
      have hs : Hid (bez0 p a0 b0 = (a, u, v)) := Lib.hid (by rw [← HF.out, bezF_stop _ _ _ _ _ _ _ _ hb])
      have hne : a.length ≠ 0 := by have := IN.out.ne; omega
      obtain ⟨m, hm⟩ : ∃ m, a.length = m + 1 := ⟨a.length - 1, by omega⟩
      have HM := Lib.hid hm
      have lm : m < 64 := by have := IN.out.la; omega
      have hlc := IN.out.ca.last (by omega)
      have elc : Hid (at0 a m = lc a) := Lib.hid (by unfold lc; rw [hm]; rfl)
      rw [show at0 a (a.length - 1) = lc a from rfl] at hlc
      have hinv := invP_range (x := lc a) HP.out
      have hhi := HP.out.hi
      have fD : Hid (pad (comb p [] a (invP p (lc a))) = pad (bezD p a0 b0)) := Lib.hid (by unfold bezD; rw [hs.out]; rfl)
      have fU : Hid (pad (comb p [] u (invP p (lc a))) = pad (bezU p a0 b0)) := Lib.hid (by unfold bezU; rw [hs.out]; rfl)
      have fV : Hid (pad (comb p [] v (invP p (lc a))) = pad (bezV p a0 b0)) := Lib.hid (by unfold bezV; rw [hs.out]; rfl)
      clear hb hm hne
      go_wp2_with (first | ((with_reducible show wpList _ _ _ _ _ _); first | (apply hpLd F; exact rfl; exact rfl; exact rfl; (· repeat (first | exact Has.head | apply Has.tail))) | (apply hpBox F; exact rfl; exact rfl; exact rfl; (· with_reducible first | exact pad_length _ | exact zeros64_length | exact tab_length _ _ | assumption)) | (apply hpAlloc F; exact rfl; exact rfl) | (apply hpSt F; exact rfl; exact rfl; exact rfl; exact rfl; (· repeat (first | exact Upd.head | apply Upd.tail)); (· with_reducible first | exact pad_length _ | exact zeros64_length | exact tab_length _ _ | assumption))))
      refine (l01Deg_pad b _ IN.out.cb.nz IN.out.lb rfl _).mono ?_
      rintro e w2 ⟨rfl, E2⟩
      replace F := F.next E2
      go_wp2_with (first | ((with_reducible show wpList _ _ _ _ _ _); first | (apply hpLd F; exact rfl; exact rfl; exact rfl; (· repeat (first | exact Has.head | apply Has.tail))) | (apply hpBox F; exact rfl; exact rfl; exact rfl; (· with_reducible first | exact pad_length _ | exact zeros64_length | exact tab_length _ _ | assumption)) | (apply hpAlloc F; exact rfl; exact rfl) | (apply hpSt F; exact rfl; exact rfl; exact rfl; exact rfl; (· repeat (first | exact Upd.head | apply Upd.tail)); (· with_reducible first | exact pad_length _ | exact zeros64_length | exact tab_length _ _ | assumption))))
      refine (l01Deg_pad a m IN.out.ca.nz IN.out.la (by have := HM.out; omega) _).mono ?_
      rintro e w3 ⟨rfl, E3⟩
      replace F := F.next E3
      have c := F.cell 8 rfl m lm
      rw [at0_pad a IN.out.la, elc.out] at c
      go_wp2_with (first | (go_at_call 82; refine (l01Inverse_any p (lc a) HP.out hlc.1 hlc.2 _).mono ?_; rintro e w4 ⟨rfl, rfl⟩) | ((with_reducible show wpList _ _ _ _ _ _); first | (apply hpLd F; exact rfl; exact rfl; exact rfl; (· repeat (first | exact Has.head | apply Has.tail))) | (apply hpBox F; exact rfl; exact rfl; exact rfl; (· with_reducible first | exact pad_length _ | exact zeros64_length | exact tab_length _ _ | assumption)) | (apply hpAlloc F; exact rfl; exact rfl) | (apply hpSt F; exact rfl; exact rfl; exact rfl; exact rfl; (· repeat (first | exact Upd.head | apply Upd.tail)); (· with_reducible first | exact pad_length _ | exact zeros64_length | exact tab_length _ _ | assumption))))
      refine region_ext 15 (by kernel_rfl) (by kernel_rfl) (by kernel_rfl) [] [eqv (.int .i64 p), eqv (.agg (u8s zeros64)), eqv (.agg (u8s (pad a))), eqv (.int .i64 (invP p (lc a))), eqv (.agg (u8s (pad (bezD p a0 b0)))), eqv (.int .i64 p), eqv (.agg (u8s zeros64)), eqv (.agg (u8s (pad u))), eqv (.int .i64 (invP p (lc a))), eqv (.agg (u8s (pad (bezU p a0 b0)))), eqv (.int .i64 p), eqv (.agg (u8s zeros64)), eqv (.agg (u8s (pad v))), eqv (.int .i64 (invP p (lc a))), eqv (.agg (u8s (pad (bezV p a0 b0))))]
        ⟨mono_eqv _, mono_eqv _, mono_eqv _, mono_eqv _, mono_eqv _, mono_eqv _, mono_eqv _, mono_eqv _, mono_eqv _, mono_eqv _, mono_eqv _, mono_eqv _, mono_eqv _, mono_eqv _, mono_eqv _, trivial⟩ (fun vals => ?_) (fun vals w9 hE9 hS9 hN9 => ?_)
      · simp only [List.take_succ_cons, List.take_zero]
        refine ⟨fun w8 hE8 hk => doesK_plain rfl fun K hK => ?_, ?_⟩
        · go_simp
          (try go_bits)
          exact hK _ _ rfl (Ext.refl _) rfl
        simp only [Act.put, List.setIfInBounds_toArray, List.set_cons_zero, List.set_cons_succ]
        refine ⟨fun w8 hE8 hk => doesK_plain rfl fun K hK => ?_, ?_⟩
        · go_simp
          (try go_bits)
          exact hK _ _ rfl (Ext.refl _) rfl
        simp only [Act.put, List.setIfInBounds_toArray, List.set_cons_zero, List.set_cons_succ]
        refine ⟨fun w8 hE8 hk => doesK_plain rfl fun K hK => ?_, ?_⟩
        · exact wp_load_row _ _ rfl _ (by first | rfl | simp [*]) _ _ (0, 0) _ ((F.at_ 8 rfl).ext hE8) Tryz.underlying25 rfl (by rw [infoPoly, u8s_size, pad_length _]) (hK _ _ rfl (Ext.refl _) rfl)
        simp only [Act.put, List.setIfInBounds_toArray, List.set_cons_zero, List.set_cons_succ]
        refine ⟨fun w8 hE8 hk => doesK_plain rfl fun K hK => ?_, ?_⟩
        · go_simp
          (try go_bits)
          exact hK _ _ rfl (Ext.refl _) rfl
        simp only [Act.put, List.setIfInBounds_toArray, List.set_cons_zero, List.set_cons_succ]
        refine ⟨fun w8 hE8 hk => doesK_plain rfl fun K hK => ?_, ?_⟩
        · have k0 : vals 0 = .int .i64 p := hk 0 (by decide) (by kernel_rfl)
          have k1 : vals 1 = .agg (u8s zeros64) := hk 1 (by decide) (by kernel_rfl)
          have k2 : vals 2 = .agg (u8s (pad a)) := hk 2 (by decide) (by kernel_rfl)
          have k3 : vals 3 = .int .i64 (invP p (lc a)) := hk 3 (by decide) (by kernel_rfl)
          go_simp
          refine (l01Add_zero p (invP p (lc a)) a HP.out IN.out.ca IN.out.la (by omega) (by omega) _).mono ?_
          rintro e7 w7 ⟨rfl, hE7⟩
          exact hK _ _ (by rw [fD.out]; rfl) hE7 rfl
        simp only [Act.put, List.setIfInBounds_toArray, List.set_cons_zero, List.set_cons_succ]
        refine ⟨fun w8 hE8 hk => doesK_plain rfl fun K hK => ?_, ?_⟩
        · go_simp
          (try go_bits)
          exact hK _ _ rfl (Ext.refl _) rfl
        simp only [Act.put, List.setIfInBounds_toArray, List.set_cons_zero, List.set_cons_succ]
        refine ⟨fun w8 hE8 hk => doesK_plain rfl fun K hK => ?_, ?_⟩
        · go_simp
          (try go_bits)
          exact hK _ _ rfl (Ext.refl _) rfl
        simp only [Act.put, List.setIfInBounds_toArray, List.set_cons_zero, List.set_cons_succ]
        refine ⟨fun w8 hE8 hk => doesK_plain rfl fun K hK => ?_, ?_⟩
        · exact wp_load_row _ _ rfl _ (by first | rfl | simp [*]) _ _ (0, 0) _ ((F.at_ 3 rfl).ext hE8) Tryz.underlying25 rfl (by rw [infoPoly, u8s_size, pad_length _]) (hK _ _ rfl (Ext.refl _) rfl)
        simp only [Act.put, List.setIfInBounds_toArray, List.set_cons_zero, List.set_cons_succ]
        refine ⟨fun w8 hE8 hk => doesK_plain rfl fun K hK => ?_, ?_⟩
        · go_simp
          (try go_bits)
          exact hK _ _ rfl (Ext.refl _) rfl
        simp only [Act.put, List.setIfInBounds_toArray, List.set_cons_zero, List.set_cons_succ]
        refine ⟨fun w8 hE8 hk => doesK_plain rfl fun K hK => ?_, ?_⟩
        · have k4 : vals 4 = .agg (u8s (pad (bezD p a0 b0))) := hk 4 (by decide) (by kernel_rfl)
          have k5 : vals 5 = .int .i64 p := hk 5 (by decide) (by kernel_rfl)
          have k6 : vals 6 = .agg (u8s zeros64) := hk 6 (by decide) (by kernel_rfl)
          have k7 : vals 7 = .agg (u8s (pad u)) := hk 7 (by decide) (by kernel_rfl)
          have k8 : vals 8 = .int .i64 (invP p (lc a)) := hk 8 (by decide) (by kernel_rfl)
          go_simp
          refine (l01Add_zero p (invP p (lc a)) u HP.out IN.out.cu IN.out.lu (by omega) (by omega) _).mono ?_
          rintro e7 w7 ⟨rfl, hE7⟩
          exact hK _ _ (by rw [fU.out]; rfl) hE7 rfl
        simp only [Act.put, List.setIfInBounds_toArray, List.set_cons_zero, List.set_cons_succ]
        refine ⟨fun w8 hE8 hk => doesK_plain rfl fun K hK => ?_, ?_⟩
        · go_simp
          (try go_bits)
          exact hK _ _ rfl (Ext.refl _) rfl
        simp only [Act.put, List.setIfInBounds_toArray, List.set_cons_zero, List.set_cons_succ]
        refine ⟨fun w8 hE8 hk => doesK_plain rfl fun K hK => ?_, ?_⟩
        · go_simp
          (try go_bits)
          exact hK _ _ rfl (Ext.refl _) rfl
        simp only [Act.put, List.setIfInBounds_toArray, List.set_cons_zero, List.set_cons_succ]
        refine ⟨fun w8 hE8 hk => doesK_plain rfl fun K hK => ?_, ?_⟩
        · exact wp_load_row _ _ rfl _ (by first | rfl | simp [*]) _ _ (0, 0) _ ((F.at_ 1 rfl).ext hE8) Tryz.underlying25 rfl (by rw [infoPoly, u8s_size, pad_length _]) (hK _ _ rfl (Ext.refl _) rfl)
        simp only [Act.put, List.setIfInBounds_toArray, List.set_cons_zero, List.set_cons_succ]
        refine ⟨fun w8 hE8 hk => doesK_plain rfl fun K hK => ?_, ?_⟩
        · go_simp
          (try go_bits)
          exact hK _ _ rfl (Ext.refl _) rfl
        simp only [Act.put, List.setIfInBounds_toArray, List.set_cons_zero, List.set_cons_succ]
        refine ⟨fun w8 hE8 hk => doesK_plain rfl fun K hK => ?_, ?_⟩
        · have k9 : vals 9 = .agg (u8s (pad (bezU p a0 b0))) := hk 9 (by decide) (by kernel_rfl)
          have k10 : vals 10 = .int .i64 p := hk 10 (by decide) (by kernel_rfl)
          have k11 : vals 11 = .agg (u8s zeros64) := hk 11 (by decide) (by kernel_rfl)
          have k12 : vals 12 = .agg (u8s (pad v)) := hk 12 (by decide) (by kernel_rfl)
          have k13 : vals 13 = .int .i64 (invP p (lc a)) := hk 13 (by decide) (by kernel_rfl)
          go_simp
          refine (l01Add_zero p (invP p (lc a)) v HP.out IN.out.cv IN.out.lv (by omega) (by omega) _).mono ?_
          rintro e7 w7 ⟨rfl, hE7⟩
          exact hK _ _ (by rw [fV.out]; rfl) hE7 rfl
        exact trivial
      simp only [List.take_succ_cons, List.take_zero, List.drop_succ_cons, List.drop_zero, preAct, Nat.reduceAdd, Act.put, List.setIfInBounds_toArray, List.set_cons_zero, List.set_cons_succ]
      have k0 : vals 0 = .int .i64 p := hS9 0 (by decide) 
      have k1 : vals 1 = .agg (u8s zeros64) := hS9 1 (by decide) 
      have k2 : vals 2 = .agg (u8s (pad a)) := hS9 2 (by decide) 
      have k3 : vals 3 = .int .i64 (invP p (lc a)) := hS9 3 (by decide) 
      have k4 : vals 4 = .agg (u8s (pad (bezD p a0 b0))) := hS9 4 (by decide) 
      have k5 : vals 5 = .int .i64 p := hS9 5 (by decide) 
      have k6 : vals 6 = .agg (u8s zeros64) := hS9 6 (by decide) 
      have k7 : vals 7 = .agg (u8s (pad u)) := hS9 7 (by decide) 
      have k8 : vals 8 = .int .i64 (invP p (lc a)) := hS9 8 (by decide) 
      have k9 : vals 9 = .agg (u8s (pad (bezU p a0 b0))) := hS9 9 (by decide) 
      have k10 : vals 10 = .int .i64 p := hS9 10 (by decide) 
      have k11 : vals 11 = .agg (u8s zeros64) := hS9 11 (by decide) 
      have k12 : vals 12 = .agg (u8s (pad v)) := hS9 12 (by decide) 
      have k13 : vals 13 = .int .i64 (invP p (lc a)) := hS9 13 (by decide) 
      have k14 : vals 14 = .agg (u8s (pad (bezV p a0 b0))) := hS9 14 (by decide) 
      simp only [k0, k1, k2, k3, k4, k5, k6, k7, k8, k9, k10, k11, k12, k13, k14]
      clear hN9 hS9 k0 k1 k2 k3 k4 k5 k6 k7 k8 k9 k10 k11 k12 k13 k14
      replace F := F.next hE9
      clear hE9
      go_wp2_with (first | ((with_reducible show wpList _ _ _ _ _ _); first | (apply hpLd F; exact rfl; exact rfl; exact rfl; (· repeat (first | exact Has.head | apply Has.tail))) | (apply hpBox F; exact rfl; exact rfl; exact rfl; (· with_reducible first | exact pad_length _ | exact zeros64_length | exact tab_length _ _ | assumption)) | (apply hpAlloc F; exact rfl; exact rfl) | (apply hpSt F; exact rfl; exact rfl; exact rfl; exact rfl; (· repeat (first | exact Upd.head | apply Upd.tail)); (· with_reducible first | exact pad_length _ | exact zeros64_length | exact tab_length _ _ | assumption))))
      clear F
      intro w1 F
      try simp only [List.set_cons_zero, List.set_cons_succ] at F
      go_wp2_with (first | ((with_reducible show wpList _ _ _ _ _ _); first | (apply hpLd F; exact rfl; exact rfl; exact rfl; (· repeat (first | exact Has.head | apply Has.tail))) | (apply hpBox F; exact rfl; exact rfl; exact rfl; (· with_reducible first | exact pad_length _ | exact zeros64_length | exact tab_length _ _ | assumption)) | (apply hpAlloc F; exact rfl; exact rfl) | (apply hpSt F; exact rfl; exact rfl; exact rfl; exact rfl; (· repeat (first | exact Upd.head | apply Upd.tail)); (· with_reducible first | exact pad_length _ | exact zeros64_length | exact tab_length _ _ | assumption))))
      clear F
      intro w1 F
      try simp only [List.set_cons_zero, List.set_cons_succ] at F
      go_wp2_with (first | ((with_reducible show wpList _ _ _ _ _ _); first | (apply hpLd F; exact rfl; exact rfl; exact rfl; (· repeat (first | exact Has.head | apply Has.tail))) | (apply hpBox F; exact rfl; exact rfl; exact rfl; (· with_reducible first | exact pad_length _ | exact zeros64_length | exact tab_length _ _ | assumption)) | (apply hpAlloc F; exact rfl; exact rfl) | (apply hpSt F; exact rfl; exact rfl; exact rfl; exact rfl; (· repeat (first | exact Upd.head | apply Upd.tail)); (· with_reducible first | exact pad_length _ | exact zeros64_length | exact tab_length _ _ | assumption))))
      clear F
      intro w1 F
      try simp only [List.set_cons_zero, List.set_cons_succ] at F
      go_wp2_with (first | ((with_reducible show wpList _ _ _ _ _ _); first | (apply hpLd F; exact rfl; exact rfl; exact rfl; (· repeat (first | exact Has.head | apply Has.tail))) | (apply hpBox F; exact rfl; exact rfl; exact rfl; (· with_reducible first | exact pad_length _ | exact zeros64_length | exact tab_length _ _ | assumption)) | (apply hpAlloc F; exact rfl; exact rfl) | (apply hpSt F; exact rfl; exact rfl; exact rfl; exact rfl; (· repeat (first | exact Upd.head | apply Upd.tail)); (· with_reducible first | exact pad_length _ | exact zeros64_length | exact tab_length _ _ | assumption))))
      exact bodyPost_ret (res_ccc rfl rfl rfl rfl (F.at_ 6 rfl) (pad_length _) (F.at_ 5 rfl) (pad_length _) (F.at_ 4 rfl) (pad_length _) Tryz.underlying25 infoPoly) rfl ⟨rfl, F.ext⟩
    · have HB := Lib.hid hb
      have tb : decide ((0 : Int) ≤ (b.length : Int) - 1) = true := by simp; omega
      obtain ⟨m, rfl⟩ : ∃ m, gk = m + 1 := ⟨gk - 1, by omega⟩
      have hlt := dr_lt HP.out IN.out.cb (by omega) (a := a)
      clear hb
      go_wp2_with (first | (go_at_call 49; refine (l01Deg_pad b _ IN.out.cb.nz IN.out.lb rfl _).mono ?_; rintro e w2 ⟨rfl, E2⟩; replace F := F.next E2) | (go_at_call 47; refine (l01Divide_any p a b HP.out IN.out.ca IN.out.cb IN.out.la IN.out.lb (by have := HB.out; omega) _).mono ?_; rintro e w2 ⟨rfl, E2⟩; replace F := F.next E2) | ((with_reducible show wpList _ _ _ _ _ _); first | (apply hpLd F; exact rfl; exact rfl; exact rfl; (· repeat (first | exact Has.head | apply Has.tail))) | (apply hpBox F; exact rfl; exact rfl; exact rfl; (· with_reducible first | exact pad_length _ | exact zeros64_length | exact tab_length _ _ | assumption)) | (apply hpAlloc F; exact rfl; exact rfl) | (apply hpSt F; exact rfl; exact rfl; exact rfl; exact rfl; (· repeat (first | exact Upd.head | apply Upd.tail)); (· with_reducible first | exact pad_length _ | exact zeros64_length | exact tab_length _ _ | assumption))))
      clear F
      intro gq w1 F
      go_wp2_with (first | ((with_reducible show wpList _ _ _ _ _ _); first | (apply hpLd F; exact rfl; exact rfl; exact rfl; (· repeat (first | exact Has.head | apply Has.tail))) | (apply hpBox F; exact rfl; exact rfl; exact rfl; (· with_reducible first | exact pad_length _ | exact zeros64_length | exact tab_length _ _ | assumption)) | (apply hpAlloc F; exact rfl; exact rfl) | (apply hpSt F; exact rfl; exact rfl; exact rfl; exact rfl; (· repeat (first | exact Upd.head | apply Upd.tail)); (· with_reducible first | exact pad_length _ | exact zeros64_length | exact tab_length _ _ | assumption))))
      clear F
      intro gr w1 F
      go_wp2_with (first | ((with_reducible show wpList _ _ _ _ _ _); first | (apply hpLd F; exact rfl; exact rfl; exact rfl; (· repeat (first | exact Has.head | apply Has.tail))) | (apply hpBox F; exact rfl; exact rfl; exact rfl; (· with_reducible first | exact pad_length _ | exact zeros64_length | exact tab_length _ _ | assumption)) | (apply hpAlloc F; exact rfl; exact rfl) | (apply hpSt F; exact rfl; exact rfl; exact rfl; exact rfl; (· repeat (first | exact Upd.head | apply Upd.tail)); (· with_reducible first | exact pad_length _ | exact zeros64_length | exact tab_length _ _ | assumption))))
      clear F
      intro w1 F
      try simp only [List.set_cons_zero, List.set_cons_succ] at F
      go_wp2_with (first | ((with_reducible show wpList _ _ _ _ _ _); first | (apply hpLd F; exact rfl; exact rfl; exact rfl; (· repeat (first | exact Has.head | apply Has.tail))) | (apply hpBox F; exact rfl; exact rfl; exact rfl; (· with_reducible first | exact pad_length _ | exact zeros64_length | exact tab_length _ _ | assumption)) | (apply hpAlloc F; exact rfl; exact rfl) | (apply hpSt F; exact rfl; exact rfl; exact rfl; exact rfl; (· repeat (first | exact Upd.head | apply Upd.tail)); (· with_reducible first | exact pad_length _ | exact zeros64_length | exact tab_length _ _ | assumption))))
      clear F
      intro w1 F
      try simp only [List.set_cons_zero, List.set_cons_succ] at F
      have QX := Lib.hid (IN.out.qx HB.out)
      have MX := Lib.hid (IN.out.mx HP.out HB.out)
      have CQ := Lib.hid (dq_can (show 0 < p by have := HP.out.lo; omega) a b)
      go_wp2_with (first | (go_at_call 112; refine (l01Times_ok p (dq p a b) x HP.out CQ.out IN.out.cx QX.out.1 IN.out.lx QX.out.2.1 _).mono ?_; rintro e w2 ⟨rfl, E2⟩; replace F := F.next E2) | ((with_reducible show wpList _ _ _ _ _ _); first | (apply hpLd F; exact rfl; exact rfl; exact rfl; (· repeat (first | exact Has.head | apply Has.tail))) | (apply hpBox F; exact rfl; exact rfl; exact rfl; (· with_reducible first | exact pad_length _ | exact zeros64_length | exact tab_length _ _ | assumption)) | (apply hpAlloc F; exact rfl; exact rfl) | (apply hpSt F; exact rfl; exact rfl; exact rfl; exact rfl; (· repeat (first | exact Upd.head | apply Upd.tail)); (· with_reducible first | exact pad_length _ | exact zeros64_length | exact tab_length _ _ | assumption))))
      clear F
      intro gs w1 F
      go_wp2_with (first | ((with_reducible show wpList _ _ _ _ _ _); first | (apply hpLd F; exact rfl; exact rfl; exact rfl; (· repeat (first | exact Has.head | apply Has.tail))) | (apply hpBox F; exact rfl; exact rfl; exact rfl; (· with_reducible first | exact pad_length _ | exact zeros64_length | exact tab_length _ _ | assumption)) | (apply hpAlloc F; exact rfl; exact rfl) | (apply hpSt F; exact rfl; exact rfl; exact rfl; exact rfl; (· repeat (first | exact Upd.head | apply Upd.tail)); (· with_reducible first | exact pad_length _ | exact zeros64_length | exact tab_length _ _ | assumption))))
      clear F
      intro w1 F
      try simp only [List.set_cons_zero, List.set_cons_succ] at F
      go_wp2_with (first | (go_at_call 112; refine (l01Times_ok p (dq p a b) y HP.out CQ.out IN.out.cy QX.out.1 IN.out.ly QX.out.2.2 _).mono ?_; rintro e w2 ⟨rfl, E2⟩; replace F := F.next E2) | ((with_reducible show wpList _ _ _ _ _ _); first | (apply hpLd F; exact rfl; exact rfl; exact rfl; (· repeat (first | exact Has.head | apply Has.tail))) | (apply hpBox F; exact rfl; exact rfl; exact rfl; (· with_reducible first | exact pad_length _ | exact zeros64_length | exact tab_length _ _ | assumption)) | (apply hpAlloc F; exact rfl; exact rfl) | (apply hpSt F; exact rfl; exact rfl; exact rfl; exact rfl; (· repeat (first | exact Upd.head | apply Upd.tail)); (· with_reducible first | exact pad_length _ | exact zeros64_length | exact tab_length _ _ | assumption))))
      clear F
      intro gt w1 F
      go_wp2_with (first | ((with_reducible show wpList _ _ _ _ _ _); first | (apply hpLd F; exact rfl; exact rfl; exact rfl; (· repeat (first | exact Has.head | apply Has.tail))) | (apply hpBox F; exact rfl; exact rfl; exact rfl; (· with_reducible first | exact pad_length _ | exact zeros64_length | exact tab_length _ _ | assumption)) | (apply hpAlloc F; exact rfl; exact rfl) | (apply hpSt F; exact rfl; exact rfl; exact rfl; exact rfl; (· repeat (first | exact Upd.head | apply Upd.tail)); (· with_reducible first | exact pad_length _ | exact zeros64_length | exact tab_length _ _ | assumption))))
      clear F
      intro w1 F
      try simp only [List.set_cons_zero, List.set_cons_succ] at F
      go_wp2_with (first | ((with_reducible show wpList _ _ _ _ _ _); first | (apply hpLd F; exact rfl; exact rfl; exact rfl; (· repeat (first | exact Has.head | apply Has.tail))) | (apply hpBox F; exact rfl; exact rfl; exact rfl; (· with_reducible first | exact pad_length _ | exact zeros64_length | exact tab_length _ _ | assumption)) | (apply hpAlloc F; exact rfl; exact rfl) | (apply hpSt F; exact rfl; exact rfl; exact rfl; exact rfl; (· repeat (first | exact Upd.head | apply Upd.tail)); (· with_reducible first | exact pad_length _ | exact zeros64_length | exact tab_length _ _ | assumption))))
      have CX := Lib.hid (mulr_can (show 0 < p by have := HP.out.lo; omega) (dq p a b) x)
      have CY := Lib.hid (mulr_can (show 0 < p by have := HP.out.lo; omega) (dq p a b) y)
      refine region_ext 10 (by kernel_rfl) (by kernel_rfl) (by kernel_rfl) [8,9] [eqv (.int .i64 p), eqv (.agg (u8s (pad u))), eqv (.agg (u8s (pad (mulr p (dq p a b) x)))), eqv (.agg (u8s (pad (comb p u (mulr p (dq p a b) x) (-1))))), eqv (.int .i64 p), eqv (.agg (u8s (pad v))), eqv (.agg (u8s (pad (mulr p (dq p a b) y)))), eqv (.agg (u8s (pad (comb p v (mulr p (dq p a b) y) (-1))))), isArr w1.heap.size 25 zeros64, isArr w1.heap.size 25 zeros64]
        ⟨mono_eqv _, mono_eqv _, mono_eqv _, mono_eqv _, mono_eqv _, mono_eqv _, mono_eqv _, mono_eqv _, mono_arr _ _ _, mono_arr _ _ _, trivial⟩ (fun vals => ?_) (fun vals w9 hE9 hS9 hN9 => ?_)
      · simp only [List.take_succ_cons, List.take_zero]
        refine ⟨fun w8 hE8 hk => doesK_plain rfl fun K hK => ?_, ?_⟩
        · go_simp
          (try go_bits)
          exact hK _ _ rfl (Ext.refl _) rfl
        simp only [Act.put, List.setIfInBounds_toArray, List.set_cons_zero, List.set_cons_succ]
        refine ⟨fun w8 hE8 hk => doesK_plain rfl fun K hK => ?_, ?_⟩
        · exact wp_load_row _ _ rfl _ (by first | rfl | simp [*]) _ _ (0, 0) _ ((F.at_ 7 rfl).ext hE8) Tryz.underlying25 rfl (by rw [infoPoly, u8s_size, pad_length _]) (hK _ _ rfl (Ext.refl _) rfl)
        simp only [Act.put, List.setIfInBounds_toArray, List.set_cons_zero, List.set_cons_succ]
        refine ⟨fun w8 hE8 hk => doesK_plain rfl fun K hK => ?_, ?_⟩
        · exact wp_load_row _ _ rfl _ (by first | rfl | simp [*]) _ _ (0, 0) _ ((F.at_ 1 rfl).ext hE8) Tryz.underlying25 rfl (by rw [infoPoly, u8s_size, pad_length _]) (hK _ _ rfl (Ext.refl _) rfl)
        simp only [Act.put, List.setIfInBounds_toArray, List.set_cons_zero, List.set_cons_succ]
        refine ⟨fun w8 hE8 hk => doesK_plain rfl fun K hK => ?_, ?_⟩
        · have k0 : vals 0 = .int .i64 p := hk 0 (by decide) (by kernel_rfl)
          have k1 : vals 1 = .agg (u8s (pad u)) := hk 1 (by decide) (by kernel_rfl)
          have k2 : vals 2 = .agg (u8s (pad (mulr p (dq p a b) x))) := hk 2 (by decide) (by kernel_rfl)
          go_simp
          refine (l01Add_pad p (-1) u _ HP.out IN.out.cu CX.out IN.out.lu MX.out.1 (by decide) (by decide) _).mono ?_
          rintro e7 w7 ⟨rfl, hE7⟩
          exact hK _ _ rfl hE7 rfl
        simp only [Act.put, List.setIfInBounds_toArray, List.set_cons_zero, List.set_cons_succ]
        refine ⟨fun w8 hE8 hk => doesK_plain rfl fun K hK => ?_, ?_⟩
        · go_simp
          (try go_bits)
          exact hK _ _ rfl (Ext.refl _) rfl
        simp only [Act.put, List.setIfInBounds_toArray, List.set_cons_zero, List.set_cons_succ]
        refine ⟨fun w8 hE8 hk => doesK_plain rfl fun K hK => ?_, ?_⟩
        · exact wp_load_row _ _ rfl _ (by first | rfl | simp [*]) _ _ (0, 0) _ ((F.at_ 5 rfl).ext hE8) Tryz.underlying25 rfl (by rw [infoPoly, u8s_size, pad_length _]) (hK _ _ rfl (Ext.refl _) rfl)
        simp only [Act.put, List.setIfInBounds_toArray, List.set_cons_zero, List.set_cons_succ]
        refine ⟨fun w8 hE8 hk => doesK_plain rfl fun K hK => ?_, ?_⟩
        · exact wp_load_row _ _ rfl _ (by first | rfl | simp [*]) _ _ (0, 0) _ ((F.at_ 0 rfl).ext hE8) Tryz.underlying25 rfl (by rw [infoPoly, u8s_size, pad_length _]) (hK _ _ rfl (Ext.refl _) rfl)
        simp only [Act.put, List.setIfInBounds_toArray, List.set_cons_zero, List.set_cons_succ]
        refine ⟨fun w8 hE8 hk => doesK_plain rfl fun K hK => ?_, ?_⟩
        · have k3 : vals 3 = .agg (u8s (pad (comb p u (mulr p (dq p a b) x) (-1)))) := hk 3 (by decide) (by kernel_rfl)
          have k4 : vals 4 = .int .i64 p := hk 4 (by decide) (by kernel_rfl)
          have k5 : vals 5 = .agg (u8s (pad v)) := hk 5 (by decide) (by kernel_rfl)
          have k6 : vals 6 = .agg (u8s (pad (mulr p (dq p a b) y))) := hk 6 (by decide) (by kernel_rfl)
          go_simp
          refine (l01Add_pad p (-1) v _ HP.out IN.out.cv CY.out IN.out.lv MX.out.2 (by decide) (by decide) _).mono ?_
          rintro e7 w7 ⟨rfl, hE7⟩
          exact hK _ _ rfl hE7 rfl
        simp only [Act.put, List.setIfInBounds_toArray, List.set_cons_zero, List.set_cons_succ]
        refine ⟨fun w8 hE8 hk => doesK_plain rfl fun K hK => ?_, ?_⟩
        · go_simp
          exact hK _ _ ⟨⟨_, rfl, by have := hE8.size; omega, Arr.new _ _ _⟩, rfl, by simp⟩ ((Ext.refl _).alloc _) rfl
        simp only [Act.put, List.setIfInBounds_toArray, List.set_cons_zero, List.set_cons_succ]
        refine ⟨fun w8 hE8 hk => doesK_plain rfl fun K hK => ?_, ?_⟩
        · go_simp
          exact hK _ _ ⟨⟨_, rfl, by have := hE8.size; omega, Arr.new _ _ _⟩, rfl, by simp⟩ ((Ext.refl _).alloc _) rfl
        exact trivial
      simp only [List.take_succ_cons, List.take_zero, List.drop_succ_cons, List.drop_zero, preAct, Nat.reduceAdd, Act.put, List.setIfInBounds_toArray, List.set_cons_zero, List.set_cons_succ]
      have k0 : vals 0 = .int .i64 p := hS9 0 (by decide) 
      have k1 : vals 1 = .agg (u8s (pad u)) := hS9 1 (by decide) 
      have k2 : vals 2 = .agg (u8s (pad (mulr p (dq p a b) x))) := hS9 2 (by decide) 
      have k3 : vals 3 = .agg (u8s (pad (comb p u (mulr p (dq p a b) x) (-1)))) := hS9 3 (by decide) 
      have k4 : vals 4 = .int .i64 p := hS9 4 (by decide) 
      have k5 : vals 5 = .agg (u8s (pad v)) := hS9 5 (by decide) 
      have k6 : vals 6 = .agg (u8s (pad (mulr p (dq p a b) y))) := hS9 6 (by decide) 
      have k7 : vals 7 = .agg (u8s (pad (comb p v (mulr p (dq p a b) y) (-1)))) := hS9 7 (by decide) 
      obtain ⟨g8, k8, b8, a8⟩ : isArr w1.heap.size 25 zeros64 (vals 8) _ := hS9 8 (by decide) 
      obtain ⟨g9, k9, b9, a9⟩ : isArr w1.heap.size 25 zeros64 (vals 9) _ := hS9 9 (by decide) 
      simp only [k0, k1, k2, k3, k4, k5, k6, k7, k8, k9]
      have ne9 : g8 ≠ g9 := fun e => hN9 8 9 (by decide) (by decide) rfl rfl (by decide) (by rw [k8, k9, e])
      clear hN9 hS9 k0 k1 k2 k3 k4 k5 k6 k7 k8 k9
      replace F := F.addNew2 hE9 a8 zeros64_length b8 a9 zeros64_length b9 ne9
      clear hE9 a8 b8 a9 b9 ne9
      go_wp2_with (first | ((with_reducible show wpList _ _ _ _ _ _); first | (apply hpLd F; exact rfl; exact rfl; exact rfl; (· repeat (first | exact Has.head | apply Has.tail))) | (apply hpBox F; exact rfl; exact rfl; exact rfl; (· with_reducible first | exact pad_length _ | exact zeros64_length | exact tab_length _ _ | assumption)) | (apply hpAlloc F; exact rfl; exact rfl) | (apply hpSt F; exact rfl; exact rfl; exact rfl; exact rfl; (· repeat (first | exact Upd.head | apply Upd.tail)); (· with_reducible first | exact pad_length _ | exact zeros64_length | exact tab_length _ _ | assumption))))
      clear F
      intro w1 F
      try simp only [List.set_cons_zero, List.set_cons_succ] at F
      go_wp2_with (first | ((with_reducible show wpList _ _ _ _ _ _); first | (apply hpLd F; exact rfl; exact rfl; exact rfl; (· repeat (first | exact Has.head | apply Has.tail))) | (apply hpBox F; exact rfl; exact rfl; exact rfl; (· with_reducible first | exact pad_length _ | exact zeros64_length | exact tab_length _ _ | assumption)) | (apply hpAlloc F; exact rfl; exact rfl) | (apply hpSt F; exact rfl; exact rfl; exact rfl; exact rfl; (· repeat (first | exact Upd.head | apply Upd.tail)); (· with_reducible first | exact pad_length _ | exact zeros64_length | exact tab_length _ _ | assumption))))
      clear F
      intro w1 F
      try simp only [List.set_cons_zero, List.set_cons_succ] at F
      go_wp2_with (first | ((with_reducible show wpList _ _ _ _ _ _); first | (apply hpLd F; exact rfl; exact rfl; exact rfl; (· repeat (first | exact Has.head | apply Has.tail))) | (apply hpBox F; exact rfl; exact rfl; exact rfl; (· with_reducible first | exact pad_length _ | exact zeros64_length | exact tab_length _ _ | assumption)) | (apply hpAlloc F; exact rfl; exact rfl) | (apply hpSt F; exact rfl; exact rfl; exact rfl; exact rfl; (· repeat (first | exact Upd.head | apply Upd.tail)); (· with_reducible first | exact pad_length _ | exact zeros64_length | exact tab_length _ _ | assumption))))
      clear F
      intro w1 F
      try simp only [List.set_cons_zero, List.set_cons_succ] at F
      go_wp2_with (first | ((with_reducible show wpList _ _ _ _ _ _); first | (apply hpLd F; exact rfl; exact rfl; exact rfl; (· repeat (first | exact Has.head | apply Has.tail))) | (apply hpBox F; exact rfl; exact rfl; exact rfl; (· with_reducible first | exact pad_length _ | exact zeros64_length | exact tab_length _ _ | assumption)) | (apply hpAlloc F; exact rfl; exact rfl) | (apply hpSt F; exact rfl; exact rfl; exact rfl; exact rfl; (· repeat (first | exact Upd.head | apply Upd.tail)); (· with_reducible first | exact pad_length _ | exact zeros64_length | exact tab_length _ _ | assumption))))
      clear F
      intro w1 F
      try simp only [List.set_cons_zero, List.set_cons_succ] at F
      go_wp2_with (first | ((with_reducible show wpList _ _ _ _ _ _); first | (apply hpLd F; exact rfl; exact rfl; exact rfl; (· repeat (first | exact Has.head | apply Has.tail))) | (apply hpBox F; exact rfl; exact rfl; exact rfl; (· with_reducible first | exact pad_length _ | exact zeros64_length | exact tab_length _ _ | assumption)) | (apply hpAlloc F; exact rfl; exact rfl) | (apply hpSt F; exact rfl; exact rfl; exact rfl; exact rfl; (· repeat (first | exact Upd.head | apply Upd.tail)); (· with_reducible first | exact pad_length _ | exact zeros64_length | exact tab_length _ _ | assumption))))
      clear F
      intro w1 F
      try simp only [List.set_cons_zero, List.set_cons_succ] at F
      go_wp2_with (first | ((with_reducible show wpList _ _ _ _ _ _); first | (apply hpLd F; exact rfl; exact rfl; exact rfl; (· repeat (first | exact Has.head | apply Has.tail))) | (apply hpBox F; exact rfl; exact rfl; exact rfl; (· with_reducible first | exact pad_length _ | exact zeros64_length | exact tab_length _ _ | assumption)) | (apply hpAlloc F; exact rfl; exact rfl) | (apply hpSt F; exact rfl; exact rfl; exact rfl; exact rfl; (· repeat (first | exact Upd.head | apply Upd.tail)); (· with_reducible first | exact pad_length _ | exact zeros64_length | exact tab_length _ _ | assumption))))
      clear F
      intro w1 F
      try simp only [List.set_cons_zero, List.set_cons_succ] at F
      go_wp2_with (first | ((with_reducible show wpList _ _ _ _ _ _); first | (apply hpLd F; exact rfl; exact rfl; exact rfl; (· repeat (first | exact Has.head | apply Has.tail))) | (apply hpBox F; exact rfl; exact rfl; exact rfl; (· with_reducible first | exact pad_length _ | exact zeros64_length | exact tab_length _ _ | assumption)) | (apply hpAlloc F; exact rfl; exact rfl) | (apply hpSt F; exact rfl; exact rfl; exact rfl; exact rfl; (· repeat (first | exact Upd.head | apply Upd.tail)); (· with_reducible first | exact pad_length _ | exact zeros64_length | exact tab_length _ _ | assumption))))
      clear F
      intro w1 F
      try simp only [List.set_cons_zero, List.set_cons_succ] at F
      go_wp2_with (first | ((with_reducible show wpList _ _ _ _ _ _); first | (apply hpLd F; exact rfl; exact rfl; exact rfl; (· repeat (first | exact Has.head | apply Has.tail))) | (apply hpBox F; exact rfl; exact rfl; exact rfl; (· with_reducible first | exact pad_length _ | exact zeros64_length | exact tab_length _ _ | assumption)) | (apply hpAlloc F; exact rfl; exact rfl) | (apply hpSt F; exact rfl; exact rfl; exact rfl; exact rfl; (· repeat (first | exact Upd.head | apply Upd.tail)); (· with_reducible first | exact pad_length _ | exact zeros64_length | exact tab_length _ _ | assumption))))
      clear F
      intro w1 F
      try simp only [List.set_cons_zero, List.set_cons_succ] at F
      go_wp2_with (first | ((with_reducible show wpList _ _ _ _ _ _); first | (apply hpLd F; exact rfl; exact rfl; exact rfl; (· repeat (first | exact Has.head | apply Has.tail))) | (apply hpBox F; exact rfl; exact rfl; exact rfl; (· with_reducible first | exact pad_length _ | exact zeros64_length | exact tab_length _ _ | assumption)) | (apply hpAlloc F; exact rfl; exact rfl) | (apply hpSt F; exact rfl; exact rfl; exact rfl; exact rfl; (· repeat (first | exact Upd.head | apply Upd.tail)); (· with_reducible first | exact pad_length _ | exact zeros64_length | exact tab_length _ _ | assumption))))
      go_roundg m
      case measure => omega
      case rel => exact ⟨b, dr p a b, x, comb p u (mulr p (dq p a b) x) (-1), y, comb p v (mulr p (dq p a b) y) (-1), by rw [← HF.out, bezF_step _ _ _ _ _ _ _ _ HB.out], by omega, IN.out.step HP.out HB.out, Hp.drop 6 F⟩

end Go.Proofs.YtaemiknaiccijaaGreat
