/- Lemmas and contracts of functions, for the laws on curves: The reference's greatest common divisors with their factors. -/
import Derived.Test.YtaemiknaiccijaaGreatPp3
import Derived.Deep.LoopGhost
set_option linter.unusedVariables false
set_option linter.unusedSimpArgs false
namespace Go.Proofs.YtaemiknaiccijaaGreat
open Go.RowKit

/-- The blocks at the head of a round of the chain. -/
def BezRel (p : Int) (a0 b0 : List Int) (w : World) (ga gb z1 z2 z3 gu gx gv gy n : Nat) (wr : World) : Prop :=
  ∃ (a b u x v y : List Int), bezF p n a b u x v y = bez0 p a0 b0 ∧ b.length < n ∧ BezInv p a b u x v y ∧
    Hp w wr [(gy, pad y), (gv, pad v), (gx, pad x), (gu, pad u), (z3, zeros64), (z2, zeros64), (z1, zeros64), (gb, pad b), (ga, pad a)]

set_option maxRecDepth 100000 in
set_option maxHeartbeats 2000000 in
theorem l01Bezout_any (p : Int) (a0 b0 : List Int) (hp : PrimeP p) (ha : Can p a0) (hb : Can p b0) (la : a0.length ≤ 64) (lb : b0.length ≤ 64) (hne : a0.length ≠ 0 ∨ b0.length ≠ 0) (w : World) :
    Calls Tryz.prog 84 #[.int .i64 p, .agg (u8s (pad a0)), .agg (u8s (pad b0))] w fun e w' =>
      e = .returned (.tuple #[.agg (u8s (pad (bezD p a0 b0))), .agg (u8s (pad (bezU p a0 b0))), .agg (u8s (pad (bezV p a0 b0)))]) ∧ Ext w w' := by
  have hz := zlit
  have INV := Lib.hid (BezInv.start hp ha hb la lb hne)
  have HP := Lib.hid hp
  have HE := Lib.hid (bez0_inv hp ha hb la lb hne)
  clear ha hb hne hp
  have F := Hp.start w
  go_enter Tryz.func84, Tryz.ntmps84
  go_wp2_with (first | ((with_reducible show wpList _ _ _ _ _ _); first | (apply hpLd F; exact rfl; exact rfl; exact rfl; (· repeat (first | exact Has.head | apply Has.tail))) | (apply hpBox F; exact rfl; exact rfl; exact rfl; (· with_reducible first | exact pad_length _ | exact zeros64_length | exact tab_length _ _ | assumption)) | (apply hpAlloc F; exact rfl; exact rfl) | (apply hpSt F; exact rfl; exact rfl; exact rfl; exact rfl; (· repeat (first | exact Upd.head | apply Upd.tail)); (· with_reducible first | exact pad_length _ | exact zeros64_length | exact tab_length _ _ | assumption))))
  clear F
  intro ga w1 F
  go_wp2_with (first | ((with_reducible show wpList _ _ _ _ _ _); first | (apply hpLd F; exact rfl; exact rfl; exact rfl; (· repeat (first | exact Has.head | apply Has.tail))) | (apply hpBox F; exact rfl; exact rfl; exact rfl; (· with_reducible first | exact pad_length _ | exact zeros64_length | exact tab_length _ _ | assumption)) | (apply hpAlloc F; exact rfl; exact rfl) | (apply hpSt F; exact rfl; exact rfl; exact rfl; exact rfl; (· repeat (first | exact Upd.head | apply Upd.tail)); (· with_reducible first | exact pad_length _ | exact zeros64_length | exact tab_length _ _ | assumption))))
  clear F
  intro gb w1 F
  go_wp2_with (first | ((with_reducible show wpList _ _ _ _ _ _); first | (apply hpLd F; exact rfl; exact rfl; exact rfl; (· repeat (first | exact Has.head | apply Has.tail))) | (apply hpBox F; exact rfl; exact rfl; exact rfl; (· with_reducible first | exact pad_length _ | exact zeros64_length | exact tab_length _ _ | assumption)) | (apply hpAlloc F; exact rfl; exact rfl) | (apply hpSt F; exact rfl; exact rfl; exact rfl; exact rfl; (· repeat (first | exact Upd.head | apply Upd.tail)); (· with_reducible first | exact pad_length _ | exact zeros64_length | exact tab_length _ _ | assumption))))
  clear F
  intro z1 w1 F
  go_wp2_with (first | ((with_reducible show wpList _ _ _ _ _ _); first | (apply hpLd F; exact rfl; exact rfl; exact rfl; (· repeat (first | exact Has.head | apply Has.tail))) | (apply hpBox F; exact rfl; exact rfl; exact rfl; (· with_reducible first | exact pad_length _ | exact zeros64_length | exact tab_length _ _ | assumption)) | (apply hpAlloc F; exact rfl; exact rfl) | (apply hpSt F; exact rfl; exact rfl; exact rfl; exact rfl; (· repeat (first | exact Upd.head | apply Upd.tail)); (· with_reducible first | exact pad_length _ | exact zeros64_length | exact tab_length _ _ | assumption))))
  clear F
  intro z2 w1 F
  go_wp2_with (first | ((with_reducible show wpList _ _ _ _ _ _); first | (apply hpLd F; exact rfl; exact rfl; exact rfl; (· repeat (first | exact Has.head | apply Has.tail))) | (apply hpBox F; exact rfl; exact rfl; exact rfl; (· with_reducible first | exact pad_length _ | exact zeros64_length | exact tab_length _ _ | assumption)) | (apply hpAlloc F; exact rfl; exact rfl) | (apply hpSt F; exact rfl; exact rfl; exact rfl; exact rfl; (· repeat (first | exact Upd.head | apply Upd.tail)); (· with_reducible first | exact pad_length _ | exact zeros64_length | exact tab_length _ _ | assumption))))
  clear F
  intro z3 w1 F
  go_wp2_with (first | (go_at_call 48; refine (l01One_any _).mono ?_; rintro e w2 ⟨rfl, E2⟩; replace F := F.next E2) | ((with_reducible show wpList _ _ _ _ _ _); first | (apply hpLd F; exact rfl; exact rfl; exact rfl; (· repeat (first | exact Has.head | apply Has.tail))) | (apply hpBox F; exact rfl; exact rfl; exact rfl; (· with_reducible first | exact pad_length _ | exact zeros64_length | exact tab_length _ _ | assumption)) | (apply hpAlloc F; exact rfl; exact rfl) | (apply hpSt F; exact rfl; exact rfl; exact rfl; exact rfl; (· repeat (first | exact Upd.head | apply Upd.tail)); (· with_reducible first | exact pad_length _ | exact zeros64_length | exact tab_length _ _ | assumption))))
  clear F
  intro gu w1 F
  go_wp2_with (first | ((with_reducible show wpList _ _ _ _ _ _); first | (apply hpLd F; exact rfl; exact rfl; exact rfl; (· repeat (first | exact Has.head | apply Has.tail))) | (apply hpBox F; exact rfl; exact rfl; exact rfl; (· with_reducible first | exact pad_length _ | exact zeros64_length | exact tab_length _ _ | assumption)) | (apply hpAlloc F; exact rfl; exact rfl) | (apply hpSt F; exact rfl; exact rfl; exact rfl; exact rfl; (· repeat (first | exact Upd.head | apply Upd.tail)); (· with_reducible first | exact pad_length _ | exact zeros64_length | exact tab_length _ _ | assumption))))
  clear F
  intro gx w1 F
  go_wp2_with (first | ((with_reducible show wpList _ _ _ _ _ _); first | (apply hpLd F; exact rfl; exact rfl; exact rfl; (· repeat (first | exact Has.head | apply Has.tail))) | (apply hpBox F; exact rfl; exact rfl; exact rfl; (· with_reducible first | exact pad_length _ | exact zeros64_length | exact tab_length _ _ | assumption)) | (apply hpAlloc F; exact rfl; exact rfl) | (apply hpSt F; exact rfl; exact rfl; exact rfl; exact rfl; (· repeat (first | exact Upd.head | apply Upd.tail)); (· with_reducible first | exact pad_length _ | exact zeros64_length | exact tab_length _ _ | assumption))))
  clear F
  intro gv w1 F
  go_wp2_with (first | ((with_reducible show wpList _ _ _ _ _ _); first | (apply hpLd F; exact rfl; exact rfl; exact rfl; (· repeat (first | exact Has.head | apply Has.tail))) | (apply hpBox F; exact rfl; exact rfl; exact rfl; (· with_reducible first | exact pad_length _ | exact zeros64_length | exact tab_length _ _ | assumption)) | (apply hpAlloc F; exact rfl; exact rfl) | (apply hpSt F; exact rfl; exact rfl; exact rfl; exact rfl; (· repeat (first | exact Upd.head | apply Upd.tail)); (· with_reducible first | exact pad_length _ | exact zeros64_length | exact tab_length _ _ | assumption))))
  clear F
  intro gy w1 F
  go_wp2_with (first | ((with_reducible show wpList _ _ _ _ _ _); first | (apply hpLd F; exact rfl; exact rfl; exact rfl; (· repeat (first | exact Has.head | apply Has.tail))) | (apply hpBox F; exact rfl; exact rfl; exact rfl; (· with_reducible first | exact pad_length _ | exact zeros64_length | exact tab_length _ _ | assumption)) | (apply hpAlloc F; exact rfl; exact rfl) | (apply hpSt F; exact rfl; exact rfl; exact rfl; exact rfl; (· repeat (first | exact Upd.head | apply Upd.tail)); (· with_reducible first | exact pad_length _ | exact zeros64_length | exact tab_length _ _ | assumption))))
  clear F
  intro w1 F
  try simp only [List.set_cons_zero, List.set_cons_succ] at F
  go_wp2_with (first | ((with_reducible show wpList _ _ _ _ _ _); first | (apply hpLd F; exact rfl; exact rfl; exact rfl; (· repeat (first | exact Has.head | apply Has.tail))) | (apply hpBox F; exact rfl; exact rfl; exact rfl; (· with_reducible first | exact pad_length _ | exact zeros64_length | exact tab_length _ _ | assumption)) | (apply hpAlloc F; exact rfl; exact rfl) | (apply hpSt F; exact rfl; exact rfl; exact rfl; exact rfl; (· repeat (first | exact Upd.head | apply Upd.tail)); (· with_reducible first | exact pad_length _ | exact zeros64_length | exact tab_length _ _ | assumption))))
  clear F
  intro w1 F
  try simp only [List.set_cons_zero, List.set_cons_succ] at F
  go_wp2_with (first | ((with_reducible show wpList _ _ _ _ _ _); first | (apply hpLd F; exact rfl; exact rfl; exact rfl; (· repeat (first | exact Has.head | apply Has.tail))) | (apply hpBox F; exact rfl; exact rfl; exact rfl; (· with_reducible first | exact pad_length _ | exact zeros64_length | exact tab_length _ _ | assumption)) | (apply hpAlloc F; exact rfl; exact rfl) | (apply hpSt F; exact rfl; exact rfl; exact rfl; exact rfl; (· repeat (first | exact Upd.head | apply Upd.tail)); (· with_reducible first | exact pad_length _ | exact zeros64_length | exact tab_length _ _ | assumption))))
  clear F
  intro w1 F
  try simp only [List.set_cons_zero, List.set_cons_succ] at F
  go_wp2_with (first | ((with_reducible show wpList _ _ _ _ _ _); first | (apply hpLd F; exact rfl; exact rfl; exact rfl; (· repeat (first | exact Has.head | apply Has.tail))) | (apply hpBox F; exact rfl; exact rfl; exact rfl; (· with_reducible first | exact pad_length _ | exact zeros64_length | exact tab_length _ _ | assumption)) | (apply hpAlloc F; exact rfl; exact rfl) | (apply hpSt F; exact rfl; exact rfl; exact rfl; exact rfl; (· repeat (first | exact Upd.head | apply Upd.tail)); (· with_reducible first | exact pad_length _ | exact zeros64_length | exact tab_length _ _ | assumption))))
  clear F
  intro w1 F
  try simp only [List.set_cons_zero, List.set_cons_succ] at F
  go_wp2_with (first | ((with_reducible show wpList _ _ _ _ _ _); first | (apply hpLd F; exact rfl; exact rfl; exact rfl; (· repeat (first | exact Has.head | apply Has.tail))) | (apply hpBox F; exact rfl; exact rfl; exact rfl; (· with_reducible first | exact pad_length _ | exact zeros64_length | exact tab_length _ _ | assumption)) | (apply hpAlloc F; exact rfl; exact rfl) | (apply hpSt F; exact rfl; exact rfl; exact rfl; exact rfl; (· repeat (first | exact Upd.head | apply Upd.tail)); (· with_reducible first | exact pad_length _ | exact zeros64_length | exact tab_length _ _ | assumption))))
  go_loopg [] (b0.length + 1) (fun n wr => BezRel p a0 b0 w ga gb z1 z2 z3 gu gx gv gy n wr)
  case atStart =>
    rw [← pad_nil] at F
    refine ⟨a0, b0, [1], [], [], [1], rfl, by omega, INV.out, ?_⟩
    rw [pad_nil] at *
    exact F
  case round =>
    clear F INV la lb
    obtain ⟨a, b, u, x, v, y, hf, hn, inv, F⟩ := hrel
    have HF := Lib.hid hf
    have IN := Lib.hid inv
    clear hf inv
    by_cases hb : b.length = 0
    · have HB := Lib.hid hb
      have tb : decide ((0 : Int) ≤ (b.length : Int) - 1) = false := by simp; omega
      have hb' : b.length < 1 := by omega
      have hs : Hid (bez0 p a0 b0 = (a, u, v)) := Lib.hid (by rw [← HF.out, bezF_stop _ _ _ _ _ _ _ _ hb])
      have hne : a.length ≠ 0 := by have := IN.out.ne; omega
      obtain ⟨m, hm⟩ : ∃ m, a.length = m + 1 := ⟨a.length - 1, by omega⟩
      have HM := Lib.hid hm
      have lm : m < 64 := by have := IN.out.la; omega
      have hlc := IN.out.ca.last (by omega)
      have elc : Hid (at0 a m = lc a) := Lib.hid (by unfold lc; rw [hm]; rfl)
      rw [show at0 a (a.length - 1) = lc a from rfl] at hlc
      have hinv := invP_range (x := lc a) HP.out
      have hhi := HP.out.hi
      have fD : Hid (pad (comb p [] a (invP p (lc a))) = pad (bezD p a0 b0)) := Lib.hid (by unfold bezD; rw [hs.out]; rfl)
      have fU : Hid (pad (comb p [] u (invP p (lc a))) = pad (bezU p a0 b0)) := Lib.hid (by unfold bezU; rw [hs.out]; rfl)
      have fV : Hid (pad (comb p [] v (invP p (lc a))) = pad (bezV p a0 b0)) := Lib.hid (by unfold bezV; rw [hs.out]; rfl)
      clear hb hm hne
      go_wp2_with (first | ((with_reducible show wpList _ _ _ _ _ _); first | (apply hpLd F; exact rfl; exact rfl; exact rfl; (· repeat (first | exact Has.head | apply Has.tail))) | (apply hpBox F; exact rfl; exact rfl; exact rfl; (· with_reducible first | exact pad_length _ | exact zeros64_length | exact tab_length _ _ | assumption)) | (apply hpAlloc F; exact rfl; exact rfl) | (apply hpSt F; exact rfl; exact rfl; exact rfl; exact rfl; (· repeat (first | exact Upd.head | apply Upd.tail)); (· with_reducible first | exact pad_length _ | exact zeros64_length | exact tab_length _ _ | assumption))))
      refine (l01Deg_pad b _ IN.out.cb.nz IN.out.lb rfl _).mono ?_
      rintro e w2 ⟨rfl, E2⟩
      replace F := F.next E2
      go_wp2_with (first | ((with_reducible show wpList _ _ _ _ _ _); first | (apply hpLd F; exact rfl; exact rfl; exact rfl; (· repeat (first | exact Has.head | apply Has.tail))) | (apply hpBox F; exact rfl; exact rfl; exact rfl; (· with_reducible first | exact pad_length _ | exact zeros64_length | exact tab_length _ _ | assumption)) | (apply hpAlloc F; exact rfl; exact rfl) | (apply hpSt F; exact rfl; exact rfl; exact rfl; exact rfl; (· repeat (first | exact Upd.head | apply Upd.tail)); (· with_reducible first | exact pad_length _ | exact zeros64_length | exact tab_length _ _ | assumption))))
      refine (l01Deg_pad a m IN.out.ca.nz IN.out.la (by have := HM.out; omega) _).mono ?_
      rintro e w3 ⟨rfl, E3⟩
      replace F := F.next E3
      have c := F.cell 8 rfl m lm
      rw [at0_pad a IN.out.la, elc.out] at c
      go_wp2_with (first | (go_at_call 82; refine (l01Inverse_any p (lc a) HP.out hlc.1 hlc.2 _).mono ?_; rintro e w4 ⟨rfl, rfl⟩) | ((with_reducible show wpList _ _ _ _ _ _); first | (apply hpLd F; exact rfl; exact rfl; exact rfl; (· repeat (first | exact Has.head | apply Has.tail))) | (apply hpBox F; exact rfl; exact rfl; exact rfl; (· with_reducible first | exact pad_length _ | exact zeros64_length | exact tab_length _ _ | assumption)) | (apply hpAlloc F; exact rfl; exact rfl) | (apply hpSt F; exact rfl; exact rfl; exact rfl; exact rfl; (· repeat (first | exact Upd.head | apply Upd.tail)); (· with_reducible first | exact pad_length _ | exact zeros64_length | exact tab_length _ _ | assumption))))
      refine region_ext 15 (by kernel_rfl) (by kernel_rfl) (by kernel_rfl) [] [eqv (.int .i64 p), eqv (.agg (u8s zeros64)), eqv (.agg (u8s (pad a))), eqv (.int .i64 (invP p (lc a))), eqv (.agg (u8s (pad (bezD p a0 b0)))), eqv (.int .i64 p), eqv (.agg (u8s zeros64)), eqv (.agg (u8s (pad u))), eqv (.int .i64 (invP p (lc a))), eqv (.agg (u8s (pad (bezU p a0 b0)))), eqv (.int .i64 p), eqv (.agg (u8s zeros64)), eqv (.agg (u8s (pad v))), eqv (.int .i64 (invP p (lc a))), eqv (.agg (u8s (pad (bezV p a0 b0))))]
        ⟨mono_eqv _, mono_eqv _, mono_eqv _, mono_eqv _, mono_eqv _, mono_eqv _, mono_eqv _, mono_eqv _, mono_eqv _, mono_eqv _, mono_eqv _, mono_eqv _, mono_eqv _, mono_eqv _, mono_eqv _, trivial⟩ (fun vals => ?_) (fun vals w9 hE9 hS9 hN9 => ?_)
      · simp only [List.take_succ_cons, List.take_zero]
        refine ⟨fun w8 hE8 hk => doesK_plain rfl fun K hK => ?_, ?_⟩
        · go_simp
          (try go_bits)
          exact hK _ _ rfl (Ext.refl _) rfl
        simp only [Act.put, List.setIfInBounds_toArray, List.set_cons_zero, List.set_cons_succ]
        refine ⟨fun w8 hE8 hk => doesK_plain rfl fun K hK => ?_, ?_⟩
        · go_simp
          (try go_bits)
          exact hK _ _ rfl (Ext.refl _) rfl
        simp only [Act.put, List.setIfInBounds_toArray, List.set_cons_zero, List.set_cons_succ]
        refine ⟨fun w8 hE8 hk => doesK_plain rfl fun K hK => ?_, ?_⟩
        · exact wp_load_row _ _ rfl _ (by first | rfl | simp [*]) _ _ (0, 0) _ ((F.at_ 8 rfl).ext hE8) Tryz.underlying25 rfl (by rw [infoPoly, u8s_size, pad_length _]) (hK _ _ rfl (Ext.refl _) rfl)
        simp only [Act.put, List.setIfInBounds_toArray, List.set_cons_zero, List.set_cons_succ]
        refine ⟨fun w8 hE8 hk => doesK_plain rfl fun K hK => ?_, ?_⟩
        · go_simp
          (try go_bits)
          exact hK _ _ rfl (Ext.refl _) rfl
        simp only [Act.put, List.setIfInBounds_toArray, List.set_cons_zero, List.set_cons_succ]
        refine ⟨fun w8 hE8 hk => doesK_plain rfl fun K hK => ?_, ?_⟩
        · have k0 : vals 0 = .int .i64 p := hk 0 (by decide) (by kernel_rfl)
          have k1 : vals 1 = .agg (u8s zeros64) := hk 1 (by decide) (by kernel_rfl)
          have k2 : vals 2 = .agg (u8s (pad a)) := hk 2 (by decide) (by kernel_rfl)
          have k3 : vals 3 = .int .i64 (invP p (lc a)) := hk 3 (by decide) (by kernel_rfl)
          go_simp
          refine (l01Add_zero p (invP p (lc a)) a HP.out IN.out.ca IN.out.la (by omega) (by omega) _).mono ?_
          rintro e7 w7 ⟨rfl, hE7⟩
          exact hK _ _ (by rw [fD.out]; rfl) hE7 rfl
        simp only [Act.put, List.setIfInBounds_toArray, List.set_cons_zero, List.set_cons_succ]
        refine ⟨fun w8 hE8 hk => doesK_plain rfl fun K hK => ?_, ?_⟩
        · go_simp
          (try go_bits)
          exact hK _ _ rfl (Ext.refl _) rfl
        simp only [Act.put, List.setIfInBounds_toArray, List.set_cons_zero, List.set_cons_succ]
        refine ⟨fun w8 hE8 hk => doesK_plain rfl fun K hK => ?_, ?_⟩
        · go_simp
          (try go_bits)
          exact hK _ _ rfl (Ext.refl _) rfl
        simp only [Act.put, List.setIfInBounds_toArray, List.set_cons_zero, List.set_cons_succ]
        refine ⟨fun w8 hE8 hk => doesK_plain rfl fun K hK => ?_, ?_⟩
        · exact wp_load_row _ _ rfl _ (by first | rfl | simp [*]) _ _ (0, 0) _ ((F.at_ 3 rfl).ext hE8) Tryz.underlying25 rfl (by rw [infoPoly, u8s_size, pad_length _]) (hK _ _ rfl (Ext.refl _) rfl)
        simp only [Act.put, List.setIfInBounds_toArray, List.set_cons_zero, List.set_cons_succ]
        refine ⟨fun w8 hE8 hk => doesK_plain rfl fun K hK => ?_, ?_⟩
        · go_simp
          (try go_bits)
          exact hK _ _ rfl (Ext.refl _) rfl
        simp only [Act.put, List.setIfInBounds_toArray, List.set_cons_zero, List.set_cons_succ]
        refine ⟨fun w8 hE8 hk => doesK_plain rfl fun K hK => ?_, ?_⟩
        · have k4 : vals 4 = .agg (u8s (pad (bezD p a0 b0))) := hk 4 (by decide) (by kernel_rfl)
          have k5 : vals 5 = .int .i64 p := hk 5 (by decide) (by kernel_rfl)
          have k6 : vals 6 = .agg (u8s zeros64) := hk 6 (by decide) (by kernel_rfl)
          have k7 : vals 7 = .agg (u8s (pad u)) := hk 7 (by decide) (by kernel_rfl)
          have k8 : vals 8 = .int .i64 (invP p (lc a)) := hk 8 (by decide) (by kernel_rfl)
          go_simp
          refine (l01Add_zero p (invP p (lc a)) u HP.out IN.out.cu IN.out.lu (by omega) (by omega) _).mono ?_
          rintro e7 w7 ⟨rfl, hE7⟩
          exact hK _ _ (by rw [fU.out]; rfl) hE7 rfl
        simp only [Act.put, List.setIfInBounds_toArray, List.set_cons_zero, List.set_cons_succ]
        refine ⟨fun w8 hE8 hk => doesK_plain rfl fun K hK => ?_, ?_⟩
        · go_simp
          (try go_bits)
          exact hK _ _ rfl (Ext.refl _) rfl
        simp only [Act.put, List.setIfInBounds_toArray, List.set_cons_zero, List.set_cons_succ]
        refine ⟨fun w8 hE8 hk => doesK_plain rfl fun K hK => ?_, ?_⟩
        · go_simp
          (try go_bits)
          exact hK _ _ rfl (Ext.refl _) rfl
        simp only [Act.put, List.setIfInBounds_toArray, List.set_cons_zero, List.set_cons_succ]
        refine ⟨fun w8 hE8 hk => doesK_plain rfl fun K hK => ?_, ?_⟩
        · exact wp_load_row _ _ rfl _ (by first | rfl | simp [*]) _ _ (0, 0) _ ((F.at_ 1 rfl).ext hE8) Tryz.underlying25 rfl (by rw [infoPoly, u8s_size, pad_length _]) (hK _ _ rfl (Ext.refl _) rfl)
        simp only [Act.put, List.setIfInBounds_toArray, List.set_cons_zero, List.set_cons_succ]
        refine ⟨fun w8 hE8 hk => doesK_plain rfl fun K hK => ?_, ?_⟩
        · go_simp
          (try go_bits)
          exact hK _ _ rfl (Ext.refl _) rfl
        simp only [Act.put, List.setIfInBounds_toArray, List.set_cons_zero, List.set_cons_succ]
        refine ⟨fun w8 hE8 hk => doesK_plain rfl fun K hK => ?_, ?_⟩
        · have k9 : vals 9 = .agg (u8s (pad (bezU p a0 b0))) := hk 9 (by decide) (by kernel_rfl)
          have k10 : vals 10 = .int .i64 p := hk 10 (by decide) (by kernel_rfl)
          have k11 : vals 11 = .agg (u8s zeros64) := hk 11 (by decide) (by kernel_rfl)
          have k12 : vals 12 = .agg (u8s (pad v)) := hk 12 (by decide) (by kernel_rfl)
          have k13 : vals 13 = .int .i64 (invP p (lc a)) := hk 13 (by decide) (by kernel_rfl)
          go_simp
          refine (l01Add_zero p (invP p (lc a)) v HP.out IN.out.cv IN.out.lv (by omega) (by omega) _).mono ?_
          rintro e7 w7 ⟨rfl, hE7⟩
          exact hK _ _ (by rw [fV.out]; rfl) hE7 rfl
        exact trivial
      simp only [List.take_succ_cons, List.take_zero, List.drop_succ_cons, List.drop_zero, preAct, Nat.reduceAdd, Act.put, List.setIfInBounds_toArray, List.set_cons_zero, List.set_cons_succ]
      have k0 : vals 0 = .int .i64 p := hS9 0 (by decide) 
      have k1 : vals 1 = .agg (u8s zeros64) := hS9 1 (by decide) 
      have k2 : vals 2 = .agg (u8s (pad a)) := hS9 2 (by decide) 
      have k3 : vals 3 = .int .i64 (invP p (lc a)) := hS9 3 (by decide) 
      have k4 : vals 4 = .agg (u8s (pad (bezD p a0 b0))) := hS9 4 (by decide) 
      have k5 : vals 5 = .int .i64 p := hS9 5 (by decide) 
      have k6 : vals 6 = .agg (u8s zeros64) := hS9 6 (by decide) 
      have k7 : vals 7 = .agg (u8s (pad u)) := hS9 7 (by decide) 
      have k8 : vals 8 = .int .i64 (invP p (lc a)) := hS9 8 (by decide) 
      have k9 : vals 9 = .agg (u8s (pad (bezU p a0 b0))) := hS9 9 (by decide) 
      have k10 : vals 10 = .int .i64 p := hS9 10 (by decide) 
      have k11 : vals 11 = .agg (u8s zeros64) := hS9 11 (by decide) 
      have k12 : vals 12 = .agg (u8s (pad v)) := hS9 12 (by decide) 
      have k13 : vals 13 = .int .i64 (invP p (lc a)) := hS9 13 (by decide) 
      have k14 : vals 14 = .agg (u8s (pad (bezV p a0 b0))) := hS9 14 (by decide) 
      simp only [k0, k1, k2, k3, k4, k5, k6, k7, k8, k9, k10, k11, k12, k13, k14]
      clear hN9 hS9 k0 k1 k2 k3 k4 k5 k6 k7 k8 k9 k10 k11 k12 k13 k14
      replace F := F.next hE9
      clear hE9
      go_wp2_with (first | ((with_reducible show wpList _ _ _ _ _ _); first | (apply hpLd F; exact rfl; exact rfl; exact rfl; (· repeat (first | exact Has.head | apply Has.tail))) | (apply hpBox F; exact rfl; exact rfl; exact rfl; (· with_reducible first | exact pad_length _ | exact zeros64_length | exact tab_length _ _ | assumption)) | (apply hpAlloc F; exact rfl; exact rfl) | (apply hpSt F; exact rfl; exact rfl; exact rfl; exact rfl; (· repeat (first | exact Upd.head | apply Upd.tail)); (· with_reducible first | exact pad_length _ | exact zeros64_length | exact tab_length _ _ | assumption))))
      clear F
      intro w1 F
      try simp only [List.set_cons_zero, List.set_cons_succ] at F
      go_wp2_with (first | ((with_reducible show wpList _ _ _ _ _ _); first | (apply hpLd F; exact rfl; exact rfl; exact rfl; (· repeat (first | exact Has.head | apply Has.tail))) | (apply hpBox F; exact rfl; exact rfl; exact rfl; (· with_reducible first | exact pad_length _ | exact zeros64_length | exact tab_length _ _ | assumption)) | (apply hpAlloc F; exact rfl; exact rfl) | (apply hpSt F; exact rfl; exact rfl; exact rfl; exact rfl; (· repeat (first | exact Upd.head | apply Upd.tail)); (· with_reducible first | exact pad_length _ | exact zeros64_length | exact tab_length _ _ | assumption))))
      clear F
      intro w1 F
      try simp only [List.set_cons_zero, List.set_cons_succ] at F
      go_wp2_with (first | ((with_reducible show wpList _ _ _ _ _ _); first | (apply hpLd F; exact rfl; exact rfl; exact rfl; (· repeat (first | exact Has.head | apply Has.tail))) | (apply hpBox F; exact rfl; exact rfl; exact rfl; (· with_reducible first | exact pad_length _ | exact zeros64_length | exact tab_length _ _ | assumption)) | (apply hpAlloc F; exact rfl; exact rfl) | (apply hpSt F; exact rfl; exact rfl; exact rfl; exact rfl; (· repeat (first | exact Upd.head | apply Upd.tail)); (· with_reducible first | exact pad_length _ | exact zeros64_length | exact tab_length _ _ | assumption))))
      clear F
      intro w1 F
      try simp only [List.set_cons_zero, List.set_cons_succ] at F
      go_wp2_with (first | ((with_reducible show wpList _ _ _ _ _ _); first | (apply hpLd F; exact rfl; exact rfl; exact rfl; (· repeat (first | exact Has.head | apply Has.tail))) | (apply hpBox F; exact rfl; exact rfl; exact rfl; (· with_reducible first | exact pad_length _ | exact zeros64_length | exact tab_length _ _ | assumption)) | (apply hpAlloc F; exact rfl; exact rfl) | (apply hpSt F; exact rfl; exact rfl; exact rfl; exact rfl; (· repeat (first | exact Upd.head | apply Upd.tail)); (· with_reducible first | exact pad_length _ | exact zeros64_length | exact tab_length _ _ | assumption))))
      exact bodyPost_ret (res_ccc rfl rfl rfl rfl (F.at_ 6 rfl) (pad_length _) (F.at_ 5 rfl) (pad_length _) (F.at_ 4 rfl) (pad_length _) Tryz.underlying25 infoPoly) rfl ⟨rfl, F.ext⟩
    · have HB := Lib.hid hb
      have tb : decide ((0 : Int) ≤ (b.length : Int) - 1) = true := by simp; omega
      obtain ⟨m, rfl⟩ : ∃ m, gk = m + 1 := ⟨gk - 1, by omega⟩
      have hlt := dr_lt HP.out IN.out.cb (by omega) (a := a)
      clear hb
      go_wp2_with (first | (go_at_call 49; refine (l01Deg_pad b _ IN.out.cb.nz IN.out.lb rfl _).mono ?_; rintro e w2 ⟨rfl, E2⟩; replace F := F.next E2) | (go_at_call 47; refine (l01Divide_any p a b HP.out IN.out.ca IN.out.cb IN.out.la IN.out.lb (by have := HB.out; omega) _).mono ?_; rintro e w2 ⟨rfl, E2⟩; replace F := F.next E2) | ((with_reducible show wpList _ _ _ _ _ _); first | (apply hpLd F; exact rfl; exact rfl; exact rfl; (· repeat (first | exact Has.head | apply Has.tail))) | (apply hpBox F; exact rfl; exact rfl; exact rfl; (· with_reducible first | exact pad_length _ | exact zeros64_length | exact tab_length _ _ | assumption)) | (apply hpAlloc F; exact rfl; exact rfl) | (apply hpSt F; exact rfl; exact rfl; exact rfl; exact rfl; (· repeat (first | exact Upd.head | apply Upd.tail)); (· with_reducible first | exact pad_length _ | exact zeros64_length | exact tab_length _ _ | assumption))))
      clear F
      intro gq w1 F
      go_wp2_with (first | ((with_reducible show wpList _ _ _ _ _ _); first | (apply hpLd F; exact rfl; exact rfl; exact rfl; (· repeat (first | exact Has.head | apply Has.tail))) | (apply hpBox F; exact rfl; exact rfl; exact rfl; (· with_reducible first | exact pad_length _ | exact zeros64_length | exact tab_length _ _ | assumption)) | (apply hpAlloc F; exact rfl; exact rfl) | (apply hpSt F; exact rfl; exact rfl; exact rfl; exact rfl; (· repeat (first | exact Upd.head | apply Upd.tail)); (· with_reducible first | exact pad_length _ | exact zeros64_length | exact tab_length _ _ | assumption))))
      clear F
      intro gr w1 F
      go_wp2_with (first | ((with_reducible show wpList _ _ _ _ _ _); first | (apply hpLd F; exact rfl; exact rfl; exact rfl; (· repeat (first | exact Has.head | apply Has.tail))) | (apply hpBox F; exact rfl; exact rfl; exact rfl; (· with_reducible first | exact pad_length _ | exact zeros64_length | exact tab_length _ _ | assumption)) | (apply hpAlloc F; exact rfl; exact rfl) | (apply hpSt F; exact rfl; exact rfl; exact rfl; exact rfl; (· repeat (first | exact Upd.head | apply Upd.tail)); (· with_reducible first | exact pad_length _ | exact zeros64_length | exact tab_length _ _ | assumption))))
      clear F
      intro w1 F
      try simp only [List.set_cons_zero, List.set_cons_succ] at F
      go_wp2_with (first | ((with_reducible show wpList _ _ _ _ _ _); first | (apply hpLd F; exact rfl; exact rfl; exact rfl; (· repeat (first | exact Has.head | apply Has.tail))) | (apply hpBox F; exact rfl; exact rfl; exact rfl; (· with_reducible first | exact pad_length _ | exact zeros64_length | exact tab_length _ _ | assumption)) | (apply hpAlloc F; exact rfl; exact rfl) | (apply hpSt F; exact rfl; exact rfl; exact rfl; exact rfl; (· repeat (first | exact Upd.head | apply Upd.tail)); (· with_reducible first | exact pad_length _ | exact zeros64_length | exact tab_length _ _ | assumption))))
      clear F
      intro w1 F
      try simp only [List.set_cons_zero, List.set_cons_succ] at F
      have QX := Lib.hid (IN.out.qx HB.out)
      have MX := Lib.hid (IN.out.mx HP.out HB.out)
      have CQ := Lib.hid (dq_can (show 0 < p by have := HP.out.lo; omega) a b)
      go_wp2_with (first | (go_at_call 112; refine (l01Times_ok p (dq p a b) x HP.out CQ.out IN.out.cx QX.out.1 IN.out.lx QX.out.2.1 _).mono ?_; rintro e w2 ⟨rfl, E2⟩; replace F := F.next E2) | ((with_reducible show wpList _ _ _ _ _ _); first | (apply hpLd F; exact rfl; exact rfl; exact rfl; (· repeat (first | exact Has.head | apply Has.tail))) | (apply hpBox F; exact rfl; exact rfl; exact rfl; (· with_reducible first | exact pad_length _ | exact zeros64_length | exact tab_length _ _ | assumption)) | (apply hpAlloc F; exact rfl; exact rfl) | (apply hpSt F; exact rfl; exact rfl; exact rfl; exact rfl; (· repeat (first | exact Upd.head | apply Upd.tail)); (· with_reducible first | exact pad_length _ | exact zeros64_length | exact tab_length _ _ | assumption))))
      clear F
      intro gs w1 F
      go_wp2_with (first | ((with_reducible show wpList _ _ _ _ _ _); first | (apply hpLd F; exact rfl; exact rfl; exact rfl; (· repeat (first | exact Has.head | apply Has.tail))) | (apply hpBox F; exact rfl; exact rfl; exact rfl; (· with_reducible first | exact pad_length _ | exact zeros64_length | exact tab_length _ _ | assumption)) | (apply hpAlloc F; exact rfl; exact rfl) | (apply hpSt F; exact rfl; exact rfl; exact rfl; exact rfl; (· repeat (first | exact Upd.head | apply Upd.tail)); (· with_reducible first | exact pad_length _ | exact zeros64_length | exact tab_length _ _ | assumption))))
      clear F
      intro w1 F
      try simp only [List.set_cons_zero, List.set_cons_succ] at F
      go_wp2_with (first | (go_at_call 112; refine (l01Times_ok p (dq p a b) y HP.out CQ.out IN.out.cy QX.out.1 IN.out.ly QX.out.2.2 _).mono ?_; rintro e w2 ⟨rfl, E2⟩; replace F := F.next E2) | ((with_reducible show wpList _ _ _ _ _ _); first | (apply hpLd F; exact rfl; exact rfl; exact rfl; (· repeat (first | exact Has.head | apply Has.tail))) | (apply hpBox F; exact rfl; exact rfl; exact rfl; (· with_reducible first | exact pad_length _ | exact zeros64_length | exact tab_length _ _ | assumption)) | (apply hpAlloc F; exact rfl; exact rfl) | (apply hpSt F; exact rfl; exact rfl; exact rfl; exact rfl; (· repeat (first | exact Upd.head | apply Upd.tail)); (· with_reducible first | exact pad_length _ | exact zeros64_length | exact tab_length _ _ | assumption))))
      clear F
      intro gt w1 F
      go_wp2_with (first | ((with_reducible show wpList _ _ _ _ _ _); first | (apply hpLd F; exact rfl; exact rfl; exact rfl; (· repeat (first | exact Has.head | apply Has.tail))) | (apply hpBox F; exact rfl; exact rfl; exact rfl; (· with_reducible first | exact pad_length _ | exact zeros64_length | exact tab_length _ _ | assumption)) | (apply hpAlloc F; exact rfl; exact rfl) | (apply hpSt F; exact rfl; exact rfl; exact rfl; exact rfl; (· repeat (first | exact Upd.head | apply Upd.tail)); (· with_reducible first | exact pad_length _ | exact zeros64_length | exact tab_length _ _ | assumption))))
      clear F
      intro w1 F
      try simp only [List.set_cons_zero, List.set_cons_succ] at F
      go_wp2_with (first | ((with_reducible show wpList _ _ _ _ _ _); first | (apply hpLd F; exact rfl; exact rfl; exact rfl; (· repeat (first | exact Has.head | apply Has.tail))) | (apply hpBox F; exact rfl; exact rfl; exact rfl; (· with_reducible first | exact pad_length _ | exact zeros64_length | exact tab_length _ _ | assumption)) | (apply hpAlloc F; exact rfl; exact rfl) | (apply hpSt F; exact rfl; exact rfl; exact rfl; exact rfl; (· repeat (first | exact Upd.head | apply Upd.tail)); (· with_reducible first | exact pad_length _ | exact zeros64_length | exact tab_length _ _ | assumption))))
      have CX := Lib.hid (mulr_can (show 0 < p by have := HP.out.lo; omega) (dq p a b) x)
      have CY := Lib.hid (mulr_can (show 0 < p by have := HP.out.lo; omega) (dq p a b) y)
      refine region_ext 10 (by kernel_rfl) (by kernel_rfl) (by kernel_rfl) [8,9] [eqv (.int .i64 p), eqv (.agg (u8s (pad u))), eqv (.agg (u8s (pad (mulr p (dq p a b) x)))), eqv (.agg (u8s (pad (comb p u (mulr p (dq p a b) x) (-1))))), eqv (.int .i64 p), eqv (.agg (u8s (pad v))), eqv (.agg (u8s (pad (mulr p (dq p a b) y)))), eqv (.agg (u8s (pad (comb p v (mulr p (dq p a b) y) (-1))))), isArr w1.heap.size 25 zeros64, isArr w1.heap.size 25 zeros64]
        ⟨mono_eqv _, mono_eqv _, mono_eqv _, mono_eqv _, mono_eqv _, mono_eqv _, mono_eqv _, mono_eqv _, mono_arr _ _ _, mono_arr _ _ _, trivial⟩ (fun vals => ?_) (fun vals w9 hE9 hS9 hN9 => ?_)
      · simp only [List.take_succ_cons, List.take_zero]
        refine ⟨fun w8 hE8 hk => doesK_plain rfl fun K hK => ?_, ?_⟩
        · go_simp
          (try go_bits)
          exact hK _ _ rfl (Ext.refl _) rfl
        simp only [Act.put, List.setIfInBounds_toArray, List.set_cons_zero, List.set_cons_succ]
        refine ⟨fun w8 hE8 hk => doesK_plain rfl fun K hK => ?_, ?_⟩
        · exact wp_load_row _ _ rfl _ (by first | rfl | simp [*]) _ _ (0, 0) _ ((F.at_ 7 rfl).ext hE8) Tryz.underlying25 rfl (by rw [infoPoly, u8s_size, pad_length _]) (hK _ _ rfl (Ext.refl _) rfl)
        simp only [Act.put, List.setIfInBounds_toArray, List.set_cons_zero, List.set_cons_succ]
        refine ⟨fun w8 hE8 hk => doesK_plain rfl fun K hK => ?_, ?_⟩
        · exact wp_load_row _ _ rfl _ (by first | rfl | simp [*]) _ _ (0, 0) _ ((F.at_ 1 rfl).ext hE8) Tryz.underlying25 rfl (by rw [infoPoly, u8s_size, pad_length _]) (hK _ _ rfl (Ext.refl _) rfl)
        simp only [Act.put, List.setIfInBounds_toArray, List.set_cons_zero, List.set_cons_succ]
        refine ⟨fun w8 hE8 hk => doesK_plain rfl fun K hK => ?_, ?_⟩
        · have k0 : vals 0 = .int .i64 p := hk 0 (by decide) (by kernel_rfl)
          have k1 : vals 1 = .agg (u8s (pad u)) := hk 1 (by decide) (by kernel_rfl)
          have k2 : vals 2 = .agg (u8s (pad (mulr p (dq p a b) x))) := hk 2 (by decide) (by kernel_rfl)
          go_simp
          refine (l01Add_pad p (-1) u _ HP.out IN.out.cu CX.out IN.out.lu MX.out.1 (by decide) (by decide) _).mono ?_
          rintro e7 w7 ⟨rfl, hE7⟩
          exact hK _ _ rfl hE7 rfl
        simp only [Act.put, List.setIfInBounds_toArray, List.set_cons_zero, List.set_cons_succ]
        refine ⟨fun w8 hE8 hk => doesK_plain rfl fun K hK => ?_, ?_⟩
        · go_simp
          (try go_bits)
          exact hK _ _ rfl (Ext.refl _) rfl
        simp only [Act.put, List.setIfInBounds_toArray, List.set_cons_zero, List.set_cons_succ]
        refine ⟨fun w8 hE8 hk => doesK_plain rfl fun K hK => ?_, ?_⟩
        · exact wp_load_row _ _ rfl _ (by first | rfl | simp [*]) _ _ (0, 0) _ ((F.at_ 5 rfl).ext hE8) Tryz.underlying25 rfl (by rw [infoPoly, u8s_size, pad_length _]) (hK _ _ rfl (Ext.refl _) rfl)
        simp only [Act.put, List.setIfInBounds_toArray, List.set_cons_zero, List.set_cons_succ]
        refine ⟨fun w8 hE8 hk => doesK_plain rfl fun K hK => ?_, ?_⟩
        · exact wp_load_row _ _ rfl _ (by first | rfl | simp [*]) _ _ (0, 0) _ ((F.at_ 0 rfl).ext hE8) Tryz.underlying25 rfl (by rw [infoPoly, u8s_size, pad_length _]) (hK _ _ rfl (Ext.refl _) rfl)
        simp only [Act.put, List.setIfInBounds_toArray, List.set_cons_zero, List.set_cons_succ]
        refine ⟨fun w8 hE8 hk => doesK_plain rfl fun K hK => ?_, ?_⟩
        · have k3 : vals 3 = .agg (u8s (pad (comb p u (mulr p (dq p a b) x) (-1)))) := hk 3 (by decide) (by kernel_rfl)
          have k4 : vals 4 = .int .i64 p := hk 4 (by decide) (by kernel_rfl)
          have k5 : vals 5 = .agg (u8s (pad v)) := hk 5 (by decide) (by kernel_rfl)
          have k6 : vals 6 = .agg (u8s (pad (mulr p (dq p a b) y))) := hk 6 (by decide) (by kernel_rfl)
          go_simp
          refine (l01Add_pad p (-1) v _ HP.out IN.out.cv CY.out IN.out.lv MX.out.2 (by decide) (by decide) _).mono ?_
          rintro e7 w7 ⟨rfl, hE7⟩
          exact hK _ _ rfl hE7 rfl
        simp only [Act.put, List.setIfInBounds_toArray, List.set_cons_zero, List.set_cons_succ]
        refine ⟨fun w8 hE8 hk => doesK_plain rfl fun K hK => ?_, ?_⟩
        · go_simp
          exact hK _ _ ⟨⟨_, rfl, by have := hE8.size; omega, Arr.new _ _ _⟩, rfl, by simp⟩ ((Ext.refl _).alloc _) rfl
        simp only [Act.put, List.setIfInBounds_toArray, List.set_cons_zero, List.set_cons_succ]
        refine ⟨fun w8 hE8 hk => doesK_plain rfl fun K hK => ?_, ?_⟩
        · go_simp
          exact hK _ _ ⟨⟨_, rfl, by have := hE8.size; omega, Arr.new _ _ _⟩, rfl, by simp⟩ ((Ext.refl _).alloc _) rfl
        exact trivial
      simp only [List.take_succ_cons, List.take_zero, List.drop_succ_cons, List.drop_zero, preAct, Nat.reduceAdd, Act.put, List.setIfInBounds_toArray, List.set_cons_zero, List.set_cons_succ]
      have k0 : vals 0 = .int .i64 p := hS9 0 (by decide) 
      have k1 : vals 1 = .agg (u8s (pad u)) := hS9 1 (by decide) 
      have k2 : vals 2 = .agg (u8s (pad (mulr p (dq p a b) x))) := hS9 2 (by decide) 
      have k3 : vals 3 = .agg (u8s (pad (comb p u (mulr p (dq p a b) x) (-1)))) := hS9 3 (by decide) 
      have k4 : vals 4 = .int .i64 p := hS9 4 (by decide) 
      have k5 : vals 5 = .agg (u8s (pad v)) := hS9 5 (by decide) 
      have k6 : vals 6 = .agg (u8s (pad (mulr p (dq p a b) y))) := hS9 6 (by decide) 
      have k7 : vals 7 = .agg (u8s (pad (comb p v (mulr p (dq p a b) y) (-1)))) := hS9 7 (by decide) 
      obtain ⟨g8, k8, b8, a8⟩ : isArr w1.heap.size 25 zeros64 (vals 8) _ := hS9 8 (by decide) 
      obtain ⟨g9, k9, b9, a9⟩ : isArr w1.heap.size 25 zeros64 (vals 9) _ := hS9 9 (by decide) 
      simp only [k0, k1, k2, k3, k4, k5, k6, k7, k8, k9]
      have ne9 : g8 ≠ g9 := fun e => hN9 8 9 (by decide) (by decide) rfl rfl (by decide) (by rw [k8, k9, e])
      clear hN9 hS9 k0 k1 k2 k3 k4 k5 k6 k7 k8 k9
      replace F := F.addNew2 hE9 a8 zeros64_length b8 a9 zeros64_length b9 ne9
      clear hE9 a8 b8 a9 b9 ne9
      go_wp2_with (first | ((with_reducible show wpList _ _ _ _ _ _); first | (apply hpLd F; exact rfl; exact rfl; exact rfl; (· repeat (first | exact Has.head | apply Has.tail))) | (apply hpBox F; exact rfl; exact rfl; exact rfl; (· with_reducible first | exact pad_length _ | exact zeros64_length | exact tab_length _ _ | assumption)) | (apply hpAlloc F; exact rfl; exact rfl) | (apply hpSt F; exact rfl; exact rfl; exact rfl; exact rfl; (· repeat (first | exact Upd.head | apply Upd.tail)); (· with_reducible first | exact pad_length _ | exact zeros64_length | exact tab_length _ _ | assumption))))
      clear F
      intro w1 F
      try simp only [List.set_cons_zero, List.set_cons_succ] at F
      go_wp2_with (first | ((with_reducible show wpList _ _ _ _ _ _); first | (apply hpLd F; exact rfl; exact rfl; exact rfl; (· repeat (first | exact Has.head | apply Has.tail))) | (apply hpBox F; exact rfl; exact rfl; exact rfl; (· with_reducible first | exact pad_length _ | exact zeros64_length | exact tab_length _ _ | assumption)) | (apply hpAlloc F; exact rfl; exact rfl) | (apply hpSt F; exact rfl; exact rfl; exact rfl; exact rfl; (· repeat (first | exact Upd.head | apply Upd.tail)); (· with_reducible first | exact pad_length _ | exact zeros64_length | exact tab_length _ _ | assumption))))
      clear F
      intro w1 F
      try simp only [List.set_cons_zero, List.set_cons_succ] at F
      go_wp2_with (first | ((with_reducible show wpList _ _ _ _ _ _); first | (apply hpLd F; exact rfl; exact rfl; exact rfl; (· repeat (first | exact Has.head | apply Has.tail))) | (apply hpBox F; exact rfl; exact rfl; exact rfl; (· with_reducible first | exact pad_length _ | exact zeros64_length | exact tab_length _ _ | assumption)) | (apply hpAlloc F; exact rfl; exact rfl) | (apply hpSt F; exact rfl; exact rfl; exact rfl; exact rfl; (· repeat (first | exact Upd.head | apply Upd.tail)); (· with_reducible first | exact pad_length _ | exact zeros64_length | exact tab_length _ _ | assumption))))
      clear F
      intro w1 F
      try simp only [List.set_cons_zero, List.set_cons_succ] at F
      go_wp2_with (first | ((with_reducible show wpList _ _ _ _ _ _); first | (apply hpLd F; exact rfl; exact rfl; exact rfl; (· repeat (first | exact Has.head | apply Has.tail))) | (apply hpBox F; exact rfl; exact rfl; exact rfl; (· with_reducible first | exact pad_length _ | exact zeros64_length | exact tab_length _ _ | assumption)) | (apply hpAlloc F; exact rfl; exact rfl) | (apply hpSt F; exact rfl; exact rfl; exact rfl; exact rfl; (· repeat (first | exact Upd.head | apply Upd.tail)); (· with_reducible first | exact pad_length _ | exact zeros64_length | exact tab_length _ _ | assumption))))
      clear F
      intro w1 F
      try simp only [List.set_cons_zero, List.set_cons_succ] at F
      go_wp2_with (first | ((with_reducible show wpList _ _ _ _ _ _); first | (apply hpLd F; exact rfl; exact rfl; exact rfl; (· repeat (first | exact Has.head | apply Has.tail))) | (apply hpBox F; exact rfl; exact rfl; exact rfl; (· with_reducible first | exact pad_length _ | exact zeros64_length | exact tab_length _ _ | assumption)) | (apply hpAlloc F; exact rfl; exact rfl) | (apply hpSt F; exact rfl; exact rfl; exact rfl; exact rfl; (· repeat (first | exact Upd.head | apply Upd.tail)); (· with_reducible first | exact pad_length _ | exact zeros64_length | exact tab_length _ _ | assumption))))
      clear F
      intro w1 F
      try simp only [List.set_cons_zero, List.set_cons_succ] at F
      go_wp2_with (first | ((with_reducible show wpList _ _ _ _ _ _); first | (apply hpLd F; exact rfl; exact rfl; exact rfl; (· repeat (first | exact Has.head | apply Has.tail))) | (apply hpBox F; exact rfl; exact rfl; exact rfl; (· with_reducible first | exact pad_length _ | exact zeros64_length | exact tab_length _ _ | assumption)) | (apply hpAlloc F; exact rfl; exact rfl) | (apply hpSt F; exact rfl; exact rfl; exact rfl; exact rfl; (· repeat (first | exact Upd.head | apply Upd.tail)); (· with_reducible first | exact pad_length _ | exact zeros64_length | exact tab_length _ _ | assumption))))
      clear F
      intro w1 F
      try simp only [List.set_cons_zero, List.set_cons_succ] at F
      go_wp2_with (first | ((with_reducible show wpList _ _ _ _ _ _); first | (apply hpLd F; exact rfl; exact rfl; exact rfl; (· repeat (first | exact Has.head | apply Has.tail))) | (apply hpBox F; exact rfl; exact rfl; exact rfl; (· with_reducible first | exact pad_length _ | exact zeros64_length | exact tab_length _ _ | assumption)) | (apply hpAlloc F; exact rfl; exact rfl) | (apply hpSt F; exact rfl; exact rfl; exact rfl; exact rfl; (· repeat (first | exact Upd.head | apply Upd.tail)); (· with_reducible first | exact pad_length _ | exact zeros64_length | exact tab_length _ _ | assumption))))
      clear F
      intro w1 F
      try simp only [List.set_cons_zero, List.set_cons_succ] at F
      go_wp2_with (first | ((with_reducible show wpList _ _ _ _ _ _); first | (apply hpLd F; exact rfl; exact rfl; exact rfl; (· repeat (first | exact Has.head | apply Has.tail))) | (apply hpBox F; exact rfl; exact rfl; exact rfl; (· with_reducible first | exact pad_length _ | exact zeros64_length | exact tab_length _ _ | assumption)) | (apply hpAlloc F; exact rfl; exact rfl) | (apply hpSt F; exact rfl; exact rfl; exact rfl; exact rfl; (· repeat (first | exact Upd.head | apply Upd.tail)); (· with_reducible first | exact pad_length _ | exact zeros64_length | exact tab_length _ _ | assumption))))
      clear F
      intro w1 F
      try simp only [List.set_cons_zero, List.set_cons_succ] at F
      go_wp2_with (first | ((with_reducible show wpList _ _ _ _ _ _); first | (apply hpLd F; exact rfl; exact rfl; exact rfl; (· repeat (first | exact Has.head | apply Has.tail))) | (apply hpBox F; exact rfl; exact rfl; exact rfl; (· with_reducible first | exact pad_length _ | exact zeros64_length | exact tab_length _ _ | assumption)) | (apply hpAlloc F; exact rfl; exact rfl) | (apply hpSt F; exact rfl; exact rfl; exact rfl; exact rfl; (· repeat (first | exact Upd.head | apply Upd.tail)); (· with_reducible first | exact pad_length _ | exact zeros64_length | exact tab_length _ _ | assumption))))
      go_roundg m
      case measure => omega
      case rel => exact ⟨b, dr p a b, x, comb p u (mulr p (dq p a b) x) (-1), y, comb p v (mulr p (dq p a b) y) (-1), by rw [← HF.out, bezF_step _ _ _ _ _ _ _ _ HB.out], by omega, IN.out.step HP.out HB.out, Hp.drop 6 F⟩

end Go.Proofs.YtaemiknaiccijaaGreat

/- The reference's greatest common divisor. -/
namespace Go.Proofs.YtaemiknaiccijaaGreat
open Go.RowKit

set_option maxRecDepth 100000 in
set_option maxHeartbeats 1000000 in
theorem l01Gcd_any (p : Int) (a b : List Int) (hp : PrimeP p) (ha : Can p a) (hb : Can p b) (la : a.length ≤ 64) (lb : b.length ≤ 64) (w : World) :
    Calls Tryz.prog 63 #[.int .i64 p, .agg (u8s (pad a)), .agg (u8s (pad b))] w fun e w' => e = .returned (.agg (u8s (pad (gcdr p a b)))) ∧ Ext w w' := by
  have hz := zlit
  have HP := Lib.hid hp
  have HA := Lib.hid ha
  have HB := Lib.hid hb
  clear ha hb hp
  have F := Hp.start w
  by_cases za : a.length = 0 ∧ b.length = 0
  · have G : Hid (pad (gcdr p a b) = zeros64) := Lib.hid (by unfold gcdr; rw [if_pos za, pad_nil])
    have z1 : a.length < 1 := by omega
    have z2 : b.length < 1 := by omega
    have t1 : decide ((a.length : Int) - 1 < 0) = true := by simp; omega
    have t2 : decide ((b.length : Int) - 1 < 0) = true := by simp; omega
    clear za
    go_enter Tryz.func63, Tryz.ntmps63
    go_wp2_with (first | ((with_reducible show wpList _ _ _ _ _ _); first | (apply hpLd F; exact rfl; exact rfl; exact rfl; (· repeat (first | exact Has.head | apply Has.tail))) | (apply hpBox F; exact rfl; exact rfl; exact rfl; (· with_reducible first | exact pad_length _ | exact zeros64_length | exact tab_length _ _ | assumption)) | (apply hpAlloc F; exact rfl; exact rfl) | (apply hpSt F; exact rfl; exact rfl; exact rfl; exact rfl; (· repeat (first | exact Upd.head | apply Upd.tail)); (· with_reducible first | exact pad_length _ | exact zeros64_length | exact tab_length _ _ | assumption))))
    clear F
    intro ga w1 F
    go_wp2_with (first | ((with_reducible show wpList _ _ _ _ _ _); first | (apply hpLd F; exact rfl; exact rfl; exact rfl; (· repeat (first | exact Has.head | apply Has.tail))) | (apply hpBox F; exact rfl; exact rfl; exact rfl; (· with_reducible first | exact pad_length _ | exact zeros64_length | exact tab_length _ _ | assumption)) | (apply hpAlloc F; exact rfl; exact rfl) | (apply hpSt F; exact rfl; exact rfl; exact rfl; exact rfl; (· repeat (first | exact Upd.head | apply Upd.tail)); (· with_reducible first | exact pad_length _ | exact zeros64_length | exact tab_length _ _ | assumption))))
    clear F
    intro gb w1 F
    go_wp2_with (first | ((with_reducible show wpList _ _ _ _ _ _); first | (apply hpLd F; exact rfl; exact rfl; exact rfl; (· repeat (first | exact Has.head | apply Has.tail))) | (apply hpBox F; exact rfl; exact rfl; exact rfl; (· with_reducible first | exact pad_length _ | exact zeros64_length | exact tab_length _ _ | assumption)) | (apply hpAlloc F; exact rfl; exact rfl) | (apply hpSt F; exact rfl; exact rfl; exact rfl; exact rfl; (· repeat (first | exact Upd.head | apply Upd.tail)); (· with_reducible first | exact pad_length _ | exact zeros64_length | exact tab_length _ _ | assumption))))
    clear F
    intro z1 w1 F
    go_wp2_with (first | ((with_reducible show wpList _ _ _ _ _ _); first | (apply hpLd F; exact rfl; exact rfl; exact rfl; (· repeat (first | exact Has.head | apply Has.tail))) | (apply hpBox F; exact rfl; exact rfl; exact rfl; (· with_reducible first | exact pad_length _ | exact zeros64_length | exact tab_length _ _ | assumption)) | (apply hpAlloc F; exact rfl; exact rfl) | (apply hpSt F; exact rfl; exact rfl; exact rfl; exact rfl; (· repeat (first | exact Upd.head | apply Upd.tail)); (· with_reducible first | exact pad_length _ | exact zeros64_length | exact tab_length _ _ | assumption))))
    refine (l01Deg_pad a _ HA.out.nz la rfl _).mono ?_
    rintro e w2 ⟨rfl, E2⟩
    replace F := F.next E2
    go_wp2_with (first | ((with_reducible show wpList _ _ _ _ _ _); first | (apply hpLd F; exact rfl; exact rfl; exact rfl; (· repeat (first | exact Has.head | apply Has.tail))) | (apply hpBox F; exact rfl; exact rfl; exact rfl; (· with_reducible first | exact pad_length _ | exact zeros64_length | exact tab_length _ _ | assumption)) | (apply hpAlloc F; exact rfl; exact rfl) | (apply hpSt F; exact rfl; exact rfl; exact rfl; exact rfl; (· repeat (first | exact Upd.head | apply Upd.tail)); (· with_reducible first | exact pad_length _ | exact zeros64_length | exact tab_length _ _ | assumption))))
    refine (l01Deg_pad b _ HB.out.nz lb rfl _).mono ?_
    rintro e w3 ⟨rfl, E3⟩
    replace F := F.next E3
    go_wp2_with (first | ((with_reducible show wpList _ _ _ _ _ _); first | (apply hpLd F; exact rfl; exact rfl; exact rfl; (· repeat (first | exact Has.head | apply Has.tail))) | (apply hpBox F; exact rfl; exact rfl; exact rfl; (· with_reducible first | exact pad_length _ | exact zeros64_length | exact tab_length _ _ | assumption)) | (apply hpAlloc F; exact rfl; exact rfl) | (apply hpSt F; exact rfl; exact rfl; exact rfl; exact rfl; (· repeat (first | exact Upd.head | apply Upd.tail)); (· with_reducible first | exact pad_length _ | exact zeros64_length | exact tab_length _ _ | assumption))))
    clear F
    intro w1 F
    try simp only [List.set_cons_zero, List.set_cons_succ] at F
    go_wp2_with (first | ((with_reducible show wpList _ _ _ _ _ _); first | (apply hpLd F; exact rfl; exact rfl; exact rfl; (· repeat (first | exact Has.head | apply Has.tail))) | (apply hpBox F; exact rfl; exact rfl; exact rfl; (· with_reducible first | exact pad_length _ | exact zeros64_length | exact tab_length _ _ | assumption)) | (apply hpAlloc F; exact rfl; exact rfl) | (apply hpSt F; exact rfl; exact rfl; exact rfl; exact rfl; (· repeat (first | exact Upd.head | apply Upd.tail)); (· with_reducible first | exact pad_length _ | exact zeros64_length | exact tab_length _ _ | assumption))))
    exact bodyPost_ret (res_c rfl rfl (F.at_ 0 rfl) zeros64_length Tryz.underlying25 infoPoly) rfl ⟨by rw [G.out], F.ext⟩
  · have G : Hid (gcdr p a b = bezD p a b) := Lib.hid (by unfold gcdr; rw [if_neg za])
    have NE : Hid (a.length ≠ 0 ∨ b.length ≠ 0) := Lib.hid (by omega)
    by_cases z1 : a.length < 1
    · have z2 : 1 ≤ b.length := by omega
      have t1 : decide ((a.length : Int) - 1 < 0) = true := by simp; omega
      have t2 : decide ((b.length : Int) - 1 < 0) = false := by simp; omega
      clear za
      go_enter Tryz.func63, Tryz.ntmps63
      go_wp2_with (first | ((with_reducible show wpList _ _ _ _ _ _); first | (apply hpLd F; exact rfl; exact rfl; exact rfl; (· repeat (first | exact Has.head | apply Has.tail))) | (apply hpBox F; exact rfl; exact rfl; exact rfl; (· with_reducible first | exact pad_length _ | exact zeros64_length | exact tab_length _ _ | assumption)) | (apply hpAlloc F; exact rfl; exact rfl) | (apply hpSt F; exact rfl; exact rfl; exact rfl; exact rfl; (· repeat (first | exact Upd.head | apply Upd.tail)); (· with_reducible first | exact pad_length _ | exact zeros64_length | exact tab_length _ _ | assumption))))
      clear F
      intro ga w1 F
      go_wp2_with (first | ((with_reducible show wpList _ _ _ _ _ _); first | (apply hpLd F; exact rfl; exact rfl; exact rfl; (· repeat (first | exact Has.head | apply Has.tail))) | (apply hpBox F; exact rfl; exact rfl; exact rfl; (· with_reducible first | exact pad_length _ | exact zeros64_length | exact tab_length _ _ | assumption)) | (apply hpAlloc F; exact rfl; exact rfl) | (apply hpSt F; exact rfl; exact rfl; exact rfl; exact rfl; (· repeat (first | exact Upd.head | apply Upd.tail)); (· with_reducible first | exact pad_length _ | exact zeros64_length | exact tab_length _ _ | assumption))))
      clear F
      intro gb w1 F
      go_wp2_with (first | ((with_reducible show wpList _ _ _ _ _ _); first | (apply hpLd F; exact rfl; exact rfl; exact rfl; (· repeat (first | exact Has.head | apply Has.tail))) | (apply hpBox F; exact rfl; exact rfl; exact rfl; (· with_reducible first | exact pad_length _ | exact zeros64_length | exact tab_length _ _ | assumption)) | (apply hpAlloc F; exact rfl; exact rfl) | (apply hpSt F; exact rfl; exact rfl; exact rfl; exact rfl; (· repeat (first | exact Upd.head | apply Upd.tail)); (· with_reducible first | exact pad_length _ | exact zeros64_length | exact tab_length _ _ | assumption))))
      clear F
      intro z1 w1 F
      go_wp2_with (first | ((with_reducible show wpList _ _ _ _ _ _); first | (apply hpLd F; exact rfl; exact rfl; exact rfl; (· repeat (first | exact Has.head | apply Has.tail))) | (apply hpBox F; exact rfl; exact rfl; exact rfl; (· with_reducible first | exact pad_length _ | exact zeros64_length | exact tab_length _ _ | assumption)) | (apply hpAlloc F; exact rfl; exact rfl) | (apply hpSt F; exact rfl; exact rfl; exact rfl; exact rfl; (· repeat (first | exact Upd.head | apply Upd.tail)); (· with_reducible first | exact pad_length _ | exact zeros64_length | exact tab_length _ _ | assumption))))
      refine (l01Deg_pad a _ HA.out.nz la rfl _).mono ?_
      rintro e w2 ⟨rfl, E2⟩
      replace F := F.next E2
      go_wp2_with (first | ((with_reducible show wpList _ _ _ _ _ _); first | (apply hpLd F; exact rfl; exact rfl; exact rfl; (· repeat (first | exact Has.head | apply Has.tail))) | (apply hpBox F; exact rfl; exact rfl; exact rfl; (· with_reducible first | exact pad_length _ | exact zeros64_length | exact tab_length _ _ | assumption)) | (apply hpAlloc F; exact rfl; exact rfl) | (apply hpSt F; exact rfl; exact rfl; exact rfl; exact rfl; (· repeat (first | exact Upd.head | apply Upd.tail)); (· with_reducible first | exact pad_length _ | exact zeros64_length | exact tab_length _ _ | assumption))))
      refine (l01Deg_pad b _ HB.out.nz lb rfl _).mono ?_
      rintro e w3 ⟨rfl, E3⟩
      replace F := F.next E3
      go_wp2_with (first | (go_at_call 84; refine (l01Bezout_any p a b HP.out HA.out HB.out la lb NE.out _).mono ?_; rintro e w4 ⟨rfl, E4⟩; replace F := F.next E4) | ((with_reducible show wpList _ _ _ _ _ _); first | (apply hpLd F; exact rfl; exact rfl; exact rfl; (· repeat (first | exact Has.head | apply Has.tail))) | (apply hpBox F; exact rfl; exact rfl; exact rfl; (· with_reducible first | exact pad_length _ | exact zeros64_length | exact tab_length _ _ | assumption)) | (apply hpAlloc F; exact rfl; exact rfl) | (apply hpSt F; exact rfl; exact rfl; exact rfl; exact rfl; (· repeat (first | exact Upd.head | apply Upd.tail)); (· with_reducible first | exact pad_length _ | exact zeros64_length | exact tab_length _ _ | assumption))))
      clear F
      intro gd w1 F
      go_wp2_with (first | ((with_reducible show wpList _ _ _ _ _ _); first | (apply hpLd F; exact rfl; exact rfl; exact rfl; (· repeat (first | exact Has.head | apply Has.tail))) | (apply hpBox F; exact rfl; exact rfl; exact rfl; (· with_reducible first | exact pad_length _ | exact zeros64_length | exact tab_length _ _ | assumption)) | (apply hpAlloc F; exact rfl; exact rfl) | (apply hpSt F; exact rfl; exact rfl; exact rfl; exact rfl; (· repeat (first | exact Upd.head | apply Upd.tail)); (· with_reducible first | exact pad_length _ | exact zeros64_length | exact tab_length _ _ | assumption))))
      clear F
      intro gu w1 F
      go_wp2_with (first | ((with_reducible show wpList _ _ _ _ _ _); first | (apply hpLd F; exact rfl; exact rfl; exact rfl; (· repeat (first | exact Has.head | apply Has.tail))) | (apply hpBox F; exact rfl; exact rfl; exact rfl; (· with_reducible first | exact pad_length _ | exact zeros64_length | exact tab_length _ _ | assumption)) | (apply hpAlloc F; exact rfl; exact rfl) | (apply hpSt F; exact rfl; exact rfl; exact rfl; exact rfl; (· repeat (first | exact Upd.head | apply Upd.tail)); (· with_reducible first | exact pad_length _ | exact zeros64_length | exact tab_length _ _ | assumption))))
      clear F
      intro gv w1 F
      go_wp2_with (first | ((with_reducible show wpList _ _ _ _ _ _); first | (apply hpLd F; exact rfl; exact rfl; exact rfl; (· repeat (first | exact Has.head | apply Has.tail))) | (apply hpBox F; exact rfl; exact rfl; exact rfl; (· with_reducible first | exact pad_length _ | exact zeros64_length | exact tab_length _ _ | assumption)) | (apply hpAlloc F; exact rfl; exact rfl) | (apply hpSt F; exact rfl; exact rfl; exact rfl; exact rfl; (· repeat (first | exact Upd.head | apply Upd.tail)); (· with_reducible first | exact pad_length _ | exact zeros64_length | exact tab_length _ _ | assumption))))
      clear F
      intro w1 F
      try simp only [List.set_cons_zero, List.set_cons_succ] at F
      go_wp2_with (first | ((with_reducible show wpList _ _ _ _ _ _); first | (apply hpLd F; exact rfl; exact rfl; exact rfl; (· repeat (first | exact Has.head | apply Has.tail))) | (apply hpBox F; exact rfl; exact rfl; exact rfl; (· with_reducible first | exact pad_length _ | exact zeros64_length | exact tab_length _ _ | assumption)) | (apply hpAlloc F; exact rfl; exact rfl) | (apply hpSt F; exact rfl; exact rfl; exact rfl; exact rfl; (· repeat (first | exact Upd.head | apply Upd.tail)); (· with_reducible first | exact pad_length _ | exact zeros64_length | exact tab_length _ _ | assumption))))
      clear F
      intro w1 F
      try simp only [List.set_cons_zero, List.set_cons_succ] at F
      go_wp2_with (first | ((with_reducible show wpList _ _ _ _ _ _); first | (apply hpLd F; exact rfl; exact rfl; exact rfl; (· repeat (first | exact Has.head | apply Has.tail))) | (apply hpBox F; exact rfl; exact rfl; exact rfl; (· with_reducible first | exact pad_length _ | exact zeros64_length | exact tab_length _ _ | assumption)) | (apply hpAlloc F; exact rfl; exact rfl) | (apply hpSt F; exact rfl; exact rfl; exact rfl; exact rfl; (· repeat (first | exact Upd.head | apply Upd.tail)); (· with_reducible first | exact pad_length _ | exact zeros64_length | exact tab_length _ _ | assumption))))
      clear F
      intro w1 F
      try simp only [List.set_cons_zero, List.set_cons_succ] at F
      go_wp2_with (first | ((with_reducible show wpList _ _ _ _ _ _); first | (apply hpLd F; exact rfl; exact rfl; exact rfl; (· repeat (first | exact Has.head | apply Has.tail))) | (apply hpBox F; exact rfl; exact rfl; exact rfl; (· with_reducible first | exact pad_length _ | exact zeros64_length | exact tab_length _ _ | assumption)) | (apply hpAlloc F; exact rfl; exact rfl) | (apply hpSt F; exact rfl; exact rfl; exact rfl; exact rfl; (· repeat (first | exact Upd.head | apply Upd.tail)); (· with_reducible first | exact pad_length _ | exact zeros64_length | exact tab_length _ _ | assumption))))
      clear F
      intro w1 F
      try simp only [List.set_cons_zero, List.set_cons_succ] at F
      go_wp2_with (first | ((with_reducible show wpList _ _ _ _ _ _); first | (apply hpLd F; exact rfl; exact rfl; exact rfl; (· repeat (first | exact Has.head | apply Has.tail))) | (apply hpBox F; exact rfl; exact rfl; exact rfl; (· with_reducible first | exact pad_length _ | exact zeros64_length | exact tab_length _ _ | assumption)) | (apply hpAlloc F; exact rfl; exact rfl) | (apply hpSt F; exact rfl; exact rfl; exact rfl; exact rfl; (· repeat (first | exact Upd.head | apply Upd.tail)); (· with_reducible first | exact pad_length _ | exact zeros64_length | exact tab_length _ _ | assumption))))
      exact bodyPost_ret (res_c rfl rfl (F.at_ 3 rfl) (pad_length _) Tryz.underlying25 infoPoly) rfl ⟨by rw [G.out], F.ext⟩
    · have t1 : decide ((a.length : Int) - 1 < 0) = false := by simp; omega
      clear za
      go_enter Tryz.func63, Tryz.ntmps63
      go_wp2_with (first | ((with_reducible show wpList _ _ _ _ _ _); first | (apply hpLd F; exact rfl; exact rfl; exact rfl; (· repeat (first | exact Has.head | apply Has.tail))) | (apply hpBox F; exact rfl; exact rfl; exact rfl; (· with_reducible first | exact pad_length _ | exact zeros64_length | exact tab_length _ _ | assumption)) | (apply hpAlloc F; exact rfl; exact rfl) | (apply hpSt F; exact rfl; exact rfl; exact rfl; exact rfl; (· repeat (first | exact Upd.head | apply Upd.tail)); (· with_reducible first | exact pad_length _ | exact zeros64_length | exact tab_length _ _ | assumption))))
      clear F
      intro ga w1 F
      go_wp2_with (first | ((with_reducible show wpList _ _ _ _ _ _); first | (apply hpLd F; exact rfl; exact rfl; exact rfl; (· repeat (first | exact Has.head | apply Has.tail))) | (apply hpBox F; exact rfl; exact rfl; exact rfl; (· with_reducible first | exact pad_length _ | exact zeros64_length | exact tab_length _ _ | assumption)) | (apply hpAlloc F; exact rfl; exact rfl) | (apply hpSt F; exact rfl; exact rfl; exact rfl; exact rfl; (· repeat (first | exact Upd.head | apply Upd.tail)); (· with_reducible first | exact pad_length _ | exact zeros64_length | exact tab_length _ _ | assumption))))
      clear F
      intro gb w1 F
      go_wp2_with (first | ((with_reducible show wpList _ _ _ _ _ _); first | (apply hpLd F; exact rfl; exact rfl; exact rfl; (· repeat (first | exact Has.head | apply Has.tail))) | (apply hpBox F; exact rfl; exact rfl; exact rfl; (· with_reducible first | exact pad_length _ | exact zeros64_length | exact tab_length _ _ | assumption)) | (apply hpAlloc F; exact rfl; exact rfl) | (apply hpSt F; exact rfl; exact rfl; exact rfl; exact rfl; (· repeat (first | exact Upd.head | apply Upd.tail)); (· with_reducible first | exact pad_length _ | exact zeros64_length | exact tab_length _ _ | assumption))))
      clear F
      intro z1 w1 F
      go_wp2_with (first | ((with_reducible show wpList _ _ _ _ _ _); first | (apply hpLd F; exact rfl; exact rfl; exact rfl; (· repeat (first | exact Has.head | apply Has.tail))) | (apply hpBox F; exact rfl; exact rfl; exact rfl; (· with_reducible first | exact pad_length _ | exact zeros64_length | exact tab_length _ _ | assumption)) | (apply hpAlloc F; exact rfl; exact rfl) | (apply hpSt F; exact rfl; exact rfl; exact rfl; exact rfl; (· repeat (first | exact Upd.head | apply Upd.tail)); (· with_reducible first | exact pad_length _ | exact zeros64_length | exact tab_length _ _ | assumption))))
      refine (l01Deg_pad a _ HA.out.nz la rfl _).mono ?_
      rintro e w2 ⟨rfl, E2⟩
      replace F := F.next E2
      go_wp2_with (first | (go_at_call 84; refine (l01Bezout_any p a b HP.out HA.out HB.out la lb NE.out _).mono ?_; rintro e w4 ⟨rfl, E4⟩; replace F := F.next E4) | ((with_reducible show wpList _ _ _ _ _ _); first | (apply hpLd F; exact rfl; exact rfl; exact rfl; (· repeat (first | exact Has.head | apply Has.tail))) | (apply hpBox F; exact rfl; exact rfl; exact rfl; (· with_reducible first | exact pad_length _ | exact zeros64_length | exact tab_length _ _ | assumption)) | (apply hpAlloc F; exact rfl; exact rfl) | (apply hpSt F; exact rfl; exact rfl; exact rfl; exact rfl; (· repeat (first | exact Upd.head | apply Upd.tail)); (· with_reducible first | exact pad_length _ | exact zeros64_length | exact tab_length _ _ | assumption))))
      clear F
      intro gd w1 F
      go_wp2_with (first | ((with_reducible show wpList _ _ _ _ _ _); first | (apply hpLd F; exact rfl; exact rfl; exact rfl; (· repeat (first | exact Has.head | apply Has.tail))) | (apply hpBox F; exact rfl; exact rfl; exact rfl; (· with_reducible first | exact pad_length _ | exact zeros64_length | exact tab_length _ _ | assumption)) | (apply hpAlloc F; exact rfl; exact rfl) | (apply hpSt F; exact rfl; exact rfl; exact rfl; exact rfl; (· repeat (first | exact Upd.head | apply Upd.tail)); (· with_reducible first | exact pad_length _ | exact zeros64_length | exact tab_length _ _ | assumption))))
      clear F
      intro gu w1 F
      go_wp2_with (first | ((with_reducible show wpList _ _ _ _ _ _); first | (apply hpLd F; exact rfl; exact rfl; exact rfl; (· repeat (first | exact Has.head | apply Has.tail))) | (apply hpBox F; exact rfl; exact rfl; exact rfl; (· with_reducible first | exact pad_length _ | exact zeros64_length | exact tab_length _ _ | assumption)) | (apply hpAlloc F; exact rfl; exact rfl) | (apply hpSt F; exact rfl; exact rfl; exact rfl; exact rfl; (· repeat (first | exact Upd.head | apply Upd.tail)); (· with_reducible first | exact pad_length _ | exact zeros64_length | exact tab_length _ _ | assumption))))
      clear F
      intro gv w1 F
      go_wp2_with (first | ((with_reducible show wpList _ _ _ _ _ _); first | (apply hpLd F; exact rfl; exact rfl; exact rfl; (· repeat (first | exact Has.head | apply Has.tail))) | (apply hpBox F; exact rfl; exact rfl; exact rfl; (· with_reducible first | exact pad_length _ | exact zeros64_length | exact tab_length _ _ | assumption)) | (apply hpAlloc F; exact rfl; exact rfl) | (apply hpSt F; exact rfl; exact rfl; exact rfl; exact rfl; (· repeat (first | exact Upd.head | apply Upd.tail)); (· with_reducible first | exact pad_length _ | exact zeros64_length | exact tab_length _ _ | assumption))))
      clear F
      intro w1 F
      try simp only [List.set_cons_zero, List.set_cons_succ] at F
      go_wp2_with (first | ((with_reducible show wpList _ _ _ _ _ _); first | (apply hpLd F; exact rfl; exact rfl; exact rfl; (· repeat (first | exact Has.head | apply Has.tail))) | (apply hpBox F; exact rfl; exact rfl; exact rfl; (· with_reducible first | exact pad_length _ | exact zeros64_length | exact tab_length _ _ | assumption)) | (apply hpAlloc F; exact rfl; exact rfl) | (apply hpSt F; exact rfl; exact rfl; exact rfl; exact rfl; (· repeat (first | exact Upd.head | apply Upd.tail)); (· with_reducible first | exact pad_length _ | exact zeros64_length | exact tab_length _ _ | assumption))))
      clear F
      intro w1 F
      try simp only [List.set_cons_zero, List.set_cons_succ] at F
      go_wp2_with (first | ((with_reducible show wpList _ _ _ _ _ _); first | (apply hpLd F; exact rfl; exact rfl; exact rfl; (· repeat (first | exact Has.head | apply Has.tail))) | (apply hpBox F; exact rfl; exact rfl; exact rfl; (· with_reducible first | exact pad_length _ | exact zeros64_length | exact tab_length _ _ | assumption)) | (apply hpAlloc F; exact rfl; exact rfl) | (apply hpSt F; exact rfl; exact rfl; exact rfl; exact rfl; (· repeat (first | exact Upd.head | apply Upd.tail)); (· with_reducible first | exact pad_length _ | exact zeros64_length | exact tab_length _ _ | assumption))))
      clear F
      intro w1 F
      try simp only [List.set_cons_zero, List.set_cons_succ] at F
      go_wp2_with (first | ((with_reducible show wpList _ _ _ _ _ _); first | (apply hpLd F; exact rfl; exact rfl; exact rfl; (· repeat (first | exact Has.head | apply Has.tail))) | (apply hpBox F; exact rfl; exact rfl; exact rfl; (· with_reducible first | exact pad_length _ | exact zeros64_length | exact tab_length _ _ | assumption)) | (apply hpAlloc F; exact rfl; exact rfl) | (apply hpSt F; exact rfl; exact rfl; exact rfl; exact rfl; (· repeat (first | exact Upd.head | apply Upd.tail)); (· with_reducible first | exact pad_length _ | exact zeros64_length | exact tab_length _ _ | assumption))))
      clear F
      intro w1 F
      try simp only [List.set_cons_zero, List.set_cons_succ] at F
      go_wp2_with (first | ((with_reducible show wpList _ _ _ _ _ _); first | (apply hpLd F; exact rfl; exact rfl; exact rfl; (· repeat (first | exact Has.head | apply Has.tail))) | (apply hpBox F; exact rfl; exact rfl; exact rfl; (· with_reducible first | exact pad_length _ | exact zeros64_length | exact tab_length _ _ | assumption)) | (apply hpAlloc F; exact rfl; exact rfl) | (apply hpSt F; exact rfl; exact rfl; exact rfl; exact rfl; (· repeat (first | exact Upd.head | apply Upd.tail)); (· with_reducible first | exact pad_length _ | exact zeros64_length | exact tab_length _ _ | assumption))))
      exact bodyPost_ret (res_c rfl rfl (F.at_ 3 rfl) (pad_length _) Tryz.underlying25 infoPoly) rfl ⟨by rw [G.out], F.ext⟩

end Go.Proofs.YtaemiknaiccijaaGreat

/- The reference's powers by a modulus, and its test for irreducible polynomials. -/
namespace Go.Proofs.YtaemiknaiccijaaGreat
open Go.RowKit

def PwRel (p : Int) (a m : List Int) (k0 : Nat) (w : World) (ga gm z go gs n : Nat) (i : Value) (wr : World) : Prop :=
  ∃ (k : Nat) (out sq : List Int), k ≤ n ∧ i = .int .i64 k ∧ (k : Int) ≤ 1000000000000 ∧ Can p out ∧ out.length < m.length ∧ Can p sq ∧ sq.length < m.length ∧ pwF p m n k out sq = powM p a k0 m ∧
    Hp w wr [(gs, pad sq), (go, pad out), (z, zeros64), (gm, pad m), (ga, pad a)]

set_option maxRecDepth 100000 in
set_option maxHeartbeats 2000000 in
theorem l01PowMod_any (p : Int) (a m : List Int) (k : Nat) (hk : (k : Int) ≤ 1000000000000) (hp : PrimeP p) (ha : Can p a) (hm : Can p m) (la : a.length ≤ 64) (lm : m.length ≤ 64) (hne : 0 < m.length) (w : World) :
    Calls Tryz.prog 67 #[.int .i64 p, .agg (u8s (pad a)), .int .i64 k, .agg (u8s (pad m))] w fun e w' => e = .returned (.agg (u8s (pad (powM p a k m)))) ∧ Ext w w' := by
  have hz := zlit
  have HP := Lib.hid hp
  have HA := Lib.hid ha
  have HM := Lib.hid hm
  have NE := Lib.hid hne
  have lo := hp.lo
  have hi := hp.hi
  have ONE := Lib.hid (can_one (show 1 < p by omega))
  have D1 := Lib.hid (dr_can (show 0 < p by omega) ONE.out.inp (b := m))
  have D2 := Lib.hid (dr_can (show 0 < p by omega) ha.inp (b := m))
  have L1 := dr_lt hp hm hne (a := [1])
  have L2 := dr_lt hp hm hne (a := a)
  clear ha hm hp hne
  have F := Hp.start w
  go_enter Tryz.func67, Tryz.ntmps67
  go_wp2_with (first | ((with_reducible show wpList _ _ _ _ _ _); first | (apply hpLd F; exact rfl; exact rfl; exact rfl; (· repeat (first | exact Has.head | apply Has.tail))) | (apply hpBox F; exact rfl; exact rfl; exact rfl; (· with_reducible first | exact pad_length _ | exact zeros64_length | exact tab_length _ _ | assumption)) | (apply hpAlloc F; exact rfl; exact rfl) | (apply hpSt F; exact rfl; exact rfl; exact rfl; exact rfl; (· repeat (first | exact Upd.head | apply Upd.tail)); (· with_reducible first | exact pad_length _ | exact zeros64_length | exact tab_length _ _ | assumption))))
  clear F
  intro ga w1 F
  go_wp2_with (first | ((with_reducible show wpList _ _ _ _ _ _); first | (apply hpLd F; exact rfl; exact rfl; exact rfl; (· repeat (first | exact Has.head | apply Has.tail))) | (apply hpBox F; exact rfl; exact rfl; exact rfl; (· with_reducible first | exact pad_length _ | exact zeros64_length | exact tab_length _ _ | assumption)) | (apply hpAlloc F; exact rfl; exact rfl) | (apply hpSt F; exact rfl; exact rfl; exact rfl; exact rfl; (· repeat (first | exact Upd.head | apply Upd.tail)); (· with_reducible first | exact pad_length _ | exact zeros64_length | exact tab_length _ _ | assumption))))
  clear F
  intro gm w1 F
  go_wp2_with (first | ((with_reducible show wpList _ _ _ _ _ _); first | (apply hpLd F; exact rfl; exact rfl; exact rfl; (· repeat (first | exact Has.head | apply Has.tail))) | (apply hpBox F; exact rfl; exact rfl; exact rfl; (· with_reducible first | exact pad_length _ | exact zeros64_length | exact tab_length _ _ | assumption)) | (apply hpAlloc F; exact rfl; exact rfl) | (apply hpSt F; exact rfl; exact rfl; exact rfl; exact rfl; (· repeat (first | exact Upd.head | apply Upd.tail)); (· with_reducible first | exact pad_length _ | exact zeros64_length | exact tab_length _ _ | assumption))))
  clear F
  intro z w1 F
  go_wp2_with (first | ((with_reducible show wpList _ _ _ _ _ _); first | (apply hpLd F; exact rfl; exact rfl; exact rfl; (· repeat (first | exact Has.head | apply Has.tail))) | (apply hpBox F; exact rfl; exact rfl; exact rfl; (· with_reducible first | exact pad_length _ | exact zeros64_length | exact tab_length _ _ | assumption)) | (apply hpAlloc F; exact rfl; exact rfl) | (apply hpSt F; exact rfl; exact rfl; exact rfl; exact rfl; (· repeat (first | exact Upd.head | apply Upd.tail)); (· with_reducible first | exact pad_length _ | exact zeros64_length | exact tab_length _ _ | assumption))))
  refine region_ext 10 (by kernel_rfl) (by kernel_rfl) (by kernel_rfl) [8,9] [eqv (.int .i64 p), eqv (.agg (u8s (pad [1]))), eqv (.agg (u8s (pad m))), eqv (.agg (u8s (pad (dr p [1] m)))), eqv (.int .i64 p), eqv (.agg (u8s (pad a))), eqv (.agg (u8s (pad m))), eqv (.agg (u8s (pad (dr p a m)))), isArr w1.heap.size 25 zeros64, isArr w1.heap.size 25 zeros64]
    ⟨mono_eqv _, mono_eqv _, mono_eqv _, mono_eqv _, mono_eqv _, mono_eqv _, mono_eqv _, mono_eqv _, mono_arr _ _ _, mono_arr _ _ _, trivial⟩ (fun vals => ?_) (fun vals w9 hE9 hS9 hN9 => ?_)
  · simp only [List.take_succ_cons, List.take_zero]
    refine ⟨fun w8 hE8 hk => doesK_plain rfl fun K hK => ?_, ?_⟩
    · go_simp
      (try go_bits)
      exact hK _ _ rfl (Ext.refl _) rfl
    simp only [Act.put, List.setIfInBounds_toArray, List.set_cons_zero, List.set_cons_succ]
    refine ⟨fun w8 hE8 hk => doesK_plain rfl fun K hK => ?_, ?_⟩
    · go_simp
      refine (l01One_any _).mono ?_
      rintro e7 w7 ⟨rfl, hE7⟩
      exact hK _ _ rfl hE7 rfl
    simp only [Act.put, List.setIfInBounds_toArray, List.set_cons_zero, List.set_cons_succ]
    refine ⟨fun w8 hE8 hk => doesK_plain rfl fun K hK => ?_, ?_⟩
    · exact wp_load_row _ _ rfl _ (by first | rfl | simp [*]) _ _ (0, 0) _ ((F.at_ 1 rfl).ext hE8) Tryz.underlying25 rfl (by rw [infoPoly, u8s_size, pad_length _]) (hK _ _ rfl (Ext.refl _) rfl)
    simp only [Act.put, List.setIfInBounds_toArray, List.set_cons_zero, List.set_cons_succ]
    refine ⟨fun w8 hE8 hk => doesK_plain rfl fun K hK => ?_, ?_⟩
    · have k0 : vals 0 = .int .i64 p := hk 0 (by decide) (by kernel_rfl)
      have k1 : vals 1 = .agg (u8s (pad [1])) := hk 1 (by decide) (by kernel_rfl)
      have k2 : vals 2 = .agg (u8s (pad m)) := hk 2 (by decide) (by kernel_rfl)
      go_simp
      refine (l01Mod_any p [1] m HP.out ONE.out HM.out (by decide) lm NE.out _).mono ?_
      rintro e7 w7 ⟨rfl, hE7⟩
      exact hK _ _ rfl hE7 rfl
    simp only [Act.put, List.setIfInBounds_toArray, List.set_cons_zero, List.set_cons_succ]
    refine ⟨fun w8 hE8 hk => doesK_plain rfl fun K hK => ?_, ?_⟩
    · go_simp
      (try go_bits)
      exact hK _ _ rfl (Ext.refl _) rfl
    simp only [Act.put, List.setIfInBounds_toArray, List.set_cons_zero, List.set_cons_succ]
    refine ⟨fun w8 hE8 hk => doesK_plain rfl fun K hK => ?_, ?_⟩
    · exact wp_load_row _ _ rfl _ (by first | rfl | simp [*]) _ _ (0, 0) _ ((F.at_ 2 rfl).ext hE8) Tryz.underlying25 rfl (by rw [infoPoly, u8s_size, pad_length _]) (hK _ _ rfl (Ext.refl _) rfl)
    simp only [Act.put, List.setIfInBounds_toArray, List.set_cons_zero, List.set_cons_succ]
    refine ⟨fun w8 hE8 hk => doesK_plain rfl fun K hK => ?_, ?_⟩
    · exact wp_load_row _ _ rfl _ (by first | rfl | simp [*]) _ _ (0, 0) _ ((F.at_ 1 rfl).ext hE8) Tryz.underlying25 rfl (by rw [infoPoly, u8s_size, pad_length _]) (hK _ _ rfl (Ext.refl _) rfl)
    simp only [Act.put, List.setIfInBounds_toArray, List.set_cons_zero, List.set_cons_succ]
    refine ⟨fun w8 hE8 hk => doesK_plain rfl fun K hK => ?_, ?_⟩
    · have k3 : vals 3 = .agg (u8s (pad (dr p [1] m))) := hk 3 (by decide) (by kernel_rfl)
      have k4 : vals 4 = .int .i64 p := hk 4 (by decide) (by kernel_rfl)
      have k5 : vals 5 = .agg (u8s (pad a)) := hk 5 (by decide) (by kernel_rfl)
      have k6 : vals 6 = .agg (u8s (pad m)) := hk 6 (by decide) (by kernel_rfl)
      go_simp
      refine (l01Mod_any p a m HP.out HA.out HM.out la lm NE.out _).mono ?_
      rintro e7 w7 ⟨rfl, hE7⟩
      exact hK _ _ rfl hE7 rfl
    simp only [Act.put, List.setIfInBounds_toArray, List.set_cons_zero, List.set_cons_succ]
    refine ⟨fun w8 hE8 hk => doesK_plain rfl fun K hK => ?_, ?_⟩
    · go_simp
      exact hK _ _ ⟨⟨_, rfl, by have := hE8.size; omega, Arr.new _ _ _⟩, rfl, by simp⟩ ((Ext.refl _).alloc _) rfl
    simp only [Act.put, List.setIfInBounds_toArray, List.set_cons_zero, List.set_cons_succ]
    refine ⟨fun w8 hE8 hk => doesK_plain rfl fun K hK => ?_, ?_⟩
    · go_simp
      exact hK _ _ ⟨⟨_, rfl, by have := hE8.size; omega, Arr.new _ _ _⟩, rfl, by simp⟩ ((Ext.refl _).alloc _) rfl
    exact trivial
  simp only [List.take_succ_cons, List.take_zero, List.drop_succ_cons, List.drop_zero, preAct, Nat.reduceAdd, Act.put, List.setIfInBounds_toArray, List.set_cons_zero, List.set_cons_succ]
  have k0 : vals 0 = .int .i64 p := hS9 0 (by decide) 
  have k1 : vals 1 = .agg (u8s (pad [1])) := hS9 1 (by decide) 
  have k2 : vals 2 = .agg (u8s (pad m)) := hS9 2 (by decide) 
  have k3 : vals 3 = .agg (u8s (pad (dr p [1] m))) := hS9 3 (by decide) 
  have k4 : vals 4 = .int .i64 p := hS9 4 (by decide) 
  have k5 : vals 5 = .agg (u8s (pad a)) := hS9 5 (by decide) 
  have k6 : vals 6 = .agg (u8s (pad m)) := hS9 6 (by decide) 
  have k7 : vals 7 = .agg (u8s (pad (dr p a m))) := hS9 7 (by decide) 
  obtain ⟨g8, k8, b8, a8⟩ : isArr w1.heap.size 25 zeros64 (vals 8) _ := hS9 8 (by decide) 
  obtain ⟨g9, k9, b9, a9⟩ : isArr w1.heap.size 25 zeros64 (vals 9) _ := hS9 9 (by decide) 
  simp only [k0, k1, k2, k3, k4, k5, k6, k7, k8, k9]
  have ne9 : g8 ≠ g9 := fun e => hN9 8 9 (by decide) (by decide) rfl rfl (by decide) (by rw [k8, k9, e])
  clear hN9 hS9 k0 k1 k2 k3 k4 k5 k6 k7 k8 k9
  replace F := F.addNew2 hE9 a8 zeros64_length b8 a9 zeros64_length b9 ne9
  clear hE9 a8 b8 a9 b9 ne9
  go_wp2_with (first | ((with_reducible show wpList _ _ _ _ _ _); first | (apply hpLd F; exact rfl; exact rfl; exact rfl; (· repeat (first | exact Has.head | apply Has.tail))) | (apply hpBox F; exact rfl; exact rfl; exact rfl; (· with_reducible first | exact pad_length _ | exact zeros64_length | exact tab_length _ _ | assumption)) | (apply hpAlloc F; exact rfl; exact rfl) | (apply hpSt F; exact rfl; exact rfl; exact rfl; exact rfl; (· repeat (first | exact Upd.head | apply Upd.tail)); (· with_reducible first | exact pad_length _ | exact zeros64_length | exact tab_length _ _ | assumption))))
  clear F
  intro w1 F
  try simp only [List.set_cons_zero, List.set_cons_succ] at F
  go_wp2_with (first | ((with_reducible show wpList _ _ _ _ _ _); first | (apply hpLd F; exact rfl; exact rfl; exact rfl; (· repeat (first | exact Has.head | apply Has.tail))) | (apply hpBox F; exact rfl; exact rfl; exact rfl; (· with_reducible first | exact pad_length _ | exact zeros64_length | exact tab_length _ _ | assumption)) | (apply hpAlloc F; exact rfl; exact rfl) | (apply hpSt F; exact rfl; exact rfl; exact rfl; exact rfl; (· repeat (first | exact Upd.head | apply Upd.tail)); (· with_reducible first | exact pad_length _ | exact zeros64_length | exact tab_length _ _ | assumption))))
  clear F
  intro w1 F
  try simp only [List.set_cons_zero, List.set_cons_succ] at F
  go_wp2_with (first | ((with_reducible show wpList _ _ _ _ _ _); first | (apply hpLd F; exact rfl; exact rfl; exact rfl; (· repeat (first | exact Has.head | apply Has.tail))) | (apply hpBox F; exact rfl; exact rfl; exact rfl; (· with_reducible first | exact pad_length _ | exact zeros64_length | exact tab_length _ _ | assumption)) | (apply hpAlloc F; exact rfl; exact rfl) | (apply hpSt F; exact rfl; exact rfl; exact rfl; exact rfl; (· repeat (first | exact Upd.head | apply Upd.tail)); (· with_reducible first | exact pad_length _ | exact zeros64_length | exact tab_length _ _ | assumption))))
  go_loopg [2] k (fun n i wr => PwRel p a m k w ga gm z g8 g9 n i wr)
  case atStart => exact ⟨k, _, _, Nat.le_refl _, rfl, hk, D1.out, L1, D2.out, L2, rfl, F⟩
  case round =>
    clear F D1 D2 L1 L2 hk
    obtain ⟨kk, out, sq, hk, rfl, hkb, co, lo1, cs, ls, hpw, F⟩ := hrel
    have HPW := Lib.hid hpw
    have CO := Lib.hid co
    have CS := Lib.hid cs
    clear hpw co cs
    by_cases k0 : kk = 0
    · subst k0
      have G : Hid (pad out = pad (powM p a k m)) := Lib.hid (by rw [← HPW.out, pwF_zero])
      rw [G.out] at F
      go_wp2_with (first | ((with_reducible show wpList _ _ _ _ _ _); first | (apply hpLd F; exact rfl; exact rfl; exact rfl; (· repeat (first | exact Has.head | apply Has.tail))) | (apply hpBox F; exact rfl; exact rfl; exact rfl; (· with_reducible first | exact pad_length _ | exact zeros64_length | exact tab_length _ _ | assumption)) | (apply hpAlloc F; exact rfl; exact rfl) | (apply hpSt F; exact rfl; exact rfl; exact rfl; exact rfl; (· repeat (first | exact Upd.head | apply Upd.tail)); (· with_reducible first | exact pad_length _ | exact zeros64_length | exact tab_length _ _ | assumption))))
      clear F
      intro w1 F
      try simp only [List.set_cons_zero, List.set_cons_succ] at F
      go_wp2_with (first | ((with_reducible show wpList _ _ _ _ _ _); first | (apply hpLd F; exact rfl; exact rfl; exact rfl; (· repeat (first | exact Has.head | apply Has.tail))) | (apply hpBox F; exact rfl; exact rfl; exact rfl; (· with_reducible first | exact pad_length _ | exact zeros64_length | exact tab_length _ _ | assumption)) | (apply hpAlloc F; exact rfl; exact rfl) | (apply hpSt F; exact rfl; exact rfl; exact rfl; exact rfl; (· repeat (first | exact Upd.head | apply Upd.tail)); (· with_reducible first | exact pad_length _ | exact zeros64_length | exact tab_length _ _ | assumption))))
      exact bodyPost_ret (res_c rfl rfl (F.at_ 2 rfl) (pad_length _) Tryz.underlying25 infoPoly) rfl ⟨rfl, F.ext⟩
    · have K0 := Lib.hid k0
      have kp : 1 ≤ kk := by omega
      obtain ⟨n, rfl⟩ : ∃ n, gk = n + 1 := ⟨gk - 1, by omega⟩
      have M1 := mulm_spec HP.out out sq HM.out NE.out
      have M2 := mulm_spec HP.out sq sq HM.out NE.out
      have C1 := Lib.hid M1.1
      have C2 := Lib.hid M2.1
      have L1 := M1.2
      have L2 := M2.2
      have hd : (kk : Int) / 2 = ((kk / 2 : Nat) : Int) := by omega
      have HD := Lib.hid hd
      clear k0 M1 M2 hd
      by_cases hodd : kk % 2 = 1
      · have to : ((kk : Int) % 2 == 1) = true := by simp; omega
        have ST := Lib.hid (pwF_step p m n kk out sq K0.out)
        have HO := Lib.hid hodd
        clear hodd
        go_wp2_with (first | (go_at_call 51; refine (l01MulMod_any p out sq m HP.out CO.out CS.out HM.out (by omega) (by omega) lm NE.out _).mono ?_; rintro e w2 ⟨rfl, E2⟩; replace F := F.next E2) | ((with_reducible show wpList _ _ _ _ _ _); first | (apply hpLd F; exact rfl; exact rfl; exact rfl; (· repeat (first | exact Has.head | apply Has.tail))) | (apply hpBox F; exact rfl; exact rfl; exact rfl; (· with_reducible first | exact pad_length _ | exact zeros64_length | exact tab_length _ _ | assumption)) | (apply hpAlloc F; exact rfl; exact rfl) | (apply hpSt F; exact rfl; exact rfl; exact rfl; exact rfl; (· repeat (first | exact Upd.head | apply Upd.tail)); (· with_reducible first | exact pad_length _ | exact zeros64_length | exact tab_length _ _ | assumption))))
        clear F
        intro w1 F
        try simp only [List.set_cons_zero, List.set_cons_succ] at F
        go_wp2_with (first | (go_at_call 51; refine (l01MulMod_any p sq sq m HP.out CS.out CS.out HM.out (by omega) (by omega) lm NE.out _).mono ?_; rintro e w2 ⟨rfl, E2⟩; replace F := F.next E2) | ((with_reducible show wpList _ _ _ _ _ _); first | (apply hpLd F; exact rfl; exact rfl; exact rfl; (· repeat (first | exact Has.head | apply Has.tail))) | (apply hpBox F; exact rfl; exact rfl; exact rfl; (· with_reducible first | exact pad_length _ | exact zeros64_length | exact tab_length _ _ | assumption)) | (apply hpAlloc F; exact rfl; exact rfl) | (apply hpSt F; exact rfl; exact rfl; exact rfl; exact rfl; (· repeat (first | exact Upd.head | apply Upd.tail)); (· with_reducible first | exact pad_length _ | exact zeros64_length | exact tab_length _ _ | assumption))))
        clear F
        intro w1 F
        try simp only [List.set_cons_zero, List.set_cons_succ] at F
        go_wp2_with (first | ((with_reducible show wpList _ _ _ _ _ _); first | (apply hpLd F; exact rfl; exact rfl; exact rfl; (· repeat (first | exact Has.head | apply Has.tail))) | (apply hpBox F; exact rfl; exact rfl; exact rfl; (· with_reducible first | exact pad_length _ | exact zeros64_length | exact tab_length _ _ | assumption)) | (apply hpAlloc F; exact rfl; exact rfl) | (apply hpSt F; exact rfl; exact rfl; exact rfl; exact rfl; (· repeat (first | exact Upd.head | apply Upd.tail)); (· with_reducible first | exact pad_length _ | exact zeros64_length | exact tab_length _ _ | assumption))))
        go_roundg n
        case measure => omega
        case rel => exact ⟨kk / 2, _, _, by omega, by rw [HD.out], by omega, C1.out, L1, C2.out, L2, by rw [← HPW.out, ST.out, if_pos HO.out], F⟩
      · have to : ((kk : Int) % 2 == 1) = false := by simp; omega
        have ST := Lib.hid (pwF_step p m n kk out sq K0.out)
        have HO := Lib.hid hodd
        clear hodd
        go_wp2_with (first | (go_at_call 51; refine (l01MulMod_any p sq sq m HP.out CS.out CS.out HM.out (by omega) (by omega) lm NE.out _).mono ?_; rintro e w2 ⟨rfl, E2⟩; replace F := F.next E2) | ((with_reducible show wpList _ _ _ _ _ _); first | (apply hpLd F; exact rfl; exact rfl; exact rfl; (· repeat (first | exact Has.head | apply Has.tail))) | (apply hpBox F; exact rfl; exact rfl; exact rfl; (· with_reducible first | exact pad_length _ | exact zeros64_length | exact tab_length _ _ | assumption)) | (apply hpAlloc F; exact rfl; exact rfl) | (apply hpSt F; exact rfl; exact rfl; exact rfl; exact rfl; (· repeat (first | exact Upd.head | apply Upd.tail)); (· with_reducible first | exact pad_length _ | exact zeros64_length | exact tab_length _ _ | assumption))))
        clear F
        intro w1 F
        try simp only [List.set_cons_zero, List.set_cons_succ] at F
        go_wp2_with (first | ((with_reducible show wpList _ _ _ _ _ _); first | (apply hpLd F; exact rfl; exact rfl; exact rfl; (· repeat (first | exact Has.head | apply Has.tail))) | (apply hpBox F; exact rfl; exact rfl; exact rfl; (· with_reducible first | exact pad_length _ | exact zeros64_length | exact tab_length _ _ | assumption)) | (apply hpAlloc F; exact rfl; exact rfl) | (apply hpSt F; exact rfl; exact rfl; exact rfl; exact rfl; (· repeat (first | exact Upd.head | apply Upd.tail)); (· with_reducible first | exact pad_length _ | exact zeros64_length | exact tab_length _ _ | assumption))))
        go_roundg n
        case measure => omega
        case rel => exact ⟨kk / 2, _, _, by omega, by rw [HD.out], by omega, CO.out, lo1, C2.out, L2, by rw [← HPW.out, ST.out, if_neg HO.out], F⟩

def IrRel (p : Int) (m : List Int) (w : World) (gm gp n : Nat) (i : Value) (wr : World) : Prop :=
  ∃ (k c : Nat) (pw : List Int), n = c ∧ k + c = (m.length - 1) / 2 + 1 ∧ i = .int .i64 k ∧ 1 ≤ k ∧ Can p pw ∧ pw.length < m.length ∧ irrF p m c pw = irrS p m ∧ Hp w wr [(gp, pad pw), (gm, pad m)]

set_option maxRecDepth 100000 in
set_option maxHeartbeats 2000000 in
theorem l01Irreducible_any (p : Int) (m : List Int) (hp : PrimeP p) (hm : Can p m) (lm : m.length ≤ 64) (hne : 0 < m.length) (w : World) :
    Calls Tryz.prog 96 #[.int .i64 p, .agg (u8s (pad m))] w fun e w' => e = .returned (.bool (irrS p m)) ∧ Ext w w' := by
  have hz := zlit
  have HP := Lib.hid hp
  have HM := Lib.hid hm
  have NE := Lib.hid hne
  have lo := hp.lo
  have hi := hp.hi
  have TEE := Lib.hid (can_tee (show 1 < p by omega))
  have D1 := Lib.hid (dr_can (show 0 < p by omega) TEE.out.inp (b := m))
  have L1 := dr_lt hp hm hne (a := [0, 1])
  clear hm hp hne
  have F := Hp.start w
  go_enter Tryz.func96, Tryz.ntmps96
  go_wp2_with (first | ((with_reducible show wpList _ _ _ _ _ _); first | (apply hpLd F; exact rfl; exact rfl; exact rfl; (· repeat (first | exact Has.head | apply Has.tail))) | (apply hpBox F; exact rfl; exact rfl; exact rfl; (· with_reducible first | exact pad_length _ | exact zeros64_length | exact tab_length _ _ | assumption)) | (apply hpAlloc F; exact rfl; exact rfl) | (apply hpSt F; exact rfl; exact rfl; exact rfl; exact rfl; (· repeat (first | exact Upd.head | apply Upd.tail)); (· with_reducible first | exact pad_length _ | exact zeros64_length | exact tab_length _ _ | assumption))))
  clear F
  intro gm w1 F
  go_wp2_with (first | ((with_reducible show wpList _ _ _ _ _ _); first | (apply hpLd F; exact rfl; exact rfl; exact rfl; (· repeat (first | exact Has.head | apply Has.tail))) | (apply hpBox F; exact rfl; exact rfl; exact rfl; (· with_reducible first | exact pad_length _ | exact zeros64_length | exact tab_length _ _ | assumption)) | (apply hpAlloc F; exact rfl; exact rfl) | (apply hpSt F; exact rfl; exact rfl; exact rfl; exact rfl; (· repeat (first | exact Upd.head | apply Upd.tail)); (· with_reducible first | exact pad_length _ | exact zeros64_length | exact tab_length _ _ | assumption))))
  refine region_ext 8 (by kernel_rfl) (by kernel_rfl) (by kernel_rfl) [] [eqv (.agg (u8s (pad m))), eqv (.int .i64 ((m.length : Int) - 1)), eqv (.int .i64 p), eqv (.agg (u8s (pad [0, 1]))), eqv (.agg (u8s (pad m))), eqv (.agg (u8s (pad (dr p [0, 1] m)))), isArr w1.heap.size 25 zeros64, eqv (.int .i64 ((m.length : Int) - 1))]
    ⟨mono_eqv _, mono_eqv _, mono_eqv _, mono_eqv _, mono_eqv _, mono_eqv _, mono_arr _ _ _, mono_eqv _, trivial⟩ (fun vals => ?_) (fun vals w9 hE9 hS9 hN9 => ?_)
  · simp only [List.take_succ_cons, List.take_zero]
    refine ⟨fun w8 hE8 hk => doesK_plain rfl fun K hK => ?_, ?_⟩
    · exact wp_load_row _ _ rfl _ (by first | rfl | simp [*]) _ _ (0, 0) _ ((F.at_ 0 rfl).ext hE8) Tryz.underlying25 rfl (by rw [infoPoly, u8s_size, pad_length _]) (hK _ _ rfl (Ext.refl _) rfl)
    simp only [Act.put, List.setIfInBounds_toArray, List.set_cons_zero, List.set_cons_succ]
    refine ⟨fun w8 hE8 hk => doesK_plain rfl fun K hK => ?_, ?_⟩
    · have k0 : vals 0 = .agg (u8s (pad m)) := hk 0 (by decide) (by kernel_rfl)
      go_simp
      refine (l01Deg_pad m _ HM.out.nz lm rfl _).mono ?_
      rintro e7 w7 ⟨rfl, hE7⟩
      exact hK _ _ rfl hE7 rfl
    simp only [Act.put, List.setIfInBounds_toArray, List.set_cons_zero, List.set_cons_succ]
    refine ⟨fun w8 hE8 hk => doesK_plain rfl fun K hK => ?_, ?_⟩
    · go_simp
      (try go_bits)
      exact hK _ _ rfl (Ext.refl _) rfl
    simp only [Act.put, List.setIfInBounds_toArray, List.set_cons_zero, List.set_cons_succ]
    refine ⟨fun w8 hE8 hk => doesK_plain rfl fun K hK => ?_, ?_⟩
    · have k1 : vals 1 = .int .i64 ((m.length : Int) - 1) := hk 1 (by decide) (by kernel_rfl)
      go_simp
      refine (l01T_any _).mono ?_
      rintro e7 w7 ⟨rfl, hE7⟩
      exact hK _ _ rfl hE7 rfl
    simp only [Act.put, List.setIfInBounds_toArray, List.set_cons_zero, List.set_cons_succ]
    refine ⟨fun w8 hE8 hk => doesK_plain rfl fun K hK => ?_, ?_⟩
    · exact wp_load_row _ _ rfl _ (by first | rfl | simp [*]) _ _ (0, 0) _ ((F.at_ 0 rfl).ext hE8) Tryz.underlying25 rfl (by rw [infoPoly, u8s_size, pad_length _]) (hK _ _ rfl (Ext.refl _) rfl)
    simp only [Act.put, List.setIfInBounds_toArray, List.set_cons_zero, List.set_cons_succ]
    refine ⟨fun w8 hE8 hk => doesK_plain rfl fun K hK => ?_, ?_⟩
    · have k2 : vals 2 = .int .i64 p := hk 2 (by decide) (by kernel_rfl)
      have k3 : vals 3 = .agg (u8s (pad [0, 1])) := hk 3 (by decide) (by kernel_rfl)
      have k4 : vals 4 = .agg (u8s (pad m)) := hk 4 (by decide) (by kernel_rfl)
      go_simp
      refine (l01Mod_any p [0, 1] m HP.out TEE.out HM.out (by decide) lm NE.out _).mono ?_
      rintro e7 w7 ⟨rfl, hE7⟩
      exact hK _ _ rfl hE7 rfl
    simp only [Act.put, List.setIfInBounds_toArray, List.set_cons_zero, List.set_cons_succ]
    refine ⟨fun w8 hE8 hk => doesK_plain rfl fun K hK => ?_, ?_⟩
    · go_simp
      exact hK _ _ ⟨_, rfl, by have := hE8.size; omega, Arr.new _ _ _⟩ ((Ext.refl _).alloc _) rfl
    simp only [Act.put, List.setIfInBounds_toArray, List.set_cons_zero, List.set_cons_succ]
    refine ⟨fun w8 hE8 hk => doesK_plain rfl fun K hK => ?_, ?_⟩
    · have k0 : vals 0 = .agg (u8s (pad m)) := hk 0 (by decide) (by kernel_rfl)
      have k1 : vals 1 = .int .i64 ((m.length : Int) - 1) := hk 1 (by decide) (by kernel_rfl)
      have k5 : vals 5 = .agg (u8s (pad (dr p [0, 1] m))) := hk 5 (by decide) (by kernel_rfl)
      obtain ⟨g6, k6, b6, a6⟩ : isArr w1.heap.size 25 zeros64 (vals 6) _ := hk 6 (by decide) (by kernel_rfl)
      go_simp
      (try go_bits)
      exact hK _ _ rfl (Ext.refl _) rfl
    exact trivial
  simp only [List.take_succ_cons, List.take_zero, List.drop_succ_cons, List.drop_zero, preAct, Nat.reduceAdd, Act.put, List.setIfInBounds_toArray, List.set_cons_zero, List.set_cons_succ]
  have k0 : vals 0 = .agg (u8s (pad m)) := hS9 0 (by decide) 
  have k1 : vals 1 = .int .i64 ((m.length : Int) - 1) := hS9 1 (by decide) 
  have k2 : vals 2 = .int .i64 p := hS9 2 (by decide) 
  have k3 : vals 3 = .agg (u8s (pad [0, 1])) := hS9 3 (by decide) 
  have k4 : vals 4 = .agg (u8s (pad m)) := hS9 4 (by decide) 
  have k5 : vals 5 = .agg (u8s (pad (dr p [0, 1] m))) := hS9 5 (by decide) 
  obtain ⟨g6, k6, b6, a6⟩ : isArr w1.heap.size 25 zeros64 (vals 6) _ := hS9 6 (by decide) 
  have k7 : vals 7 = .int .i64 ((m.length : Int) - 1) := hS9 7 (by decide) 
  simp only [k0, k1, k2, k3, k4, k5, k6, k7]
  clear hN9 hS9 k0 k1 k2 k3 k4 k5 k6 k7
  replace F := F.addNew hE9 a6 zeros64_length b6
  clear hE9 a6 b6
  go_wp2_with (first | ((with_reducible show wpList _ _ _ _ _ _); first | (apply hpLd F; exact rfl; exact rfl; exact rfl; (· repeat (first | exact Has.head | apply Has.tail))) | (apply hpBox F; exact rfl; exact rfl; exact rfl; (· with_reducible first | exact pad_length _ | exact zeros64_length | exact tab_length _ _ | assumption)) | (apply hpAlloc F; exact rfl; exact rfl) | (apply hpSt F; exact rfl; exact rfl; exact rfl; exact rfl; (· repeat (first | exact Upd.head | apply Upd.tail)); (· with_reducible first | exact pad_length _ | exact zeros64_length | exact tab_length _ _ | assumption))))
  clear F
  intro w1 F
  try simp only [List.set_cons_zero, List.set_cons_succ] at F
  by_cases n1 : m.length < 2
  · have t1 : decide ((m.length : Int) - 1 < 1) = true := by simp; omega
    have G : Hid (irrS p m = false) := Lib.hid (by unfold irrS; rw [show decide (2 ≤ m.length) = false by simp; omega]; rfl)
    go_wp2
    go_ret
    exact ⟨ret_bool G.out.symm, F.ext⟩
  · have t1 : decide ((m.length : Int) - 1 < 1) = false := by simp; omega
    have G : Hid (irrF p m ((m.length - 1) / 2) (dr p [0, 1] m) = irrS p m) := Lib.hid (by unfold irrS; rw [show decide (2 ≤ m.length) = true by simp; omega]; rfl)
    go_wp2
    go_loopg [7] ((m.length - 1) / 2) (fun n i wr => IrRel p m w gm g6 n i wr)
    case atStart => exact ⟨1, (m.length - 1) / 2, _, rfl, by omega, rfl, Nat.le_refl _, D1.out, L1, G.out, F⟩
    case round =>
      clear F D1 L1
      obtain ⟨k, c, pw, hc, hkc, rfl, k1, cp, lp, hir, F⟩ := hrel
      have HIR := Lib.hid hir
      have CP := Lib.hid cp
      clear hir cp
      by_cases c0 : c = 0
      · subst c0
        have t2 : decide (2 * (k : Int) ≤ (m.length : Int) - 1) = false := by simp; omega
        have t3 : decide ((k : Int) * 2 ≤ (m.length : Int) - 1) = false := by simp; omega
        go_wp2
        go_ret
        exact ⟨ret_bool (by rw [← HIR.out]; rfl), F.ext⟩
      · obtain ⟨d, rfl⟩ : ∃ d, c = d + 1 := ⟨c - 1, by omega⟩
        have t2 : decide (2 * (k : Int) ≤ (m.length : Int) - 1) = true := by simp; omega
        have PS := powM_spec HP.out CP.out HM.out NE.out p.toNat
        have C1 := Lib.hid PS.1
        have L1 := PS.2
        have C2 := Lib.hid (comb_can (show 0 < p by omega) (powM p pw p.toNat m) [0, 1] (-1))
        have L2 : (comb p (powM p pw p.toNat m) [0, 1] (-1)).length ≤ 64 := by have := comb_le p (powM p pw p.toNat m) [0, 1] (-1); simp at this; omega
        have C3 := Lib.hid (gcdr_can (show 0 < p by omega) m (comb p (powM p pw p.toNat m) [0, 1] (-1)))
        have PN : Hid (((p.toNat : Nat) : Int) = p) := Lib.hid (by omega)
        have GL : (gcdr p m (comb p (powM p pw p.toNat m) [0, 1] (-1))).length ≤ 64 := gcdr_le HP.out HM.out C2.out lm L2
        clear c0 PS
        have CALL := l01PowMod_any p pw m p.toNat (by omega) HP.out CP.out HM.out (by omega) lm NE.out
        rw [PN.out] at CALL
        have HCALL := Lib.hid CALL
        clear CALL
        go_wp2_with (first | (go_at_call 67; refine (HCALL.out _).mono ?_; rintro e w2 ⟨rfl, E2⟩; replace F := F.next E2) | ((with_reducible show wpList _ _ _ _ _ _); first | (apply hpLd F; exact rfl; exact rfl; exact rfl; (· repeat (first | exact Has.head | apply Has.tail))) | (apply hpBox F; exact rfl; exact rfl; exact rfl; (· with_reducible first | exact pad_length _ | exact zeros64_length | exact tab_length _ _ | assumption)) | (apply hpAlloc F; exact rfl; exact rfl) | (apply hpSt F; exact rfl; exact rfl; exact rfl; exact rfl; (· repeat (first | exact Upd.head | apply Upd.tail)); (· with_reducible first | exact pad_length _ | exact zeros64_length | exact tab_length _ _ | assumption))))
        clear F
        intro w1 F
        try simp only [List.set_cons_zero, List.set_cons_succ] at F
        go_wp2_with (first | ((with_reducible show wpList _ _ _ _ _ _); first | (apply hpLd F; exact rfl; exact rfl; exact rfl; (· repeat (first | exact Has.head | apply Has.tail))) | (apply hpBox F; exact rfl; exact rfl; exact rfl; (· with_reducible first | exact pad_length _ | exact zeros64_length | exact tab_length _ _ | assumption)) | (apply hpAlloc F; exact rfl; exact rfl) | (apply hpSt F; exact rfl; exact rfl; exact rfl; exact rfl; (· repeat (first | exact Upd.head | apply Upd.tail)); (· with_reducible first | exact pad_length _ | exact zeros64_length | exact tab_length _ _ | assumption))))
        refine region_ext 8 (by kernel_rfl) (by kernel_rfl) (by kernel_rfl) [] [eqv (.int .i64 p), eqv (.agg (u8s (pad m))), eqv (.int .i64 p), eqv (.agg (u8s (pad (powM p pw p.toNat m)))), eqv (.agg (u8s (pad [0, 1]))), eqv (.agg (u8s (pad (comb p (powM p pw p.toNat m) [0, 1] (-1))))), eqv (.agg (u8s (pad (gcdr p m (comb p (powM p pw p.toNat m) [0, 1] (-1)))))), eqv (.int .i64 (((gcdr p m (comb p (powM p pw p.toNat m) [0, 1] (-1))).length : Int) - 1))]
          ⟨mono_eqv _, mono_eqv _, mono_eqv _, mono_eqv _, mono_eqv _, mono_eqv _, mono_eqv _, mono_eqv _, trivial⟩ (fun vals => ?_) (fun vals w9 hE9 hS9 hN9 => ?_)
        · simp only [List.take_succ_cons, List.take_zero]
          refine ⟨fun w8 hE8 hk => doesK_plain rfl fun K hK => ?_, ?_⟩
          · go_simp
            (try go_bits)
            exact hK _ _ rfl (Ext.refl _) rfl
          simp only [Act.put, List.setIfInBounds_toArray, List.set_cons_zero, List.set_cons_succ]
          refine ⟨fun w8 hE8 hk => doesK_plain rfl fun K hK => ?_, ?_⟩
          · exact wp_load_row _ _ rfl _ (by first | rfl | simp [*]) _ _ (0, 0) _ ((F.at_ 1 rfl).ext hE8) Tryz.underlying25 rfl (by rw [infoPoly, u8s_size, pad_length _]) (hK _ _ rfl (Ext.refl _) rfl)
          simp only [Act.put, List.setIfInBounds_toArray, List.set_cons_zero, List.set_cons_succ]
          refine ⟨fun w8 hE8 hk => doesK_plain rfl fun K hK => ?_, ?_⟩
          · go_simp
            (try go_bits)
            exact hK _ _ rfl (Ext.refl _) rfl
          simp only [Act.put, List.setIfInBounds_toArray, List.set_cons_zero, List.set_cons_succ]
          refine ⟨fun w8 hE8 hk => doesK_plain rfl fun K hK => ?_, ?_⟩
          · exact wp_load_row _ _ rfl _ (by first | rfl | simp [*]) _ _ (0, 0) _ ((F.at_ 0 rfl).ext hE8) Tryz.underlying25 rfl (by rw [infoPoly, u8s_size, pad_length _]) (hK _ _ rfl (Ext.refl _) rfl)
          simp only [Act.put, List.setIfInBounds_toArray, List.set_cons_zero, List.set_cons_succ]
          refine ⟨fun w8 hE8 hk => doesK_plain rfl fun K hK => ?_, ?_⟩
          · go_simp
            refine (l01T_any _).mono ?_
            rintro e7 w7 ⟨rfl, hE7⟩
            exact hK _ _ rfl hE7 rfl
          simp only [Act.put, List.setIfInBounds_toArray, List.set_cons_zero, List.set_cons_succ]
          refine ⟨fun w8 hE8 hk => doesK_plain rfl fun K hK => ?_, ?_⟩
          · have k2 : vals 2 = .int .i64 p := hk 2 (by decide) (by kernel_rfl)
            have k3 : vals 3 = .agg (u8s (pad (powM p pw p.toNat m))) := hk 3 (by decide) (by kernel_rfl)
            have k4 : vals 4 = .agg (u8s (pad [0, 1])) := hk 4 (by decide) (by kernel_rfl)
            go_simp
            refine (l01Add_pad p (-1) (powM p pw p.toNat m) [0, 1] HP.out C1.out TEE.out (by omega) (by decide) (by decide) (by decide) _).mono ?_
            rintro e7 w7 ⟨rfl, hE7⟩
            exact hK _ _ rfl hE7 rfl
          simp only [Act.put, List.setIfInBounds_toArray, List.set_cons_zero, List.set_cons_succ]
          refine ⟨fun w8 hE8 hk => doesK_plain rfl fun K hK => ?_, ?_⟩
          · have k0 : vals 0 = .int .i64 p := hk 0 (by decide) (by kernel_rfl)
            have k1 : vals 1 = .agg (u8s (pad m)) := hk 1 (by decide) (by kernel_rfl)
            have k5 : vals 5 = .agg (u8s (pad (comb p (powM p pw p.toNat m) [0, 1] (-1)))) := hk 5 (by decide) (by kernel_rfl)
            go_simp
            refine (l01Gcd_any p m _ HP.out HM.out C2.out lm L2 _).mono ?_
            rintro e7 w7 ⟨rfl, hE7⟩
            exact hK _ _ rfl hE7 rfl
          simp only [Act.put, List.setIfInBounds_toArray, List.set_cons_zero, List.set_cons_succ]
          refine ⟨fun w8 hE8 hk => doesK_plain rfl fun K hK => ?_, ?_⟩
          · have k6 : vals 6 = .agg (u8s (pad (gcdr p m (comb p (powM p pw p.toNat m) [0, 1] (-1))))) := hk 6 (by decide) (by kernel_rfl)
            go_simp
            refine (l01Deg_pad _ _ C3.out.nz GL rfl _).mono ?_
            rintro e7 w7 ⟨rfl, hE7⟩
            exact hK _ _ rfl hE7 rfl
          exact trivial
        simp only [List.take_succ_cons, List.take_zero, List.drop_succ_cons, List.drop_zero, preAct, Nat.reduceAdd, Act.put, List.setIfInBounds_toArray, List.set_cons_zero, List.set_cons_succ]
        have k0 : vals 0 = .int .i64 p := hS9 0 (by decide) 
        have k1 : vals 1 = .agg (u8s (pad m)) := hS9 1 (by decide) 
        have k2 : vals 2 = .int .i64 p := hS9 2 (by decide) 
        have k3 : vals 3 = .agg (u8s (pad (powM p pw p.toNat m))) := hS9 3 (by decide) 
        have k4 : vals 4 = .agg (u8s (pad [0, 1])) := hS9 4 (by decide) 
        have k5 : vals 5 = .agg (u8s (pad (comb p (powM p pw p.toNat m) [0, 1] (-1)))) := hS9 5 (by decide) 
        have k6 : vals 6 = .agg (u8s (pad (gcdr p m (comb p (powM p pw p.toNat m) [0, 1] (-1))))) := hS9 6 (by decide) 
        have k7 : vals 7 = .int .i64 (((gcdr p m (comb p (powM p pw p.toNat m) [0, 1] (-1))).length : Int) - 1) := hS9 7 (by decide) 
        simp only [k0, k1, k2, k3, k4, k5, k6, k7]
        clear hN9 hS9 k0 k1 k2 k3 k4 k5 k6 k7
        replace F := F.next hE9
        clear hE9
        by_cases gl : (gcdr p m (comb p (powM p pw p.toNat m) [0, 1] (-1))).length = 1
        · have t4 : (((gcdr p m (comb p (powM p pw p.toNat m) [0, 1] (-1))).length : Int) - 1 != 0) = false := by simp; omega
          have GG : Hid (irrF p m (d + 1) pw = irrF p m d (powM p pw p.toNat m)) := Lib.hid (by rw [irrF, gl]; rfl)
          clear gl
          go_wp2
          go_roundg d
          case measure => omega
          case rel => exact ⟨k + 1, d, _, rfl, by omega, by go_num, by omega, C1.out, L1, by rw [← HIR.out, GG.out], F⟩
        · have t4 : (((gcdr p m (comb p (powM p pw p.toNat m) [0, 1] (-1))).length : Int) - 1 != 0) = true := by simp; omega
          have GG : Hid (irrF p m (d + 1) pw = false) := Lib.hid (by rw [irrF, show ((gcdr p m (comb p (powM p pw p.toNat m) [0, 1] (-1))).length == 1) = false by simpa using gl]; rfl)
          clear gl
          go_wp2
          go_ret
          exact ⟨ret_bool (by rw [← HIR.out, GG.out]), F.ext⟩

end Go.Proofs.YtaemiknaiccijaaGreat
