/- Lemmas and contracts of functions, for the laws: The reference's polynomials with a number, values by a modulus, the field of p p elements, the genus. -/
import Derived.Test.YtaemiknaiccijaaGreatRm8
set_option linter.unusedVariables false
set_option linter.unusedSimpArgs false
namespace Go.Proofs.YtaemiknaiccijaaGreat
open Go.RowKit

def digTo (p : Int) (n i : Nat) : List Int := tab 64 fun j => if j < i then dig p n j else 0
theorem digTo_zero (p : Int) (n : Nat) : digTo p n 0 = zeros64 := by rw [zeros64_tab]; exact tab_congr fun j _ => if_neg (by omega)
theorem digTo_step (p : Int) (n i : Nat) (h : i < 64) : (digTo p n i).set i (dig p n i) = digTo p n (i + 1) := by
  unfold digTo
  rw [tab_set 64 _ _ _ h]
  refine tab_congr fun j _ => ?_
  by_cases e : j = i
  · subst e; rw [if_pos rfl, if_pos (by omega)]
  · rw [if_neg e]
    by_cases h2 : j < i
    · rw [if_pos h2, if_pos (by omega)]
    · rw [if_neg h2, if_neg (by omega)]
theorem digTo_end {p : Int} (n i : Nat) (hp : 2 ≤ p) (h : n / p.toNat ^ i = 0) : digTo p n i = pad (numr p n) := by
  rw [pad_numr]
  refine tab_congr fun j _ => ?_
  by_cases h2 : j < i
  · rw [if_pos h2]
  · rw [if_neg h2]
    unfold dig
    have : n / p.toNat ^ j = 0 := by
      rw [show j = i + (j - i) by omega, Nat.pow_add, ← Nat.div_div_eq_div_mul, h, Nat.zero_div]
    rw [this]; simp
theorem dig_bound {p : Int} (hp : 2 ≤ p) (n i : Nat) (hn : n < 2 ^ 60) (h : n / p.toNat ^ i ≠ 0) : i < 60 := by
  have h1 : p.toNat ^ i ≤ n := by
    rcases Nat.lt_or_ge n (p.toNat ^ i) with h2 | h2
    · exact absurd (Nat.div_eq_of_lt h2) h
    · exact h2
  have h2 : 2 ^ i ≤ p.toNat ^ i := Nat.pow_le_pow_left (by omega) i
  rcases Nat.lt_or_ge i 60 with h3 | h3
  · exact h3
  · have := Nat.pow_le_pow_right (show 2 > 0 by decide) h3
    omega
def OfRel2 (p : Int) (n0 : Nat) (w : World) (z g f : Nat) (x y : Value) (wr : World) : Prop :=
  ∃ i : Nat, f + i = 61 ∧ x = .int .i64 ((n0 / p.toNat ^ i : Nat) : Int) ∧ y = .int .i64 i ∧ Hp w wr [(g, digTo p n0 i), (z, zeros64)]

set_option maxRecDepth 100000 in
set_option maxHeartbeats 1000000 in
theorem l01Of_any (p : Int) (n0 : Nat) (lo : 2 ≤ p) (hi : p ≤ 7) (hn : n0 < 2 ^ 60) (w : World) :
    Calls Tryz.prog 66 #[.int .i64 p, .int .i64 n0] w fun e w' => e = .returned (.agg (u8s (pad (numr p n0)))) ∧ Ext w w' := by
  have hz := zlit
  have HN := Lib.hid hn
  have hp0 : p ≠ 0 := by omega
  have F := Hp.start w
  clear hn
  go_enter Tryz.func66, Tryz.ntmps66
  go_wp2_with (first | ((with_reducible show wpList _ _ _ _ _ _); first | (apply hpLd F; exact rfl; exact rfl; exact rfl; (· repeat (first | exact Has.head | apply Has.tail))) | (apply hpBox F; exact rfl; exact rfl; exact rfl; (· with_reducible first | exact pad_length _ | exact zeros64_length | exact tab_length _ _ | assumption)) | (apply hpAlloc F; exact rfl; exact rfl) | (apply hpSt F; exact rfl; exact rfl; exact rfl; exact rfl; (· repeat (first | exact Upd.head | apply Upd.tail)); (· with_reducible first | exact pad_length _ | exact zeros64_length | exact tab_length _ _ | assumption))))
  clear F
  intro z w1 F
  go_wp2_with (first | ((with_reducible show wpList _ _ _ _ _ _); first | (apply hpLd F; exact rfl; exact rfl; exact rfl; (· repeat (first | exact Has.head | apply Has.tail))) | (apply hpBox F; exact rfl; exact rfl; exact rfl; (· with_reducible first | exact pad_length _ | exact zeros64_length | exact tab_length _ _ | assumption)) | (apply hpAlloc F; exact rfl; exact rfl) | (apply hpSt F; exact rfl; exact rfl; exact rfl; exact rfl; (· repeat (first | exact Upd.head | apply Upd.tail)); (· with_reducible first | exact pad_length _ | exact zeros64_length | exact tab_length _ _ | assumption))))
  clear F
  intro g w1 F
  go_wp2_with (first | ((with_reducible show wpList _ _ _ _ _ _); first | (apply hpLd F; exact rfl; exact rfl; exact rfl; (· repeat (first | exact Has.head | apply Has.tail))) | (apply hpBox F; exact rfl; exact rfl; exact rfl; (· with_reducible first | exact pad_length _ | exact zeros64_length | exact tab_length _ _ | assumption)) | (apply hpAlloc F; exact rfl; exact rfl) | (apply hpSt F; exact rfl; exact rfl; exact rfl; exact rfl; (· repeat (first | exact Upd.head | apply Upd.tail)); (· with_reducible first | exact pad_length _ | exact zeros64_length | exact tab_length _ _ | assumption))))
  clear F
  intro w1 F
  try simp only [List.set_cons_zero, List.set_cons_succ] at F
  go_wp2_with (first | ((with_reducible show wpList _ _ _ _ _ _); first | (apply hpLd F; exact rfl; exact rfl; exact rfl; (· repeat (first | exact Has.head | apply Has.tail))) | (apply hpBox F; exact rfl; exact rfl; exact rfl; (· with_reducible first | exact pad_length _ | exact zeros64_length | exact tab_length _ _ | assumption)) | (apply hpAlloc F; exact rfl; exact rfl) | (apply hpSt F; exact rfl; exact rfl; exact rfl; exact rfl; (· repeat (first | exact Upd.head | apply Upd.tail)); (· with_reducible first | exact pad_length _ | exact zeros64_length | exact tab_length _ _ | assumption))))
  go_loopg [1, 6] 61 (fun f x y wr => OfRel2 p n0 w z g f x y wr)
  case atStart => exact ⟨0, rfl, by simp, rfl, by rw [digTo_zero]; exact F⟩
  case round =>
    clear F
    obtain ⟨i, hf, rfl, rfl, F⟩ := hrel
    by_cases hq : n0 / p.toNat ^ i = 0
    · have G : Hid (digTo p n0 i = pad (numr p n0)) := Lib.hid (digTo_end n0 i lo hq)
      rw [hq]
      rw [G.out] at F
      clear hq
      go_wp2_with (first | ((with_reducible show wpList _ _ _ _ _ _); first | (apply hpLd F; exact rfl; exact rfl; exact rfl; (· repeat (first | exact Has.head | apply Has.tail))) | (apply hpBox F; exact rfl; exact rfl; exact rfl; (· with_reducible first | exact pad_length _ | exact zeros64_length | exact tab_length _ _ | assumption)) | (apply hpAlloc F; exact rfl; exact rfl) | (apply hpSt F; exact rfl; exact rfl; exact rfl; exact rfl; (· repeat (first | exact Upd.head | apply Upd.tail)); (· with_reducible first | exact pad_length _ | exact zeros64_length | exact tab_length _ _ | assumption))))
      clear F
      intro w1 F
      try simp only [List.set_cons_zero, List.set_cons_succ] at F
      go_wp2_with (first | ((with_reducible show wpList _ _ _ _ _ _); first | (apply hpLd F; exact rfl; exact rfl; exact rfl; (· repeat (first | exact Has.head | apply Has.tail))) | (apply hpBox F; exact rfl; exact rfl; exact rfl; (· with_reducible first | exact pad_length _ | exact zeros64_length | exact tab_length _ _ | assumption)) | (apply hpAlloc F; exact rfl; exact rfl) | (apply hpSt F; exact rfl; exact rfl; exact rfl; exact rfl; (· repeat (first | exact Upd.head | apply Upd.tail)); (· with_reducible first | exact pad_length _ | exact zeros64_length | exact tab_length _ _ | assumption))))
      exact bodyPost_ret (res_c rfl rfl (F.at_ 1 rfl) (pad_length _) Tryz.underlying25 infoPoly) rfl ⟨rfl, F.ext⟩
    · have hi60 := dig_bound lo n0 i HN.out hq
      have q1 : 1 ≤ n0 / p.toNat ^ i := Nat.pos_of_ne_zero hq
      have hs : Hid (n0 / p.toNat ^ i / p.toNat = n0 / p.toNat ^ (i + 1)) := Lib.hid (by rw [Nat.div_div_eq_div_mul, Nat.pow_succ])
      have u1 : n0 / p.toNat ^ i < 1152921504606846976 := Nat.lt_of_le_of_lt (Nat.div_le_self _ _) HN.out
      have dd : dig p n0 i = ((n0 / p.toNat ^ i : Nat) : Int) % p := by
        have h : (p.toNat : Int) = p := by omega
        rw [← h]; unfold dig; simp
      have DD := Lib.hid dd
      have f0 := F.free 0 rfl i
      have c0 := F.cell 0 rfl i (by omega)
      have ST := Lib.hid (digTo_step p n0 i (by omega))
      clear hq dd
      generalize hN : n0 / p.toNat ^ i = N at *
      have hv : Hid ((N : Int) / p = ((N / p.toNat : Nat) : Int)) := Lib.hid (by
        have h : (p.toNat : Int) = p := by omega
        rw [Int.natCast_ediv, h])
      have qb : 0 ≤ (N : Int) / p ∧ (N : Int) / p ≤ N := ⟨Int.ediv_nonneg (by omega) (by omega), Int.ediv_le_self _ (by omega)⟩
      have r := emod_range (N : Int) p (by omega)
      clear hN
      go_wp2
      go_roundg (gk - 1)
      case measure => omega
      case rel =>
        refine ⟨i + 1, by omega, ?_, by go_num, ?_⟩
        · rw [← hs.out, ← hv.out]
        · rw [← ST.out, DD.out]
          exact F.setCell 0 rfl i _

def AtRel (p : Int) (d x m : List Int) (w : World) (gd gx gm z g n : Nat) (i : Value) (wr : World) : Prop :=
  ∃ (k : Nat) (out : List Int), n = k ∧ i = .int .i64 ((k : Int) - 1) ∧ k ≤ d.length ∧ Can p out ∧ out.length ≤ 64 ∧ atF p d x m k out = atr p d x m ∧ Hp w wr [(g, pad out), (z, zeros64), (gm, pad m), (gx, pad x), (gd, pad d)]

set_option maxRecDepth 100000 in
set_option maxHeartbeats 2000000 in
theorem l07At_any (p : Int) (d x m : List Int) (hp : PrimeP p) (hd : Can p d) (hx : Can p x) (hm : Can p m) (ld : d.length ≤ 64) (lx : x.length ≤ 64) (lm : m.length ≤ 64) (hne : 0 < m.length) (w : World) :
    Calls Tryz.prog 65 #[.int .i64 p, .agg (u8s (pad d)), .agg (u8s (pad x)), .agg (u8s (pad m))] w fun e w' => e = .returned (.agg (u8s (pad (atr p d x m)))) ∧ Ext w w' := by
  have hz := zlit
  have HP := Lib.hid hp
  have HD := Lib.hid hd
  have HX := Lib.hid hx
  have HM := Lib.hid hm
  have NE := Lib.hid hne
  have lo := hp.lo
  have hi := hp.hi
  have ONE := Lib.hid (can_one (show 1 < p by omega))
  clear hd hx hm hp hne
  have F := Hp.start w
  go_enter Tryz.func65, Tryz.ntmps65
  go_wp2_with (first | ((with_reducible show wpList _ _ _ _ _ _); first | (apply hpLd F; exact rfl; exact rfl; exact rfl; (· repeat (first | exact Has.head | apply Has.tail))) | (apply hpBox F; exact rfl; exact rfl; exact rfl; (· with_reducible first | exact pad_length _ | exact zeros64_length | exact tab_length _ _ | assumption)) | (apply hpAlloc F; exact rfl; exact rfl) | (apply hpSt F; exact rfl; exact rfl; exact rfl; exact rfl; (· repeat (first | exact Upd.head | apply Upd.tail)); (· with_reducible first | exact pad_length _ | exact zeros64_length | exact tab_length _ _ | assumption))))
  clear F
  intro gd w1 F
  go_wp2_with (first | ((with_reducible show wpList _ _ _ _ _ _); first | (apply hpLd F; exact rfl; exact rfl; exact rfl; (· repeat (first | exact Has.head | apply Has.tail))) | (apply hpBox F; exact rfl; exact rfl; exact rfl; (· with_reducible first | exact pad_length _ | exact zeros64_length | exact tab_length _ _ | assumption)) | (apply hpAlloc F; exact rfl; exact rfl) | (apply hpSt F; exact rfl; exact rfl; exact rfl; exact rfl; (· repeat (first | exact Upd.head | apply Upd.tail)); (· with_reducible first | exact pad_length _ | exact zeros64_length | exact tab_length _ _ | assumption))))
  clear F
  intro gx w1 F
  go_wp2_with (first | ((with_reducible show wpList _ _ _ _ _ _); first | (apply hpLd F; exact rfl; exact rfl; exact rfl; (· repeat (first | exact Has.head | apply Has.tail))) | (apply hpBox F; exact rfl; exact rfl; exact rfl; (· with_reducible first | exact pad_length _ | exact zeros64_length | exact tab_length _ _ | assumption)) | (apply hpAlloc F; exact rfl; exact rfl) | (apply hpSt F; exact rfl; exact rfl; exact rfl; exact rfl; (· repeat (first | exact Upd.head | apply Upd.tail)); (· with_reducible first | exact pad_length _ | exact zeros64_length | exact tab_length _ _ | assumption))))
  clear F
  intro gm w1 F
  go_wp2_with (first | ((with_reducible show wpList _ _ _ _ _ _); first | (apply hpLd F; exact rfl; exact rfl; exact rfl; (· repeat (first | exact Has.head | apply Has.tail))) | (apply hpBox F; exact rfl; exact rfl; exact rfl; (· with_reducible first | exact pad_length _ | exact zeros64_length | exact tab_length _ _ | assumption)) | (apply hpAlloc F; exact rfl; exact rfl) | (apply hpSt F; exact rfl; exact rfl; exact rfl; exact rfl; (· repeat (first | exact Upd.head | apply Upd.tail)); (· with_reducible first | exact pad_length _ | exact zeros64_length | exact tab_length _ _ | assumption))))
  clear F
  intro z w1 F
  go_wp2_with (first | ((with_reducible show wpList _ _ _ _ _ _); first | (apply hpLd F; exact rfl; exact rfl; exact rfl; (· repeat (first | exact Has.head | apply Has.tail))) | (apply hpBox F; exact rfl; exact rfl; exact rfl; (· with_reducible first | exact pad_length _ | exact zeros64_length | exact tab_length _ _ | assumption)) | (apply hpAlloc F; exact rfl; exact rfl) | (apply hpSt F; exact rfl; exact rfl; exact rfl; exact rfl; (· repeat (first | exact Upd.head | apply Upd.tail)); (· with_reducible first | exact pad_length _ | exact zeros64_length | exact tab_length _ _ | assumption))))
  clear F
  intro g w1 F
  go_wp2_with (first | ((with_reducible show wpList _ _ _ _ _ _); first | (apply hpLd F; exact rfl; exact rfl; exact rfl; (· repeat (first | exact Has.head | apply Has.tail))) | (apply hpBox F; exact rfl; exact rfl; exact rfl; (· with_reducible first | exact pad_length _ | exact zeros64_length | exact tab_length _ _ | assumption)) | (apply hpAlloc F; exact rfl; exact rfl) | (apply hpSt F; exact rfl; exact rfl; exact rfl; exact rfl; (· repeat (first | exact Upd.head | apply Upd.tail)); (· with_reducible first | exact pad_length _ | exact zeros64_length | exact tab_length _ _ | assumption))))
  clear F
  intro w1 F
  try simp only [List.set_cons_zero, List.set_cons_succ] at F
  go_wp2_with (first | (go_at_call 49; refine (l01Deg_pad d _ HD.out.nz ld rfl _).mono ?_; rintro e w2 ⟨rfl, E2⟩; replace F := F.next E2) | ((with_reducible show wpList _ _ _ _ _ _); first | (apply hpLd F; exact rfl; exact rfl; exact rfl; (· repeat (first | exact Has.head | apply Has.tail))) | (apply hpBox F; exact rfl; exact rfl; exact rfl; (· with_reducible first | exact pad_length _ | exact zeros64_length | exact tab_length _ _ | assumption)) | (apply hpAlloc F; exact rfl; exact rfl) | (apply hpSt F; exact rfl; exact rfl; exact rfl; exact rfl; (· repeat (first | exact Upd.head | apply Upd.tail)); (· with_reducible first | exact pad_length _ | exact zeros64_length | exact tab_length _ _ | assumption))))
  rw [← pad_nil] at F
  go_loopg [10] d.length (fun n i wr => AtRel p d x m w gd gx gm z g n i wr)
  case atStart =>
    refine ⟨d.length, [], rfl, rfl, Nat.le_refl _, can_nil (by omega), by simp, rfl, ?_⟩
    rw [pad_nil] at *
    exact F
  case round =>
    clear F
    obtain ⟨k, out, hk, rfl, kb, co, lo2, hmm, F⟩ := hrel
    have HMM := Lib.hid hmm
    have CO := Lib.hid co
    clear hmm co
    by_cases k0 : k = 0
    · subst k0
      have G : Hid (pad out = pad (atr p d x m)) := Lib.hid (by rw [← HMM.out]; rfl)
      rw [G.out] at F
      go_wp2_with (first | ((with_reducible show wpList _ _ _ _ _ _); first | (apply hpLd F; exact rfl; exact rfl; exact rfl; (· repeat (first | exact Has.head | apply Has.tail))) | (apply hpBox F; exact rfl; exact rfl; exact rfl; (· with_reducible first | exact pad_length _ | exact zeros64_length | exact tab_length _ _ | assumption)) | (apply hpAlloc F; exact rfl; exact rfl) | (apply hpSt F; exact rfl; exact rfl; exact rfl; exact rfl; (· repeat (first | exact Upd.head | apply Upd.tail)); (· with_reducible first | exact pad_length _ | exact zeros64_length | exact tab_length _ _ | assumption))))
      clear F
      intro w1 F
      try simp only [List.set_cons_zero, List.set_cons_succ] at F
      go_wp2_with (first | ((with_reducible show wpList _ _ _ _ _ _); first | (apply hpLd F; exact rfl; exact rfl; exact rfl; (· repeat (first | exact Has.head | apply Has.tail))) | (apply hpBox F; exact rfl; exact rfl; exact rfl; (· with_reducible first | exact pad_length _ | exact zeros64_length | exact tab_length _ _ | assumption)) | (apply hpAlloc F; exact rfl; exact rfl) | (apply hpSt F; exact rfl; exact rfl; exact rfl; exact rfl; (· repeat (first | exact Upd.head | apply Upd.tail)); (· with_reducible first | exact pad_length _ | exact zeros64_length | exact tab_length _ _ | assumption))))
      exact bodyPost_ret (res_c rfl rfl (F.at_ 1 rfl) (pad_length _) Tryz.underlying25 infoPoly) rfl ⟨rfl, F.ext⟩
    · obtain ⟨n, rfl⟩ : ∃ n, k = n + 1 := ⟨k - 1, by omega⟩
      rw [show ((n + 1 : Nat) : Int) - 1 = (n : Int) by omega]
      have bn := HD.out.inp n
      clear k0
      have MS := mulm_spec HP.out out x HM.out NE.out
      have MC := Lib.hid MS.1
      have ML := MS.2
      have CC := Lib.hid (comb_can (show 0 < p by omega) (mulm p out x m) [1] (at0 d n))
      have CL : (comb p (mulm p out x m) [1] (at0 d n)).length ≤ 64 := by have := comb_le p (mulm p out x m) [1] (at0 d n); simp at this; omega
      have i1 : (n : Int) < 64 := by omega
      clear MS
      go_wp2_with (first | ((with_reducible show wpList _ _ _ _ _ _); first | (apply hpLd F; exact rfl; exact rfl; exact rfl; (· repeat (first | exact Has.head | apply Has.tail))) | (apply hpBox F; exact rfl; exact rfl; exact rfl; (· with_reducible first | exact pad_length _ | exact zeros64_length | exact tab_length _ _ | assumption)) | (apply hpAlloc F; exact rfl; exact rfl) | (apply hpSt F; exact rfl; exact rfl; exact rfl; exact rfl; (· repeat (first | exact Upd.head | apply Upd.tail)); (· with_reducible first | exact pad_length _ | exact zeros64_length | exact tab_length _ _ | assumption))))
      refine region_ext 12 (by kernel_rfl) (by kernel_rfl) (by kernel_rfl) [] [eqv (.int .i64 p), eqv (.int .i64 p), eqv (.agg (u8s (pad out))), eqv (.agg (u8s (pad x))), eqv (.agg (u8s (pad m))), eqv (.agg (u8s (pad (mulm p out x m)))), eqv (.agg (u8s (pad [1]))), eqv (.int .i64 n), eqv (.pointer (some ⟨gd, n, none⟩)), eqv (.int .u8 (at0 d n)), eqv (.int .i64 (at0 d n)), eqv (.agg (u8s (pad (comb p (mulm p out x m) [1] (at0 d n)))))]
        ⟨mono_eqv _, mono_eqv _, mono_eqv _, mono_eqv _, mono_eqv _, mono_eqv _, mono_eqv _, mono_eqv _, mono_eqv _, mono_eqv _, mono_eqv _, mono_eqv _, trivial⟩ (fun vals => ?_) (fun vals w9 hE9 hS9 hN9 => ?_)
      · simp only [List.take_succ_cons, List.take_zero]
        refine ⟨fun w8 hE8 hk => doesK_plain rfl fun K hK => ?_, ?_⟩
        · go_simp
          (try go_bits)
          exact hK _ _ rfl (Ext.refl _) rfl
        simp only [Act.put, List.setIfInBounds_toArray, List.set_cons_zero, List.set_cons_succ]
        refine ⟨fun w8 hE8 hk => doesK_plain rfl fun K hK => ?_, ?_⟩
        · go_simp
          (try go_bits)
          exact hK _ _ rfl (Ext.refl _) rfl
        simp only [Act.put, List.setIfInBounds_toArray, List.set_cons_zero, List.set_cons_succ]
        refine ⟨fun w8 hE8 hk => doesK_plain rfl fun K hK => ?_, ?_⟩
        · exact wp_load_row _ _ rfl _ (by first | rfl | simp [*]) _ _ (0, 0) _ ((F.at_ 0 rfl).ext hE8) Tryz.underlying25 rfl (by rw [infoPoly, u8s_size, pad_length _]) (hK _ _ rfl (Ext.refl _) rfl)
        simp only [Act.put, List.setIfInBounds_toArray, List.set_cons_zero, List.set_cons_succ]
        refine ⟨fun w8 hE8 hk => doesK_plain rfl fun K hK => ?_, ?_⟩
        · exact wp_load_row _ _ rfl _ (by first | rfl | simp [*]) _ _ (0, 0) _ ((F.at_ 3 rfl).ext hE8) Tryz.underlying25 rfl (by rw [infoPoly, u8s_size, pad_length _]) (hK _ _ rfl (Ext.refl _) rfl)
        simp only [Act.put, List.setIfInBounds_toArray, List.set_cons_zero, List.set_cons_succ]
        refine ⟨fun w8 hE8 hk => doesK_plain rfl fun K hK => ?_, ?_⟩
        · exact wp_load_row _ _ rfl _ (by first | rfl | simp [*]) _ _ (0, 0) _ ((F.at_ 2 rfl).ext hE8) Tryz.underlying25 rfl (by rw [infoPoly, u8s_size, pad_length _]) (hK _ _ rfl (Ext.refl _) rfl)
        simp only [Act.put, List.setIfInBounds_toArray, List.set_cons_zero, List.set_cons_succ]
        refine ⟨fun w8 hE8 hk => doesK_plain rfl fun K hK => ?_, ?_⟩
        · have k1 : vals 1 = .int .i64 p := hk 1 (by decide) (by kernel_rfl)
          have k2 : vals 2 = .agg (u8s (pad out)) := hk 2 (by decide) (by kernel_rfl)
          have k3 : vals 3 = .agg (u8s (pad x)) := hk 3 (by decide) (by kernel_rfl)
          have k4 : vals 4 = .agg (u8s (pad m)) := hk 4 (by decide) (by kernel_rfl)
          go_simp
          refine (l01MulMod_any p out x m HP.out CO.out HX.out HM.out lo2 lx lm NE.out _).mono ?_
          rintro e7 w7 ⟨rfl, hE7⟩
          exact hK _ _ rfl hE7 rfl
        simp only [Act.put, List.setIfInBounds_toArray, List.set_cons_zero, List.set_cons_succ]
        refine ⟨fun w8 hE8 hk => doesK_plain rfl fun K hK => ?_, ?_⟩
        · have k5 : vals 5 = .agg (u8s (pad (mulm p out x m))) := hk 5 (by decide) (by kernel_rfl)
          go_simp
          refine (l01One_any _).mono ?_
          rintro e7 w7 ⟨rfl, hE7⟩
          exact hK _ _ rfl hE7 rfl
        simp only [Act.put, List.setIfInBounds_toArray, List.set_cons_zero, List.set_cons_succ]
        refine ⟨fun w8 hE8 hk => doesK_plain rfl fun K hK => ?_, ?_⟩
        · go_simp
          (try go_bits)
          exact hK _ _ rfl (Ext.refl _) rfl
        simp only [Act.put, List.setIfInBounds_toArray, List.set_cons_zero, List.set_cons_succ]
        refine ⟨fun w8 hE8 hk => doesK_plain rfl fun K hK => ?_, ?_⟩
        · have k7 : vals 7 = .int .i64 n := hk 7 (by decide) (by kernel_rfl)
          go_simp
          (try go_bits)
          exact hK _ _ rfl (Ext.refl _) rfl
        simp only [Act.put, List.setIfInBounds_toArray, List.set_cons_zero, List.set_cons_succ]
        refine ⟨fun w8 hE8 hk => doesK_plain rfl fun K hK => ?_, ?_⟩
        · have k8 : vals 8 = .pointer (some ⟨gd, n, none⟩) := hk 8 (by decide) (by kernel_rfl)
          have c8 := (F.next hE8).cell 4 rfl n (by omega); rw [at0_pad d ld] at c8
          go_simp
          (try go_bits)
          exact hK _ _ rfl (Ext.refl _) rfl
        simp only [Act.put, List.setIfInBounds_toArray, List.set_cons_zero, List.set_cons_succ]
        refine ⟨fun w8 hE8 hk => doesK_plain rfl fun K hK => ?_, ?_⟩
        · have k9 : vals 9 = .int .u8 (at0 d n) := hk 9 (by decide) (by kernel_rfl)
          go_simp
          (try go_bits)
          exact hK _ _ rfl (Ext.refl _) rfl
        simp only [Act.put, List.setIfInBounds_toArray, List.set_cons_zero, List.set_cons_succ]
        refine ⟨fun w8 hE8 hk => doesK_plain rfl fun K hK => ?_, ?_⟩
        · have k0 : vals 0 = .int .i64 p := hk 0 (by decide) (by kernel_rfl)
          have k5 : vals 5 = .agg (u8s (pad (mulm p out x m))) := hk 5 (by decide) (by kernel_rfl)
          have k6 : vals 6 = .agg (u8s (pad [1])) := hk 6 (by decide) (by kernel_rfl)
          have k10 : vals 10 = .int .i64 (at0 d n) := hk 10 (by decide) (by kernel_rfl)
          go_simp
          refine (l01Add_pad p (at0 d n) (mulm p out x m) [1] HP.out MC.out ONE.out (by omega) (by decide) (by omega) (by omega) _).mono ?_
          rintro e7 w7 ⟨rfl, hE7⟩
          exact hK _ _ rfl hE7 rfl
        exact trivial
      simp only [List.take_succ_cons, List.take_zero, List.drop_succ_cons, List.drop_zero, preAct, Nat.reduceAdd, Act.put, List.setIfInBounds_toArray, List.set_cons_zero, List.set_cons_succ]
      have k0 : vals 0 = .int .i64 p := hS9 0 (by decide) 
      have k1 : vals 1 = .int .i64 p := hS9 1 (by decide) 
      have k2 : vals 2 = .agg (u8s (pad out)) := hS9 2 (by decide) 
      have k3 : vals 3 = .agg (u8s (pad x)) := hS9 3 (by decide) 
      have k4 : vals 4 = .agg (u8s (pad m)) := hS9 4 (by decide) 
      have k5 : vals 5 = .agg (u8s (pad (mulm p out x m))) := hS9 5 (by decide) 
      have k6 : vals 6 = .agg (u8s (pad [1])) := hS9 6 (by decide) 
      have k7 : vals 7 = .int .i64 n := hS9 7 (by decide) 
      have k8 : vals 8 = .pointer (some ⟨gd, n, none⟩) := hS9 8 (by decide) 
      have k9 : vals 9 = .int .u8 (at0 d n) := hS9 9 (by decide) 
      have k10 : vals 10 = .int .i64 (at0 d n) := hS9 10 (by decide) 
      have k11 : vals 11 = .agg (u8s (pad (comb p (mulm p out x m) [1] (at0 d n)))) := hS9 11 (by decide) 
      simp only [k0, k1, k2, k3, k4, k5, k6, k7, k8, k9, k10, k11]
      clear hN9 hS9 k0 k1 k2 k3 k4 k5 k6 k7 k8 k9 k10 k11
      replace F := F.next hE9
      clear hE9
      go_wp2_with (first | ((with_reducible show wpList _ _ _ _ _ _); first | (apply hpLd F; exact rfl; exact rfl; exact rfl; (· repeat (first | exact Has.head | apply Has.tail))) | (apply hpBox F; exact rfl; exact rfl; exact rfl; (· with_reducible first | exact pad_length _ | exact zeros64_length | exact tab_length _ _ | assumption)) | (apply hpAlloc F; exact rfl; exact rfl) | (apply hpSt F; exact rfl; exact rfl; exact rfl; exact rfl; (· repeat (first | exact Upd.head | apply Upd.tail)); (· with_reducible first | exact pad_length _ | exact zeros64_length | exact tab_length _ _ | assumption))))
      clear F
      intro w1 F
      try simp only [List.set_cons_zero, List.set_cons_succ] at F
      go_wp2_with (first | ((with_reducible show wpList _ _ _ _ _ _); first | (apply hpLd F; exact rfl; exact rfl; exact rfl; (· repeat (first | exact Has.head | apply Has.tail))) | (apply hpBox F; exact rfl; exact rfl; exact rfl; (· with_reducible first | exact pad_length _ | exact zeros64_length | exact tab_length _ _ | assumption)) | (apply hpAlloc F; exact rfl; exact rfl) | (apply hpSt F; exact rfl; exact rfl; exact rfl; exact rfl; (· repeat (first | exact Upd.head | apply Upd.tail)); (· with_reducible first | exact pad_length _ | exact zeros64_length | exact tab_length _ _ | assumption))))
      go_roundg n
      case measure => omega
      case rel => exact ⟨n, _, rfl, by go_num, by omega, CC.out, CL, HMM.out, F⟩

end Go.Proofs.YtaemiknaiccijaaGreat

/- The reference's field of p p elements, the genus, the points. -/
namespace Go.Proofs.YtaemiknaiccijaaGreat
open Go.RowKit

/-- One of 3, 5, 7. -/
def OddP (p : Int) : Prop := p = 3 ∨ p = 5 ∨ p = 7
theorem OddP.prime {p : Int} (h : OddP p) : PrimeP p := by
  unfold OddP at h; unfold PrimeP; omega
def canB (p : Int) (l : List Int) : Bool := l.all (fun x => decide (0 ≤ x) && decide (x < p)) && (l.length == 0 || decide (at0 l (l.length - 1) ≠ 0)) && decide (0 < p)
theorem canB_can {p : Int} {l : List Int} (h : canB p l = true) : Can p l := by
  simp only [canB, Bool.and_eq_true, List.all_eq_true, decide_eq_true_eq, Bool.or_eq_true, beq_iff_eq] at h
  obtain ⟨⟨h1, h2⟩, h3⟩ := h
  refine ⟨fun j => ?_, fun n hn => ?_⟩
  · rcases Nat.lt_or_ge j l.length with hj | hj
    · have e : at0 l j = l[j] := by simp [at0, hj]
      rw [e]; exact h1 _ (List.getElem_mem hj)
    · rw [at0_out l j hj]; exact ⟨Int.le_refl _, h3⟩
  · rcases h2 with h2 | h2
    · omega
    · rw [show n = l.length - 1 by omega]; exact h2
theorem fldAt_can {p : Int} (h : OddP p) (k : Nat) (hk : k ≤ fldC p + 1) : Can p (fldAt k) := by
  rcases h with rfl | rfl | rfl
  · have : k = 0 ∨ k = 1 ∨ k = 2 := by simp [fldC] at hk; omega
    rcases this with rfl | rfl | rfl <;> exact canB_can (by decide)
  · have : k = 0 ∨ k = 1 ∨ k = 2 ∨ k = 3 := by simp [fldC] at hk; omega
    rcases this with rfl | rfl | rfl | rfl <;> exact canB_can (by decide)
  · have : k = 0 ∨ k = 1 ∨ k = 2 := by simp [fldC] at hk; omega
    rcases this with rfl | rfl | rfl <;> exact canB_can (by decide)
theorem fldAt_len (k : Nat) : (fldAt k).length = 3 := by cases k <;> rfl
theorem fldAt_irr {p : Int} (h : OddP p) (k : Nat) (hk : k ≤ fldC p + 1) : irrS p (fldAt k) = decide (k = fldC p + 1) := by
  rcases h with rfl | rfl | rfl
  · have : k = 0 ∨ k = 1 ∨ k = 2 := by simp [fldC] at hk; omega
    rcases this with rfl | rfl | rfl <;> decide +kernel
  · have : k = 0 ∨ k = 1 ∨ k = 2 ∨ k = 3 := by simp [fldC] at hk; omega
    rcases this with rfl | rfl | rfl | rfl <;> decide +kernel
  · have : k = 0 ∨ k = 1 ∨ k = 2 := by simp [fldC] at hk; omega
    rcases this with rfl | rfl | rfl <;> decide +kernel
theorem fldAt_next {p : Int} (h : OddP p) (k : Nat) (hk : k ≤ fldC p) : (pad (numr p k)).set 2 1 = pad (fldAt (k + 1)) := by
  rcases h with rfl | rfl | rfl
  · have : k = 0 ∨ k = 1 := by simp [fldC] at hk; omega
    rcases this with rfl | rfl <;> decide +kernel
  · have : k = 0 ∨ k = 1 ∨ k = 2 := by simp [fldC] at hk; omega
    rcases this with rfl | rfl | rfl <;> decide +kernel
  · have : k = 0 ∨ k = 1 := by simp [fldC] at hk; omega
    rcases this with rfl | rfl <;> decide +kernel
theorem zset3 : (u8s zeros64).setIfInBounds 1 (.int .u8 0) = u8s zeros64 := by rw [u8s_set]; rfl
theorem zset4 : (u8s zeros64).setIfInBounds 2 (.int .u8 1) = u8s (pad (fldAt 0)) := by rw [u8s_set]; rfl
theorem fldAt_last (p : Int) : fldAt (fldC p + 1) = fld p := rfl
theorem fldC_le (p : Int) : fldC p ≤ 2 := by unfold fldC; split <;> omega
theorem fld_can {p : Int} (h : OddP p) : Can p (fld p) := fldAt_can h _ (Nat.le_refl _)

def FldRel (p : Int) (w : World) (z g f : Nat) (i : Value) (wr : World) : Prop :=
  ∃ k : Nat, f + k = fldC p + 1 ∧ i = .int .i64 k ∧ Hp w wr [(g, pad (fldAt k)), (z, zeros64)]

set_option maxRecDepth 100000 in
set_option maxHeartbeats 1000000 in
theorem l07Field_any (p : Int) (hp : OddP p) (w : World) :
    Calls Tryz.prog 64 #[.int .i64 p] w fun e w' => e = .returned (.agg (u8s (pad (fld p)))) ∧ Ext w w' := by
  have hz := zlit
  have h1 := zsize
  have h2 := zset0
  have h3 := zset3
  have h4 := zset4
  have HO := Lib.hid hp
  have HP := Lib.hid hp.prime
  have lo := HP.out.lo
  have hi := HP.out.hi
  have fc := fldC_le p
  clear hp
  have F := Hp.start w
  go_enter Tryz.func64, Tryz.ntmps64
  go_wp2_with (first | ((with_reducible show wpList _ _ _ _ _ _); first | (apply hpLd F; exact rfl; exact rfl; exact rfl; (· repeat (first | exact Has.head | apply Has.tail))) | (apply hpBox F; exact rfl; exact rfl; exact rfl; (· with_reducible first | exact pad_length _ | exact zeros64_length | exact tab_length _ _ | assumption)) | (apply hpAlloc F; exact rfl; exact rfl) | (apply hpSt F; exact rfl; exact rfl; exact rfl; exact rfl; (· repeat (first | exact Upd.head | apply Upd.tail)); (· with_reducible first | exact pad_length _ | exact zeros64_length | exact tab_length _ _ | assumption))))
  clear F
  intro z w1 F
  go_wp2_with (first | ((with_reducible show wpList _ _ _ _ _ _); first | (apply hpLd F; exact rfl; exact rfl; exact rfl; (· repeat (first | exact Has.head | apply Has.tail))) | (apply hpBox F; exact rfl; exact rfl; exact rfl; (· with_reducible first | exact pad_length _ | exact zeros64_length | exact tab_length _ _ | assumption)) | (apply hpAlloc F; exact rfl; exact rfl) | (apply hpSt F; exact rfl; exact rfl; exact rfl; exact rfl; (· repeat (first | exact Upd.head | apply Upd.tail)); (· with_reducible first | exact pad_length _ | exact zeros64_length | exact tab_length _ _ | assumption))))
  clear F
  intro g w1 F
  go_wp2_with (first | ((with_reducible show wpList _ _ _ _ _ _); first | (apply hpLd F; exact rfl; exact rfl; exact rfl; (· repeat (first | exact Has.head | apply Has.tail))) | (apply hpBox F; exact rfl; exact rfl; exact rfl; (· with_reducible first | exact pad_length _ | exact zeros64_length | exact tab_length _ _ | assumption)) | (apply hpAlloc F; exact rfl; exact rfl) | (apply hpSt F; exact rfl; exact rfl; exact rfl; exact rfl; (· repeat (first | exact Upd.head | apply Upd.tail)); (· with_reducible first | exact pad_length _ | exact zeros64_length | exact tab_length _ _ | assumption))))
  clear F
  intro w2 F
  try simp only [List.set_cons_zero, List.set_cons_succ] at F
  clear h1 h2 h3 h4
  go_wp2_with (first | ((with_reducible show wpList _ _ _ _ _ _); first | (apply hpLd F; exact rfl; exact rfl; exact rfl; (· repeat (first | exact Has.head | apply Has.tail))) | (apply hpBox F; exact rfl; exact rfl; exact rfl; (· with_reducible first | exact pad_length _ | exact zeros64_length | exact tab_length _ _ | assumption)) | (apply hpAlloc F; exact rfl; exact rfl) | (apply hpSt F; exact rfl; exact rfl; exact rfl; exact rfl; (· repeat (first | exact Upd.head | apply Upd.tail)); (· with_reducible first | exact pad_length _ | exact zeros64_length | exact tab_length _ _ | assumption))))
  go_loopg [4] (fldC p + 1) (fun f x wr => FldRel p w z g f x wr)
  case atStart => exact ⟨0, rfl, rfl, F⟩
  case round =>
    clear F
    obtain ⟨k, hf, rfl, F⟩ := hrel
    have C := Lib.hid (fldAt_can HO.out k (by omega))
    have L := fldAt_len k
    by_cases hk : k = fldC p + 1
    · have I : Hid (irrS p (fldAt k) = true) := Lib.hid (by rw [fldAt_irr HO.out k (by omega)]; simp [hk])
      have G : Hid (pad (fldAt k) = pad (fld p)) := Lib.hid (by rw [hk, fldAt_last])
      clear hk
      go_wp2_with (first | (go_at_call 96; refine (l01Irreducible_any p (fldAt k) HP.out C.out (by omega) (by omega) _).mono ?_; rintro e w2 ⟨rfl, E2⟩; replace F := F.next E2; rw [I.out]) | ((with_reducible show wpList _ _ _ _ _ _); first | (apply hpLd F; exact rfl; exact rfl; exact rfl; (· repeat (first | exact Has.head | apply Has.tail))) | (apply hpBox F; exact rfl; exact rfl; exact rfl; (· with_reducible first | exact pad_length _ | exact zeros64_length | exact tab_length _ _ | assumption)) | (apply hpAlloc F; exact rfl; exact rfl) | (apply hpSt F; exact rfl; exact rfl; exact rfl; exact rfl; (· repeat (first | exact Upd.head | apply Upd.tail)); (· with_reducible first | exact pad_length _ | exact zeros64_length | exact tab_length _ _ | assumption))))
      intro w3 F
      try simp only [List.set_cons_zero, List.set_cons_succ] at F
      rw [G.out] at F
      go_wp2_with (first | ((with_reducible show wpList _ _ _ _ _ _); first | (apply hpLd F; exact rfl; exact rfl; exact rfl; (· repeat (first | exact Has.head | apply Has.tail))) | (apply hpBox F; exact rfl; exact rfl; exact rfl; (· with_reducible first | exact pad_length _ | exact zeros64_length | exact tab_length _ _ | assumption)) | (apply hpAlloc F; exact rfl; exact rfl) | (apply hpSt F; exact rfl; exact rfl; exact rfl; exact rfl; (· repeat (first | exact Upd.head | apply Upd.tail)); (· with_reducible first | exact pad_length _ | exact zeros64_length | exact tab_length _ _ | assumption))))
      exact bodyPost_ret (res_c rfl rfl (F.at_ 1 rfl) (pad_length _) Tryz.underlying25 infoPoly) rfl ⟨rfl, F.ext⟩
    · have I : Hid (irrS p (fldAt k) = false) := Lib.hid (by rw [fldAt_irr HO.out k (by omega)]; simp [hk])
      go_wp2_with (first | (go_at_call 96; refine (l01Irreducible_any p (fldAt k) HP.out C.out (by omega) (by omega) _).mono ?_; rintro e w2 ⟨rfl, E2⟩; replace F := F.next E2; rw [I.out]) | ((with_reducible show wpList _ _ _ _ _ _); first | (apply hpLd F; exact rfl; exact rfl; exact rfl; (· repeat (first | exact Has.head | apply Has.tail))) | (apply hpBox F; exact rfl; exact rfl; exact rfl; (· with_reducible first | exact pad_length _ | exact zeros64_length | exact tab_length _ _ | assumption)) | (apply hpAlloc F; exact rfl; exact rfl) | (apply hpSt F; exact rfl; exact rfl; exact rfl; exact rfl; (· repeat (first | exact Upd.head | apply Upd.tail)); (· with_reducible first | exact pad_length _ | exact zeros64_length | exact tab_length _ _ | assumption))))
      have k60 : k < 2 ^ 60 := Nat.lt_of_lt_of_le (show k < 100 by omega) (by decide)
      have HOF := Lib.hid (l01Of_any p k lo hi k60)
      clear k60
      have N := Lib.hid (fldAt_next HO.out k (by omega))
      go_wp2_with (first | (go_at_call 66; refine (HOF.out _).mono ?_; rintro e w3 ⟨rfl, E3⟩; replace F := F.next E3) | ((with_reducible show wpList _ _ _ _ _ _); first | (apply hpLd F; exact rfl; exact rfl; exact rfl; (· repeat (first | exact Has.head | apply Has.tail))) | (apply hpBox F; exact rfl; exact rfl; exact rfl; (· with_reducible first | exact pad_length _ | exact zeros64_length | exact tab_length _ _ | assumption)) | (apply hpAlloc F; exact rfl; exact rfl) | (apply hpSt F; exact rfl; exact rfl; exact rfl; exact rfl; (· repeat (first | exact Upd.head | apply Upd.tail)); (· with_reducible first | exact pad_length _ | exact zeros64_length | exact tab_length _ _ | assumption))))
      clear F
      intro w4 F
      try simp only [List.set_cons_zero, List.set_cons_succ] at F
      have f0 := F.free 0 rfl 2
      have c0 := F.cell 0 rfl 2 (by decide)
      go_wp2
      go_roundg (gk - 1)
      case measure => omega
      case rel => exact ⟨k + 1, by omega, by go_num, by rw [← N.out]; exact F.setCell 0 rfl 2 _⟩

theorem l07Genus_any (d : List Int) (hz : NZ d) (ld : d.length ≤ 64) (h1 : 2 ≤ d.length) (w : World) :
    Calls Tryz.prog 44 #[.agg (u8s (pad d))] w fun e w' => e = .returned (.int .i64 (((d.length : Int) - 2) / 2)) ∧ Ext w w' := by
  have hz2 := zlit
  have HZ := Lib.hid hz
  clear hz
  have F := Hp.start w
  go_enter Tryz.func44, Tryz.ntmps44
  go_wp2_with (first | ((with_reducible show wpList _ _ _ _ _ _); first | (apply hpLd F; exact rfl; exact rfl; exact rfl; (· repeat (first | exact Has.head | apply Has.tail))) | (apply hpBox F; exact rfl; exact rfl; exact rfl; (· with_reducible first | exact pad_length _ | exact zeros64_length | exact tab_length _ _ | assumption)) | (apply hpAlloc F; exact rfl; exact rfl) | (apply hpSt F; exact rfl; exact rfl; exact rfl; exact rfl; (· repeat (first | exact Upd.head | apply Upd.tail)); (· with_reducible first | exact pad_length _ | exact zeros64_length | exact tab_length _ _ | assumption))))
  clear F
  intro g w1 F
  go_wp2_with (first | (go_at_call 49; refine (l01Deg_pad d _ HZ.out ld rfl _).mono ?_; rintro e w2 ⟨rfl, E2⟩; replace F := F.next E2) | ((with_reducible show wpList _ _ _ _ _ _); first | (apply hpLd F; exact rfl; exact rfl; exact rfl; (· repeat (first | exact Has.head | apply Has.tail))) | (apply hpBox F; exact rfl; exact rfl; exact rfl; (· with_reducible first | exact pad_length _ | exact zeros64_length | exact tab_length _ _ | assumption)) | (apply hpAlloc F; exact rfl; exact rfl) | (apply hpSt F; exact rfl; exact rfl; exact rfl; exact rfl; (· repeat (first | exact Upd.head | apply Upd.tail)); (· with_reducible first | exact pad_length _ | exact zeros64_length | exact tab_length _ _ | assumption))))
  go_ret
  exact ⟨ret_int (by omega), F.ext⟩

end Go.Proofs.YtaemiknaiccijaaGreat
