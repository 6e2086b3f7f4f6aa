/- Lemmas and contracts of functions, for the laws: The reference's products by a modulus: T times a rest. -/
import Derived.Test.YtaemiknaiccijaaGreatRm4
import Derived.Deep.LoopGhost
set_option linter.unusedVariables false
set_option linter.unusedSimpArgs false
namespace Go.Proofs.YtaemiknaiccijaaGreat
open Go.RowKit

/-- The shifted array behind n steps; then the one from which the multiple of m is taken away, behind n steps. -/
def upA (a : List Int) (n : Nat) : List Int := tab 64 fun i => if 1 ≤ i ∧ i < n then at0 a (i - 1) else 0
def upB (p f : Int) (a m : List Int) (N n : Nat) : List Int := tab 64 fun i => if i < n then ((if 1 ≤ i ∧ i < N then at0 a (i - 1) else 0) - f * at0 m i) % p else if 1 ≤ i ∧ i < N then at0 a (i - 1) else 0
theorem upA_one (a : List Int) : upA a 1 = zeros64 := by rw [zeros64_tab]; exact tab_congr fun i _ => if_neg (by omega)
theorem upA_step (a : List Int) (n : Nat) (h1 : 1 ≤ n) (h : n < 64) : (upA a n).set n (at0 a (n - 1)) = upA a (n + 1) := by
  unfold upA
  rw [tab_set 64 _ _ _ h]
  refine tab_congr fun i _ => ?_
  by_cases e : i = n
  · subst e; rw [if_pos rfl, if_pos ⟨h1, by omega⟩]
  · rw [if_neg e]
    by_cases h2 : 1 ≤ i ∧ i < n
    · rw [if_pos h2, if_pos ⟨h2.1, by omega⟩]
    · rw [if_neg h2, if_neg (by omega)]
theorem upB_zero (p f : Int) (a m : List Int) (N : Nat) : upB p f a m N 0 = upA a N := tab_congr fun i _ => if_neg (by omega)
theorem upB_step (p f : Int) (a m : List Int) (N n : Nat) (h : n < 64) : (upB p f a m N n).set n (((if 1 ≤ n ∧ n < N then at0 a (n - 1) else 0) - f * at0 m n) % p) = upB p f a m N (n + 1) := by
  unfold upB
  rw [tab_set 64 _ _ _ h]
  refine tab_congr fun i _ => ?_
  by_cases e : i = n
  · subst e; rw [if_pos rfl, if_pos (show i < i + 1 by omega)]
  · rw [if_neg e]
    by_cases h2 : i < n
    · rw [if_pos h2, if_pos (show i < n + 1 by omega)]
    · rw [if_neg h2, if_neg (show ¬ i < n + 1 by omega)]
theorem upB_end {p : Int} (a m : List Int) (N : Nat) (hm : m.length = N + 1) (hN : 1 ≤ N) (h64 : N ≤ 63) : upB p (at0 a (N - 1) * invP p (at0 m N) % p) a m N N = pad (upr p a m) := by
  unfold upr
  rw [if_neg (by omega)]
  symm
  refine pad_eq fun i hi => ?_
  rw [show m.length - 1 = N by omega, show m.length - 2 = N - 1 by omega, show lc m = at0 m N by unfold lc; rw [hm]; rfl]
  by_cases h : i < N
  · rw [if_pos h, if_pos h]
    by_cases h0 : i = 0
    · rw [if_pos h0, if_neg (show ¬ (1 ≤ i ∧ i < N) by omega)]
    · rw [if_neg h0, if_pos (show 1 ≤ i ∧ i < N by omega)]
  · rw [if_neg h, if_neg h, if_neg (show ¬ (1 ≤ i ∧ i < N) by omega)]

def UpRel1 (a m : List Int) (w : World) (ga gm z g N n : Nat) (i : Value) (wr : World) : Prop :=
  ∃ k : Nat, n + k = N ∧ 1 ≤ k ∧ i = .int .i64 k ∧ Hp w wr [(g, upA a k), (z, zeros64), (gm, pad m), (ga, pad a)]
def UpRel2 (p f : Int) (a m : List Int) (w : World) (ga gm z g N n : Nat) (i : Value) (wr : World) : Prop :=
  ∃ k : Nat, n + k = N ∧ i = .int .i64 k ∧ Hp w wr [(g, upB p f a m N k), (z, zeros64), (gm, pad m), (ga, pad a)]

set_option maxRecDepth 100000 in
set_option maxHeartbeats 2000000 in
theorem l01Up_any (p : Int) (a m : List Int) (hp : PrimeP p) (ha : Can p a) (hm : Can p m) (lm : m.length ≤ 64) (hne : 0 < m.length) (hlt : a.length < m.length) (w : World) :
    Calls Tryz.prog 83 #[.int .i64 p, .agg (u8s (pad a)), .agg (u8s (pad m))] w fun e w' => e = .returned (.agg (u8s (pad (upr p a m)))) ∧ Ext w w' := by
  have hz := zlit
  obtain ⟨N, hN⟩ : ∃ N, m.length = N + 1 := ⟨m.length - 1, by omega⟩
  have HN := Lib.hid hN
  have HP := Lib.hid hp
  have HA := Lib.hid ha
  have HM := Lib.hid hm
  have lN : N ≤ 63 := by omega
  have la : a.length ≤ 64 := by omega
  have LM := Lib.hid lm
  have hlc := hm.last hne
  rw [show m.length - 1 = N by omega] at hlc
  have lo := hp.lo
  have hi := hp.hi
  have hinv := invP_range (x := at0 m N) hp
  clear ha hm hp hN hne hlt lm
  have F := Hp.start w
  by_cases h0 : N = 0
  · subst h0
    have G : Hid (pad (upr p a m) = zeros64) := Lib.hid (by unfold upr; rw [if_pos HN.out, pad_nil])
    go_enter Tryz.func83, Tryz.ntmps83
    go_wp2_with (first | ((with_reducible show wpList _ _ _ _ _ _); first | (apply hpLd F; exact rfl; exact rfl; exact rfl; (· repeat (first | exact Has.head | apply Has.tail))) | (apply hpBox F; exact rfl; exact rfl; exact rfl; (· with_reducible first | exact pad_length _ | exact zeros64_length | exact tab_length _ _ | assumption)) | (apply hpAlloc F; exact rfl; exact rfl) | (apply hpSt F; exact rfl; exact rfl; exact rfl; exact rfl; (· repeat (first | exact Upd.head | apply Upd.tail)); (· with_reducible first | exact pad_length _ | exact zeros64_length | exact tab_length _ _ | assumption))))
    clear F
    intro ga w1 F
    go_wp2_with (first | ((with_reducible show wpList _ _ _ _ _ _); first | (apply hpLd F; exact rfl; exact rfl; exact rfl; (· repeat (first | exact Has.head | apply Has.tail))) | (apply hpBox F; exact rfl; exact rfl; exact rfl; (· with_reducible first | exact pad_length _ | exact zeros64_length | exact tab_length _ _ | assumption)) | (apply hpAlloc F; exact rfl; exact rfl) | (apply hpSt F; exact rfl; exact rfl; exact rfl; exact rfl; (· repeat (first | exact Upd.head | apply Upd.tail)); (· with_reducible first | exact pad_length _ | exact zeros64_length | exact tab_length _ _ | assumption))))
    clear F
    intro gm w1 F
    go_wp2_with (first | ((with_reducible show wpList _ _ _ _ _ _); first | (apply hpLd F; exact rfl; exact rfl; exact rfl; (· repeat (first | exact Has.head | apply Has.tail))) | (apply hpBox F; exact rfl; exact rfl; exact rfl; (· with_reducible first | exact pad_length _ | exact zeros64_length | exact tab_length _ _ | assumption)) | (apply hpAlloc F; exact rfl; exact rfl) | (apply hpSt F; exact rfl; exact rfl; exact rfl; exact rfl; (· repeat (first | exact Upd.head | apply Upd.tail)); (· with_reducible first | exact pad_length _ | exact zeros64_length | exact tab_length _ _ | assumption))))
    clear F
    intro z w1 F
    go_wp2_with (first | ((with_reducible show wpList _ _ _ _ _ _); first | (apply hpLd F; exact rfl; exact rfl; exact rfl; (· repeat (first | exact Has.head | apply Has.tail))) | (apply hpBox F; exact rfl; exact rfl; exact rfl; (· with_reducible first | exact pad_length _ | exact zeros64_length | exact tab_length _ _ | assumption)) | (apply hpAlloc F; exact rfl; exact rfl) | (apply hpSt F; exact rfl; exact rfl; exact rfl; exact rfl; (· repeat (first | exact Upd.head | apply Upd.tail)); (· with_reducible first | exact pad_length _ | exact zeros64_length | exact tab_length _ _ | assumption))))
    refine (l01Deg_pad m 0 HM.out.nz LM.out (by rw [HN.out]; rfl) _).mono ?_
    rintro e w2 ⟨rfl, E2⟩
    replace F := F.next E2
    go_wp2_with (first | ((with_reducible show wpList _ _ _ _ _ _); first | (apply hpLd F; exact rfl; exact rfl; exact rfl; (· repeat (first | exact Has.head | apply Has.tail))) | (apply hpBox F; exact rfl; exact rfl; exact rfl; (· with_reducible first | exact pad_length _ | exact zeros64_length | exact tab_length _ _ | assumption)) | (apply hpAlloc F; exact rfl; exact rfl) | (apply hpSt F; exact rfl; exact rfl; exact rfl; exact rfl; (· repeat (first | exact Upd.head | apply Upd.tail)); (· with_reducible first | exact pad_length _ | exact zeros64_length | exact tab_length _ _ | assumption))))
    clear F
    intro w1 F
    try simp only [List.set_cons_zero, List.set_cons_succ] at F
    go_wp2_with (first | ((with_reducible show wpList _ _ _ _ _ _); first | (apply hpLd F; exact rfl; exact rfl; exact rfl; (· repeat (first | exact Has.head | apply Has.tail))) | (apply hpBox F; exact rfl; exact rfl; exact rfl; (· with_reducible first | exact pad_length _ | exact zeros64_length | exact tab_length _ _ | assumption)) | (apply hpAlloc F; exact rfl; exact rfl) | (apply hpSt F; exact rfl; exact rfl; exact rfl; exact rfl; (· repeat (first | exact Upd.head | apply Upd.tail)); (· with_reducible first | exact pad_length _ | exact zeros64_length | exact tab_length _ _ | assumption))))
    exact bodyPost_ret (res_c rfl rfl (F.at_ 0 rfl) zeros64_length Tryz.underlying25 infoPoly) rfl ⟨by rw [G.out], F.ext⟩
  · have n1 : 1 ≤ N := by omega
    have t0 : ((N : Int) == 0) = false := by simp; omega
    clear h0
    go_enter Tryz.func83, Tryz.ntmps83
    go_wp2_with (first | ((with_reducible show wpList _ _ _ _ _ _); first | (apply hpLd F; exact rfl; exact rfl; exact rfl; (· repeat (first | exact Has.head | apply Has.tail))) | (apply hpBox F; exact rfl; exact rfl; exact rfl; (· with_reducible first | exact pad_length _ | exact zeros64_length | exact tab_length _ _ | assumption)) | (apply hpAlloc F; exact rfl; exact rfl) | (apply hpSt F; exact rfl; exact rfl; exact rfl; exact rfl; (· repeat (first | exact Upd.head | apply Upd.tail)); (· with_reducible first | exact pad_length _ | exact zeros64_length | exact tab_length _ _ | assumption))))
    clear F
    intro ga w1 F
    go_wp2_with (first | ((with_reducible show wpList _ _ _ _ _ _); first | (apply hpLd F; exact rfl; exact rfl; exact rfl; (· repeat (first | exact Has.head | apply Has.tail))) | (apply hpBox F; exact rfl; exact rfl; exact rfl; (· with_reducible first | exact pad_length _ | exact zeros64_length | exact tab_length _ _ | assumption)) | (apply hpAlloc F; exact rfl; exact rfl) | (apply hpSt F; exact rfl; exact rfl; exact rfl; exact rfl; (· repeat (first | exact Upd.head | apply Upd.tail)); (· with_reducible first | exact pad_length _ | exact zeros64_length | exact tab_length _ _ | assumption))))
    clear F
    intro gm w1 F
    go_wp2_with (first | ((with_reducible show wpList _ _ _ _ _ _); first | (apply hpLd F; exact rfl; exact rfl; exact rfl; (· repeat (first | exact Has.head | apply Has.tail))) | (apply hpBox F; exact rfl; exact rfl; exact rfl; (· with_reducible first | exact pad_length _ | exact zeros64_length | exact tab_length _ _ | assumption)) | (apply hpAlloc F; exact rfl; exact rfl) | (apply hpSt F; exact rfl; exact rfl; exact rfl; exact rfl; (· repeat (first | exact Upd.head | apply Upd.tail)); (· with_reducible first | exact pad_length _ | exact zeros64_length | exact tab_length _ _ | assumption))))
    clear F
    intro z w1 F
    go_wp2_with (first | ((with_reducible show wpList _ _ _ _ _ _); first | (apply hpLd F; exact rfl; exact rfl; exact rfl; (· repeat (first | exact Has.head | apply Has.tail))) | (apply hpBox F; exact rfl; exact rfl; exact rfl; (· with_reducible first | exact pad_length _ | exact zeros64_length | exact tab_length _ _ | assumption)) | (apply hpAlloc F; exact rfl; exact rfl) | (apply hpSt F; exact rfl; exact rfl; exact rfl; exact rfl; (· repeat (first | exact Upd.head | apply Upd.tail)); (· with_reducible first | exact pad_length _ | exact zeros64_length | exact tab_length _ _ | assumption))))
    refine (l01Deg_pad m N HM.out.nz LM.out (by have := HN.out; omega) _).mono ?_
    rintro e w2 ⟨rfl, E2⟩
    replace F := F.next E2
    have c := F.cell 2 rfl (N - 1) (by omega)
    rw [at0_pad a la] at c
    have i1 : ((N : Int) - 1).toNat = N - 1 := by omega
    have ba := HA.out.inp (N - 1)
    go_wp2_with (first | ((with_reducible show wpList _ _ _ _ _ _); first | (apply hpLd F; exact rfl; exact rfl; exact rfl; (· repeat (first | exact Has.head | apply Has.tail))) | (apply hpBox F; exact rfl; exact rfl; exact rfl; (· with_reducible first | exact pad_length _ | exact zeros64_length | exact tab_length _ _ | assumption)) | (apply hpAlloc F; exact rfl; exact rfl) | (apply hpSt F; exact rfl; exact rfl; exact rfl; exact rfl; (· repeat (first | exact Upd.head | apply Upd.tail)); (· with_reducible first | exact pad_length _ | exact zeros64_length | exact tab_length _ _ | assumption))))
    clear F
    intro g w1 F
    go_wp2_with (first | ((with_reducible show wpList _ _ _ _ _ _); first | (apply hpLd F; exact rfl; exact rfl; exact rfl; (· repeat (first | exact Has.head | apply Has.tail))) | (apply hpBox F; exact rfl; exact rfl; exact rfl; (· with_reducible first | exact pad_length _ | exact zeros64_length | exact tab_length _ _ | assumption)) | (apply hpAlloc F; exact rfl; exact rfl) | (apply hpSt F; exact rfl; exact rfl; exact rfl; exact rfl; (· repeat (first | exact Upd.head | apply Upd.tail)); (· with_reducible first | exact pad_length _ | exact zeros64_length | exact tab_length _ _ | assumption))))
    clear F
    intro w1 F
    try simp only [List.set_cons_zero, List.set_cons_succ] at F
    go_wp2_with (first | ((with_reducible show wpList _ _ _ _ _ _); first | (apply hpLd F; exact rfl; exact rfl; exact rfl; (· repeat (first | exact Has.head | apply Has.tail))) | (apply hpBox F; exact rfl; exact rfl; exact rfl; (· with_reducible first | exact pad_length _ | exact zeros64_length | exact tab_length _ _ | assumption)) | (apply hpAlloc F; exact rfl; exact rfl) | (apply hpSt F; exact rfl; exact rfl; exact rfl; exact rfl; (· repeat (first | exact Upd.head | apply Upd.tail)); (· with_reducible first | exact pad_length _ | exact zeros64_length | exact tab_length _ _ | assumption))))
    clear c
    go_loopg [10] (N - 1) (fun n i wr => UpRel1 a m w ga gm z g N n i wr)
    case atStart => exact ⟨1, by omega, Nat.le_refl _, rfl, by rw [upA_one]; exact F⟩
    case round =>
      clear F
      obtain ⟨k, hk, k1, rfl, F⟩ := hrel
      by_cases hlt : k < N
      · have c := F.cell 3 rfl (k - 1) (by omega)
        rw [at0_pad a la] at c
        have f := F.free 0 rfl k
        have c0 := F.cell 0 rfl k (by omega)
        have i2 : ((k : Int) - 1).toNat = k - 1 := by omega
        go_wp2
        go_roundg (gk - 1)
        case measure => omega
        case rel => exact ⟨k + 1, by omega, by omega, by go_num, by rw [← upA_step a k k1 (by omega)]; exact F.setCell 0 rfl k _⟩
      · obtain rfl : k = N := by omega
        have c := F.cell 2 rfl k (by omega)
        rw [at0_pad m LM.out] at c
        have r2 := mulB (K := 7) (C := 7) (by decide) (show -7 ≤ at0 a (k - 1) by omega) (by omega) hinv.1 (by omega)
        have r3 : 0 ≤ at0 a (k - 1) * invP p (at0 m k) := Int.mul_nonneg ba.1 hinv.1
        have r4 := emod_range (at0 a (k - 1) * invP p (at0 m k)) p (by omega)
        have hp0 : p ≠ 0 := by omega
        go_wp2_with (first | (go_at_call 82; refine (l01Inverse_any p (at0 m k) HP.out hlc.1 hlc.2 _).mono ?_; rintro e w4 ⟨rfl, rfl⟩) | ((with_reducible show wpList _ _ _ _ _ _); first | (apply hpLd F; exact rfl; exact rfl; exact rfl; (· repeat (first | exact Has.head | apply Has.tail))) | (apply hpBox F; exact rfl; exact rfl; exact rfl; (· with_reducible first | exact pad_length _ | exact zeros64_length | exact tab_length _ _ | assumption)) | (apply hpAlloc F; exact rfl; exact rfl) | (apply hpSt F; exact rfl; exact rfl; exact rfl; exact rfl; (· repeat (first | exact Upd.head | apply Upd.tail)); (· with_reducible first | exact pad_length _ | exact zeros64_length | exact tab_length _ _ | assumption))))
        have HX : Hid (upB p (at0 a (k - 1) * invP p (at0 m k) % p) a m k k = pad (upr p a m)) := Lib.hid (upB_end a m k HN.out n1 lN)
        clear r2 r3 c
        generalize at0 a (k - 1) * invP p (at0 m k) % p = f at *
        go_loopg [12] k (fun n i wr => UpRel2 p f a m w ga gm z g k n i wr)
        case atStart => exact ⟨0, by omega, rfl, by rw [upB_zero]; exact F⟩
        case round =>
          clear F
          obtain ⟨j, hj, rfl, F⟩ := hrel
          by_cases hlt2 : j < k
          · have c1 := F.cell 0 rfl j (by omega)
            have e1 : at0 (upB p f a m k j) j = if 1 ≤ j ∧ j < k then at0 a (j - 1) else 0 := by
              unfold upB; rw [at0_tab_lt _ (by omega), if_neg (by omega)]
            rw [e1] at c1
            have f1 := F.free 0 rfl j
            have c2 := F.cell 2 rfl j (by omega)
            rw [at0_pad m LM.out] at c2
            have bx : 0 ≤ (if 1 ≤ j ∧ j < k then at0 a (j - 1) else 0) ∧ (if 1 ≤ j ∧ j < k then at0 a (j - 1) else 0) < p := by
              split
              · exact HA.out.inp _
              · omega
            have ST := Lib.hid (upB_step p f a m k j (by omega))
            clear e1
            generalize (if 1 ≤ j ∧ j < k then at0 a (j - 1) else 0) = x at *
            have bm := HM.out.inp j
            have r2 := mulB (K := 7) (C := 7) (by decide) (show -7 ≤ f by omega) (by omega) bm.1 (by omega)
            have r5 := tmodB (x - f * at0 m j) p lo hi
            have r6 := emod_range (x - f * at0 m j) p (by omega)
            have G := Lib.hid (go_mod (x - f * at0 m j) p (by omega))
            have i4 : (j : Int) < 64 := by omega
            go_wp2
            refine wp_region_still_tail 19 (by kernel_rfl) (by kernel_rfl) ?_
            simp only [List.take_succ_cons, List.take_zero, List.drop_succ_cons, List.drop_zero]
            repeat (refine wpStill_step (fun K hK => ?_); go_simp; (try go_bits); refine hK _ ?_; clear hK K)
            refine wpStill_nil ?_
            change wpList _ _ _ _ _ wr.drew
            go_wp2
            go_roundg (gk - 1)
            case measure => omega
            case rel =>
              refine ⟨j + 1, by omega, by go_num, ?_⟩
              rw [← ST.out, G.out, Int.emod_eq_of_lt r6.1 (by omega)]
              exact (F.setCell 0 rfl j _).drew
          · obtain rfl : j = k := by omega
            rw [HX.out] at F
            go_wp2_with (first | ((with_reducible show wpList _ _ _ _ _ _); first | (apply hpLd F; exact rfl; exact rfl; exact rfl; (· repeat (first | exact Has.head | apply Has.tail))) | (apply hpBox F; exact rfl; exact rfl; exact rfl; (· with_reducible first | exact pad_length _ | exact zeros64_length | exact tab_length _ _ | assumption)) | (apply hpAlloc F; exact rfl; exact rfl) | (apply hpSt F; exact rfl; exact rfl; exact rfl; exact rfl; (· repeat (first | exact Upd.head | apply Upd.tail)); (· with_reducible first | exact pad_length _ | exact zeros64_length | exact tab_length _ _ | assumption))))
            clear F
            intro w1 F
            try simp only [List.set_cons_zero, List.set_cons_succ] at F
            go_wp2_with (first | ((with_reducible show wpList _ _ _ _ _ _); first | (apply hpLd F; exact rfl; exact rfl; exact rfl; (· repeat (first | exact Has.head | apply Has.tail))) | (apply hpBox F; exact rfl; exact rfl; exact rfl; (· with_reducible first | exact pad_length _ | exact zeros64_length | exact tab_length _ _ | assumption)) | (apply hpAlloc F; exact rfl; exact rfl) | (apply hpSt F; exact rfl; exact rfl; exact rfl; exact rfl; (· repeat (first | exact Upd.head | apply Upd.tail)); (· with_reducible first | exact pad_length _ | exact zeros64_length | exact tab_length _ _ | assumption))))
            exact bodyPost_ret (res_c rfl rfl (F.at_ 1 rfl) (pad_length _) Tryz.underlying25 infoPoly) rfl ⟨rfl, F.ext⟩

end Go.Proofs.YtaemiknaiccijaaGreat

/- The reference's products and powers by a modulus. -/
namespace Go.Proofs.YtaemiknaiccijaaGreat
open Go.RowKit

/-- What is left of a product by m: n coefficients of b, from the leading one down. -/
def MmRel (p : Int) (a b m : List Int) (w : World) (ga gb gm z g n : Nat) (i : Value) (wr : World) : Prop :=
  ∃ (k : Nat) (out : List Int), n = k ∧ i = .int .i64 ((k : Int) - 1) ∧ k ≤ b.length ∧ Can p out ∧ out.length < m.length ∧ mmF p a b m k out = mulm p a b m ∧ Hp w wr [(g, pad out), (z, zeros64), (gm, pad m), (gb, pad b), (ga, pad a)]

set_option maxRecDepth 100000 in
set_option maxHeartbeats 2000000 in
theorem l01MulMod_any (p : Int) (a b m : List Int) (hp : PrimeP p) (ha : Can p a) (hb : Can p b) (hm : Can p m) (la : a.length ≤ 64) (lb : b.length ≤ 64) (lm : m.length ≤ 64) (hne : 0 < m.length) (w : World) :
    Calls Tryz.prog 51 #[.int .i64 p, .agg (u8s (pad a)), .agg (u8s (pad b)), .agg (u8s (pad m))] w fun e w' => e = .returned (.agg (u8s (pad (mulm p a b m)))) ∧ Ext w w' := by
  have hz := zlit
  have HP := Lib.hid hp
  have HA := Lib.hid ha
  have HB := Lib.hid hb
  have HM := Lib.hid hm
  have NE := Lib.hid hne
  have lo := hp.lo
  have hi := hp.hi
  clear ha hb hm hp hne
  have F := Hp.start w
  go_enter Tryz.func51, Tryz.ntmps51
  go_wp2_with (first | ((with_reducible show wpList _ _ _ _ _ _); first | (apply hpLd F; exact rfl; exact rfl; exact rfl; (· repeat (first | exact Has.head | apply Has.tail))) | (apply hpBox F; exact rfl; exact rfl; exact rfl; (· with_reducible first | exact pad_length _ | exact zeros64_length | exact tab_length _ _ | assumption)) | (apply hpAlloc F; exact rfl; exact rfl) | (apply hpSt F; exact rfl; exact rfl; exact rfl; exact rfl; (· repeat (first | exact Upd.head | apply Upd.tail)); (· with_reducible first | exact pad_length _ | exact zeros64_length | exact tab_length _ _ | assumption))))
  clear F
  intro ga w1 F
  go_wp2_with (first | ((with_reducible show wpList _ _ _ _ _ _); first | (apply hpLd F; exact rfl; exact rfl; exact rfl; (· repeat (first | exact Has.head | apply Has.tail))) | (apply hpBox F; exact rfl; exact rfl; exact rfl; (· with_reducible first | exact pad_length _ | exact zeros64_length | exact tab_length _ _ | assumption)) | (apply hpAlloc F; exact rfl; exact rfl) | (apply hpSt F; exact rfl; exact rfl; exact rfl; exact rfl; (· repeat (first | exact Upd.head | apply Upd.tail)); (· with_reducible first | exact pad_length _ | exact zeros64_length | exact tab_length _ _ | assumption))))
  clear F
  intro gb w1 F
  go_wp2_with (first | ((with_reducible show wpList _ _ _ _ _ _); first | (apply hpLd F; exact rfl; exact rfl; exact rfl; (· repeat (first | exact Has.head | apply Has.tail))) | (apply hpBox F; exact rfl; exact rfl; exact rfl; (· with_reducible first | exact pad_length _ | exact zeros64_length | exact tab_length _ _ | assumption)) | (apply hpAlloc F; exact rfl; exact rfl) | (apply hpSt F; exact rfl; exact rfl; exact rfl; exact rfl; (· repeat (first | exact Upd.head | apply Upd.tail)); (· with_reducible first | exact pad_length _ | exact zeros64_length | exact tab_length _ _ | assumption))))
  clear F
  intro gm w1 F
  go_wp2_with (first | ((with_reducible show wpList _ _ _ _ _ _); first | (apply hpLd F; exact rfl; exact rfl; exact rfl; (· repeat (first | exact Has.head | apply Has.tail))) | (apply hpBox F; exact rfl; exact rfl; exact rfl; (· with_reducible first | exact pad_length _ | exact zeros64_length | exact tab_length _ _ | assumption)) | (apply hpAlloc F; exact rfl; exact rfl) | (apply hpSt F; exact rfl; exact rfl; exact rfl; exact rfl; (· repeat (first | exact Upd.head | apply Upd.tail)); (· with_reducible first | exact pad_length _ | exact zeros64_length | exact tab_length _ _ | assumption))))
  clear F
  intro z w1 F
  go_wp2_with (first | ((with_reducible show wpList _ _ _ _ _ _); first | (apply hpLd F; exact rfl; exact rfl; exact rfl; (· repeat (first | exact Has.head | apply Has.tail))) | (apply hpBox F; exact rfl; exact rfl; exact rfl; (· with_reducible first | exact pad_length _ | exact zeros64_length | exact tab_length _ _ | assumption)) | (apply hpAlloc F; exact rfl; exact rfl) | (apply hpSt F; exact rfl; exact rfl; exact rfl; exact rfl; (· repeat (first | exact Upd.head | apply Upd.tail)); (· with_reducible first | exact pad_length _ | exact zeros64_length | exact tab_length _ _ | assumption))))
  clear F
  intro g w1 F
  go_wp2_with (first | ((with_reducible show wpList _ _ _ _ _ _); first | (apply hpLd F; exact rfl; exact rfl; exact rfl; (· repeat (first | exact Has.head | apply Has.tail))) | (apply hpBox F; exact rfl; exact rfl; exact rfl; (· with_reducible first | exact pad_length _ | exact zeros64_length | exact tab_length _ _ | assumption)) | (apply hpAlloc F; exact rfl; exact rfl) | (apply hpSt F; exact rfl; exact rfl; exact rfl; exact rfl; (· repeat (first | exact Upd.head | apply Upd.tail)); (· with_reducible first | exact pad_length _ | exact zeros64_length | exact tab_length _ _ | assumption))))
  clear F
  intro w1 F
  try simp only [List.set_cons_zero, List.set_cons_succ] at F
  go_wp2_with (first | (go_at_call 49; refine (l01Deg_pad b _ HB.out.nz lb rfl _).mono ?_; rintro e w2 ⟨rfl, E2⟩; replace F := F.next E2) | ((with_reducible show wpList _ _ _ _ _ _); first | (apply hpLd F; exact rfl; exact rfl; exact rfl; (· repeat (first | exact Has.head | apply Has.tail))) | (apply hpBox F; exact rfl; exact rfl; exact rfl; (· with_reducible first | exact pad_length _ | exact zeros64_length | exact tab_length _ _ | assumption)) | (apply hpAlloc F; exact rfl; exact rfl) | (apply hpSt F; exact rfl; exact rfl; exact rfl; exact rfl; (· repeat (first | exact Upd.head | apply Upd.tail)); (· with_reducible first | exact pad_length _ | exact zeros64_length | exact tab_length _ _ | assumption))))
  rw [← pad_nil] at F
  go_loopg [10] b.length (fun n i wr => MmRel p a b m w ga gb gm z g n i wr)
  case atStart =>
    refine ⟨b.length, [], rfl, rfl, Nat.le_refl _, can_nil (by omega), NE.out, rfl, ?_⟩
    rw [pad_nil] at *
    exact F
  case round =>
    clear F
    obtain ⟨k, out, hk, rfl, kb, co, lo2, hmm, F⟩ := hrel
    have HMM := Lib.hid hmm
    have CO := Lib.hid co
    clear hmm co
    by_cases k0 : k = 0
    · subst k0
      have G : Hid (pad out = pad (mulm p a b m)) := Lib.hid (by rw [← HMM.out]; rfl)
      rw [G.out] at F
      go_wp2_with (first | ((with_reducible show wpList _ _ _ _ _ _); first | (apply hpLd F; exact rfl; exact rfl; exact rfl; (· repeat (first | exact Has.head | apply Has.tail))) | (apply hpBox F; exact rfl; exact rfl; exact rfl; (· with_reducible first | exact pad_length _ | exact zeros64_length | exact tab_length _ _ | assumption)) | (apply hpAlloc F; exact rfl; exact rfl) | (apply hpSt F; exact rfl; exact rfl; exact rfl; exact rfl; (· repeat (first | exact Upd.head | apply Upd.tail)); (· with_reducible first | exact pad_length _ | exact zeros64_length | exact tab_length _ _ | assumption))))
      clear F
      intro w1 F
      try simp only [List.set_cons_zero, List.set_cons_succ] at F
      go_wp2_with (first | ((with_reducible show wpList _ _ _ _ _ _); first | (apply hpLd F; exact rfl; exact rfl; exact rfl; (· repeat (first | exact Has.head | apply Has.tail))) | (apply hpBox F; exact rfl; exact rfl; exact rfl; (· with_reducible first | exact pad_length _ | exact zeros64_length | exact tab_length _ _ | assumption)) | (apply hpAlloc F; exact rfl; exact rfl) | (apply hpSt F; exact rfl; exact rfl; exact rfl; exact rfl; (· repeat (first | exact Upd.head | apply Upd.tail)); (· with_reducible first | exact pad_length _ | exact zeros64_length | exact tab_length _ _ | assumption))))
      exact bodyPost_ret (res_c rfl rfl (F.at_ 1 rfl) (pad_length _) Tryz.underlying25 infoPoly) rfl ⟨rfl, F.ext⟩
    · obtain ⟨n, rfl⟩ : ∃ n, k = n + 1 := ⟨k - 1, by omega⟩
      rw [show ((n + 1 : Nat) : Int) - 1 = (n : Int) by omega]
      have bn := HB.out.inp n
      clear k0
      have UC := Lib.hid (upr_can (show 0 < p by omega) out m)
      have UL := upr_lt p out m NE.out
      have CC := Lib.hid (comb_can (show 0 < p by omega) (upr p out m) a (at0 b n))
      have CL : (comb p (upr p out m) a (at0 b n)).length ≤ 64 := by have := comb_le p (upr p out m) a (at0 b n); omega
      have DL := dr_lt HP.out HM.out NE.out (a := comb p (upr p out m) a (at0 b n))
      have DC := Lib.hid (dr_can (show 0 < p by omega) CC.out.inp (b := m))
      go_wp2_with (first | (go_at_call 83; refine (l01Up_any p out m HP.out CO.out HM.out lm NE.out lo2 _).mono ?_; rintro e w2 ⟨rfl, E2⟩; replace F := F.next E2) | ((with_reducible show wpList _ _ _ _ _ _); first | (apply hpLd F; exact rfl; exact rfl; exact rfl; (· repeat (first | exact Has.head | apply Has.tail))) | (apply hpBox F; exact rfl; exact rfl; exact rfl; (· with_reducible first | exact pad_length _ | exact zeros64_length | exact tab_length _ _ | assumption)) | (apply hpAlloc F; exact rfl; exact rfl) | (apply hpSt F; exact rfl; exact rfl; exact rfl; exact rfl; (· repeat (first | exact Upd.head | apply Upd.tail)); (· with_reducible first | exact pad_length _ | exact zeros64_length | exact tab_length _ _ | assumption))))
      clear F
      intro w1 F
      try simp only [List.set_cons_zero, List.set_cons_succ] at F
      go_wp2_with (first | ((with_reducible show wpList _ _ _ _ _ _); first | (apply hpLd F; exact rfl; exact rfl; exact rfl; (· repeat (first | exact Has.head | apply Has.tail))) | (apply hpBox F; exact rfl; exact rfl; exact rfl; (· with_reducible first | exact pad_length _ | exact zeros64_length | exact tab_length _ _ | assumption)) | (apply hpAlloc F; exact rfl; exact rfl) | (apply hpSt F; exact rfl; exact rfl; exact rfl; exact rfl; (· repeat (first | exact Upd.head | apply Upd.tail)); (· with_reducible first | exact pad_length _ | exact zeros64_length | exact tab_length _ _ | assumption))))
      have c := F.cell 3 rfl n (by omega)
      rw [at0_pad b lb] at c
      have i1 : (n : Int) < 64 := by omega
      refine region_ext 11 (by kernel_rfl) (by kernel_rfl) (by kernel_rfl) [] [eqv (.int .i64 p), eqv (.int .i64 p), eqv (.agg (u8s (pad (upr p out m)))), eqv (.agg (u8s (pad a))), eqv (.int .i64 n), eqv (.pointer (some ⟨gb, n, none⟩)), eqv (.int .u8 (at0 b n)), eqv (.int .i64 (at0 b n)), eqv (.agg (u8s (pad (comb p (upr p out m) a (at0 b n))))), eqv (.agg (u8s (pad m))), eqv (.agg (u8s (pad (dr p (comb p (upr p out m) a (at0 b n)) m))))]
        ⟨mono_eqv _, mono_eqv _, mono_eqv _, mono_eqv _, mono_eqv _, mono_eqv _, mono_eqv _, mono_eqv _, mono_eqv _, mono_eqv _, mono_eqv _, trivial⟩ (fun vals => ?_) (fun vals w9 hE9 hS9 hN9 => ?_)
      · simp only [List.take_succ_cons, List.take_zero]
        refine ⟨fun w8 hE8 hk => doesK_plain rfl fun K hK => ?_, ?_⟩
        · go_simp
          (try go_bits)
          exact hK _ _ rfl (Ext.refl _) rfl
        simp only [Act.put, List.setIfInBounds_toArray, List.set_cons_zero, List.set_cons_succ]
        refine ⟨fun w8 hE8 hk => doesK_plain rfl fun K hK => ?_, ?_⟩
        · go_simp
          (try go_bits)
          exact hK _ _ rfl (Ext.refl _) rfl
        simp only [Act.put, List.setIfInBounds_toArray, List.set_cons_zero, List.set_cons_succ]
        refine ⟨fun w8 hE8 hk => doesK_plain rfl fun K hK => ?_, ?_⟩
        · exact wp_load_row _ _ rfl _ (by first | rfl | simp [*]) _ _ (0, 0) _ ((F.at_ 0 rfl).ext hE8) Tryz.underlying25 rfl (by rw [infoPoly, u8s_size, pad_length _]) (hK _ _ rfl (Ext.refl _) rfl)
        simp only [Act.put, List.setIfInBounds_toArray, List.set_cons_zero, List.set_cons_succ]
        refine ⟨fun w8 hE8 hk => doesK_plain rfl fun K hK => ?_, ?_⟩
        · exact wp_load_row _ _ rfl _ (by first | rfl | simp [*]) _ _ (0, 0) _ ((F.at_ 4 rfl).ext hE8) Tryz.underlying25 rfl (by rw [infoPoly, u8s_size, pad_length _]) (hK _ _ rfl (Ext.refl _) rfl)
        simp only [Act.put, List.setIfInBounds_toArray, List.set_cons_zero, List.set_cons_succ]
        refine ⟨fun w8 hE8 hk => doesK_plain rfl fun K hK => ?_, ?_⟩
        · go_simp
          (try go_bits)
          exact hK _ _ rfl (Ext.refl _) rfl
        simp only [Act.put, List.setIfInBounds_toArray, List.set_cons_zero, List.set_cons_succ]
        refine ⟨fun w8 hE8 hk => doesK_plain rfl fun K hK => ?_, ?_⟩
        · have k4 : vals 4 = .int .i64 n := hk 4 (by decide) (by kernel_rfl)
          go_simp
          (try go_bits)
          exact hK _ _ rfl (Ext.refl _) rfl
        simp only [Act.put, List.setIfInBounds_toArray, List.set_cons_zero, List.set_cons_succ]
        refine ⟨fun w8 hE8 hk => doesK_plain rfl fun K hK => ?_, ?_⟩
        · have k5 : vals 5 = .pointer (some ⟨gb, n, none⟩) := hk 5 (by decide) (by kernel_rfl)
          have c8 := (F.next hE8).cell 3 rfl n (by omega); rw [at0_pad b lb] at c8
          go_simp
          (try go_bits)
          exact hK _ _ rfl (Ext.refl _) rfl
        simp only [Act.put, List.setIfInBounds_toArray, List.set_cons_zero, List.set_cons_succ]
        refine ⟨fun w8 hE8 hk => doesK_plain rfl fun K hK => ?_, ?_⟩
        · have k6 : vals 6 = .int .u8 (at0 b n) := hk 6 (by decide) (by kernel_rfl)
          go_simp
          (try go_bits)
          exact hK _ _ rfl (Ext.refl _) rfl
        simp only [Act.put, List.setIfInBounds_toArray, List.set_cons_zero, List.set_cons_succ]
        refine ⟨fun w8 hE8 hk => doesK_plain rfl fun K hK => ?_, ?_⟩
        · have k1 : vals 1 = .int .i64 p := hk 1 (by decide) (by kernel_rfl)
          have k2 : vals 2 = .agg (u8s (pad (upr p out m))) := hk 2 (by decide) (by kernel_rfl)
          have k3 : vals 3 = .agg (u8s (pad a)) := hk 3 (by decide) (by kernel_rfl)
          have k7 : vals 7 = .int .i64 (at0 b n) := hk 7 (by decide) (by kernel_rfl)
          go_simp
          refine (l01Add_pad p (at0 b n) (upr p out m) a HP.out UC.out HA.out (by omega) la (by omega) (by omega) _).mono ?_
          rintro e7 w7 ⟨rfl, hE7⟩
          exact hK _ _ rfl hE7 rfl
        simp only [Act.put, List.setIfInBounds_toArray, List.set_cons_zero, List.set_cons_succ]
        refine ⟨fun w8 hE8 hk => doesK_plain rfl fun K hK => ?_, ?_⟩
        · exact wp_load_row _ _ rfl _ (by first | rfl | simp [*]) _ _ (0, 0) _ ((F.at_ 2 rfl).ext hE8) Tryz.underlying25 rfl (by rw [infoPoly, u8s_size, pad_length _]) (hK _ _ rfl (Ext.refl _) rfl)
        simp only [Act.put, List.setIfInBounds_toArray, List.set_cons_zero, List.set_cons_succ]
        refine ⟨fun w8 hE8 hk => doesK_plain rfl fun K hK => ?_, ?_⟩
        · have k0 : vals 0 = .int .i64 p := hk 0 (by decide) (by kernel_rfl)
          have k8 : vals 8 = .agg (u8s (pad (comb p (upr p out m) a (at0 b n)))) := hk 8 (by decide) (by kernel_rfl)
          have k9 : vals 9 = .agg (u8s (pad m)) := hk 9 (by decide) (by kernel_rfl)
          go_simp
          refine (l01Mod_any p _ m HP.out CC.out HM.out CL lm NE.out _).mono ?_
          rintro e7 w7 ⟨rfl, hE7⟩
          exact hK _ _ rfl hE7 rfl
        exact trivial
      simp only [List.take_succ_cons, List.take_zero, List.drop_succ_cons, List.drop_zero, preAct, Nat.reduceAdd, Act.put, List.setIfInBounds_toArray, List.set_cons_zero, List.set_cons_succ]
      have k0 : vals 0 = .int .i64 p := hS9 0 (by decide) 
      have k1 : vals 1 = .int .i64 p := hS9 1 (by decide) 
      have k2 : vals 2 = .agg (u8s (pad (upr p out m))) := hS9 2 (by decide) 
      have k3 : vals 3 = .agg (u8s (pad a)) := hS9 3 (by decide) 
      have k4 : vals 4 = .int .i64 n := hS9 4 (by decide) 
      have k5 : vals 5 = .pointer (some ⟨gb, n, none⟩) := hS9 5 (by decide) 
      have k6 : vals 6 = .int .u8 (at0 b n) := hS9 6 (by decide) 
      have k7 : vals 7 = .int .i64 (at0 b n) := hS9 7 (by decide) 
      have k8 : vals 8 = .agg (u8s (pad (comb p (upr p out m) a (at0 b n)))) := hS9 8 (by decide) 
      have k9 : vals 9 = .agg (u8s (pad m)) := hS9 9 (by decide) 
      have k10 : vals 10 = .agg (u8s (pad (dr p (comb p (upr p out m) a (at0 b n)) m))) := hS9 10 (by decide) 
      simp only [k0, k1, k2, k3, k4, k5, k6, k7, k8, k9, k10]
      clear hN9 hS9 k0 k1 k2 k3 k4 k5 k6 k7 k8 k9 k10
      replace F := F.next hE9
      clear hE9 c
      go_wp2_with (first | ((with_reducible show wpList _ _ _ _ _ _); first | (apply hpLd F; exact rfl; exact rfl; exact rfl; (· repeat (first | exact Has.head | apply Has.tail))) | (apply hpBox F; exact rfl; exact rfl; exact rfl; (· with_reducible first | exact pad_length _ | exact zeros64_length | exact tab_length _ _ | assumption)) | (apply hpAlloc F; exact rfl; exact rfl) | (apply hpSt F; exact rfl; exact rfl; exact rfl; exact rfl; (· repeat (first | exact Upd.head | apply Upd.tail)); (· with_reducible first | exact pad_length _ | exact zeros64_length | exact tab_length _ _ | assumption))))
      clear F
      intro w1 F
      try simp only [List.set_cons_zero, List.set_cons_succ] at F
      go_wp2_with (first | ((with_reducible show wpList _ _ _ _ _ _); first | (apply hpLd F; exact rfl; exact rfl; exact rfl; (· repeat (first | exact Has.head | apply Has.tail))) | (apply hpBox F; exact rfl; exact rfl; exact rfl; (· with_reducible first | exact pad_length _ | exact zeros64_length | exact tab_length _ _ | assumption)) | (apply hpAlloc F; exact rfl; exact rfl) | (apply hpSt F; exact rfl; exact rfl; exact rfl; exact rfl; (· repeat (first | exact Upd.head | apply Upd.tail)); (· with_reducible first | exact pad_length _ | exact zeros64_length | exact tab_length _ _ | assumption))))
      go_roundg n
      case measure => omega
      case rel => exact ⟨n, _, rfl, by go_num, by omega, DC.out, DL, HMM.out, F⟩

end Go.Proofs.YtaemiknaiccijaaGreat
