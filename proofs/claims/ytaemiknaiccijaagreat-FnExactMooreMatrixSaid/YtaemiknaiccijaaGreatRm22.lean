/- Lemmas and contracts of functions, for the laws: The program's test for discriminants. -/
import Derived.Test.YtaemiknaiccijaaGreatRm21
import Derived.Test.YtaemiknaiccijaaGreatRm10
import Derived.Test.YtaemiknaiccijaaGreatRm12
set_option linter.unusedVariables false
set_option linter.unusedSimpArgs false
namespace Go.Proofs.YtaemiknaiccijaaGreat
open Go.RowKit

set_option maxRecDepth 100000 in
set_option maxHeartbeats 2000000 in
theorem isDisc_bad (p : Int) (l : List Int) (hl : l.length = 64) (hb : IsB l) (hbad : isPB p l = false ∨ p = 2) (w : World) :
    Calls Tryz.prog 68 #[.int .i64 p, .agg (u8s l)] w fun e w' => e = .returned (.bool (isD p l)) ∧ Ext w w' := by
  have HL := Lib.hid hl
  have RO := Lib.hid fun W => rowOf_any l hl hb W
  have IP := Lib.hid fun W => IsPoly_any p l hl hb W
  have F := Hp.start w
  cases hq : isPB p l with
  | false =>
    have Q := Lib.hid hq
    have G : Hid (isD p l = false) := Lib.hid (by rw [isD, hq]; rfl)
    clear hbad hq hb
    go_enter Tryz.func68, Tryz.ntmps68
    go_wp2_with (first | ((with_reducible show wpList _ _ _ _ _ _); first | (apply hpLd F; exact rfl; exact rfl; exact rfl; (· repeat (first | exact Has.head | apply Has.tail))) | (apply hpBox F; exact rfl; exact rfl; exact rfl; (· with_reducible first | exact pad_length _ | exact zeros64_length | exact tab_length _ _ | assumption)) | (apply hpAlloc F; exact rfl; exact rfl) | (apply hpSt F; exact rfl; exact rfl; exact rfl; exact rfl; (· repeat (first | exact Upd.head | apply Upd.tail)); (· with_reducible first | exact pad_length _ | exact zeros64_length | exact tab_length _ _ | assumption))))
    clear F
    intro ga w1 F
    go_wp2_with (first | (go_at_call 55; (with_reducible refine (RO.out _).mono ?_); rintro e w2 ⟨A2, c2, rfl, R2, E2⟩; replace F := F.next E2) | (go_at_call 97; (with_reducible refine (IP.out _).mono ?_); rintro e w2 ⟨rfl, E2⟩; replace F := F.next E2; rw [Q.out]) | ((with_reducible show wpList _ _ _ _ _ _); first | (apply hpLd F; exact rfl; exact rfl; exact rfl; (· repeat (first | exact Has.head | apply Has.tail))) | (apply hpBox F; exact rfl; exact rfl; exact rfl; (· with_reducible first | exact pad_length _ | exact zeros64_length | exact tab_length _ _ | assumption)) | (apply hpAlloc F; exact rfl; exact rfl) | (apply hpSt F; exact rfl; exact rfl; exact rfl; exact rfl; (· repeat (first | exact Upd.head | apply Upd.tail)); (· with_reducible first | exact pad_length _ | exact zeros64_length | exact tab_length _ _ | assumption))))
    go_ret
    exact ⟨ret_bool G.out.symm, F.ext⟩
  | true =>
    have p2 : p = 2 := by
      rcases hbad with h | h
      · rw [h] at hq; cases hq
      · exact h
    subst p2
    have Q := Lib.hid hq
    have G : Hid (isD 2 l = false) := Lib.hid (by rw [isD, hq]; rfl)
    clear hbad hq hb
    go_enter Tryz.func68, Tryz.ntmps68
    go_wp2_with (first | ((with_reducible show wpList _ _ _ _ _ _); first | (apply hpLd F; exact rfl; exact rfl; exact rfl; (· repeat (first | exact Has.head | apply Has.tail))) | (apply hpBox F; exact rfl; exact rfl; exact rfl; (· with_reducible first | exact pad_length _ | exact zeros64_length | exact tab_length _ _ | assumption)) | (apply hpAlloc F; exact rfl; exact rfl) | (apply hpSt F; exact rfl; exact rfl; exact rfl; exact rfl; (· repeat (first | exact Upd.head | apply Upd.tail)); (· with_reducible first | exact pad_length _ | exact zeros64_length | exact tab_length _ _ | assumption))))
    clear F
    intro ga w1 F
    go_wp2_with (first | (go_at_call 55; (with_reducible refine (RO.out _).mono ?_); rintro e w2 ⟨A2, c2, rfl, R2, E2⟩; replace F := F.next E2) | (go_at_call 97; (with_reducible refine (IP.out _).mono ?_); rintro e w2 ⟨rfl, E2⟩; replace F := F.next E2; rw [Q.out]) | ((with_reducible show wpList _ _ _ _ _ _); first | (apply hpLd F; exact rfl; exact rfl; exact rfl; (· repeat (first | exact Has.head | apply Has.tail))) | (apply hpBox F; exact rfl; exact rfl; exact rfl; (· with_reducible first | exact pad_length _ | exact zeros64_length | exact tab_length _ _ | assumption)) | (apply hpAlloc F; exact rfl; exact rfl) | (apply hpSt F; exact rfl; exact rfl; exact rfl; exact rfl; (· repeat (first | exact Upd.head | apply Upd.tail)); (· with_reducible first | exact pad_length _ | exact zeros64_length | exact tab_length _ _ | assumption))))
    go_ret
    exact ⟨ret_bool G.out.symm, F.ext⟩

set_option maxRecDepth 100000 in
set_option maxHeartbeats 4000000 in
theorem isDisc_good (p : Int) (a : List Int) (hp : OddP p) (ha : Can p a) (la : a.length ≤ 64) (w : World) :
    Calls Tryz.prog 68 #[.int .i64 p, .agg (u8s (pad a))] w fun e w' => e = .returned (.bool (isDS p a)) ∧ Ext w w' := by
  have HP := Lib.hid hp.prime
  have HA := Lib.hid ha
  have BA' : IsB (pad a) := fun j => by rw [at0_pad a la]; have := ha.inp j; have := hp.prime.hi; omega
  have lo := HP.out.lo
  have hi := HP.out.hi
  have DC := Lib.hid (derr_can (show 0 < p by omega) a)
  have DL := derr_le p a
  have RO' := fun W => rowOf_any (pad a) (pad_length _) BA' W
  rw [trim_pad ha.nz la] at RO'
  have RO := Lib.hid RO'
  have BD' : IsB (pad (derr p a)) := fun j => by rw [at0_pad _ DL]; have := DC.out.inp j; omega
  have RD' := fun W => rowOf_any (pad (derr p a)) (pad_length _) BD' W
  rw [trim_pad DC.out.nz DL] at RD'
  have RD := Lib.hid RD'
  have IP := Lib.hid fun W => IsPoly_any p (pad a) (pad_length _) BA' W
  have DV := Lib.hid fun W => derivative_any p a HP.out ha la W
  have Q := Lib.hid (isPB_pad hp.prime ha)
  have p2 : decide (p = 2) = false := decide_eq_false (by rcases hp with rfl | rfl | rfl <;> decide)
  have p3 : (p == 2) = false := by simpa using p2
  have F := Hp.start w
  by_cases hd : a.length = 2 ∨ a.length = 4 ∨ a.length = 6
  · have G : Hid (isDS p a = isOneB (bezD p a (derr p a))) := Lib.hid (isDS_impl HP.out ha la hd)
    have hd' : (((a.length : Int) - 1 != 1) = false) ∨ (((a.length : Int) - 1 != 1) = true ∧ ((a.length : Int) - 1 != 3) = false) ∨ (((a.length : Int) - 1 != 1) = true ∧ ((a.length : Int) - 1 != 3) = true ∧ ((a.length : Int) - 1 != 5) = false) := by
      rcases hd with h | h | h <;> rw [h] <;> decide
    have hne : a.length ≠ 0 := by omega
    have GD := Lib.hid fun W A B ca cb r1 r2 => gcd_any p A B ca cb a (derr p a) HP.out ha DC.out la DL (.inl hne) W r1 r2
    clear hd hp ha RO' RD' BA' BD' hne
    rw [G.out]
    clear G
    go_enter Tryz.func68, Tryz.ntmps68
    go_wp2_with (first | ((with_reducible show wpList _ _ _ _ _ _); first | (apply hpLd F; exact rfl; exact rfl; exact rfl; (· repeat (first | exact Has.head | apply Has.tail))) | (apply hpBox F; exact rfl; exact rfl; exact rfl; (· with_reducible first | exact pad_length _ | exact zeros64_length | exact tab_length _ _ | assumption)) | (apply hpAlloc F; exact rfl; exact rfl) | (apply hpSt F; exact rfl; exact rfl; exact rfl; exact rfl; (· repeat (first | exact Upd.head | apply Upd.tail)); (· with_reducible first | exact pad_length _ | exact zeros64_length | exact tab_length _ _ | assumption))))
    clear F
    intro ga w1 F
    rcases hd' with t1 | ⟨t1, t2⟩ | ⟨t1, t2, t3⟩
    · skip
      go_wp2_with (first | (go_at_call 55; (with_reducible refine (RO.out _).mono ?_); rintro e w2 ⟨A2, c2, rfl, R2, E2⟩; replace F := F.next E2; have FA := Lib.hid (F.at_ 0 rfl); have FE := F.ext; replace R2 := Lib.hid R2; clear F; have F := Hp.start w2) | ((with_reducible show wpList _ _ _ _ _ _); apply wplLG; exact rfl; exact rfl; exact FA.out.ext F.ext; exact rfl; exact pad_length _) | (go_at_call 97; (with_reducible refine (IP.out _).mono ?_); rintro e w3 ⟨rfl, E3⟩; replace F := F.next E3; rw [Q.out]) | (go_at_call 79; (with_reducible refine (degree_any _ a.length _ (by omega) _).mono ?_); rintro e w' ⟨rfl, rfl⟩) | (go_at_call 98; (with_reducible refine (DV.out _).mono ?_); rintro e w4 ⟨rfl, E4⟩; replace F := F.next E4) | ((with_reducible show wpList _ _ _ _ _ _); first | (apply hpLd F; exact rfl; exact rfl; exact rfl; (· repeat (first | exact Has.head | apply Has.tail))) | (apply hpBox F; exact rfl; exact rfl; exact rfl; (· with_reducible first | exact pad_length _ | exact zeros64_length | exact tab_length _ _ | assumption)) | (apply hpAlloc F; exact rfl; exact rfl) | (apply hpSt F; exact rfl; exact rfl; exact rfl; exact rfl; (· repeat (first | exact Upd.head | apply Upd.tail)); (· with_reducible first | exact pad_length _ | exact zeros64_length | exact tab_length _ _ | assumption))))
      clear F
      intro g6 w5 F
      go_wp2_with (first | ((with_reducible show wpList _ _ _ _ _ _); first | (apply hpLd F; exact rfl; exact rfl; exact rfl; (· repeat (first | exact Has.head | apply Has.tail))) | (apply hpBox F; exact rfl; exact rfl; exact rfl; (· with_reducible first | exact pad_length _ | exact zeros64_length | exact tab_length _ _ | assumption)) | (apply hpAlloc F; exact rfl; exact rfl) | (apply hpSt F; exact rfl; exact rfl; exact rfl; exact rfl; (· repeat (first | exact Upd.head | apply Upd.tail)); (· with_reducible first | exact pad_length _ | exact zeros64_length | exact tab_length _ _ | assumption))))
      clear F
      intro w6 F
      try simp only [List.set_cons_zero, List.set_cons_succ] at F
      go_wp2_with (first | ((with_reducible show wpList _ _ _ _ _ _); apply wplLG; exact rfl; exact rfl; exact FA.out.ext F.ext; exact rfl; exact pad_length _) | (go_at_call 55; (with_reducible refine (RD.out _).mono ?_); rintro e w7 ⟨A7, c7, rfl, R7, E7⟩; replace F := F.next E7) | (go_at_call 100; (with_reducible refine (GD.out _ _ _ _ _ (R2.out.below F.ext) R7).mono ?_); rintro e w8 ⟨A8, c8, rfl, R8, E8⟩; replace F := F.next E8) | (go_at_call 99; (with_reducible refine (isOne_any _ _ _ _ R8).mono ?_); rintro e w9 ⟨rfl, rfl⟩) | ((with_reducible show wpList _ _ _ _ _ _); first | (apply hpLd F; exact rfl; exact rfl; exact rfl; (· repeat (first | exact Has.head | apply Has.tail))) | (apply hpBox F; exact rfl; exact rfl; exact rfl; (· with_reducible first | exact pad_length _ | exact zeros64_length | exact tab_length _ _ | assumption)) | (apply hpAlloc F; exact rfl; exact rfl) | (apply hpSt F; exact rfl; exact rfl; exact rfl; exact rfl; (· repeat (first | exact Upd.head | apply Upd.tail)); (· with_reducible first | exact pad_length _ | exact zeros64_length | exact tab_length _ _ | assumption))))
      go_ret
      exact ⟨rfl, FE.tr F.ext⟩
    · skip
      go_wp2_with (first | (go_at_call 55; (with_reducible refine (RO.out _).mono ?_); rintro e w2 ⟨A2, c2, rfl, R2, E2⟩; replace F := F.next E2; have FA := Lib.hid (F.at_ 0 rfl); have FE := F.ext; replace R2 := Lib.hid R2; clear F; have F := Hp.start w2) | ((with_reducible show wpList _ _ _ _ _ _); apply wplLG; exact rfl; exact rfl; exact FA.out.ext F.ext; exact rfl; exact pad_length _) | (go_at_call 97; (with_reducible refine (IP.out _).mono ?_); rintro e w3 ⟨rfl, E3⟩; replace F := F.next E3; rw [Q.out]) | (go_at_call 79; (with_reducible refine (degree_any _ a.length _ (by omega) _).mono ?_); rintro e w' ⟨rfl, rfl⟩) | (go_at_call 98; (with_reducible refine (DV.out _).mono ?_); rintro e w4 ⟨rfl, E4⟩; replace F := F.next E4) | ((with_reducible show wpList _ _ _ _ _ _); first | (apply hpLd F; exact rfl; exact rfl; exact rfl; (· repeat (first | exact Has.head | apply Has.tail))) | (apply hpBox F; exact rfl; exact rfl; exact rfl; (· with_reducible first | exact pad_length _ | exact zeros64_length | exact tab_length _ _ | assumption)) | (apply hpAlloc F; exact rfl; exact rfl) | (apply hpSt F; exact rfl; exact rfl; exact rfl; exact rfl; (· repeat (first | exact Upd.head | apply Upd.tail)); (· with_reducible first | exact pad_length _ | exact zeros64_length | exact tab_length _ _ | assumption))))
      clear F
      intro g6 w5 F
      go_wp2_with (first | ((with_reducible show wpList _ _ _ _ _ _); first | (apply hpLd F; exact rfl; exact rfl; exact rfl; (· repeat (first | exact Has.head | apply Has.tail))) | (apply hpBox F; exact rfl; exact rfl; exact rfl; (· with_reducible first | exact pad_length _ | exact zeros64_length | exact tab_length _ _ | assumption)) | (apply hpAlloc F; exact rfl; exact rfl) | (apply hpSt F; exact rfl; exact rfl; exact rfl; exact rfl; (· repeat (first | exact Upd.head | apply Upd.tail)); (· with_reducible first | exact pad_length _ | exact zeros64_length | exact tab_length _ _ | assumption))))
      clear F
      intro w6 F
      try simp only [List.set_cons_zero, List.set_cons_succ] at F
      go_wp2_with (first | ((with_reducible show wpList _ _ _ _ _ _); apply wplLG; exact rfl; exact rfl; exact FA.out.ext F.ext; exact rfl; exact pad_length _) | (go_at_call 55; (with_reducible refine (RD.out _).mono ?_); rintro e w7 ⟨A7, c7, rfl, R7, E7⟩; replace F := F.next E7) | (go_at_call 100; (with_reducible refine (GD.out _ _ _ _ _ (R2.out.below F.ext) R7).mono ?_); rintro e w8 ⟨A8, c8, rfl, R8, E8⟩; replace F := F.next E8) | (go_at_call 99; (with_reducible refine (isOne_any _ _ _ _ R8).mono ?_); rintro e w9 ⟨rfl, rfl⟩) | ((with_reducible show wpList _ _ _ _ _ _); first | (apply hpLd F; exact rfl; exact rfl; exact rfl; (· repeat (first | exact Has.head | apply Has.tail))) | (apply hpBox F; exact rfl; exact rfl; exact rfl; (· with_reducible first | exact pad_length _ | exact zeros64_length | exact tab_length _ _ | assumption)) | (apply hpAlloc F; exact rfl; exact rfl) | (apply hpSt F; exact rfl; exact rfl; exact rfl; exact rfl; (· repeat (first | exact Upd.head | apply Upd.tail)); (· with_reducible first | exact pad_length _ | exact zeros64_length | exact tab_length _ _ | assumption))))
      go_ret
      exact ⟨rfl, FE.tr F.ext⟩
    · skip
      go_wp2_with (first | (go_at_call 55; (with_reducible refine (RO.out _).mono ?_); rintro e w2 ⟨A2, c2, rfl, R2, E2⟩; replace F := F.next E2; have FA := Lib.hid (F.at_ 0 rfl); have FE := F.ext; replace R2 := Lib.hid R2; clear F; have F := Hp.start w2) | ((with_reducible show wpList _ _ _ _ _ _); apply wplLG; exact rfl; exact rfl; exact FA.out.ext F.ext; exact rfl; exact pad_length _) | (go_at_call 97; (with_reducible refine (IP.out _).mono ?_); rintro e w3 ⟨rfl, E3⟩; replace F := F.next E3; rw [Q.out]) | (go_at_call 79; (with_reducible refine (degree_any _ a.length _ (by omega) _).mono ?_); rintro e w' ⟨rfl, rfl⟩) | (go_at_call 98; (with_reducible refine (DV.out _).mono ?_); rintro e w4 ⟨rfl, E4⟩; replace F := F.next E4) | ((with_reducible show wpList _ _ _ _ _ _); first | (apply hpLd F; exact rfl; exact rfl; exact rfl; (· repeat (first | exact Has.head | apply Has.tail))) | (apply hpBox F; exact rfl; exact rfl; exact rfl; (· with_reducible first | exact pad_length _ | exact zeros64_length | exact tab_length _ _ | assumption)) | (apply hpAlloc F; exact rfl; exact rfl) | (apply hpSt F; exact rfl; exact rfl; exact rfl; exact rfl; (· repeat (first | exact Upd.head | apply Upd.tail)); (· with_reducible first | exact pad_length _ | exact zeros64_length | exact tab_length _ _ | assumption))))
      clear F
      intro g6 w5 F
      go_wp2_with (first | ((with_reducible show wpList _ _ _ _ _ _); first | (apply hpLd F; exact rfl; exact rfl; exact rfl; (· repeat (first | exact Has.head | apply Has.tail))) | (apply hpBox F; exact rfl; exact rfl; exact rfl; (· with_reducible first | exact pad_length _ | exact zeros64_length | exact tab_length _ _ | assumption)) | (apply hpAlloc F; exact rfl; exact rfl) | (apply hpSt F; exact rfl; exact rfl; exact rfl; exact rfl; (· repeat (first | exact Upd.head | apply Upd.tail)); (· with_reducible first | exact pad_length _ | exact zeros64_length | exact tab_length _ _ | assumption))))
      clear F
      intro w6 F
      try simp only [List.set_cons_zero, List.set_cons_succ] at F
      go_wp2_with (first | ((with_reducible show wpList _ _ _ _ _ _); apply wplLG; exact rfl; exact rfl; exact FA.out.ext F.ext; exact rfl; exact pad_length _) | (go_at_call 55; (with_reducible refine (RD.out _).mono ?_); rintro e w7 ⟨A7, c7, rfl, R7, E7⟩; replace F := F.next E7) | (go_at_call 100; (with_reducible refine (GD.out _ _ _ _ _ (R2.out.below F.ext) R7).mono ?_); rintro e w8 ⟨A8, c8, rfl, R8, E8⟩; replace F := F.next E8) | (go_at_call 99; (with_reducible refine (isOne_any _ _ _ _ R8).mono ?_); rintro e w9 ⟨rfl, rfl⟩) | ((with_reducible show wpList _ _ _ _ _ _); first | (apply hpLd F; exact rfl; exact rfl; exact rfl; (· repeat (first | exact Has.head | apply Has.tail))) | (apply hpBox F; exact rfl; exact rfl; exact rfl; (· with_reducible first | exact pad_length _ | exact zeros64_length | exact tab_length _ _ | assumption)) | (apply hpAlloc F; exact rfl; exact rfl) | (apply hpSt F; exact rfl; exact rfl; exact rfl; exact rfl; (· repeat (first | exact Upd.head | apply Upd.tail)); (· with_reducible first | exact pad_length _ | exact zeros64_length | exact tab_length _ _ | assumption))))
      go_ret
      exact ⟨rfl, FE.tr F.ext⟩
  · have G : Hid (isDS p a = false) := Lib.hid (by
      have e2 : (a.length == 2) = false := by simpa using fun h => hd (.inl h)
      have e4 : (a.length == 4) = false := by simpa using fun h => hd (.inr (.inl h))
      have e6 : (a.length == 6) = false := by simpa using fun h => hd (.inr (.inr h))
      rw [isDS, e2, e4, e6]; rfl)
    have t1 : ((a.length : Int) - 1 != 1) = true := by simp; omega
    have t2 : ((a.length : Int) - 1 != 3) = true := by simp; omega
    have t3 : ((a.length : Int) - 1 != 5) = true := by simp; omega
    clear hd hp ha RO' RD' BA' BD'
    rw [G.out]
    clear G
    go_enter Tryz.func68, Tryz.ntmps68
    go_wp2_with (first | ((with_reducible show wpList _ _ _ _ _ _); first | (apply hpLd F; exact rfl; exact rfl; exact rfl; (· repeat (first | exact Has.head | apply Has.tail))) | (apply hpBox F; exact rfl; exact rfl; exact rfl; (· with_reducible first | exact pad_length _ | exact zeros64_length | exact tab_length _ _ | assumption)) | (apply hpAlloc F; exact rfl; exact rfl) | (apply hpSt F; exact rfl; exact rfl; exact rfl; exact rfl; (· repeat (first | exact Upd.head | apply Upd.tail)); (· with_reducible first | exact pad_length _ | exact zeros64_length | exact tab_length _ _ | assumption))))
    clear F
    intro ga w1 F
    go_wp2_with (first | (go_at_call 55; (with_reducible refine (RO.out _).mono ?_); rintro e w2 ⟨A2, c2, rfl, R2, E2⟩; replace F := F.next E2; have FA := Lib.hid (F.at_ 0 rfl); have FE := F.ext; replace R2 := Lib.hid R2; clear F; have F := Hp.start w2) | ((with_reducible show wpList _ _ _ _ _ _); apply wplLG; exact rfl; exact rfl; exact FA.out.ext F.ext; exact rfl; exact pad_length _) | (go_at_call 97; (with_reducible refine (IP.out _).mono ?_); rintro e w3 ⟨rfl, E3⟩; replace F := F.next E3; rw [Q.out]) | (go_at_call 79; (with_reducible refine (degree_any _ a.length _ (by omega) _).mono ?_); rintro e w' ⟨rfl, rfl⟩) | ((with_reducible show wpList _ _ _ _ _ _); first | (apply hpLd F; exact rfl; exact rfl; exact rfl; (· repeat (first | exact Has.head | apply Has.tail))) | (apply hpBox F; exact rfl; exact rfl; exact rfl; (· with_reducible first | exact pad_length _ | exact zeros64_length | exact tab_length _ _ | assumption)) | (apply hpAlloc F; exact rfl; exact rfl) | (apply hpSt F; exact rfl; exact rfl; exact rfl; exact rfl; (· repeat (first | exact Upd.head | apply Upd.tail)); (· with_reducible first | exact pad_length _ | exact zeros64_length | exact tab_length _ _ | assumption))))
    go_ret
    exact ⟨rfl, FE.tr F.ext⟩

theorem isDisc_any (p : Int) (l : List Int) (hl : l.length = 64) (hb : IsB l) (w : World) :
    Calls Tryz.prog 68 #[.int .i64 p, .agg (u8s l)] w fun e w' => e = .returned (.bool (isD p l)) ∧ Ext w w' := by
  by_cases h : isPB p l = true ∧ p ≠ 2
  · obtain ⟨hp, hc, h64, he⟩ := isPB_row hl hb h.1
    have ho : OddP p := by rcases hp with h' | h' | h' | h' <;> first | exact absurd h' h.2 | (unfold OddP; omega)
    have := isDisc_good p (trim l) ho hc h64 w
    rw [he] at this
    have e : isD p l = isDS p (trim l) := by
      rw [isD, h.1, show (p != 2) = true by simpa using h.2]; rfl
    rw [e]; exact this
  · refine isDisc_bad p l hl hb ?_ w
    by_cases h1 : isPB p l = true
    · exact .inr (Decidable.byContradiction fun h2 => h ⟨h1, h2⟩)
    · exact .inl (by simpa using h1)

end Go.Proofs.YtaemiknaiccijaaGreat

/- The program's code of forms (of none), its curves, the genus. -/
namespace Go.Proofs.YtaemiknaiccijaaGreat
open Go.RowKit

set_option maxHeartbeats 400000 in
theorem indexForms_none (A : Option Addr) (cap : Nat) (fv : Value) (w : World) :
    Calls Tryz.prog 121 #[.slice A 0 cap, fv] w fun e w' => e = .returned (.int .i64 (-1)) ∧ w = w' := by
  go_enter Tryz.func121, Tryz.ntmps121
  go_wp2
  go_loopg [8] 0 (fun f i wr => i = .int .i64 0 ∧ w = wr)
  case atStart => exact ⟨rfl, rfl⟩
  case round =>
    obtain ⟨rfl, rfl⟩ := hrel
    go_wp2
    go_ret
    exact ⟨rfl, rfl⟩
set_option maxHeartbeats 400000 in
theorem containsForms_none (A : Option Addr) (cap : Nat) (fv : Value) (w : World) :
    Calls Tryz.prog 101 #[.slice A 0 cap, fv] w fun e w' => e = .returned (.bool false) ∧ w = w' := by
  go_enter Tryz.func101, Tryz.ntmps101
  go_wp2_with (first | (go_at_call 121; (with_reducible refine (indexForms_none _ _ _ _).mono ?_); rintro e w' ⟨rfl, rfl⟩))
  go_ret
  exact ⟨rfl, rfl⟩
set_option maxHeartbeats 400000 in
theorem areForms_none (A : Option Addr) (cap : Nat) (g : Nat) (cb : Array Value) (w : World) :
    Calls Tryz.prog 69 #[.slice A 0 cap, .func (.func g) #[] cb] w fun e w' => e = .returned (.bool true) ∧ Ext w w' := by
  go_enter Tryz.func69, Tryz.ntmps69
  go_wp2_with (first | (go_at_call 101; (with_reducible refine (containsForms_none _ _ _ _).mono ?_); rintro e w' ⟨rfl, rfl⟩))
  go_ret
  exact ⟨rfl, (Ext.refl w).alloc _⟩

def codeD (b : Bool) : Int := if b then 0 else 1
set_option maxRecDepth 100000 in
set_option maxHeartbeats 2000000 in
theorem formCode_none (p : Int) (l : List Int) (hl : l.length = 64) (hb : IsB l) (w : World) :
    Calls Tryz.prog 41 #[.int .i64 p, .agg (u8s l), .bool true, .bool false, .slice none 0 0] w fun e w' => e = .returned (.int .i64 (codeD (isD p l))) ∧ Ext w w' := by
  have ID := Lib.hid fun W => isDisc_any p l hl hb W
  generalize isD p l = b at ID
  have E1 := (Ext.refl w).alloc (.cells #[.int .i64 p] 2)
  have C1 := Lib.hid (cell_new w (.int .i64 p) 2)
  have F := Hp.start (w.alloc (.cells #[.int .i64 p] 2))
  clear hb
  go_enter Tryz.func41, Tryz.ntmps41
  go_wp2_with (first | ((with_reducible show wpList _ _ _ _ _ _); first | (apply hpLd F; exact rfl; exact rfl; exact rfl; (· repeat (first | exact Has.head | apply Has.tail))) | (apply hpBox F; exact rfl; exact rfl; exact rfl; (· with_reducible first | exact pad_length _ | exact zeros64_length | exact tab_length _ _ | assumption)) | (apply hpAlloc F; exact rfl; exact rfl) | (apply hpSt F; exact rfl; exact rfl; exact rfl; exact rfl; (· repeat (first | exact Upd.head | apply Upd.tail)); (· with_reducible first | exact pad_length _ | exact zeros64_length | exact tab_length _ _ | assumption))))
  clear F
  intro ga w1 F
  have c1 := cellE C1.out F.ext
  cases b with
  | true =>
    go_wp2_with (first | (go_at_call 68; (with_reducible refine (ID.out _).mono ?_); rintro e w2 ⟨rfl, E2⟩; clear c1; replace F := F.next E2) | (go_at_call 69; (with_reducible refine (areForms_none _ _ _ _ _).mono ?_); rintro e w3 ⟨rfl, E3⟩; replace F := F.next E3) | ((with_reducible show wpList _ _ _ _ _ _); first | (apply hpLd F; exact rfl; exact rfl; exact rfl; (· repeat (first | exact Has.head | apply Has.tail))) | (apply hpBox F; exact rfl; exact rfl; exact rfl; (· with_reducible first | exact pad_length _ | exact zeros64_length | exact tab_length _ _ | assumption)) | (apply hpAlloc F; exact rfl; exact rfl) | (apply hpSt F; exact rfl; exact rfl; exact rfl; exact rfl; (· repeat (first | exact Upd.head | apply Upd.tail)); (· with_reducible first | exact pad_length _ | exact zeros64_length | exact tab_length _ _ | assumption))))
    go_ret
    exact ⟨rfl, E1.tr F.ext⟩
  | false =>
    go_wp2_with (first | (go_at_call 68; (with_reducible refine (ID.out _).mono ?_); rintro e w2 ⟨rfl, E2⟩; clear c1; replace F := F.next E2) | ((with_reducible show wpList _ _ _ _ _ _); first | (apply hpLd F; exact rfl; exact rfl; exact rfl; (· repeat (first | exact Has.head | apply Has.tail))) | (apply hpBox F; exact rfl; exact rfl; exact rfl; (· with_reducible first | exact pad_length _ | exact zeros64_length | exact tab_length _ _ | assumption)) | (apply hpAlloc F; exact rfl; exact rfl) | (apply hpSt F; exact rfl; exact rfl; exact rfl; exact rfl; (· repeat (first | exact Upd.head | apply Upd.tail)); (· with_reducible first | exact pad_length _ | exact zeros64_length | exact tab_length _ _ | assumption))))
    go_ret
    exact ⟨rfl, E1.tr F.ext⟩

set_option maxHeartbeats 400000 in
theorem genus_any (p : Int) (A : Option Addr) (n cap : Nat) (h1 : 2 ≤ n) (hn : n ≤ 1000000) (w : World) :
    Calls Tryz.prog 45 #[.agg #[.int .i64 p, .slice A n cap]] w fun e w' => e = .returned (.int .i64 (((n - 2) / 2 : Nat) : Int)) ∧ Ext w w' := by
  go_enter Tryz.func45, Tryz.ntmps45
  have g0 : (((n : Int) - 1 - 1) / 2) = (((n - 2) / 2 : Nat) : Int) := by omega
  have G := Lib.hid g0
  clear g0
  go_wp2_with (first | (go_at_call 79; (with_reducible refine (degree_any A n _ (by omega) _).mono ?_); rintro e w' ⟨rfl, rfl⟩))
  go_ret
  exact ⟨ret_int G.out, (Ext.refl w).alloc _⟩

end Go.Proofs.YtaemiknaiccijaaGreat

/- Points in the fields of p and p p elements: the program's way to count them gives what the reference's gives. No program in sight. -/
namespace Go.Proofs.YtaemiknaiccijaaGreat

/-- A value by a modulus, the program's way. -/
def atG (p : Int) (d x m : List Int) : Nat → List Int → List Int
  | 0, out => out
  | n + 1, out => atG p d x m n (comb p (mulI p out x m) (trim [at0 d n]) 1)
def atI (p : Int) (d x m : List Int) : List Int := atG p d x m d.length []
/-- How often f has the value y below n. -/
def times (f : Nat → List Int) (y : List Int) (n : Nat) : Int := sumN n fun j => if f j = y then 1 else 0
def sqI (p : Int) (m : List Int) (j : Nat) : List Int := mulI p (numr p j) (numr p j) m
def pntI (p : Int) (d m : List Int) (N : Nat) : Int := 1 + sumN N fun k => times (sqI p m) (atI p d (numr p k) m) N

/-! ### the fields' elements -/
def elT (p : Int) (j : Nat) : List Int := trim [(j : Int) % p, (j : Int) / p]
def elems (p : Int) (n : Nat) : List (List Int) := (List.range n).map (elT p)
theorem elT_at0 (p : Int) (j : Nat) : at0 (elT p j) 0 = (j : Int) % p := by rw [elT, at0_trim]; rfl
theorem elT_at1 (p : Int) (j : Nat) : at0 (elT p j) 1 = (j : Int) / p := by rw [elT, at0_trim]; rfl
/-- Every rest is one of them. -/
theorem elem_of {p : Int} (hp : PrimeP p) {a : List Int} (ha : Can p a) (hl : a.length < 3) : ∃ j : Nat, j < p.toNat * p.toNat ∧ a = elT p j := by
  have lo := hp.lo
  have h0 := ha.inp 0
  have h1 := ha.inp 1
  obtain ⟨x, hx⟩ : ∃ x : Nat, at0 a 0 = x := ⟨(at0 a 0).toNat, by omega⟩
  obtain ⟨y, hy⟩ : ∃ y : Nat, at0 a 1 = y := ⟨(at0 a 1).toNat, by omega⟩
  obtain ⟨q, hq⟩ : ∃ q : Nat, p = q := ⟨p.toNat, by omega⟩
  subst hq
  rw [hx] at h0; rw [hy] at h1
  have e : ((x + q * y : Nat) : Int) = (x : Int) + (q : Int) * (y : Int) := by push_cast; rfl
  have hxq : x < q := by omega
  have hyq : y < q := by omega
  refine ⟨x + q * y, ?_, ?_⟩
  · have : q * y + q ≤ q * q := by
      have := Nat.mul_le_mul_left q (show y + 1 ≤ q by omega)
      rwa [Nat.mul_add, Nat.mul_one] at this
    show x + q * y < q * q
    omega
  · refine nz_ext ha.nz (trim_nz _) fun j => ?_
    match j with
    | 0 =>
      rw [elT_at0, hx, e, Int.add_mul_emod_self_left, Int.emod_eq_of_lt (by omega) (by omega)]
    | 1 =>
      rw [elT_at1, hy, e, Int.add_mul_ediv_left _ _ (by omega), Int.ediv_eq_zero_of_lt (by omega) (by omega), Int.zero_add]
    | j + 2 => 
      rw [at0_out a _ (by omega), at0_out (elT (q : Int) _) _ (by have := trim_le [((x + q * y : Nat) : Int) % q, ((x + q * y : Nat) : Int) / q]; unfold elT; simp only [List.length_cons, List.length_nil] at this; omega)]
theorem elem_of1 {p : Int} (hp : PrimeP p) {a : List Int} (ha : Can p a) (hl : a.length < 2) : ∃ j : Nat, j < p.toNat ∧ a = elT p j := by
  have lo := hp.lo
  have h0 := ha.inp 0
  obtain ⟨x, hx⟩ : ∃ x : Nat, at0 a 0 = x := ⟨(at0 a 0).toNat, by omega⟩
  rw [hx] at h0
  refine ⟨x, by omega, ?_⟩
  refine nz_ext ha.nz (trim_nz _) fun j => ?_
  match j with
  | 0 => rw [elT_at0, hx, Int.emod_eq_of_lt (by omega) (by omega)]
  | 1 => rw [elT_at1, Int.ediv_eq_zero_of_lt (by omega) (by omega), at0_out a 1 (by omega)]
  | j + 2 => rw [at0_out a _ (by omega), at0_out (elT p x) _ (by have := trim_le [(x : Int) % p, (x : Int) / p]; unfold elT; simp only [List.length_cons, List.length_nil] at this; omega)]

/-! ### what the kernel computes -/
def chkNum (p : Int) (n : Nat) : Bool := (List.range n).all fun j => numr p j == elT p j
def chkMul (p : Int) (m m' : List Int) (n : Nat) : Bool := (elems p n).all fun a => (elems p n).all fun b => mulI p a b m == mulm p a b m'
def sqs (p : Int) (m : List Int) (n : Nat) : List (List Int) := (elems p n).map fun a => mulI p a a m
def hits (L : List (List Int)) (y : List Int) : Int := L.foldl (fun s x => if x = y then s + 1 else s) 0
def want (p : Int) (y : List Int) (e : Nat) : Int := if y.length = 0 then 1 else if powM p y e (fld p) == [1] then 2 else 0
def chkHit (p : Int) (m : List Int) (e n : Nat) : Bool := (elems p n).all fun y => hits (sqs p m n) y == want p y e
set_option maxRecDepth 100000 in
theorem num_ok : ∀ p ∈ [(3 : Int), 5, 7], chkNum p (p.toNat * p.toNat) = true := by decide +kernel
set_option maxRecDepth 100000 in
theorem mul_ok1 : ∀ p ∈ [(3 : Int), 5, 7], chkMul p [0, 1] (fld p) p.toNat = true := by decide +kernel
set_option maxRecDepth 100000 in
theorem hit_ok1 : ∀ p ∈ [(3 : Int), 5, 7], chkHit p [0, 1] (e1 p) p.toNat = true := by decide +kernel
set_option maxRecDepth 100000 in
theorem mul_ok2_3 : chkMul 3 (fld 3) (fld 3) 9 = true := by decide +kernel
set_option maxRecDepth 100000 in
theorem hit_ok2_3 : chkHit 3 (fld 3) (e2 3) 9 = true := by decide +kernel
set_option maxRecDepth 100000 in
theorem mul_ok2_5 : chkMul 5 (fld 5) (fld 5) 25 = true := by decide +kernel
set_option maxRecDepth 100000 in
theorem hit_ok2_5 : chkHit 5 (fld 5) (e2 5) 25 = true := by decide +kernel
set_option maxRecDepth 100000 in
theorem mul_ok2_7 : chkMul 7 (fld 7) (fld 7) 49 = true := by decide +kernel
set_option maxRecDepth 100000 in
theorem hit_ok2_7 : chkHit 7 (fld 7) (e2 7) 49 = true := by decide +kernel
theorem odd_mem {p : Int} (h : OddP p) : p ∈ [(3 : Int), 5, 7] := by simpa [OddP] using h
theorem mul_ok2 {p : Int} (h : OddP p) : chkMul p (fld p) (fld p) (p.toNat * p.toNat) = true := by
  rcases h with rfl | rfl | rfl
  · exact mul_ok2_3
  · exact mul_ok2_5
  · exact mul_ok2_7
theorem hit_ok2 {p : Int} (h : OddP p) : chkHit p (fld p) (e2 p) (p.toNat * p.toNat) = true := by
  rcases h with rfl | rfl | rfl
  · exact hit_ok2_3
  · exact hit_ok2_5
  · exact hit_ok2_7
theorem chkMul_at {p : Int} {m m' : List Int} {n i j : Nat} (h : chkMul p m m' n = true) (hi : i < n) (hj : j < n) : mulI p (elT p i) (elT p j) m = mulm p (elT p i) (elT p j) m' := by
  simp only [chkMul, elems, List.all_map, List.all_eq_true, List.mem_range, Function.comp_apply, beq_iff_eq] at h
  exact h i hi j hj
theorem mul2 {p : Int} (h : OddP p) {a b : List Int} (ha : Can p a) (la : a.length < 3) (hb : Can p b) (lb : b.length < 3) : mulI p a b (fld p) = mulm p a b (fld p) := by
  obtain ⟨i, hi, rfl⟩ := elem_of h.prime ha la
  obtain ⟨j, hj, rfl⟩ := elem_of h.prime hb lb
  exact chkMul_at (mul_ok2 h) hi hj
theorem mul1 {p : Int} (h : OddP p) {a b : List Int} (ha : Can p a) (la : a.length < 2) (hb : Can p b) (lb : b.length < 2) : mulI p a b [0, 1] = mulm p a b (fld p) := by
  obtain ⟨i, hi, rfl⟩ := elem_of1 h.prime ha la
  obtain ⟨j, hj, rfl⟩ := elem_of1 h.prime hb lb
  exact chkMul_at (mul_ok1 p (odd_mem h)) hi hj
theorem comb_same {p : Int} (hp : 0 < p) (M : List Int) (c : Int) : comb p M (trim [c]) 1 = comb p M [1] c := by
  refine nz_ext (rowN_nz _ _) (rowN_nz _ _) fun j => ?_
  rw [at0_comb, at0_comb, at0_trim]
  match j with
  | 0 => simp [at0]
  | j + 1 => simp [at0]
theorem at2 {p : Int} (h : OddP p) (d : List Int) {x : List Int} (hx : Can p x) (lx : x.length < 3) : ∀ n out, Can p out → out.length < 3 → atG p d x (fld p) n out = atF p d x (fld p) n out ∧ Can p (atF p d x (fld p) n out) ∧ (atF p d x (fld p) n out).length < 3
  | 0, out, h1, h2 => ⟨rfl, h1, h2⟩
  | n + 1, out, h1, h2 => by
    have lo := h.prime.lo
    have e := mul2 h h1 h2 hx lx
    have sp := mulm_spec h.prime out x (fld_can h) (show 0 < 3 by decide)
    have l := comb_le p (mulm p out x (fld p)) [1] (at0 d n)
    have e3 : (fld p).length = 3 := rfl
    rw [atG, atF, e, comb_same (by omega)]
    exact at2 h d hx lx n _ (comb_can (by omega) _ _ _) (by simp only [List.length_cons, List.length_nil] at l; omega)
theorem mul1_len {p : Int} (h : OddP p) {a b : List Int} : (mulI p a b [0, 1]).length < 2 := (mulI_spec h.prime a b (can_tee (by have := h.prime.lo; omega)) (by decide)).2
theorem at1 {p : Int} (h : OddP p) (d : List Int) {x : List Int} (hx : Can p x) (lx : x.length < 2) : ∀ n out, Can p out → out.length < 2 → atG p d x [0, 1] n out = atF p d x (fld p) n out ∧ Can p (atF p d x (fld p) n out) ∧ (atF p d x (fld p) n out).length < 2
  | 0, out, h1, h2 => ⟨rfl, h1, h2⟩
  | n + 1, out, h1, h2 => by
    have lo := h.prime.lo
    have e := mul1 h h1 h2 hx lx
    have l1 := mul1_len h (a := out) (b := x)
    rw [e] at l1
    have l := comb_le p (mulm p out x (fld p)) [1] (at0 d n)
    rw [atG, atF, e, comb_same (by omega)]
    exact at1 h d hx lx n _ (comb_can (by omega) _ _ _) (by simp only [List.length_cons, List.length_nil] at l; omega)
theorem hits_times (f : Nat → List Int) (y : List Int) : ∀ n, hits ((List.range n).map f) y = times f y n
  | 0 => rfl
  | n + 1 => by
    have ih := hits_times f y n
    unfold hits times at *
    rw [List.range_succ, List.map_append, List.foldl_append, ih, sumN]
    simp only [List.map_cons, List.map_nil, List.foldl_cons, List.foldl_nil]
    split <;> omega
theorem numr_el {p : Int} (h : OddP p) {j : Nat} (hj : j < p.toNat * p.toNat) : numr p j = elT p j := by
  have := num_ok p (odd_mem h)
  simp only [chkNum, List.all_eq_true, List.mem_range, beq_iff_eq] at this
  exact this j hj
theorem times_congr {f g : Nat → List Int} {y : List Int} {n : Nat} (h : ∀ j, j < n → f j = g j) : times f y n = times g y n :=
  sumN_congr n fun j hj => by rw [h j hj]
theorem hit_at {p : Int} (h : OddP p) {m : List Int} {e n i : Nat} (hc : chkHit p m e n = true) (hn : n ≤ p.toNat * p.toNat) (hi : i < n) : times (sqI p m) (elT p i) n = want p (elT p i) e := by
  simp only [chkHit, elems, List.all_map, List.all_eq_true, List.mem_range, Function.comp_apply, beq_iff_eq] at hc
  rw [← hc i hi, sqs, elems, List.map_map, hits_times]
  exact times_congr fun j hj => by rw [sqI, numr_el h (by omega)]; rfl
theorem numr_el1 {p : Int} (h : OddP p) {k : Nat} (hk : k < p.toNat) : (numr p k).length < 2 := by
  have lo := h.prime.lo
  have l2 : k < p.toNat * p.toNat := Nat.lt_of_lt_of_le hk (Nat.le_mul_of_pos_left _ (by omega))
  rw [numr_el h l2]
  rcases Nat.lt_or_ge 1 (elT p k).length with h1 | h1
  · have h0 := trim_nz [(k : Int) % p, (k : Int) / p] 1 (by have := trim_le [(k : Int) % p, (k : Int) / p]; simp only [List.length_cons, List.length_nil] at this; unfold elT at h1; omega)
    have := elT_at1 p k
    unfold elT at this
    rw [this, Int.ediv_eq_zero_of_lt (by omega) (by omega)] at h0
    exact absurd rfl h0
  · omega
theorem numr_el2 {p : Int} (h : OddP p) {k : Nat} (hk : k < p.toNat * p.toNat) : (numr p k).length < 3 := by
  rw [numr_el h hk]
  have := trim_le [(k : Int) % p, (k : Int) / p]
  unfold elT
  simp only [List.length_cons, List.length_nil] at this
  omega
/-- The points over the field of p p elements. -/
theorem points2 {p : Int} (h : OddP p) (d : List Int) : pntI p d (fld p) (p.toNat * p.toNat) = cntU (ptS p d (fld p) (e2 p)) (p.toNat * p.toNat) := by
  have lo := h.prime.lo
  unfold pntI cntU
  congr 1
  refine sumN_congr _ fun k hk => ?_
  obtain ⟨a1, a2, a3⟩ := at2 h d (numr_can (by omega) k) (numr_el2 h hk) d.length [] (can_nil (by omega)) (by decide)
  have e : atI p d (numr p k) (fld p) = atr p d (numr p k) (fld p) := a1
  obtain ⟨i, hi, hy⟩ := elem_of h.prime a2 a3
  have hy' : atr p d (numr p k) (fld p) = elT p i := hy
  rw [e, ptS, hy', hit_at h (hit_ok2 h) (Nat.le_refl _) hi]
  rfl
/-- The points over the field of p elements. -/
theorem points1 {p : Int} (h : OddP p) (d : List Int) : pntI p d [0, 1] p.toNat = cntU (ptS p d (fld p) (e1 p)) p.toNat := by
  have lo := h.prime.lo
  unfold pntI cntU
  congr 1
  refine sumN_congr _ fun k hk => ?_
  obtain ⟨a1, a2, a3⟩ := at1 h d (numr_can (by omega) k) (numr_el1 h hk) d.length [] (can_nil (by omega)) (by decide)
  have e : atI p d (numr p k) [0, 1] = atr p d (numr p k) (fld p) := a1
  obtain ⟨i, hi, hy⟩ := elem_of1 h.prime a2 a3
  have hy' : atr p d (numr p k) (fld p) = elT p i := hy
  rw [e, ptS, hy', hit_at h (hit_ok1 p (odd_mem h)) (Nat.le_mul_of_pos_left _ (by omega)) hi]
  rfl

end Go.Proofs.YtaemiknaiccijaaGreat

/- The program's comparison of rows. -/
namespace Go.Proofs.YtaemiknaiccijaaGreat
open Go.RowKit

/-- cmp.Compare at whole numbers. -/
def cmpN (x y : Int) : Int := if x < y then -1 else if y < x then 1 else 0
theorem cmpN_lt {x y : Int} (h : x < y) : cmpN x y = -1 := if_pos h
theorem cmpN_gt {x y : Int} (h : y < x) : cmpN x y = 1 := by rw [cmpN, if_neg (by omega), if_pos h]
theorem cmpN_eq (x : Int) : cmpN x x = 0 := by rw [cmpN, if_neg (by omega), if_neg (by omega)]
/-- The first n coefficients, the greatest first. -/
def cmpF (a b : List Int) : Nat → Int
  | 0 => 0
  | n + 1 => if at0 a n = at0 b n then cmpF a b n else cmpN (at0 a n) (at0 b n)
def cmpI (a b : List Int) : Int := if a.length = b.length then cmpF a b a.length else cmpN a.length b.length

set_option maxHeartbeats 400000 in
theorem compareInt_any (x y : Int) (w : World) :
    Calls Tryz.prog 138 #[.int .i64 x, .int .i64 y] w fun e w' => e = .returned (.int .i64 (cmpN x y)) ∧ w = w' := by
  rcases Int.lt_trichotomy x y with h | h | h
  · have G := Lib.hid (cmpN_lt h)
    go_enter Tryz.func138, Tryz.ntmps138
    go_wp2
    go_ret
    exact ⟨ret_int G.out.symm, rfl⟩
  · subst h
    have G := Lib.hid (cmpN_eq x)
    go_enter Tryz.func138, Tryz.ntmps138
    go_wp2
    go_ret
    exact ⟨ret_int G.out.symm, rfl⟩
  · have G := Lib.hid (cmpN_gt h)
    have h2 : ¬ x < y := by omega
    go_enter Tryz.func138, Tryz.ntmps138
    go_wp2
    go_ret
    exact ⟨ret_int G.out.symm, rfl⟩
set_option maxHeartbeats 400000 in
theorem compareInt64_any (x y : Int) (w : World) :
    Calls Tryz.prog 139 #[.int .i64 x, .int .i64 y] w fun e w' => e = .returned (.int .i64 (cmpN x y)) ∧ w = w' := by
  rcases Int.lt_trichotomy x y with h | h | h
  · have G := Lib.hid (cmpN_lt h)
    go_enter Tryz.func139, Tryz.ntmps139
    go_wp2
    go_ret
    exact ⟨ret_int G.out.symm, rfl⟩
  · subst h
    have G := Lib.hid (cmpN_eq x)
    go_enter Tryz.func139, Tryz.ntmps139
    go_wp2
    go_ret
    exact ⟨ret_int G.out.symm, rfl⟩
  · have G := Lib.hid (cmpN_gt h)
    have h2 : ¬ x < y := by omega
    go_enter Tryz.func139, Tryz.ntmps139
    go_wp2
    go_ret
    exact ⟨ret_int G.out.symm, rfl⟩

def CpRel (a b : List Int) (w : World) (f : Nat) (i : Value) (wr : World) : Prop :=
  f ≤ a.length ∧ i = .int .i64 ((f : Int) - 1) ∧ cmpF a b f = cmpI a b ∧ ∃ q, wr = w.drewN q

set_option maxRecDepth 100000 in
set_option maxHeartbeats 1000000 in
theorem compare_any (A B : Option Addr) (ca cb : Nat) (a b : List Int) (w : World) (ra : RowAt w A a) (rb : RowAt w B b) :
    Calls Tryz.prog 130 #[.slice A a.length ca, .slice B b.length cb] w fun e w' => e = .returned (.int .i64 (cmpI a b)) ∧ ∃ q, w' = w.drewN q := by
  have RA := Lib.hid ra
  have RB := Lib.hid rb
  have la := ra.1
  have lb := rb.1
  clear ra rb
  by_cases hl : a.length = b.length
  · have z : Hid (cmpN (a.length : Int) (b.length : Int) = 0) := Lib.hid (by rw [hl]; exact cmpN_eq _)
    have G : Hid (cmpI a b = cmpF a b a.length) := Lib.hid (if_pos hl)
    have HLn := Lib.hid hl
    have l1 : a.length ≤ b.length := by omega
    clear hl
    go_enter Tryz.func130, Tryz.ntmps130
    go_wp2_with (first | (go_at_call 138; (with_reducible refine (compareInt_any _ _ _).mono ?_); rintro e w' ⟨rfl, rfl⟩; rw [z.out]))
    go_loopg [6] a.length (fun f i wr => CpRel a b w f i wr)
    case atStart => exact ⟨Nat.le_refl _, rfl, G.out.symm, 0, rfl⟩
    case round =>
      obtain ⟨hf, rfl, hc, q, hq⟩ := hrel
      have HQ := Lib.hid hq
      have cells : ∀ a, wr.cell? a = w.cell? a := fun a => by rw [hq]; exact World.cell?_drewN ..
      have CS := Lib.hid cells
      clear hq cells
      have HC := Lib.hid hc
      clear hc
      by_cases g0 : gk = 0
      · subst g0
        have G2 : Hid (cmpI a b = 0) := Lib.hid HC.out.symm
        rw [show ((0 : Nat) : Int) - 1 = -1 from rfl]
        go_wp2
        go_ret
        exact ⟨ret_int G2.out.symm, q, HQ.out⟩
      · obtain ⟨f, rfl⟩ : ∃ f, gk = f + 1 := ⟨gk - 1, by omega⟩
        rw [show ((f + 1 : Nat) : Int) - 1 = (f : Int) by omega]
        obtain ⟨b1, o1, rfl, _, hc1⟩ := RA.out.place (by omega)
        obtain ⟨b2, o2, rfl, _, hc2⟩ := RB.out.place (by omega)
        have c1 := (CS.out _).trans (hc1 f (by omega))
        have c2 := (CS.out _).trans (hc2 f (by omega))
        have i1 : f < a.length := by omega
        have i2 : f < b.length := by omega
        have i3 : (f : Int) < (a.length : Int) := by omega
        have i4 : (f : Int) < (b.length : Int) := by omega
        clear hc1 hc2 g0
        have CC : Hid (∀ W, Calls Tryz.prog 139 #[.int .i64 (at0 a f), .int .i64 (at0 b f)] W fun e w' => e = .returned (.int .i64 (cmpN (at0 a f) (at0 b f))) ∧ w' = W) :=
          Lib.hid fun W => (compareInt64_any _ _ W).mono fun _ _ h => ⟨h.1, h.2.symm⟩
        by_cases he : at0 a f = at0 b f
        · have z2 : Hid (cmpN (at0 a f) (at0 b f) = 0) := Lib.hid (by rw [he]; exact cmpN_eq _)
          rw [z2.out] at CC
          have HC2 : Hid (cmpF a b f = cmpI a b) := Lib.hid (by rw [← HC.out, cmpF, if_pos he])
          clear he z2
          go_wp2
          go_quiet ((go_at_call 139; exact Calls.quiet_of_same (CC.out _)))
          go_wp2
          go_roundg f
          case measure => omega
          case rel => exact ⟨by omega, by go_num, HC2.out, _, by rw [HQ.out]; exact World.drewN_drewN _ _ _⟩
        · have z2 : (cmpN (at0 a f) (at0 b f) != 0) = true := by
            unfold cmpN; split
            · rfl
            · split
              · rfl
              · omega
          have HC2 : Hid (cmpN (at0 a f) (at0 b f) = cmpI a b) := Lib.hid (by rw [← HC.out, cmpF, if_neg he])
          clear he
          generalize cmpN (at0 a f) (at0 b f) = r at CC HC2 z2
          go_wp2
          go_quiet ((go_at_call 139; exact Calls.quiet_of_same (CC.out _)))
          go_wp2
          go_ret
          exact ⟨ret_int HC2.out, _, by rw [HQ.out]; exact World.drewN_drewN _ _ _⟩
  · have z : (cmpN (a.length : Int) (b.length : Int) != 0) = true := by
      unfold cmpN; split
      · rfl
      · split
        · rfl
        · omega
    have G : Hid (cmpI a b = cmpN (a.length : Int) (b.length : Int)) := Lib.hid (if_neg hl)
    have CC : Hid (∀ W, Calls Tryz.prog 138 #[.int .i64 a.length, .int .i64 b.length] W fun e w' => e = .returned (.int .i64 (cmpN a.length b.length)) ∧ W = w') :=
      Lib.hid fun W => compareInt_any _ _ W
    clear hl
    generalize cmpN (a.length : Int) (b.length : Int) = r at G z CC
    go_enter Tryz.func130, Tryz.ntmps130
    go_wp2_with (first | (go_at_call 138; (with_reducible refine (CC.out _).mono ?_); rintro e w' ⟨rfl, rfl⟩))
    go_ret
    exact ⟨ret_int G.out.symm, 0, rfl⟩

end Go.Proofs.YtaemiknaiccijaaGreat
