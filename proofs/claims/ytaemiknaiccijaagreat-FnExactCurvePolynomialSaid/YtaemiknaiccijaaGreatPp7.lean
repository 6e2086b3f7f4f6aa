/- Lemmas and contracts of functions, for the laws on curves: The program's test for discriminants. -/
import Derived.Test.YtaemiknaiccijaaGreatPp6
import Derived.Maps.OwnOps
import Derived.Maps.Views
import Derived.StringKeys
import Derived.Shelf.SlSortCmp.WholeK
import Derived.Shelf.SlSortCmp.NoneTotal
set_option linter.unusedVariables false
set_option linter.unusedSimpArgs false
namespace Go.Proofs.YtaemiknaiccijaaGreat
open Go.RowKit

set_option maxRecDepth 100000 in
set_option maxHeartbeats 2000000 in
theorem isDisc_bad (p : Int) (l : List Int) (hl : l.length = 64) (hb : IsB l) (hbad : isPB p l = false ∨ p = 2) (w : World) :
    Calls Tryz.prog 68 #[.int .i64 p, .agg (u8s l)] w fun e w' => e = .returned (.bool (isD p l)) ∧ Ext w w' := by
  have HL := Lib.hid hl
  have RO := Lib.hid fun W => rowOf_any l hl hb W
  have IP := Lib.hid fun W => IsPoly_any p l hl hb W
  have F := Hp.start w
  cases hq : isPB p l with
  | false =>
    have Q := Lib.hid hq
    have G : Hid (isD p l = false) := Lib.hid (by rw [isD, hq]; rfl)
    clear hbad hq hb
    go_enter Tryz.func68, Tryz.ntmps68
    go_wp2_with (first | ((with_reducible show wpList _ _ _ _ _ _); first | (apply hpLd F; exact rfl; exact rfl; exact rfl; (· repeat (first | exact Has.head | apply Has.tail))) | (apply hpBox F; exact rfl; exact rfl; exact rfl; (· with_reducible first | exact pad_length _ | exact zeros64_length | exact tab_length _ _ | assumption)) | (apply hpAlloc F; exact rfl; exact rfl) | (apply hpSt F; exact rfl; exact rfl; exact rfl; exact rfl; (· repeat (first | exact Upd.head | apply Upd.tail)); (· with_reducible first | exact pad_length _ | exact zeros64_length | exact tab_length _ _ | assumption))))
    clear F
    intro ga w1 F
    go_wp2_with (first | (go_at_call 55; (with_reducible refine (RO.out _).mono ?_); rintro e w2 ⟨A2, c2, rfl, R2, E2⟩; replace F := F.next E2) | (go_at_call 97; (with_reducible refine (IP.out _).mono ?_); rintro e w2 ⟨rfl, E2⟩; replace F := F.next E2; rw [Q.out]) | ((with_reducible show wpList _ _ _ _ _ _); first | (apply hpLd F; exact rfl; exact rfl; exact rfl; (· repeat (first | exact Has.head | apply Has.tail))) | (apply hpBox F; exact rfl; exact rfl; exact rfl; (· with_reducible first | exact pad_length _ | exact zeros64_length | exact tab_length _ _ | assumption)) | (apply hpAlloc F; exact rfl; exact rfl) | (apply hpSt F; exact rfl; exact rfl; exact rfl; exact rfl; (· repeat (first | exact Upd.head | apply Upd.tail)); (· with_reducible first | exact pad_length _ | exact zeros64_length | exact tab_length _ _ | assumption))))
    go_ret
    exact ⟨ret_bool G.out.symm, F.ext⟩
  | true =>
    have p2 : p = 2 := by
      rcases hbad with h | h
      · rw [h] at hq; cases hq
      · exact h
    subst p2
    have Q := Lib.hid hq
    have G : Hid (isD 2 l = false) := Lib.hid (by rw [isD, hq]; rfl)
    clear hbad hq hb
    go_enter Tryz.func68, Tryz.ntmps68
    go_wp2_with (first | ((with_reducible show wpList _ _ _ _ _ _); first | (apply hpLd F; exact rfl; exact rfl; exact rfl; (· repeat (first | exact Has.head | apply Has.tail))) | (apply hpBox F; exact rfl; exact rfl; exact rfl; (· with_reducible first | exact pad_length _ | exact zeros64_length | exact tab_length _ _ | assumption)) | (apply hpAlloc F; exact rfl; exact rfl) | (apply hpSt F; exact rfl; exact rfl; exact rfl; exact rfl; (· repeat (first | exact Upd.head | apply Upd.tail)); (· with_reducible first | exact pad_length _ | exact zeros64_length | exact tab_length _ _ | assumption))))
    clear F
    intro ga w1 F
    go_wp2_with (first | (go_at_call 55; (with_reducible refine (RO.out _).mono ?_); rintro e w2 ⟨A2, c2, rfl, R2, E2⟩; replace F := F.next E2) | (go_at_call 97; (with_reducible refine (IP.out _).mono ?_); rintro e w2 ⟨rfl, E2⟩; replace F := F.next E2; rw [Q.out]) | ((with_reducible show wpList _ _ _ _ _ _); first | (apply hpLd F; exact rfl; exact rfl; exact rfl; (· repeat (first | exact Has.head | apply Has.tail))) | (apply hpBox F; exact rfl; exact rfl; exact rfl; (· with_reducible first | exact pad_length _ | exact zeros64_length | exact tab_length _ _ | assumption)) | (apply hpAlloc F; exact rfl; exact rfl) | (apply hpSt F; exact rfl; exact rfl; exact rfl; exact rfl; (· repeat (first | exact Upd.head | apply Upd.tail)); (· with_reducible first | exact pad_length _ | exact zeros64_length | exact tab_length _ _ | assumption))))
    go_ret
    exact ⟨ret_bool G.out.symm, F.ext⟩

set_option maxRecDepth 100000 in
set_option maxHeartbeats 4000000 in
theorem isDisc_good (p : Int) (a : List Int) (hp : OddP p) (ha : Can p a) (la : a.length ≤ 64) (w : World) :
    Calls Tryz.prog 68 #[.int .i64 p, .agg (u8s (pad a))] w fun e w' => e = .returned (.bool (isDS p a)) ∧ Ext w w' := by
  have HP := Lib.hid hp.prime
  have HA := Lib.hid ha
  have BA' : IsB (pad a) := fun j => by rw [at0_pad a la]; have := ha.inp j; have := hp.prime.hi; omega
  have lo := HP.out.lo
  have hi := HP.out.hi
  have DC := Lib.hid (derr_can (show 0 < p by omega) a)
  have DL := derr_le p a
  have RO' := fun W => rowOf_any (pad a) (pad_length _) BA' W
  rw [trim_pad ha.nz la] at RO'
  have RO := Lib.hid RO'
  have BD' : IsB (pad (derr p a)) := fun j => by rw [at0_pad _ DL]; have := DC.out.inp j; omega
  have RD' := fun W => rowOf_any (pad (derr p a)) (pad_length _) BD' W
  rw [trim_pad DC.out.nz DL] at RD'
  have RD := Lib.hid RD'
  have IP := Lib.hid fun W => IsPoly_any p (pad a) (pad_length _) BA' W
  have DV := Lib.hid fun W => derivative_any p a HP.out ha la W
  have Q := Lib.hid (isPB_pad hp.prime ha)
  have p2 : decide (p = 2) = false := decide_eq_false (by rcases hp with rfl | rfl | rfl <;> decide)
  have p3 : (p == 2) = false := by simpa using p2
  have F := Hp.start w
  by_cases hd : a.length = 2 ∨ a.length = 4 ∨ a.length = 6
  · have G : Hid (isDS p a = isOneB (bezD p a (derr p a))) := Lib.hid (isDS_impl HP.out ha la hd)
    have hd' : (((a.length : Int) - 1 != 1) = false) ∨ (((a.length : Int) - 1 != 1) = true ∧ ((a.length : Int) - 1 != 3) = false) ∨ (((a.length : Int) - 1 != 1) = true ∧ ((a.length : Int) - 1 != 3) = true ∧ ((a.length : Int) - 1 != 5) = false) := by
      rcases hd with h | h | h <;> rw [h] <;> decide
    have hne : a.length ≠ 0 := by omega
    have GD := Lib.hid fun W A B ca cb r1 r2 => gcd_any p A B ca cb a (derr p a) HP.out ha DC.out la DL (.inl hne) W r1 r2
    clear hd hp ha RO' RD' BA' BD' hne
    rw [G.out]
    clear G
    go_enter Tryz.func68, Tryz.ntmps68
    go_wp2_with (first | ((with_reducible show wpList _ _ _ _ _ _); first | (apply hpLd F; exact rfl; exact rfl; exact rfl; (· repeat (first | exact Has.head | apply Has.tail))) | (apply hpBox F; exact rfl; exact rfl; exact rfl; (· with_reducible first | exact pad_length _ | exact zeros64_length | exact tab_length _ _ | assumption)) | (apply hpAlloc F; exact rfl; exact rfl) | (apply hpSt F; exact rfl; exact rfl; exact rfl; exact rfl; (· repeat (first | exact Upd.head | apply Upd.tail)); (· with_reducible first | exact pad_length _ | exact zeros64_length | exact tab_length _ _ | assumption))))
    clear F
    intro ga w1 F
    rcases hd' with t1 | ⟨t1, t2⟩ | ⟨t1, t2, t3⟩
    · skip
      go_wp2_with (first | (go_at_call 55; (with_reducible refine (RO.out _).mono ?_); rintro e w2 ⟨A2, c2, rfl, R2, E2⟩; replace F := F.next E2; have FA := Lib.hid (F.at_ 0 rfl); have FE := F.ext; replace R2 := Lib.hid R2; clear F; have F := Hp.start w2) | ((with_reducible show wpList _ _ _ _ _ _); apply wplLG; exact rfl; exact rfl; exact FA.out.ext F.ext; exact rfl; exact pad_length _) | (go_at_call 97; (with_reducible refine (IP.out _).mono ?_); rintro e w3 ⟨rfl, E3⟩; replace F := F.next E3; rw [Q.out]) | (go_at_call 79; (with_reducible refine (degree_any _ a.length _ (by omega) _).mono ?_); rintro e w' ⟨rfl, rfl⟩) | (go_at_call 98; (with_reducible refine (DV.out _).mono ?_); rintro e w4 ⟨rfl, E4⟩; replace F := F.next E4) | ((with_reducible show wpList _ _ _ _ _ _); first | (apply hpLd F; exact rfl; exact rfl; exact rfl; (· repeat (first | exact Has.head | apply Has.tail))) | (apply hpBox F; exact rfl; exact rfl; exact rfl; (· with_reducible first | exact pad_length _ | exact zeros64_length | exact tab_length _ _ | assumption)) | (apply hpAlloc F; exact rfl; exact rfl) | (apply hpSt F; exact rfl; exact rfl; exact rfl; exact rfl; (· repeat (first | exact Upd.head | apply Upd.tail)); (· with_reducible first | exact pad_length _ | exact zeros64_length | exact tab_length _ _ | assumption))))
      clear F
      intro g6 w5 F
      go_wp2_with (first | ((with_reducible show wpList _ _ _ _ _ _); first | (apply hpLd F; exact rfl; exact rfl; exact rfl; (· repeat (first | exact Has.head | apply Has.tail))) | (apply hpBox F; exact rfl; exact rfl; exact rfl; (· with_reducible first | exact pad_length _ | exact zeros64_length | exact tab_length _ _ | assumption)) | (apply hpAlloc F; exact rfl; exact rfl) | (apply hpSt F; exact rfl; exact rfl; exact rfl; exact rfl; (· repeat (first | exact Upd.head | apply Upd.tail)); (· with_reducible first | exact pad_length _ | exact zeros64_length | exact tab_length _ _ | assumption))))
      clear F
      intro w6 F
      try simp only [List.set_cons_zero, List.set_cons_succ] at F
      go_wp2_with (first | ((with_reducible show wpList _ _ _ _ _ _); apply wplLG; exact rfl; exact rfl; exact FA.out.ext F.ext; exact rfl; exact pad_length _) | (go_at_call 55; (with_reducible refine (RD.out _).mono ?_); rintro e w7 ⟨A7, c7, rfl, R7, E7⟩; replace F := F.next E7) | (go_at_call 100; (with_reducible refine (GD.out _ _ _ _ _ (R2.out.below F.ext) R7).mono ?_); rintro e w8 ⟨A8, c8, rfl, R8, E8⟩; replace F := F.next E8) | (go_at_call 99; (with_reducible refine (isOne_any _ _ _ _ R8).mono ?_); rintro e w9 ⟨rfl, rfl⟩) | ((with_reducible show wpList _ _ _ _ _ _); first | (apply hpLd F; exact rfl; exact rfl; exact rfl; (· repeat (first | exact Has.head | apply Has.tail))) | (apply hpBox F; exact rfl; exact rfl; exact rfl; (· with_reducible first | exact pad_length _ | exact zeros64_length | exact tab_length _ _ | assumption)) | (apply hpAlloc F; exact rfl; exact rfl) | (apply hpSt F; exact rfl; exact rfl; exact rfl; exact rfl; (· repeat (first | exact Upd.head | apply Upd.tail)); (· with_reducible first | exact pad_length _ | exact zeros64_length | exact tab_length _ _ | assumption))))
      go_ret
      exact ⟨rfl, FE.tr F.ext⟩
    · skip
      go_wp2_with (first | (go_at_call 55; (with_reducible refine (RO.out _).mono ?_); rintro e w2 ⟨A2, c2, rfl, R2, E2⟩; replace F := F.next E2; have FA := Lib.hid (F.at_ 0 rfl); have FE := F.ext; replace R2 := Lib.hid R2; clear F; have F := Hp.start w2) | ((with_reducible show wpList _ _ _ _ _ _); apply wplLG; exact rfl; exact rfl; exact FA.out.ext F.ext; exact rfl; exact pad_length _) | (go_at_call 97; (with_reducible refine (IP.out _).mono ?_); rintro e w3 ⟨rfl, E3⟩; replace F := F.next E3; rw [Q.out]) | (go_at_call 79; (with_reducible refine (degree_any _ a.length _ (by omega) _).mono ?_); rintro e w' ⟨rfl, rfl⟩) | (go_at_call 98; (with_reducible refine (DV.out _).mono ?_); rintro e w4 ⟨rfl, E4⟩; replace F := F.next E4) | ((with_reducible show wpList _ _ _ _ _ _); first | (apply hpLd F; exact rfl; exact rfl; exact rfl; (· repeat (first | exact Has.head | apply Has.tail))) | (apply hpBox F; exact rfl; exact rfl; exact rfl; (· with_reducible first | exact pad_length _ | exact zeros64_length | exact tab_length _ _ | assumption)) | (apply hpAlloc F; exact rfl; exact rfl) | (apply hpSt F; exact rfl; exact rfl; exact rfl; exact rfl; (· repeat (first | exact Upd.head | apply Upd.tail)); (· with_reducible first | exact pad_length _ | exact zeros64_length | exact tab_length _ _ | assumption))))
      clear F
      intro g6 w5 F
      go_wp2_with (first | ((with_reducible show wpList _ _ _ _ _ _); first | (apply hpLd F; exact rfl; exact rfl; exact rfl; (· repeat (first | exact Has.head | apply Has.tail))) | (apply hpBox F; exact rfl; exact rfl; exact rfl; (· with_reducible first | exact pad_length _ | exact zeros64_length | exact tab_length _ _ | assumption)) | (apply hpAlloc F; exact rfl; exact rfl) | (apply hpSt F; exact rfl; exact rfl; exact rfl; exact rfl; (· repeat (first | exact Upd.head | apply Upd.tail)); (· with_reducible first | exact pad_length _ | exact zeros64_length | exact tab_length _ _ | assumption))))
      clear F
      intro w6 F
      try simp only [List.set_cons_zero, List.set_cons_succ] at F
      go_wp2_with (first | ((with_reducible show wpList _ _ _ _ _ _); apply wplLG; exact rfl; exact rfl; exact FA.out.ext F.ext; exact rfl; exact pad_length _) | (go_at_call 55; (with_reducible refine (RD.out _).mono ?_); rintro e w7 ⟨A7, c7, rfl, R7, E7⟩; replace F := F.next E7) | (go_at_call 100; (with_reducible refine (GD.out _ _ _ _ _ (R2.out.below F.ext) R7).mono ?_); rintro e w8 ⟨A8, c8, rfl, R8, E8⟩; replace F := F.next E8) | (go_at_call 99; (with_reducible refine (isOne_any _ _ _ _ R8).mono ?_); rintro e w9 ⟨rfl, rfl⟩) | ((with_reducible show wpList _ _ _ _ _ _); first | (apply hpLd F; exact rfl; exact rfl; exact rfl; (· repeat (first | exact Has.head | apply Has.tail))) | (apply hpBox F; exact rfl; exact rfl; exact rfl; (· with_reducible first | exact pad_length _ | exact zeros64_length | exact tab_length _ _ | assumption)) | (apply hpAlloc F; exact rfl; exact rfl) | (apply hpSt F; exact rfl; exact rfl; exact rfl; exact rfl; (· repeat (first | exact Upd.head | apply Upd.tail)); (· with_reducible first | exact pad_length _ | exact zeros64_length | exact tab_length _ _ | assumption))))
      go_ret
      exact ⟨rfl, FE.tr F.ext⟩
    · skip
      go_wp2_with (first | (go_at_call 55; (with_reducible refine (RO.out _).mono ?_); rintro e w2 ⟨A2, c2, rfl, R2, E2⟩; replace F := F.next E2; have FA := Lib.hid (F.at_ 0 rfl); have FE := F.ext; replace R2 := Lib.hid R2; clear F; have F := Hp.start w2) | ((with_reducible show wpList _ _ _ _ _ _); apply wplLG; exact rfl; exact rfl; exact FA.out.ext F.ext; exact rfl; exact pad_length _) | (go_at_call 97; (with_reducible refine (IP.out _).mono ?_); rintro e w3 ⟨rfl, E3⟩; replace F := F.next E3; rw [Q.out]) | (go_at_call 79; (with_reducible refine (degree_any _ a.length _ (by omega) _).mono ?_); rintro e w' ⟨rfl, rfl⟩) | (go_at_call 98; (with_reducible refine (DV.out _).mono ?_); rintro e w4 ⟨rfl, E4⟩; replace F := F.next E4) | ((with_reducible show wpList _ _ _ _ _ _); first | (apply hpLd F; exact rfl; exact rfl; exact rfl; (· repeat (first | exact Has.head | apply Has.tail))) | (apply hpBox F; exact rfl; exact rfl; exact rfl; (· with_reducible first | exact pad_length _ | exact zeros64_length | exact tab_length _ _ | assumption)) | (apply hpAlloc F; exact rfl; exact rfl) | (apply hpSt F; exact rfl; exact rfl; exact rfl; exact rfl; (· repeat (first | exact Upd.head | apply Upd.tail)); (· with_reducible first | exact pad_length _ | exact zeros64_length | exact tab_length _ _ | assumption))))
      clear F
      intro g6 w5 F
      go_wp2_with (first | ((with_reducible show wpList _ _ _ _ _ _); first | (apply hpLd F; exact rfl; exact rfl; exact rfl; (· repeat (first | exact Has.head | apply Has.tail))) | (apply hpBox F; exact rfl; exact rfl; exact rfl; (· with_reducible first | exact pad_length _ | exact zeros64_length | exact tab_length _ _ | assumption)) | (apply hpAlloc F; exact rfl; exact rfl) | (apply hpSt F; exact rfl; exact rfl; exact rfl; exact rfl; (· repeat (first | exact Upd.head | apply Upd.tail)); (· with_reducible first | exact pad_length _ | exact zeros64_length | exact tab_length _ _ | assumption))))
      clear F
      intro w6 F
      try simp only [List.set_cons_zero, List.set_cons_succ] at F
      go_wp2_with (first | ((with_reducible show wpList _ _ _ _ _ _); apply wplLG; exact rfl; exact rfl; exact FA.out.ext F.ext; exact rfl; exact pad_length _) | (go_at_call 55; (with_reducible refine (RD.out _).mono ?_); rintro e w7 ⟨A7, c7, rfl, R7, E7⟩; replace F := F.next E7) | (go_at_call 100; (with_reducible refine (GD.out _ _ _ _ _ (R2.out.below F.ext) R7).mono ?_); rintro e w8 ⟨A8, c8, rfl, R8, E8⟩; replace F := F.next E8) | (go_at_call 99; (with_reducible refine (isOne_any _ _ _ _ R8).mono ?_); rintro e w9 ⟨rfl, rfl⟩) | ((with_reducible show wpList _ _ _ _ _ _); first | (apply hpLd F; exact rfl; exact rfl; exact rfl; (· repeat (first | exact Has.head | apply Has.tail))) | (apply hpBox F; exact rfl; exact rfl; exact rfl; (· with_reducible first | exact pad_length _ | exact zeros64_length | exact tab_length _ _ | assumption)) | (apply hpAlloc F; exact rfl; exact rfl) | (apply hpSt F; exact rfl; exact rfl; exact rfl; exact rfl; (· repeat (first | exact Upd.head | apply Upd.tail)); (· with_reducible first | exact pad_length _ | exact zeros64_length | exact tab_length _ _ | assumption))))
      go_ret
      exact ⟨rfl, FE.tr F.ext⟩
  · have G : Hid (isDS p a = false) := Lib.hid (by
      have e2 : (a.length == 2) = false := by simpa using fun h => hd (.inl h)
      have e4 : (a.length == 4) = false := by simpa using fun h => hd (.inr (.inl h))
      have e6 : (a.length == 6) = false := by simpa using fun h => hd (.inr (.inr h))
      rw [isDS, e2, e4, e6]; rfl)
    have t1 : ((a.length : Int) - 1 != 1) = true := by simp; omega
    have t2 : ((a.length : Int) - 1 != 3) = true := by simp; omega
    have t3 : ((a.length : Int) - 1 != 5) = true := by simp; omega
    clear hd hp ha RO' RD' BA' BD'
    rw [G.out]
    clear G
    go_enter Tryz.func68, Tryz.ntmps68
    go_wp2_with (first | ((with_reducible show wpList _ _ _ _ _ _); first | (apply hpLd F; exact rfl; exact rfl; exact rfl; (· repeat (first | exact Has.head | apply Has.tail))) | (apply hpBox F; exact rfl; exact rfl; exact rfl; (· with_reducible first | exact pad_length _ | exact zeros64_length | exact tab_length _ _ | assumption)) | (apply hpAlloc F; exact rfl; exact rfl) | (apply hpSt F; exact rfl; exact rfl; exact rfl; exact rfl; (· repeat (first | exact Upd.head | apply Upd.tail)); (· with_reducible first | exact pad_length _ | exact zeros64_length | exact tab_length _ _ | assumption))))
    clear F
    intro ga w1 F
    go_wp2_with (first | (go_at_call 55; (with_reducible refine (RO.out _).mono ?_); rintro e w2 ⟨A2, c2, rfl, R2, E2⟩; replace F := F.next E2; have FA := Lib.hid (F.at_ 0 rfl); have FE := F.ext; replace R2 := Lib.hid R2; clear F; have F := Hp.start w2) | ((with_reducible show wpList _ _ _ _ _ _); apply wplLG; exact rfl; exact rfl; exact FA.out.ext F.ext; exact rfl; exact pad_length _) | (go_at_call 97; (with_reducible refine (IP.out _).mono ?_); rintro e w3 ⟨rfl, E3⟩; replace F := F.next E3; rw [Q.out]) | (go_at_call 79; (with_reducible refine (degree_any _ a.length _ (by omega) _).mono ?_); rintro e w' ⟨rfl, rfl⟩) | ((with_reducible show wpList _ _ _ _ _ _); first | (apply hpLd F; exact rfl; exact rfl; exact rfl; (· repeat (first | exact Has.head | apply Has.tail))) | (apply hpBox F; exact rfl; exact rfl; exact rfl; (· with_reducible first | exact pad_length _ | exact zeros64_length | exact tab_length _ _ | assumption)) | (apply hpAlloc F; exact rfl; exact rfl) | (apply hpSt F; exact rfl; exact rfl; exact rfl; exact rfl; (· repeat (first | exact Upd.head | apply Upd.tail)); (· with_reducible first | exact pad_length _ | exact zeros64_length | exact tab_length _ _ | assumption))))
    go_ret
    exact ⟨rfl, FE.tr F.ext⟩

theorem isDisc_any (p : Int) (l : List Int) (hl : l.length = 64) (hb : IsB l) (w : World) :
    Calls Tryz.prog 68 #[.int .i64 p, .agg (u8s l)] w fun e w' => e = .returned (.bool (isD p l)) ∧ Ext w w' := by
  by_cases h : isPB p l = true ∧ p ≠ 2
  · obtain ⟨hp, hc, h64, he⟩ := isPB_row hl hb h.1
    have ho : OddP p := by rcases hp with h' | h' | h' | h' <;> first | exact absurd h' h.2 | (unfold OddP; omega)
    have := isDisc_good p (trim l) ho hc h64 w
    rw [he] at this
    have e : isD p l = isDS p (trim l) := by
      rw [isD, h.1, show (p != 2) = true by simpa using h.2]; rfl
    rw [e]; exact this
  · refine isDisc_bad p l hl hb ?_ w
    by_cases h1 : isPB p l = true
    · exact .inr (Decidable.byContradiction fun h2 => h ⟨h1, h2⟩)
    · exact .inl (by simpa using h1)

end Go.Proofs.YtaemiknaiccijaaGreat

/- The program's code of forms (of none), its curves, the genus. -/
namespace Go.Proofs.YtaemiknaiccijaaGreat
open Go.RowKit

set_option maxHeartbeats 400000 in
theorem indexForms_none (A : Option Addr) (cap : Nat) (fv : Value) (w : World) :
    Calls Tryz.prog 121 #[.slice A 0 cap, fv] w fun e w' => e = .returned (.int .i64 (-1)) ∧ w = w' := by
  go_enter Tryz.func121, Tryz.ntmps121
  go_wp2
  go_loopg [8] 0 (fun f i wr => i = .int .i64 0 ∧ w = wr)
  case atStart => exact ⟨rfl, rfl⟩
  case round =>
    obtain ⟨rfl, rfl⟩ := hrel
    go_wp2
    go_ret
    exact ⟨rfl, rfl⟩
set_option maxHeartbeats 400000 in
theorem containsForms_none (A : Option Addr) (cap : Nat) (fv : Value) (w : World) :
    Calls Tryz.prog 101 #[.slice A 0 cap, fv] w fun e w' => e = .returned (.bool false) ∧ w = w' := by
  go_enter Tryz.func101, Tryz.ntmps101
  go_wp2_with (first | (go_at_call 121; (with_reducible refine (indexForms_none _ _ _ _).mono ?_); rintro e w' ⟨rfl, rfl⟩))
  go_ret
  exact ⟨rfl, rfl⟩
set_option maxHeartbeats 400000 in
theorem areForms_none (A : Option Addr) (cap : Nat) (g : Nat) (cb : Array Value) (w : World) :
    Calls Tryz.prog 69 #[.slice A 0 cap, .func (.func g) #[] cb] w fun e w' => e = .returned (.bool true) ∧ Ext w w' := by
  go_enter Tryz.func69, Tryz.ntmps69
  go_wp2_with (first | (go_at_call 101; (with_reducible refine (containsForms_none _ _ _ _).mono ?_); rintro e w' ⟨rfl, rfl⟩))
  go_ret
  exact ⟨rfl, (Ext.refl w).alloc _⟩

def codeD (b : Bool) : Int := if b then 0 else 1
set_option maxRecDepth 100000 in
set_option maxHeartbeats 2000000 in
theorem formCode_none (p : Int) (l : List Int) (hl : l.length = 64) (hb : IsB l) (w : World) :
    Calls Tryz.prog 41 #[.int .i64 p, .agg (u8s l), .bool true, .bool false, .slice none 0 0] w fun e w' => e = .returned (.int .i64 (codeD (isD p l))) ∧ Ext w w' := by
  have ID := Lib.hid fun W => isDisc_any p l hl hb W
  generalize isD p l = b at ID
  have E1 := (Ext.refl w).alloc (.cells #[.int .i64 p] 2)
  have C1 := Lib.hid (cell_new w (.int .i64 p) 2)
  have F := Hp.start (w.alloc (.cells #[.int .i64 p] 2))
  clear hb
  go_enter Tryz.func41, Tryz.ntmps41
  go_wp2_with (first | ((with_reducible show wpList _ _ _ _ _ _); first | (apply hpLd F; exact rfl; exact rfl; exact rfl; (· repeat (first | exact Has.head | apply Has.tail))) | (apply hpBox F; exact rfl; exact rfl; exact rfl; (· with_reducible first | exact pad_length _ | exact zeros64_length | exact tab_length _ _ | assumption)) | (apply hpAlloc F; exact rfl; exact rfl) | (apply hpSt F; exact rfl; exact rfl; exact rfl; exact rfl; (· repeat (first | exact Upd.head | apply Upd.tail)); (· with_reducible first | exact pad_length _ | exact zeros64_length | exact tab_length _ _ | assumption))))
  clear F
  intro ga w1 F
  have c1 := cellE C1.out F.ext
  cases b with
  | true =>
    go_wp2_with (first | (go_at_call 68; (with_reducible refine (ID.out _).mono ?_); rintro e w2 ⟨rfl, E2⟩; clear c1; replace F := F.next E2) | (go_at_call 69; (with_reducible refine (areForms_none _ _ _ _ _).mono ?_); rintro e w3 ⟨rfl, E3⟩; replace F := F.next E3) | ((with_reducible show wpList _ _ _ _ _ _); first | (apply hpLd F; exact rfl; exact rfl; exact rfl; (· repeat (first | exact Has.head | apply Has.tail))) | (apply hpBox F; exact rfl; exact rfl; exact rfl; (· with_reducible first | exact pad_length _ | exact zeros64_length | exact tab_length _ _ | assumption)) | (apply hpAlloc F; exact rfl; exact rfl) | (apply hpSt F; exact rfl; exact rfl; exact rfl; exact rfl; (· repeat (first | exact Upd.head | apply Upd.tail)); (· with_reducible first | exact pad_length _ | exact zeros64_length | exact tab_length _ _ | assumption))))
    go_ret
    exact ⟨rfl, E1.tr F.ext⟩
  | false =>
    go_wp2_with (first | (go_at_call 68; (with_reducible refine (ID.out _).mono ?_); rintro e w2 ⟨rfl, E2⟩; clear c1; replace F := F.next E2) | ((with_reducible show wpList _ _ _ _ _ _); first | (apply hpLd F; exact rfl; exact rfl; exact rfl; (· repeat (first | exact Has.head | apply Has.tail))) | (apply hpBox F; exact rfl; exact rfl; exact rfl; (· with_reducible first | exact pad_length _ | exact zeros64_length | exact tab_length _ _ | assumption)) | (apply hpAlloc F; exact rfl; exact rfl) | (apply hpSt F; exact rfl; exact rfl; exact rfl; exact rfl; (· repeat (first | exact Upd.head | apply Upd.tail)); (· with_reducible first | exact pad_length _ | exact zeros64_length | exact tab_length _ _ | assumption))))
    go_ret
    exact ⟨rfl, E1.tr F.ext⟩

set_option maxHeartbeats 400000 in
theorem genus_any (p : Int) (A : Option Addr) (n cap : Nat) (h1 : 2 ≤ n) (hn : n ≤ 1000000) (w : World) :
    Calls Tryz.prog 45 #[.agg #[.int .i64 p, .slice A n cap]] w fun e w' => e = .returned (.int .i64 (((n - 2) / 2 : Nat) : Int)) ∧ Ext w w' := by
  go_enter Tryz.func45, Tryz.ntmps45
  have g0 : (((n : Int) - 1 - 1) / 2) = (((n - 2) / 2 : Nat) : Int) := by omega
  have G := Lib.hid g0
  clear g0
  go_wp2_with (first | (go_at_call 79; (with_reducible refine (degree_any A n _ (by omega) _).mono ?_); rintro e w' ⟨rfl, rfl⟩))
  go_ret
  exact ⟨ret_int G.out, (Ext.refl w).alloc _⟩

end Go.Proofs.YtaemiknaiccijaaGreat

/- Points in the fields of p and p p elements: the program's way to count them gives what the reference's gives. No program in sight. -/
namespace Go.Proofs.YtaemiknaiccijaaGreat

/-- A value by a modulus, the program's way. -/
def atG (p : Int) (d x m : List Int) : Nat → List Int → List Int
  | 0, out => out
  | n + 1, out => atG p d x m n (comb p (mulI p out x m) (trim [at0 d n]) 1)
def atI (p : Int) (d x m : List Int) : List Int := atG p d x m d.length []
/-- How often f has the value y below n. -/
def times (f : Nat → List Int) (y : List Int) (n : Nat) : Int := sumN n fun j => if f j = y then 1 else 0
def sqI (p : Int) (m : List Int) (j : Nat) : List Int := mulI p (numr p j) (numr p j) m
def pntI (p : Int) (d m : List Int) (N : Nat) : Int := 1 + sumN N fun k => times (sqI p m) (atI p d (numr p k) m) N

/-! ### the fields' elements -/
def elT (p : Int) (j : Nat) : List Int := trim [(j : Int) % p, (j : Int) / p]
def elems (p : Int) (n : Nat) : List (List Int) := (List.range n).map (elT p)
theorem elT_at0 (p : Int) (j : Nat) : at0 (elT p j) 0 = (j : Int) % p := by rw [elT, at0_trim]; rfl
theorem elT_at1 (p : Int) (j : Nat) : at0 (elT p j) 1 = (j : Int) / p := by rw [elT, at0_trim]; rfl
/-- Every rest is one of them. -/
theorem elem_of {p : Int} (hp : PrimeP p) {a : List Int} (ha : Can p a) (hl : a.length < 3) : ∃ j : Nat, j < p.toNat * p.toNat ∧ a = elT p j := by
  have lo := hp.lo
  have h0 := ha.inp 0
  have h1 := ha.inp 1
  obtain ⟨x, hx⟩ : ∃ x : Nat, at0 a 0 = x := ⟨(at0 a 0).toNat, by omega⟩
  obtain ⟨y, hy⟩ : ∃ y : Nat, at0 a 1 = y := ⟨(at0 a 1).toNat, by omega⟩
  obtain ⟨q, hq⟩ : ∃ q : Nat, p = q := ⟨p.toNat, by omega⟩
  subst hq
  rw [hx] at h0; rw [hy] at h1
  have e : ((x + q * y : Nat) : Int) = (x : Int) + (q : Int) * (y : Int) := by push_cast; rfl
  have hxq : x < q := by omega
  have hyq : y < q := by omega
  refine ⟨x + q * y, ?_, ?_⟩
  · have : q * y + q ≤ q * q := by
      have := Nat.mul_le_mul_left q (show y + 1 ≤ q by omega)
      rwa [Nat.mul_add, Nat.mul_one] at this
    show x + q * y < q * q
    omega
  · refine nz_ext ha.nz (trim_nz _) fun j => ?_
    match j with
    | 0 =>
      rw [elT_at0, hx, e, Int.add_mul_emod_self_left, Int.emod_eq_of_lt (by omega) (by omega)]
    | 1 =>
      rw [elT_at1, hy, e, Int.add_mul_ediv_left _ _ (by omega), Int.ediv_eq_zero_of_lt (by omega) (by omega), Int.zero_add]
    | j + 2 => 
      rw [at0_out a _ (by omega), at0_out (elT (q : Int) _) _ (by have := trim_le [((x + q * y : Nat) : Int) % q, ((x + q * y : Nat) : Int) / q]; unfold elT; simp only [List.length_cons, List.length_nil] at this; omega)]
theorem elem_of1 {p : Int} (hp : PrimeP p) {a : List Int} (ha : Can p a) (hl : a.length < 2) : ∃ j : Nat, j < p.toNat ∧ a = elT p j := by
  have lo := hp.lo
  have h0 := ha.inp 0
  obtain ⟨x, hx⟩ : ∃ x : Nat, at0 a 0 = x := ⟨(at0 a 0).toNat, by omega⟩
  rw [hx] at h0
  refine ⟨x, by omega, ?_⟩
  refine nz_ext ha.nz (trim_nz _) fun j => ?_
  match j with
  | 0 => rw [elT_at0, hx, Int.emod_eq_of_lt (by omega) (by omega)]
  | 1 => rw [elT_at1, Int.ediv_eq_zero_of_lt (by omega) (by omega), at0_out a 1 (by omega)]
  | j + 2 => rw [at0_out a _ (by omega), at0_out (elT p x) _ (by have := trim_le [(x : Int) % p, (x : Int) / p]; unfold elT; simp only [List.length_cons, List.length_nil] at this; omega)]

/-! ### what the kernel computes -/
def chkNum (p : Int) (n : Nat) : Bool := (List.range n).all fun j => numr p j == elT p j
def chkMul (p : Int) (m m' : List Int) (n : Nat) : Bool := (elems p n).all fun a => (elems p n).all fun b => mulI p a b m == mulm p a b m'
def sqs (p : Int) (m : List Int) (n : Nat) : List (List Int) := (elems p n).map fun a => mulI p a a m
def hits (L : List (List Int)) (y : List Int) : Int := L.foldl (fun s x => if x = y then s + 1 else s) 0
def want (p : Int) (y : List Int) (e : Nat) : Int := if y.length = 0 then 1 else if powM p y e (fld p) == [1] then 2 else 0
def chkHit (p : Int) (m : List Int) (e n : Nat) : Bool := (elems p n).all fun y => hits (sqs p m n) y == want p y e
set_option maxRecDepth 100000 in
theorem num_ok : ∀ p ∈ [(3 : Int), 5, 7], chkNum p (p.toNat * p.toNat) = true := by decide +kernel
set_option maxRecDepth 100000 in
theorem mul_ok1 : ∀ p ∈ [(3 : Int), 5, 7], chkMul p [0, 1] (fld p) p.toNat = true := by decide +kernel
set_option maxRecDepth 100000 in
theorem hit_ok1 : ∀ p ∈ [(3 : Int), 5, 7], chkHit p [0, 1] (e1 p) p.toNat = true := by decide +kernel
set_option maxRecDepth 100000 in
theorem mul_ok2_3 : chkMul 3 (fld 3) (fld 3) 9 = true := by decide +kernel
set_option maxRecDepth 100000 in
theorem hit_ok2_3 : chkHit 3 (fld 3) (e2 3) 9 = true := by decide +kernel
set_option maxRecDepth 100000 in
theorem mul_ok2_5 : chkMul 5 (fld 5) (fld 5) 25 = true := by decide +kernel
set_option maxRecDepth 100000 in
theorem hit_ok2_5 : chkHit 5 (fld 5) (e2 5) 25 = true := by decide +kernel
set_option maxRecDepth 100000 in
theorem mul_ok2_7 : chkMul 7 (fld 7) (fld 7) 49 = true := by decide +kernel
set_option maxRecDepth 100000 in
theorem hit_ok2_7 : chkHit 7 (fld 7) (e2 7) 49 = true := by decide +kernel
theorem odd_mem {p : Int} (h : OddP p) : p ∈ [(3 : Int), 5, 7] := by simpa [OddP] using h
theorem mul_ok2 {p : Int} (h : OddP p) : chkMul p (fld p) (fld p) (p.toNat * p.toNat) = true := by
  rcases h with rfl | rfl | rfl
  · exact mul_ok2_3
  · exact mul_ok2_5
  · exact mul_ok2_7
theorem hit_ok2 {p : Int} (h : OddP p) : chkHit p (fld p) (e2 p) (p.toNat * p.toNat) = true := by
  rcases h with rfl | rfl | rfl
  · exact hit_ok2_3
  · exact hit_ok2_5
  · exact hit_ok2_7
theorem chkMul_at {p : Int} {m m' : List Int} {n i j : Nat} (h : chkMul p m m' n = true) (hi : i < n) (hj : j < n) : mulI p (elT p i) (elT p j) m = mulm p (elT p i) (elT p j) m' := by
  simp only [chkMul, elems, List.all_map, List.all_eq_true, List.mem_range, Function.comp_apply, beq_iff_eq] at h
  exact h i hi j hj
theorem mul2 {p : Int} (h : OddP p) {a b : List Int} (ha : Can p a) (la : a.length < 3) (hb : Can p b) (lb : b.length < 3) : mulI p a b (fld p) = mulm p a b (fld p) := by
  obtain ⟨i, hi, rfl⟩ := elem_of h.prime ha la
  obtain ⟨j, hj, rfl⟩ := elem_of h.prime hb lb
  exact chkMul_at (mul_ok2 h) hi hj
theorem mul1 {p : Int} (h : OddP p) {a b : List Int} (ha : Can p a) (la : a.length < 2) (hb : Can p b) (lb : b.length < 2) : mulI p a b [0, 1] = mulm p a b (fld p) := by
  obtain ⟨i, hi, rfl⟩ := elem_of1 h.prime ha la
  obtain ⟨j, hj, rfl⟩ := elem_of1 h.prime hb lb
  exact chkMul_at (mul_ok1 p (odd_mem h)) hi hj
theorem comb_same {p : Int} (hp : 0 < p) (M : List Int) (c : Int) : comb p M (trim [c]) 1 = comb p M [1] c := by
  refine nz_ext (rowN_nz _ _) (rowN_nz _ _) fun j => ?_
  rw [at0_comb, at0_comb, at0_trim]
  match j with
  | 0 => simp [at0]
  | j + 1 => simp [at0]
theorem at2 {p : Int} (h : OddP p) (d : List Int) {x : List Int} (hx : Can p x) (lx : x.length < 3) : ∀ n out, Can p out → out.length < 3 → atG p d x (fld p) n out = atF p d x (fld p) n out ∧ Can p (atF p d x (fld p) n out) ∧ (atF p d x (fld p) n out).length < 3
  | 0, out, h1, h2 => ⟨rfl, h1, h2⟩
  | n + 1, out, h1, h2 => by
    have lo := h.prime.lo
    have e := mul2 h h1 h2 hx lx
    have sp := mulm_spec h.prime out x (fld_can h) (show 0 < 3 by decide)
    have l := comb_le p (mulm p out x (fld p)) [1] (at0 d n)
    have e3 : (fld p).length = 3 := rfl
    rw [atG, atF, e, comb_same (by omega)]
    exact at2 h d hx lx n _ (comb_can (by omega) _ _ _) (by simp only [List.length_cons, List.length_nil] at l; omega)
theorem mul1_len {p : Int} (h : OddP p) {a b : List Int} : (mulI p a b [0, 1]).length < 2 := (mulI_spec h.prime a b (can_tee (by have := h.prime.lo; omega)) (by decide)).2
theorem at1 {p : Int} (h : OddP p) (d : List Int) {x : List Int} (hx : Can p x) (lx : x.length < 2) : ∀ n out, Can p out → out.length < 2 → atG p d x [0, 1] n out = atF p d x (fld p) n out ∧ Can p (atF p d x (fld p) n out) ∧ (atF p d x (fld p) n out).length < 2
  | 0, out, h1, h2 => ⟨rfl, h1, h2⟩
  | n + 1, out, h1, h2 => by
    have lo := h.prime.lo
    have e := mul1 h h1 h2 hx lx
    have l1 := mul1_len h (a := out) (b := x)
    rw [e] at l1
    have l := comb_le p (mulm p out x (fld p)) [1] (at0 d n)
    rw [atG, atF, e, comb_same (by omega)]
    exact at1 h d hx lx n _ (comb_can (by omega) _ _ _) (by simp only [List.length_cons, List.length_nil] at l; omega)
theorem hits_times (f : Nat → List Int) (y : List Int) : ∀ n, hits ((List.range n).map f) y = times f y n
  | 0 => rfl
  | n + 1 => by
    have ih := hits_times f y n
    unfold hits times at *
    rw [List.range_succ, List.map_append, List.foldl_append, ih, sumN]
    simp only [List.map_cons, List.map_nil, List.foldl_cons, List.foldl_nil]
    split <;> omega
theorem numr_el {p : Int} (h : OddP p) {j : Nat} (hj : j < p.toNat * p.toNat) : numr p j = elT p j := by
  have := num_ok p (odd_mem h)
  simp only [chkNum, List.all_eq_true, List.mem_range, beq_iff_eq] at this
  exact this j hj
theorem times_congr {f g : Nat → List Int} {y : List Int} {n : Nat} (h : ∀ j, j < n → f j = g j) : times f y n = times g y n :=
  sumN_congr n fun j hj => by rw [h j hj]
theorem hit_at {p : Int} (h : OddP p) {m : List Int} {e n i : Nat} (hc : chkHit p m e n = true) (hn : n ≤ p.toNat * p.toNat) (hi : i < n) : times (sqI p m) (elT p i) n = want p (elT p i) e := by
  simp only [chkHit, elems, List.all_map, List.all_eq_true, List.mem_range, Function.comp_apply, beq_iff_eq] at hc
  rw [← hc i hi, sqs, elems, List.map_map, hits_times]
  exact times_congr fun j hj => by rw [sqI, numr_el h (by omega)]; rfl
theorem numr_el1 {p : Int} (h : OddP p) {k : Nat} (hk : k < p.toNat) : (numr p k).length < 2 := by
  have lo := h.prime.lo
  have l2 : k < p.toNat * p.toNat := Nat.lt_of_lt_of_le hk (Nat.le_mul_of_pos_left _ (by omega))
  rw [numr_el h l2]
  rcases Nat.lt_or_ge 1 (elT p k).length with h1 | h1
  · have h0 := trim_nz [(k : Int) % p, (k : Int) / p] 1 (by have := trim_le [(k : Int) % p, (k : Int) / p]; simp only [List.length_cons, List.length_nil] at this; unfold elT at h1; omega)
    have := elT_at1 p k
    unfold elT at this
    rw [this, Int.ediv_eq_zero_of_lt (by omega) (by omega)] at h0
    exact absurd rfl h0
  · omega
theorem numr_el2 {p : Int} (h : OddP p) {k : Nat} (hk : k < p.toNat * p.toNat) : (numr p k).length < 3 := by
  rw [numr_el h hk]
  have := trim_le [(k : Int) % p, (k : Int) / p]
  unfold elT
  simp only [List.length_cons, List.length_nil] at this
  omega
/-- The points over the field of p p elements. -/
theorem points2 {p : Int} (h : OddP p) (d : List Int) : pntI p d (fld p) (p.toNat * p.toNat) = cntU (ptS p d (fld p) (e2 p)) (p.toNat * p.toNat) := by
  have lo := h.prime.lo
  unfold pntI cntU
  congr 1
  refine sumN_congr _ fun k hk => ?_
  obtain ⟨a1, a2, a3⟩ := at2 h d (numr_can (by omega) k) (numr_el2 h hk) d.length [] (can_nil (by omega)) (by decide)
  have e : atI p d (numr p k) (fld p) = atr p d (numr p k) (fld p) := a1
  obtain ⟨i, hi, hy⟩ := elem_of h.prime a2 a3
  have hy' : atr p d (numr p k) (fld p) = elT p i := hy
  rw [e, ptS, hy', hit_at h (hit_ok2 h) (Nat.le_refl _) hi]
  rfl
/-- The points over the field of p elements. -/
theorem points1 {p : Int} (h : OddP p) (d : List Int) : pntI p d [0, 1] p.toNat = cntU (ptS p d (fld p) (e1 p)) p.toNat := by
  have lo := h.prime.lo
  unfold pntI cntU
  congr 1
  refine sumN_congr _ fun k hk => ?_
  obtain ⟨a1, a2, a3⟩ := at1 h d (numr_can (by omega) k) (numr_el1 h hk) d.length [] (can_nil (by omega)) (by decide)
  have e : atI p d (numr p k) [0, 1] = atr p d (numr p k) (fld p) := a1
  obtain ⟨i, hi, hy⟩ := elem_of1 h.prime a2 a3
  have hy' : atr p d (numr p k) (fld p) = elT p i := hy
  rw [e, ptS, hy', hit_at h (hit_ok1 p (odd_mem h)) (Nat.le_mul_of_pos_left _ (by omega)) hi]
  rfl

end Go.Proofs.YtaemiknaiccijaaGreat

/- The program's comparison of rows. -/
namespace Go.Proofs.YtaemiknaiccijaaGreat
open Go.RowKit

/-- cmp.Compare at whole numbers. -/
def cmpN (x y : Int) : Int := if x < y then -1 else if y < x then 1 else 0
theorem cmpN_lt {x y : Int} (h : x < y) : cmpN x y = -1 := if_pos h
theorem cmpN_gt {x y : Int} (h : y < x) : cmpN x y = 1 := by rw [cmpN, if_neg (by omega), if_pos h]
theorem cmpN_eq (x : Int) : cmpN x x = 0 := by rw [cmpN, if_neg (by omega), if_neg (by omega)]
/-- The first n coefficients, the greatest first. -/
def cmpF (a b : List Int) : Nat → Int
  | 0 => 0
  | n + 1 => if at0 a n = at0 b n then cmpF a b n else cmpN (at0 a n) (at0 b n)
def cmpI (a b : List Int) : Int := if a.length = b.length then cmpF a b a.length else cmpN a.length b.length

set_option maxHeartbeats 400000 in
theorem compareInt_any (x y : Int) (w : World) :
    Calls Tryz.prog 138 #[.int .i64 x, .int .i64 y] w fun e w' => e = .returned (.int .i64 (cmpN x y)) ∧ w = w' := by
  rcases Int.lt_trichotomy x y with h | h | h
  · have G := Lib.hid (cmpN_lt h)
    go_enter Tryz.func138, Tryz.ntmps138
    go_wp2
    go_ret
    exact ⟨ret_int G.out.symm, rfl⟩
  · subst h
    have G := Lib.hid (cmpN_eq x)
    go_enter Tryz.func138, Tryz.ntmps138
    go_wp2
    go_ret
    exact ⟨ret_int G.out.symm, rfl⟩
  · have G := Lib.hid (cmpN_gt h)
    have h2 : ¬ x < y := by omega
    go_enter Tryz.func138, Tryz.ntmps138
    go_wp2
    go_ret
    exact ⟨ret_int G.out.symm, rfl⟩
set_option maxHeartbeats 400000 in
theorem compareInt64_any (x y : Int) (w : World) :
    Calls Tryz.prog 139 #[.int .i64 x, .int .i64 y] w fun e w' => e = .returned (.int .i64 (cmpN x y)) ∧ w = w' := by
  rcases Int.lt_trichotomy x y with h | h | h
  · have G := Lib.hid (cmpN_lt h)
    go_enter Tryz.func139, Tryz.ntmps139
    go_wp2
    go_ret
    exact ⟨ret_int G.out.symm, rfl⟩
  · subst h
    have G := Lib.hid (cmpN_eq x)
    go_enter Tryz.func139, Tryz.ntmps139
    go_wp2
    go_ret
    exact ⟨ret_int G.out.symm, rfl⟩
  · have G := Lib.hid (cmpN_gt h)
    have h2 : ¬ x < y := by omega
    go_enter Tryz.func139, Tryz.ntmps139
    go_wp2
    go_ret
    exact ⟨ret_int G.out.symm, rfl⟩

def CpRel (a b : List Int) (w : World) (f : Nat) (i : Value) (wr : World) : Prop :=
  f ≤ a.length ∧ i = .int .i64 ((f : Int) - 1) ∧ cmpF a b f = cmpI a b ∧ ∃ q, wr = w.drewN q

set_option maxRecDepth 100000 in
set_option maxHeartbeats 1000000 in
theorem compare_any (A B : Option Addr) (ca cb : Nat) (a b : List Int) (w : World) (ra : RowAt w A a) (rb : RowAt w B b) :
    Calls Tryz.prog 130 #[.slice A a.length ca, .slice B b.length cb] w fun e w' => e = .returned (.int .i64 (cmpI a b)) ∧ ∃ q, w' = w.drewN q := by
  have RA := Lib.hid ra
  have RB := Lib.hid rb
  have la := ra.1
  have lb := rb.1
  clear ra rb
  by_cases hl : a.length = b.length
  · have z : Hid (cmpN (a.length : Int) (b.length : Int) = 0) := Lib.hid (by rw [hl]; exact cmpN_eq _)
    have G : Hid (cmpI a b = cmpF a b a.length) := Lib.hid (if_pos hl)
    have HLn := Lib.hid hl
    have l1 : a.length ≤ b.length := by omega
    clear hl
    go_enter Tryz.func130, Tryz.ntmps130
    go_wp2_with (first | (go_at_call 138; (with_reducible refine (compareInt_any _ _ _).mono ?_); rintro e w' ⟨rfl, rfl⟩; rw [z.out]))
    go_loopg [6] a.length (fun f i wr => CpRel a b w f i wr)
    case atStart => exact ⟨Nat.le_refl _, rfl, G.out.symm, 0, rfl⟩
    case round =>
      obtain ⟨hf, rfl, hc, q, hq⟩ := hrel
      have HQ := Lib.hid hq
      have cells : ∀ a, wr.cell? a = w.cell? a := fun a => by rw [hq]; exact World.cell?_drewN ..
      have CS := Lib.hid cells
      clear hq cells
      have HC := Lib.hid hc
      clear hc
      by_cases g0 : gk = 0
      · subst g0
        have G2 : Hid (cmpI a b = 0) := Lib.hid HC.out.symm
        rw [show ((0 : Nat) : Int) - 1 = -1 from rfl]
        go_wp2
        go_ret
        exact ⟨ret_int G2.out.symm, q, HQ.out⟩
      · obtain ⟨f, rfl⟩ : ∃ f, gk = f + 1 := ⟨gk - 1, by omega⟩
        rw [show ((f + 1 : Nat) : Int) - 1 = (f : Int) by omega]
        obtain ⟨b1, o1, rfl, _, hc1⟩ := RA.out.place (by omega)
        obtain ⟨b2, o2, rfl, _, hc2⟩ := RB.out.place (by omega)
        have c1 := (CS.out _).trans (hc1 f (by omega))
        have c2 := (CS.out _).trans (hc2 f (by omega))
        have i1 : f < a.length := by omega
        have i2 : f < b.length := by omega
        have i3 : (f : Int) < (a.length : Int) := by omega
        have i4 : (f : Int) < (b.length : Int) := by omega
        clear hc1 hc2 g0
        have CC : Hid (∀ W, Calls Tryz.prog 139 #[.int .i64 (at0 a f), .int .i64 (at0 b f)] W fun e w' => e = .returned (.int .i64 (cmpN (at0 a f) (at0 b f))) ∧ w' = W) :=
          Lib.hid fun W => (compareInt64_any _ _ W).mono fun _ _ h => ⟨h.1, h.2.symm⟩
        by_cases he : at0 a f = at0 b f
        · have z2 : Hid (cmpN (at0 a f) (at0 b f) = 0) := Lib.hid (by rw [he]; exact cmpN_eq _)
          rw [z2.out] at CC
          have HC2 : Hid (cmpF a b f = cmpI a b) := Lib.hid (by rw [← HC.out, cmpF, if_pos he])
          clear he z2
          go_wp2
          go_quiet ((go_at_call 139; exact Calls.quiet_of_same (CC.out _)))
          go_wp2
          go_roundg f
          case measure => omega
          case rel => exact ⟨by omega, by go_num, HC2.out, _, by rw [HQ.out]; exact World.drewN_drewN _ _ _⟩
        · have z2 : (cmpN (at0 a f) (at0 b f) != 0) = true := by
            unfold cmpN; split
            · rfl
            · split
              · rfl
              · omega
          have HC2 : Hid (cmpN (at0 a f) (at0 b f) = cmpI a b) := Lib.hid (by rw [← HC.out, cmpF, if_neg he])
          clear he
          generalize cmpN (at0 a f) (at0 b f) = r at CC HC2 z2
          go_wp2
          go_quiet ((go_at_call 139; exact Calls.quiet_of_same (CC.out _)))
          go_wp2
          go_ret
          exact ⟨ret_int HC2.out, _, by rw [HQ.out]; exact World.drewN_drewN _ _ _⟩
  · have z : (cmpN (a.length : Int) (b.length : Int) != 0) = true := by
      unfold cmpN; split
      · rfl
      · split
        · rfl
        · omega
    have G : Hid (cmpI a b = cmpN (a.length : Int) (b.length : Int)) := Lib.hid (if_neg hl)
    have CC : Hid (∀ W, Calls Tryz.prog 138 #[.int .i64 a.length, .int .i64 b.length] W fun e w' => e = .returned (.int .i64 (cmpN a.length b.length)) ∧ W = w') :=
      Lib.hid fun W => compareInt_any _ _ W
    clear hl
    generalize cmpN (a.length : Int) (b.length : Int) = r at G z CC
    go_enter Tryz.func130, Tryz.ntmps130
    go_wp2_with (first | (go_at_call 138; (with_reducible refine (CC.out _).mono ?_); rintro e w' ⟨rfl, rfl⟩))
    go_ret
    exact ⟨ret_int G.out.symm, 0, rfl⟩

end Go.Proofs.YtaemiknaiccijaaGreat

/- A map of numbers keyed by the texts of rows: how often each row was met. -/
namespace Go.Proofs.YtaemiknaiccijaaGreat
open Go.RowKit Go.Maps Go.WideMaps

/-- A row of digits without superfluous zeros. -/
def Dig (L : List Int) : Prop := NZ L ∧ ∀ j, 0 ≤ at0 L j ∧ at0 L j ≤ 9
theorem Can.dig {p : Int} {L : List Int} (h : Can p L) (hp : p ≤ 7) : Dig L := ⟨h.nz, fun j => by have := h.inp j; omega⟩
def rowKey (L : List Int) : Lit := .string ((txt L).map fun n => UInt8.ofNat n.toNat)
theorem digit_inj {x y : Int} (hx : 0 ≤ x ∧ x ≤ 9) (hy : 0 ≤ y ∧ y ≤ 9) (h : UInt8.ofNat (48 + x).toNat = UInt8.ofNat (48 + y).toNat) : x = y := by
  have := congrArg UInt8.toNat h
  simp only [UInt8.toNat_ofNat'] at this
  omega
theorem txt_len (L : List Int) (h : L.length ≠ 0) : (txt L).length = L.length := by simp [txt, h]
theorem txt_at (L : List Int) (h : L.length ≠ 0) (j : Nat) (hj : j < L.length) : (txt L)[j]? = some (48 + at0 L (L.length - 1 - j)) := by
  unfold txt
  rw [if_neg h, List.getElem?_map, List.getElem?_reverse hj]
  simp [at0, show L.length - 1 - j < L.length by omega]
theorem rowKey_inj {a b : List Int} (ha : Dig a) (hb : Dig b) (h : rowKey a = rowKey b) : a = b := by
  have h : (txt a).map (fun n => UInt8.ofNat n.toNat) = (txt b).map (fun n => UInt8.ofNat n.toNat) := by injection h
  have hl := congrArg List.length h
  rw [List.length_map, List.length_map] at hl
  by_cases za : a.length = 0
  · by_cases zb : b.length = 0
    · rw [List.eq_nil_of_length_eq_zero za, List.eq_nil_of_length_eq_zero zb]
    · exfalso
      rw [txt_len b zb, show txt a = [48] from if_pos za] at hl
      have b1 : b.length = 1 := by simpa using hl.symm
      have h0 := congrArg (fun l => l[0]?) h
      simp only [List.getElem?_map, txt_at b zb 0 (by omega), show txt a = [48] from if_pos za, List.getElem?_cons_zero, Option.map_some, Option.some.injEq, b1] at h0
      have := digit_inj (x := 0) (by decide) (hb.2 0) h0
      exact hb.1 0 b1 this.symm
  · by_cases zb : b.length = 0
    · exfalso
      rw [txt_len a za, show txt b = [48] from if_pos zb] at hl
      have a1 : a.length = 1 := by simpa using hl
      have h0 := congrArg (fun l => l[0]?) h
      simp only [List.getElem?_map, txt_at a za 0 (by omega), show txt b = [48] from if_pos zb, List.getElem?_cons_zero, Option.map_some, Option.some.injEq, a1] at h0
      have := digit_inj (y := 0) (ha.2 0) (by decide) h0
      exact ha.1 0 a1 this
    · rw [txt_len a za, txt_len b zb] at hl
      refine list_ext0 hl fun j hj => ?_
      have h0 := congrArg (fun l => l[a.length - 1 - j]?) h
      simp only [List.getElem?_map, txt_at a za (a.length - 1 - j) (by omega), txt_at b zb (a.length - 1 - j) (by omega), Option.map_some, Option.some.injEq] at h0
      have := digit_inj (ha.2 _) (hb.2 _) h0
      rwa [show a.length - 1 - (a.length - 1 - j) = j by omega, show b.length - 1 - (a.length - 1 - j) = j by omega] at this

theorem mapKeys : Keyed Tryz.prog 9 := string_keyed Tryz.underlying9
theorem zeroInt (w : World) : (zeroValue 2).run Tryz.prog w = .ok (.int .i64 0) w := by kernel_rfl
theorem rowKey_of (L : List Int) (hl : L.length ≤ 1000) : keyOf Tryz.prog 9 (.string (strOfNums (txt L))) = some (rowKey L) := by
  refine keyOf_string_mk Tryz.underlying9 ?_
  rw [strOfNums_size]
  have : (txt L).length ≤ 1000 := by
    by_cases h : L.length = 0
    · rw [show txt L = [48] from if_pos h]; decide
    · rw [txt_len L h]; exact hl
  unfold maxLen; omega
/-- Block b is a map that tells how often f has each row as its value below k. -/
def MapC (w : World) (b : Nat) (f : Nat → List Int) (k : Nat) : Prop :=
  ∃ D, w.ownsMap Tryz.prog 9 (plainElem (H := Unit) Tryz.prog 2) b k D ∧ IsMap D ∧ ∀ L, Dig L → D.atKey (rowKey L) (.lit (.int .i64 0)) = .lit (.int .i64 (times f L k))
theorem MapC.made (w : World) (f : Nat → List Int) : MapC (w.alloc (.map #[] 0)) w.heap.size f 0 :=
  ⟨.map [], World.ownsMap_made _ _ _ _, isMap_empty, fun _ _ => rfl⟩
theorem MapC.lt {w : World} {b k : Nat} {f : Nat → List Int} (h : MapC w b f k) : b < w.heap.size := by
  obtain ⟨D, ⟨es, clock, hb, _⟩, _⟩ := h
  exact (Array.getElem?_eq_some_iff.1 hb).1
theorem MapC.ext {w w' : World} {b k : Nat} {f : Nat → List Int} (h : MapC w b f k) (hE : Ext w w') : MapC w' b f k := by
  have hl := h.lt
  obtain ⟨D, ⟨es, clock, hb, h2⟩, h3⟩ := h
  exact ⟨D, ⟨es, clock, (hE.block b hl).trans hb, h2⟩, h3⟩
theorem times_range (f : Nat → List Int) (y : List Int) : ∀ k, 0 ≤ times f y k ∧ times f y k ≤ k
  | 0 => ⟨Int.le_refl _, Int.le_refl _⟩
  | k + 1 => by
    have := times_range f y k
    unfold times at *
    rw [sumN]
    split <;> omega
theorem times_step (f : Nat → List Int) (y : List Int) (k : Nat) : times f y (k + 1) = times f y k + if f k = y then 1 else 0 := rfl
section
variable {ops : Array Oper} {rest : List Oper} {o : Oper} {a : Act} {w : World} {Q : Exit → Act → World → Prop} {b k : Nat} {f : Nat → List Int}
theorem wplMapGet (m x : Operand) (ho : o.op = .lookup 120 m x false) (hgd : o.guard = none) (hM : MapC w b f k) (L : List Int) (hm : a.eval m = .map (some b)) (hx : a.eval x = .string (strOfNums (txt L))) (hL : Dig L) (hl : L.length ≤ 1000)
    (h : wpList Tryz.prog ops Q rest (a.put o.dst (.int .i64 (times f L k))) w) : wpList Tryz.prog ops Q (o :: rest) a w := by
  obtain ⟨D, hown, _, hat⟩ := hM
  refine wpList_lookup_own_int w hgd m x 120 ho 9 2 .i64 mapKeys Tryz.underlying120 Tryz.underlying2 (zeroInt w) b k D hm hown _ _ hx (rowKey_of L hl) fun c hc _ => ?_
  rw [hat L hL] at hc
  injection hc with hc
  injection hc with _ hc
  rw [← hc]; exact h
theorem wplMapInc (m x v : Operand) (ho : o.op = .mapUpdate 120 m x v) (hgd : o.guard = none) (hM : MapC w b f k) (L : List Int) (hm : a.eval m = .map (some b)) (hx : a.eval x = .string (strOfNums (txt L))) (hL : Dig L) (hl : L.length ≤ 1000) (hf : f k = L) (hv : a.eval v = .int .i64 (times f L k + 1)) (hk : k ≤ 1000000000)
    (h : ∀ w', MapC w' b f (k + 1) → w.grownBy w' (some b) → wpList Tryz.prog ops Q rest (a.put o.dst undef) w') : wpList Tryz.prog ops Q (o :: rest) a w := by
  obtain ⟨D, hown, hD, hat⟩ := hM
  have rg := times_range f L k
  refine wpList_mapUpdate_own w hgd m x v 120 ho 9 2 mapKeys Tryz.underlying120 _ b k D hm hown (by unfold maxLen; omega) _ _ _ hx hv (rowKey_of L hl) _ [] (plainElem_int Tryz.underlying2 (WalkArith.wf_i64 (by omega))) fun w' h1 h2 => ?_
  refine h w' ⟨_, h1, hD.put _ _, fun L' hL' => ?_⟩ h2
  by_cases e : L = L'
  · subst e
    rw [atKey_put_same hD (by exact trivial), times_step, if_pos hf]
  · rw [atKey_put_other (fun h => e (rowKey_inj hL hL' h.symm)), hat L' hL', times_step, if_neg (by rw [hf]; exact e), Int.add_zero]
end

end Go.Proofs.YtaemiknaiccijaaGreat

/- The program's sort of factors: a permutation, sorted by their rows. -/
namespace Go.Proofs
open Go.Shelf
def Tryz.sortF_ren : Go.Shelf.Ren := ⟨fun | 6 => 128 | 15 => 137 | 14 => 136 | 28 => 149 | 29 => 150 | 20 => 141 | 21 => 142 | 22 => 143 | 23 => 144 | 24 => 145 | 25 => 146 | 26 => 147 | 27 => 148 | 46 => 153 | 47 => 154 | 48 => 155 | 49 => 156 | 50 => 157 | 57 => 158 | n => n, fun | 22 => 116 | 24 => 119 | 25 => 138 | 3 => 3 | 39 => 127 | 0 => 0 | 53 => 155 | 55 => 157 | 4 => 4 | 46 => 148 | 45 => 147 | 50 => 152 | 5 => 5 | 9 => 9 | 66 => 159 | 70 => 163 | 76 => 165 | 77 => 166 | n => n, fun | n => n⟩
theorem Tryz.sortF : Go.Proofs.SlLaysF0.n6 Tryz.prog Tryz.sortF_ren := {
  mixed := by kernel_rfl
  f6 := ⟨Tryz.f128.name, by decide, Tryz.func128.trans (congrArg some (by kernel_rfl))⟩
  f14 := ⟨Tryz.f136.name, by decide, Tryz.func136.trans (congrArg some (by kernel_rfl))⟩
  f15 := Tryz.func137.trans (congrArg some (by kernel_rfl))
  f20 := ⟨Tryz.f141.name, by decide, Tryz.func141.trans (congrArg some (by kernel_rfl))⟩
  f21 := ⟨Tryz.f142.name, by decide, Tryz.func142.trans (congrArg some (by kernel_rfl))⟩
  f22 := ⟨Tryz.f143.name, by decide, Tryz.func143.trans (congrArg some (by kernel_rfl))⟩
  f23 := ⟨Tryz.f144.name, by decide, Tryz.func144.trans (congrArg some (by kernel_rfl))⟩
  f24 := ⟨Tryz.f145.name, by decide, Tryz.func145.trans (congrArg some (by kernel_rfl))⟩
  f25 := ⟨Tryz.f146.name, by decide, Tryz.func146.trans (congrArg some (by kernel_rfl))⟩
  f26 := ⟨Tryz.f147.name, by decide, Tryz.func147.trans (congrArg some (by kernel_rfl))⟩
  f27 := ⟨Tryz.f148.name, by decide, Tryz.func148.trans (congrArg some (by kernel_rfl))⟩
  f28 := Tryz.func149.trans (congrArg some (by kernel_rfl))
  f29 := Tryz.func150.trans (congrArg some (by kernel_rfl))
  f46 := ⟨Tryz.f153.name, by decide, Tryz.func153.trans (congrArg some (by kernel_rfl))⟩
  f47 := Tryz.func154.trans (congrArg some (by kernel_rfl))
  f48 := Tryz.func155.trans (congrArg some (by kernel_rfl))
  f49 := ⟨Tryz.f156.name, by decide, Tryz.func156.trans (congrArg some (by kernel_rfl))⟩
  f50 := ⟨Tryz.f157.name, by decide, Tryz.func157.trans (congrArg some (by kernel_rfl))⟩
  f57 := ⟨Tryz.f158.name, by decide, Tryz.func158.trans (congrArg some (by kernel_rfl))⟩
  t0 := Tryz.underlying0
  a0 := Tryz.isAgg0
  z0 := Tryz.sizeOf0
  v0 := Tryz.zeroValue0
  t3 := Tryz.underlying3
  a3 := Tryz.isAgg3
  z3 := Tryz.sizeOf3
  v3 := Tryz.zeroValue3
  t4 := Tryz.underlying4
  a4 := Tryz.isAgg4
  z4 := Tryz.sizeOf4
  v4 := Tryz.zeroValue4
  t5 := Tryz.underlying5
  a5 := Tryz.isAgg5
  z5 := Tryz.sizeOf5
  v5 := Tryz.zeroValue5
  t9 := Tryz.underlying9
  a9 := Tryz.isAgg9
  z9 := Tryz.sizeOf9
  v9 := Tryz.zeroValue9
  t22 := Tryz.underlying116
  a22 := Tryz.isAgg116
  z22 := Tryz.sizeOf116
  v22 := Tryz.zeroValue116
  t25 := Tryz.underlying138
  a25 := Tryz.isAgg138
  z25 := Tryz.sizeOf138
  v25 := Tryz.zeroValue138
  t39 := Tryz.underlying127
  a39 := Tryz.isAgg127
  z39 := Tryz.sizeOf127
  v39 := Tryz.zeroValue127
  t45 := Tryz.underlying147
  a45 := Tryz.isAgg147
  z45 := Tryz.sizeOf147
  v45 := Tryz.zeroValue147
  t46 := Tryz.underlying148
  a46 := Tryz.isAgg148
  z46 := Tryz.sizeOf148
  v46 := Tryz.zeroValue148
  t50 := Tryz.underlying152
  a50 := Tryz.isAgg152
  z50 := Tryz.sizeOf152
  v50 := Tryz.zeroValue152
  t53 := Tryz.underlying155
  a53 := Tryz.isAgg155
  z53 := Tryz.sizeOf155
  v53 := Tryz.zeroValue155
  t55 := Tryz.underlying157
  a55 := Tryz.isAgg157
  z55 := Tryz.sizeOf157
  v55 := Tryz.zeroValue157
  t66 := Tryz.underlying159
  a66 := Tryz.isAgg159
  z66 := Tryz.sizeOf159
  v66 := Tryz.zeroValue159
  t70 := Tryz.underlying163
  a70 := Tryz.isAgg163
  z70 := Tryz.sizeOf163
  v70 := Tryz.zeroValue163
  t76 := Tryz.underlying165
  a76 := Tryz.isAgg165
  z76 := Tryz.sizeOf165
  v76 := Tryz.zeroValue165
  t77 := Tryz.underlying166
  a77 := Tryz.isAgg166
  z77 := Tryz.sizeOf166
  v77 := Tryz.zeroValue166 }
end Go.Proofs
namespace Go.Proofs.YtaemiknaiccijaaGreat
open Go.RowKit Go.Sort

/-! ### the order of rows -/
theorem cmpN_neg (x y : Int) : cmpN x y < 0 ↔ x < y := by
  unfold cmpN; split
  · simp; omega
  · split <;> omega
theorem cmpF_self (a : List Int) : ∀ n, cmpF a a n = 0
  | 0 => rfl
  | n + 1 => by rw [cmpF, if_pos rfl, cmpF_self a n]
theorem cmpF_order (a b c : List Int) : ∀ n, (cmpF a b n < 0 → cmpF b c n < 0 → cmpF a c n < 0) ∧ (¬ cmpF a b n < 0 → ¬ cmpF b c n < 0 → ¬ cmpF a c n < 0)
  | 0 => by simp [cmpF]
  | n + 1 => by
    have ih := cmpF_order a b c n
    have k1 := cmpN_neg (at0 a n) (at0 b n)
    have k2 := cmpN_neg (at0 b n) (at0 c n)
    have k3 := cmpN_neg (at0 a n) (at0 c n)
    rw [cmpF, cmpF, cmpF]
    by_cases h1 : at0 a n = at0 b n
    · by_cases h2 : at0 b n = at0 c n
      · rw [if_pos h1, if_pos h2, if_pos (h1.trans h2)]; exact ih
      · rw [if_pos h1, if_neg h2, if_neg (by rw [h1]; exact h2), k2, k3]
        constructor <;> intros <;> omega
    · by_cases h2 : at0 b n = at0 c n
      · rw [if_neg h1, if_pos h2, if_neg (by rw [← h2]; exact h1), k1, k3]
        constructor <;> intros <;> omega
      · rw [if_neg h1, if_neg h2, k1, k2]
        by_cases h3 : at0 a n = at0 c n
        · rw [if_pos h3]; constructor <;> intros <;> omega
        · rw [if_neg h3, k3]; constructor <;> intros <;> omega
theorem cmpI_order (a b c : List Int) : (cmpI a b < 0 → cmpI b c < 0 → cmpI a c < 0) ∧ (¬ cmpI a b < 0 → ¬ cmpI b c < 0 → ¬ cmpI a c < 0) := by
  have k1 := cmpN_neg (a.length : Int) b.length
  have k2 := cmpN_neg (b.length : Int) c.length
  have k3 := cmpN_neg (a.length : Int) c.length
  unfold cmpI
  by_cases h1 : a.length = b.length
  · by_cases h2 : b.length = c.length
    · rw [if_pos h1, if_pos h2, if_pos (h1.trans h2), ← h1]; exact cmpF_order a b c a.length
    · rw [if_pos h1, if_neg h2, if_neg (by rw [h1]; exact h2), k2, k3]
      constructor <;> intros <;> omega
  · by_cases h2 : b.length = c.length
    · rw [if_neg h1, if_pos h2, if_neg (by rw [← h2]; exact h1), k1, k3]
      constructor <;> intros <;> omega
    · rw [if_neg h1, if_neg h2, k1, k2]
      by_cases h3 : a.length = c.length
      · rw [if_pos h3]; constructor <;> intros <;> omega
      · rw [if_neg h3, k3]; constructor <;> intros <;> omega
theorem cmpI_self (a : List Int) : cmpI a a = 0 := by rw [cmpI, if_pos rfl, cmpF_self]

/-! ### factors in memory -/
/-- A factor: the value of its row, the row, its power. -/
structure FE where
  v : Value
  L : List Int
  k : Nat
def FOk (w : World) (x : FE) : Prop := Rv w x.v x.L
abbrev FSub (w : World) : Type := {x : FE // FOk w x}
instance (w : World) : Inhabited (FSub w) := ⟨⟨⟨.slice none 0 0, [], 0⟩, ⟨none, 0, rfl, RowAt.nil _ _⟩⟩⟩
def encF (w : World) (x : FSub w) : List Value := [x.1.v, .int .i64 x.1.k]
def cfF (w : World) (x y : FSub w) : Int := cmpI x.1.L y.1.L
theorem swoF (w : World) : SWO (ltOf (cfF w)) where
  irrefl x := by unfold ltOf cfF; rw [cmpI_self]; rfl
  trans x y z h1 h2 := by
    unfold ltOf cfF at *
    exact decide_eq_true ((cmpI_order _ _ _).1 (of_decide_eq_true h1) (of_decide_eq_true h2))
  ntrans x y z h1 h2 := by
    unfold ltOf cfF at *
    exact decide_eq_false ((cmpI_order _ _ _).2 (of_decide_eq_false h1) (of_decide_eq_false h2))
theorem sortWorld_grown {α : Type} [Inhabited α] (enc : α → List Value) (k : Nat) (w : World) (g m : Nat) (d : Array α) (os : Array Obj) : w.grownBy (sortWorldK enc k w g 0 m d os) (some g) := by
  refine ⟨rfl, rfl, rfl, by simp [sortWorldK, putRowK, putRow, mapBlock, grow, Sort.ahead], fun j hj hne => ?_⟩
  have : g ≠ j := fun e => hne (by rw [e])
  unfold sortWorldK
  rw [heap_grow_old _ _ (by simpa [putRowK] using hj)]
  simp [putRowK, putRow, mapBlock, Sort.ahead, Array.getElem?_modify, this]
/-- A row outlives what turns in a block of other elements. -/
theorem Rv.other {w w' : World} {v : Value} {L : List Int} {g : Nat} {e : TypeId} (h : Rv w v L) (hT : ∃ cs fr, w.heap[g]? = some (.cells cs e fr)) (he : e ≠ 2) (hg : w.grownBy w' (some g)) : Rv w' v L := by
  obtain ⟨A, cap, rfl, hr⟩ := h
  by_cases h0 : L.length = 0
  · rw [List.eq_nil_of_length_eq_zero h0]; exact ⟨A, cap, rfl, RowAt.nil _ _⟩
  · refine ⟨A, cap, rfl, rowAt_grown hr hg fun a ha hb => ?_⟩
    obtain ⟨cs, fr, h1⟩ := hr.ib a ha (by omega)
    obtain ⟨cs2, fr2, h2⟩ := hT
    rw [Option.some.inj hb, h2] at h1
    simp only [Option.some.injEq, Obj.cells.injEq] at h1
    exact he h1.2.1

set_option maxRecDepth 100000 in
set_option maxHeartbeats 1000000 in
theorem closure_any (x y : FE) (w : World) (hx : FOk w x) (hy : FOk w y) :
    Calls Tryz.prog 129 #[.agg #[x.v, .int .i64 x.k], .agg #[y.v, .int .i64 y.k]] w fun e w' => e = .returned (.int .i64 (cmpI x.L y.L)) ∧ ∃ q os, w' = grow (w.drewN q) os := by
  obtain ⟨A, ca, e1, ra⟩ := hx
  obtain ⟨B, cb, e2, rb⟩ := hy
  have RA := Lib.hid ra
  have RB := Lib.hid rb
  rw [e1, e2]
  generalize x.L = a at *
  generalize y.L = b at *
  generalize x.k = k at *
  generalize y.k = l at *
  clear e1 e2 ra rb
  have E2 := ((Ext.refl w).alloc (.cells #[.slice A a.length ca, .int .i64 k] 119)).alloc (.cells #[.slice B b.length cb, .int .i64 l] 119)
  go_enter Tryz.func129, Tryz.ntmps129
  go_wp2_with (first | (go_at_call 130; (with_reducible refine (compare_any A B ca cb a b _ (RA.out.below E2) (RB.out.below E2)).mono ?_); rintro e w' ⟨rfl, q, rfl⟩))
  go_ret
  exact ⟨rfl, q, _, by rw [alloc_eq_grow, alloc_eq_grow, grow_grow]; rfl⟩

/-- The block's cells hold these factors. -/
def FCells (w : World) (g : Nat) (Fs : List FE) : Prop := ∀ (i : Nat) (x : FE), Fs[i]? = some x → w.cell? ⟨g, i * 2, none⟩ = some x.v ∧ w.cell? ⟨g, i * 2 + 1, none⟩ = some (.int .i64 x.k)
def FSorted (Fs : List FE) : Prop := ∀ (i j : Nat) (x y : FE), Fs[i]? = some x → Fs[j]? = some y → i < j → ¬ cmpI y.L x.L < 0

set_option maxRecDepth 100000 in
set_option maxHeartbeats 1000000 in
theorem sortF_any (g cap : Nat) (Fs : List FE) (w : World) (hF : ∀ x ∈ Fs, FOk w x) (hc : FCells w g Fs) (hz : ∀ j, w.frozen? ⟨g, j, none⟩ = false) (hT : ∃ cs fr, w.heap[g]? = some (.cells cs 119 fr)) (hn : Fs.length ≤ 1000000) :
    Calls Tryz.prog 128 #[.slice (some ⟨g, 0, none⟩) Fs.length cap, .func (.func 129) #[] #[]] w fun e w' => e = .returned (.tuple #[]) ∧ ∃ Fs', Fs'.Perm Fs ∧ FSorted Fs' ∧ FCells w' g Fs' ∧ (∀ x ∈ Fs', FOk w' x) ∧ w.grownBy w' (some g) := by
  obtain ⟨d, hd⟩ : ∃ d : Array (FSub w), d = (Fs.pmap (fun x h => (⟨x, h⟩ : FSub w)) hF).toArray := ⟨_, rfl⟩
  have hs : d.size = Fs.length := by rw [hd]; simp
  have hmap : d.toList.map (·.1) = Fs := by rw [hd]; simp [List.map_pmap]
  have hat : ∀ i, i < d.size → Fs[i]? = some d[i]!.1 := fun i hi => by
    rw [← hmap, List.getElem?_map]; simp [hi]
  have hg : g < w.heap.size := by obtain ⟨_, _, h⟩ := hT; exact (Array.getElem?_eq_some_iff.1 h).1
  have hH : HoldsK (encF w) 2 w g 0 d := by
    intro j hj
    rw [size_flatK] at hj
    have hi : j / 2 < d.size := by omega
    have := hc (j / 2) _ (hat _ hi)
    rw [get_flatK _ _ _ _ hj, Nat.zero_add]
    refine ⟨?_, hz j⟩
    rcases Nat.mod_two_eq_zero_or_one j with h | h
    · rw [h, show j = j / 2 * 2 by omega]
      rw [show j / 2 * 2 / 2 = j / 2 by omega]
      exact this.1
    · rw [h]
      rw [show (⟨g, j, none⟩ : Addr) = ⟨g, j / 2 * 2 + 1, none⟩ by rw [show j / 2 * 2 + 1 = j by omega]]
      exact this.2
  have hcmp : CmpLays Tryz.prog 129 #[] (encF w) 2 (cfF w) g 0 d.size w := by
    intro m os dk hsz x y
    have hG := sortWorld_grown (encF w) 2 w g m dk os
    exact closure_any x.1 y.1 _ (Rv.other x.2 hT (by decide) hG) (Rv.other y.2 hT (by decide) hG)
  have eg : ∀ args w, (callFunc 129 args).run Tryz.prog w = .ok (.enter 129 args) w := enters_of Tryz.func129 (by kernel_rfl) rfl
  have K := AnyQ.slices_SortFunc Tryz.sortF 2 Tryz.isAgg119 Tryz.sizeOf119 (encF w) (fun _ => rfl) (fun x v hv => by
    simp only [encF, List.mem_cons, List.not_mem_nil, or_false] at hv
    rcases hv with rfl | rfl
    · obtain ⟨A, c, e, _⟩ := x.2; rw [e]; rfl
    · rfl) (cfF w) (swoF w) 129 #[] g 0 cap d w eg hcmp hH hg (by omega)
  rw [hs] at K
  refine Calls.mono K fun e w' h => ?_
  obtain ⟨he, d', n, os, hp, hso, rfl⟩ := h
  have hG := sortWorld_grown (encF w) 2 w g n d' os
  have hs' : d'.size = d.size := hp.1
  have hH' := holdsK_sortWorldK_c (encF w) 2 w g 0 d d' n os hH hg hs'
  have hat' : ∀ i x, (d'.toList.map (·.1))[i]? = some x → i < d'.size ∧ x = d'[i]!.1 := fun i x hx => by
    rw [List.getElem?_map, Option.map_eq_some_iff] at hx
    obtain ⟨y, hy, rfl⟩ := hx
    obtain ⟨hi, e⟩ := List.getElem?_eq_some_iff.1 hy
    simp only [Array.length_toList] at hi
    refine ⟨hi, ?_⟩
    rw [← e]; simp [hi]
  refine ⟨he, d'.toList.map (·.1), ?_, ?_, ?_, ?_, hG⟩
  · have p3 := hp.2.2
    have e1 : d'.extract 0 Fs.length = d' := by rw [← hs, ← hs']; simp
    have e2 : d.extract 0 Fs.length = d := by rw [← hs]; simp
    rw [e1, e2] at p3
    rw [← hmap]
    exact p3.map _
  · intro i j x y hx hy hij
    obtain ⟨hi, rfl⟩ := hat' i x hx
    obtain ⟨hj, rfl⟩ := hat' j y hy
    have := hso i j (Nat.zero_le _) hij (by omega)
    exact of_decide_eq_false this
  · intro i x hx
    obtain ⟨hi, rfl⟩ := hat' i x hx
    have c0 := (hH'.cell hi (show 0 < 2 by decide)).1
    have c1 := (hH'.cell hi (show 1 < 2 by decide)).1
    rw [Nat.zero_add] at c0 c1
    exact ⟨c0, c1⟩
  · intro x hx
    obtain ⟨y, hy, rfl⟩ := List.mem_map.1 hx
    exact Rv.other y.2 hT (by decide) hG

end Go.Proofs.YtaemiknaiccijaaGreat

/- The program's factors of a polynomial: functions on rows. No program in sight. -/
namespace Go.Proofs.YtaemiknaiccijaaGreat

/-- A polynomial divided by itself times a number leaves nothing. -/
theorem dr_scaled {p : Int} (hp : PrimeP p) {a b : List Int} (ha : Can p a) (hb : Can p b) (na : 0 < a.length) (hl : b.length = a.length) {c : Int} (hc : ∀ j, at0 b j = c * at0 a j % p) : (dr p a b).length = 0 := by
  have lo := hp.lo
  have B := hb.last (by omega)
  have hm := invP_mul hp B.1 B.2
  obtain ⟨m, em⟩ : ∃ m, a.length = m + 1 := ⟨a.length - 1, by omega⟩
  have lb : b.length - 1 = m := by omega
  rw [lb] at hm B
  have e : dr p a b = [] := by
    refine nz_ext (rowN_nz _ _) (fun n h => by simp at h) fun t => ?_
    rw [at0_nil, at0_dr p a b (by omega), show dn a b = 1 by unfold dn; omega, lb]
    show dstep p (invP p (lc b)) (at0 b) m (at0 a) 0 t = 0
    unfold dstep
    by_cases ht : t ≤ m
    · rw [if_pos ⟨Nat.zero_le _, by omega⟩]
      unfold qd lc
      rw [lb, Nat.zero_add, Nat.sub_zero]
      generalize invP p (at0 b m) = i at hm
      rw [hc m] at hm
      rw [hc t, Int.sub_emod, Int.mul_emod, Int.emod_emod, Int.emod_emod, ← Int.mul_emod]
      rw [show at0 a m * i * (c * at0 a t) = i * (c * at0 a m) * at0 a t by ac_rfl, Int.mul_emod (i * (c * at0 a m))]
      rw [Int.mul_emod, Int.emod_emod] at hm
      rw [Int.mul_emod i, hm, Int.one_mul, Int.emod_emod, Int.sub_self, Int.zero_emod]
    · rw [if_neg (by omega), at0_out a t (by omega)]
  rw [e]; rfl
theorem dr_self {p : Int} (hp : PrimeP p) {a : List Int} (ha : Can p a) (na : 0 < a.length) : (dr p a a).length = 0 :=
  dr_scaled hp ha ha na rfl (c := 1) fun j => by
    have := ha.inp j
    rw [Int.one_mul, Int.emod_eq_of_lt this.1 this.2]

theorem normF_ge {p most : Int} (lo : 2 ≤ p) : ∀ n out, 1 ≤ out → out ≤ normF p most n out
  | 0, out, _ => Int.le_refl _
  | n + 1, out, h => by
    rw [normF]; split
    · exact Int.le_refl _
    · have a1 : out * 1 ≤ out * p := Int.mul_le_mul_of_nonneg_left (by omega) (by omega)
      have := normF_ge (most := most) lo n (out * p) (by omega)
      omega
theorem normI_ge {p : Int} (lo : 2 ≤ p) {n : Nat} (hn : 1 ≤ n) : p ≤ normI p n 1099511627776 := by
  obtain ⟨m, rfl⟩ : ∃ m, n = m + 1 := ⟨n - 1, by omega⟩
  unfold normI
  rw [normF, if_neg (by decide), Int.one_mul]
  exact normF_ge lo m p (by omega)
theorem numr_two {p : Int} (hp : 2 ≤ p) {n : Nat} (hn : p.toNat ≤ n) (h60 : n < 2 ^ 60) : 2 ≤ (numr p n).length := by
  have hq : n / p.toNat ≠ 0 := Nat.ne_of_gt (Nat.div_pos hn (by omega))
  have h : n / p.toNat / p.toNat ^ 60 = 0 := Nat.div_eq_of_lt (Nat.lt_of_le_of_lt (Nat.div_le_self _ _) (Nat.lt_of_lt_of_le h60 (Nat.pow_le_pow_left (by omega) 60)))
  obtain ⟨j, h1, h2⟩ := dig_some hp hq 60 h
  have e : dig p (n / p.toNat) j = dig p n (j + 1) := by
    unfold dig
    rw [Nat.div_div_eq_div_mul, Nat.pow_succ, Nat.mul_comm]
  rw [e] at h2
  rcases Nat.lt_or_ge (numr p n).length 2 with h3 | h3
  · have h4 : at0 (numr p n) (j + 1) = dig p n (j + 1) := by rw [numr, at0_rowN, if_pos (by omega)]
    rw [at0_out _ _ (by omega)] at h4
    exact absurd h4.symm h2
  · exact h3
theorem scal_len5 {p : Int} (hp : PrimeP p) {a : List Int} (ha : Can p a) {c : Int} (h1 : 1 ≤ c) (h2 : c < p) : (scal p a c).length = a.length := by
  have l := scal_le p a c
  rcases Nat.lt_or_ge (scal p a c).length a.length with h | h
  · have A := ha.last (by omega)
    have := at0_scal p a c (a.length - 1)
    rw [at0_out _ _ (by omega)] at this
    exact absurd this.symm (mul_ne hp h1 h2 A.1 A.2)
  · omega
theorem wdF_spec {p : Int} (hp : PrimeP p) {a : List Int} (ha : Can p a) (na : 2 ≤ a.length) {N : Nat} (hN : p.toNat ≤ N) (hN2 : N ≤ 8000000000000) : ∀ f j, f + j ≤ N →
    Can p (wdF p a N f j) ∧ 2 ≤ (wdF p a N f j).length ∧ (wdF p a N f j).length ≤ max 64 a.length ∧ (dr p a (wdF p a N f j)).length = 0
  | 0, j, _ => ⟨ha, na, Nat.le_max_right _ _, dr_self hp ha (by omega)⟩
  | f + 1, j, h => by
    have lo := hp.lo
    rw [wdF]
    split
    · rename_i h0
      exact ⟨numr_can (by omega) _, numr_two lo (by omega) (Nat.lt_of_le_of_lt (show N + j ≤ 16000000000000 by omega) (by decide)), Nat.le_trans (numr_le _ _) (Nat.le_max_left _ _), h0⟩
    · exact wdF_spec hp ha na hN hN2 f (j + 1) (by omega)
theorem normF_most {p most : Int} (lo : 2 ≤ p) (hi : p ≤ 7) (hm : 0 ≤ most) : ∀ n out, 1 ≤ out → out ≤ 7 * most + 7 → normF p most n out ≤ 7 * most + 7
  | 0, out, h1, h2 => h2
  | n + 1, out, h1, h2 => by
    rw [normF]
    split
    · exact h2
    · have a1 : 1 * 1 ≤ out * p := Int.mul_le_mul h1 (by omega) (by decide) (by omega)
      have a2 : out * p ≤ most * 7 := Int.mul_le_mul (by omega) hi (by omega) hm
      exact normF_most lo hi hm n _ (by omega) (by omega)
theorem withDeg_spec {p : Int} (hp : PrimeP p) {a : List Int} (ha : Can p a) (na : 2 ≤ a.length) {n : Nat} (hn : 1 ≤ n) :
    Can p (withDegI p a n) ∧ 2 ≤ (withDegI p a n).length ∧ (withDegI p a n).length ≤ max 64 a.length ∧ (dr p a (withDegI p a n)).length = 0 := by
  have lo := hp.lo
  have hi := hp.hi
  unfold withDegI
  split
  · have A := ha.last (by omega)
    have i1 := invP_pos hp A.1 A.2
    have i2 := (invP_range (x := lc a) hp).2
    have L : (scal p a (invP p (lc a))).length = a.length := scal_len5 hp ha i1 i2
    have C := scal_can (show 0 < p by omega) a (invP p (lc a))
    exact ⟨C, by omega, by omega, dr_scaled hp ha C (by omega) L (at0_scal p a _)⟩
  · have g := normI_ge lo hn
    have u := normF_most lo hi (most := 1099511627776) (by decide) n 1 (by decide) (by decide)
    have u2 : normI p n 1099511627776 = normF p 1099511627776 n 1 := rfl
    exact wdF_spec hp ha na (by omega) (by omega) _ 0 (by omega)
/-- A quotient without rest. -/
theorem dq_some {p : Int} (hp : PrimeP p) {a b : List Int} (ha : Can p a) (hb : Can p b) (na : 0 < a.length) (nb : 0 < b.length) (hr : (dr p a b).length = 0) : b.length ≤ a.length ∧ (dq p a b).length = a.length + 1 - b.length := by
  have hab : b.length ≤ a.length := by
    rcases Nat.lt_or_ge a.length b.length with h | h
    · have dz : dn a b = 0 := by unfold dn; omega
      have : dr p a b = a := by
        refine nz_ext (rowN_nz _ _) ha.nz fun j => ?_
        rw [at0_dr p a b (by omega), dz]; rfl
      rw [this] at hr; omega
    · exact h
  exact ⟨hab, dq_len hp ha hb nb hab⟩
theorem stripF_spec {p : Int} (hp : PrimeP p) {b : List Int} (hb : Can p b) (nb : 2 ≤ b.length) : ∀ f a k, Can p a → 0 < a.length → Can p (stripF p b f a k).1 ∧ 0 < (stripF p b f a k).1.length ∧ (stripF p b f a k).1.length ≤ a.length
  | 0, a, k, ha, na => ⟨ha, na, Nat.le_refl _⟩
  | f + 1, a, k, ha, na => by
    rw [stripF]
    split
    · rename_i h
      have q := dq_some hp ha hb na (by omega) h
      have s := stripF_spec hp hb nb f (dq p a b) (k + 1) (dq_can (by have := hp.lo; omega) a b) (by omega)
      exact ⟨s.1, s.2.1, by omega⟩
    · exact ⟨ha, na, Nat.le_refl _⟩
theorem strip_spec {p : Int} (hp : PrimeP p) {a b : List Int} (ha : Can p a) (hb : Can p b) (na : 0 < a.length) (nb : 2 ≤ b.length) : Can p (stripI p a b).1 ∧ 0 < (stripI p a b).1.length ∧ (stripI p a b).1.length ≤ a.length :=
  stripF_spec hp hb nb _ a 0 ha na
theorem strip_less {p : Int} (hp : PrimeP p) {a b : List Int} (ha : Can p a) (hb : Can p b) (na : 0 < a.length) (nb : 2 ≤ b.length) (hr : (dr p a b).length = 0) : (stripI p a b).1.length < a.length := by
  unfold stripI
  obtain ⟨m, em⟩ : ∃ m, a.length = m + 1 := ⟨a.length - 1, by omega⟩
  rw [em, stripF, if_pos hr]
  have q := dq_some hp ha hb na (by omega) hr
  have s := stripF_spec hp hb nb m (dq p a b) (0 + 1) (dq_can (by have := hp.lo; omega) a b) (by omega)
  omega

/-- The factors of one degree: what is left of a, and the list. -/
def facB (p : Int) (n : Nat) : Nat → List Int → List Int → List (List Int × Nat) → List Int × List (List Int × Nat)
  | 0, a, _, out => (a, out)
  | f + 1, a, all, out =>
    if all.length ≤ 1 then (a, out)
    else facB p n f (stripI p a (withDegI p all n)).1 (stripI p all (withDegI p all n)).1 (out ++ [(withDegI p all n, (stripI p a (withDegI p all n)).2)])
/-- The n-th power of the Frobenius map, of T. -/
def frobI (p : Int) (a : List Int) : Nat → List Int
  | 0 => [0, 1]
  | k + 1 => powI p (frobI p a k) p.toNat a
def allI (p : Int) (a : List Int) (n : Nat) : List Int := bezD p (comb p (frobI p a n) [0, 1] (-1)) a
def facA (p : Int) : Nat → List Int → Nat → List (List Int × Nat) → List (List Int × Nat)
  | 0, _, _, out => out
  | f + 1, a, n, out =>
    if a.length ≤ 1 then out
    else if a.length - 1 < 2 * n then out ++ [(scal p a (invP p (lc a)), 1)]
    else facA p f (facB p n (allI p a n).length a (allI p a n) out).1 (n + 1) (facB p n (allI p a n).length a (allI p a n) out).2
/-- The factors, in the order in which they are found. -/
def facI (p : Int) (a : List Int) : List (List Int × Nat) := facA p (a.length + 1) a 1 []

theorem frobI_spec {p : Int} (hp : PrimeP p) {a : List Int} (ha : Can p a) (na : 0 < a.length) : ∀ k, Can p (frobI p a k) ∧ (frobI p a k).length ≤ max 2 a.length
  | 0 => ⟨can_tee (by have := hp.lo; omega), Nat.le_max_left _ _⟩
  | k + 1 => by
    have s := powI_spec hp (frobI_spec hp ha na k).1 ha na p.toNat
    exact ⟨s.1, by have : (frobI p a (k + 1)).length < a.length := s.2; omega⟩
theorem allI_spec {p : Int} (hp : PrimeP p) {a : List Int} (ha : Can p a) (na : 0 < a.length) (la : a.length ≤ 64) (n : Nat) : Can p (allI p a n) ∧ (allI p a n).length ≤ 64 ∧ 0 < (allI p a n).length := by
  have lo := hp.lo
  have F := frobI_spec hp ha na n
  have C := comb_can (show 0 < p by omega) (frobI p a n) [0, 1] (-1)
  have L := comb_le p (frobI p a n) [0, 1] (-1)
  simp only [List.length_cons, List.length_nil] at L
  obtain ⟨c1, _, _, c4, _, _, c7⟩ := bez0_inv hp C ha (by omega) la (.inr (by omega))
  have A := c1.last c7
  have i1 := invP_pos hp A.1 A.2
  have i2 := (invP_range (x := lc (bez0 p (comb p (frobI p a n) [0, 1] (-1)) a).1) hp).2
  have L2 : (allI p a n).length = (bez0 p (comb p (frobI p a n) [0, 1] (-1)) a).1.length := scal_len5 hp c1 i1 i2
  exact ⟨scal_can (by omega) _ _, by omega, by omega⟩

end Go.Proofs.YtaemiknaiccijaaGreat

/- The list of factors that a call makes: appended to, sorted. -/
namespace Go.Proofs.YtaemiknaiccijaaGreat
open Go.RowKit Go.Sort

def cellsF (Fs : List FE) : List Value := Fs.flatMap fun x => [x.v, .int .i64 x.k]
theorem cellsF_len : ∀ Fs : List FE, (cellsF Fs).length = Fs.length * 2
  | [] => rfl
  | x :: r => by
    have := cellsF_len r
    unfold cellsF at *
    rw [List.flatMap_cons, List.length_append, this, List.length_cons, List.length_cons, List.length_cons, List.length_nil]; omega
theorem cellsF_get : ∀ (Fs : List FE) (i : Nat) (x : FE), Fs[i]? = some x → (cellsF Fs)[i * 2]? = some x.v ∧ (cellsF Fs)[i * 2 + 1]? = some (.int .i64 x.k)
  | [], i, x, h => by simp at h
  | y :: r, 0, x, h => by
    simp only [List.getElem?_cons_zero, Option.some.injEq] at h
    subst h
    exact ⟨rfl, rfl⟩
  | y :: r, i + 1, x, h => by
    have := cellsF_get r i x (by simpa using h)
    have e : cellsF (y :: r) = y.v :: .int .i64 y.k :: cellsF r := rfl
    rw [e, show (i + 1) * 2 = i * 2 + 1 + 1 by omega]
    simpa using this
theorem cellsF_app (Fs : List FE) (x : FE) : cellsF (Fs ++ [x]) = cellsF Fs ++ [x.v, .int .i64 x.k] := by simp [cellsF]
def unF (x : FE) : List Int × Nat := (x.L, x.k)
/-- A list of factors of this call's own. -/
def FOut (w0 w : World) (vo : Value) (out : List (List Int × Nat)) : Prop :=
  ∃ Fs : List FE, Fs.map unF = out ∧ OwV 119 2 w0 w vo Fs.length (cellsF Fs) ∧ ∀ x ∈ Fs, FOk w x
theorem FOut.nil {w0 w : World} (h : Ext w0 w) : FOut w0 w (.slice none 0 0) [] := ⟨[], rfl, OwV.nil h, by simp⟩
theorem FOut.ext {w0 w : World} {vo : Value} {out : List (List Int × Nat)} (h : FOut w0 w vo out) : Ext w0 w := by obtain ⟨_, _, h, _⟩ := h; exact h.ext
theorem FOut.next {w0 w w' : World} {vo : Value} {out : List (List Int × Nat)} (h : FOut w0 w vo out) (hE : Ext w w') : FOut w0 w' vo out := by
  obtain ⟨Fs, h1, h2, h3⟩ := h
  exact ⟨Fs, h1, h2.next hE, fun x hx => Rv.below (h3 x hx) hE⟩
theorem infoFac : (Tryz.prog.info? 119).map (fun i => (i.zero, i.size, i.bytes)) = some (some (.agg #[.slice none 0 0, .int .i64 0]), 2, 32) := by kernel_rfl
section
variable {ops : Array Oper} {rest : List Oper} {o : Oper} {a : Act} {w w0 : World} {Q : Exit → Act → World → Prop}
theorem wplAppF (s x : Operand) (ho : o.op = .call { callee := .builtin .append, args := #[s, x], argTypes := #[116, 116] }) (hgd : o.guard = none)
    {vo v : Value} {out : List (List Int × Nat)} {L : List Int} {k b c : Nat} (hO : FOut w0 w vo out) (hs : a.eval s = vo) (hx : a.eval x = .slice (some ⟨b, 0, none⟩) 1 c)
    (h0 : w.cell? ⟨b, 0, none⟩ = some v) (h1 : w.cell? ⟨b, 1, none⟩ = some (.int .i64 k)) (hR : Rv w v L) (hm : out.length < 1000000)
    (h : ∀ A cap w', FOut w0 w' (.slice A (out.length + 1) cap) (out ++ [(L, k)]) → (∀ u M, Rv w u M → Rv w' u M) → wpList Tryz.prog ops Q rest (a.put o.dst (.slice A (out.length + 1) cap)) w') : wpList Tryz.prog ops Q (o :: rest) a w := by
  obtain ⟨Fs, e1, e2, e3⟩ := hO
  have hl : Fs.length = out.length := by rw [← e1, List.length_map]
  refine wplAppV s x ho hgd Tryz.underlying116 infoFac rfl (by decide) (by decide) [v, .int .i64 k] e2 hs hx rfl ?_ ?_ (by omega) fun A cap w' i1 i2 i3 => ?_
  · intro j u hj
    rw [Addr.add_lit, Nat.zero_add]
    match j with
    | 0 => simp only [List.getElem?_cons_zero, Option.some.injEq] at hj; subst hj; exact h0
    | 1 => simp only [List.getElem?_cons_succ, List.getElem?_cons_zero, Option.some.injEq] at hj; subst hj; exact h1
    | j + 2 => simp at hj
  · intro u hu
    simp only [List.mem_cons, List.not_mem_nil, or_false] at hu
    rcases hu with rfl | rfl
    · obtain ⟨A, c, e, _⟩ := hR; rw [e]; rfl
    · rfl
  · have keep : ∀ u M, Rv w u M → Rv w' u M := fun u M hu => hu.grown e2 (by decide) i3
    rw [hl] at i1 ⊢
    refine h A cap w' ⟨Fs ++ [⟨v, L, k⟩], by rw [List.map_append, e1]; rfl, ?_, ?_⟩ keep
    · rw [cellsF_app, List.length_append]
      rw [← hl] at i1 ⊢
      exact i1
    · intro y hy
      rcases List.mem_append.1 hy with hy | hy
      · exact keep _ _ (e3 y hy)
      · simp only [List.mem_cons, List.not_mem_nil, or_false] at hy
        subst hy; exact keep _ _ hR
end
/-- The factors that a slice holds, in the order of their rows. -/
def FDone (w0 w : World) (vo : Value) (out : List (List Int × Nat)) : Prop :=
  ∃ (A : Option Addr) (cap : Nat) (Fs : List FE), vo = .slice A Fs.length cap ∧ (Fs.map unF).Perm out ∧ FSorted Fs ∧ (0 < Fs.length → ∃ g, A = some ⟨g, 0, none⟩ ∧ FCells w g Fs) ∧ (∀ x ∈ Fs, FOk w x) ∧ Ext w0 w
theorem sort_out (w0 w : World) (vo : Value) (out : List (List Int × Nat)) (h : FOut w0 w vo out) :
    Calls Tryz.prog 128 #[vo, .func (.func 129) #[] #[]] w fun e w' => e = .returned (.tuple #[]) ∧ FDone w0 w' vo out := by
  obtain ⟨Fs, e1, e2, e3⟩ := h
  by_cases hn : Fs.length = 0
  · have e : Fs = [] := List.eq_nil_of_length_eq_zero hn
    subst e
    obtain ⟨A, cap, rfl, _⟩ := e2.slice
    refine Calls.mono (AnyF.slices_SortFunc_none Tryz.sortF A cap _ w) fun e w' h => ?_
    obtain ⟨rfl, rfl⟩ := h
    refine ⟨rfl, A, cap, [], rfl, by rw [← e1], fun i j x y hx => by simp at hx, fun h => absurd h (by simp), by simp, e2.ext⟩
  · have hlim : Fs.length ≤ 1000000 := e2.2.2
    rcases e2.2.1.2 with ⟨_, h0⟩ | ⟨g, cap, cur, rfl, hb, hg, h1, h2, h3, h4⟩
    · exact absurd h0 hn
    · have hc : FCells w g Fs := fun i x hx => by
        obtain ⟨c0, c1⟩ := cellsF_get Fs i x hx
        have k0 := e2.2.1.cells (g := g) rfl _ _ c0
        have k1 := e2.2.1.cells (g := g) rfl _ _ c1
        rw [Addr.add_lit, Nat.zero_add] at k0 k1
        exact ⟨k0, k1⟩
      refine Calls.mono (sortF_any g cap Fs w e3 hc (fun j => frozen_of_row _ _ _ _ _ hg) ⟨_, _, hg⟩ hlim) fun e w' h => ?_
      obtain ⟨he, Fs', p1, p2, p3, p4, p5⟩ := h
      refine ⟨he, _, cap, Fs', by rw [p1.length_eq], by rw [← e1]; exact p1.map _, p2, fun _ => ⟨g, rfl, p3⟩, p4, Ext.grown e2.ext p5 hb⟩

end Go.Proofs.YtaemiknaiccijaaGreat

/- The program's factors of a polynomial. -/
namespace Go.Proofs.YtaemiknaiccijaaGreat
open Go.RowKit

def FacRel (p : Int) (a0 : List Int) (w : World) (f : Nat) (va vo vn : Value) (wr : World) : Prop :=
  ∃ (a : List Int) (n : Nat) (out : List (List Int × Nat)), f + n = a0.length + 2 ∧ 1 ≤ n ∧ 2 * (n - 1) ≤ a0.length ∧ Can p a ∧ 0 < a.length ∧ a.length ≤ a0.length ∧ out.length ≤ 100 * (n - 1) ∧ facA p f a n out = facI p a0 ∧ vn = .int .i64 n ∧ Rv wr va a ∧ FOut w wr vo out
def FrRel (p : Int) (a : List Int) (n : Nat) (w5 : World) (f : Nat) (vf i : Value) (wr : World) : Prop :=
  ∃ j : Nat, f + j = n ∧ i = .int .i64 j ∧ Rv wr vf (frobI p a j) ∧ Ext w5 wr
def FbRel (p : Int) (a : List Int) (n : Nat) (out : List (List Int × Nat)) (w : World) (f : Nat) (va vo vl : Value) (wr : World) : Prop :=
  ∃ (a' all : List Int) (out' : List (List Int × Nat)), facB p n f a' all out' = facB p n (allI p a n).length a (allI p a n) out ∧ Can p all ∧ 0 < all.length ∧ all.length ≤ f ∧ f ≤ 64 ∧ Can p a' ∧ 0 < a'.length ∧ a'.length ≤ a.length ∧ out'.length + f ≤ out.length + 64 ∧ Rv wr va a' ∧ Rv wr vl all ∧ FOut w wr vo out'

set_option maxRecDepth 100000 in
set_option maxHeartbeats 4000000 in
theorem factors_any (p : Int) (A : Option Addr) (ca : Nat) (a0 : List Int) (hp : PrimeP p) (ha : Can p a0) (la : a0.length ≤ 64) (na : 0 < a0.length) (w : World) (ra : RowAt w A a0) :
    Calls Tryz.prog 108 #[.int .i64 p, .slice A a0.length ca] w fun e w' => ∃ v, e = .returned v ∧ FDone w w' v (facI p a0) := by
  have HP := Lib.hid hp
  have HA := Lib.hid ha
  have RA := Lib.hid ra
  have lo := hp.lo
  have hi := hp.hi
  clear hp ha ra
  go_enter Tryz.func108, Tryz.ntmps108
  go_wp2
  go_loopg [1, 5, 6] (a0.length + 1) (fun f va vo vn wr => FacRel p a0 w f va vo vn wr)
  case atStart => exact ⟨a0, 1, [], rfl, Nat.le_refl _, by omega, HA.out, na, Nat.le_refl _, by simp, rfl, rfl, ⟨A, ca, rfl, RA.out⟩, FOut.nil (Ext.refl w)⟩
  case round =>
    obtain ⟨a, n, out, hf, n1, n2, hc, a1, a2, ol, hs, rfl, ⟨Aa, ka, rfl, Ra⟩, O⟩ := hrel
    have HC := Lib.hid hc
    have HS := Lib.hid hs
    have RAa := Lib.hid Ra
    have HO := Lib.hid O
    clear hc hs Ra O
    obtain ⟨f, rfl⟩ : ∃ f, gk = f + 1 := ⟨gk - 1, by omega⟩
    have DEG := Lib.hid fun W => degree_any Aa a.length ka (by omega) W
    by_cases h1 : a.length ≤ 1
    · have t1 : decide ((1 : Int) < (a.length : Int)) = false := decide_eq_false (by omega)
      have G : Hid (out = facI p a0) := Lib.hid (by rw [← HS.out, facA, if_pos h1])
      have SO := Lib.hid (sort_out w wr _ out HO.out)
      go_wp2_with (first | (go_at_call 79; (with_reducible refine (DEG.out _).mono ?_); rintro e w' ⟨rfl, rfl⟩) | (go_at_call 128; (with_reducible refine SO.out.mono ?_); rintro e w2 ⟨rfl, D⟩; rw [G.out] at D))
      go_ret
      exact ⟨_, rfl, D⟩
    · have t1 : decide ((1 : Int) < (a.length : Int)) = true := decide_eq_true (by omega)
      by_cases h2 : a.length - 1 < 2 * n
      · have t2 : decide ((a.length : Int) - 1 < 2 * (n : Int)) = true := decide_eq_true (by omega)
        have G : Hid (out ++ [(scal p a (invP p (lc a)), 1)] = facI p a0) := Lib.hid (by rw [← HS.out, facA, if_neg h1, if_pos h2])
        have hl := HC.out.last a1
        rw [show at0 a (a.length - 1) = lc a from rfl] at hl
        have hinv := invP_range (x := lc a) HP.out
        have LD := lead_any Aa ka a wr RAa.out
        rw [show lead a = lc a from if_neg (by omega)] at LD
        have LDM := Lib.hid LD
        have BA := Lib.hid (can_isB HC.out hi)
        have SO := Lib.hid (sort_out w)
        clear LD
        go_wp2_with (first
          | (go_at_call 79; (with_reducible refine (DEG.out _).mono ?_); rintro e w' ⟨rfl, rfl⟩)
          | (go_at_call 107; (with_reducible refine LDM.out.mono ?_); rintro e w2 ⟨rfl, rfl⟩)
          | (go_at_call 125; (with_reducible refine (inverse_any p (lc a) lo hi (by omega) hl.2 _).mono ?_); rintro e w' ⟨rfl, rfl⟩)
          | (go_at_call 124; (with_reducible refine (scale_any p (invP p (lc a)) Aa ka a lo hi (by omega) (by omega) BA.out _ RAa.out).mono ?_); rintro e w2 ⟨A2, k2, rfl, R2, E2⟩)
          | ((with_reducible show wpList _ _ _ _ _ _); apply wplAppF; exact rfl; exact rfl; exact ((HO.out.next E2).next ((Ext.refl _).alloc _)); exact rfl; exact rfl; exact cell_of (heap_alloc_new _ _) rfl; exact cell_of (heap_alloc_new _ _) rfl; exact Rv.below ⟨A2, k2, rfl, R2⟩ ((Ext.refl _).alloc _); omega))
        intro A3 c3 w3 O3 K3
        have SO3 := Lib.hid (SO.out w3 _ _ O3)
        clear O3 K3
        go_wp2_with (first | (go_at_call 128; (with_reducible refine SO3.out.mono ?_); rintro e w4 ⟨rfl, D⟩; rw [G.out] at D))
        go_ret
        exact ⟨_, rfl, D⟩
      · have t2 : decide ((a.length : Int) - 1 < 2 * (n : Int)) = false := decide_eq_false (by omega)
        have HS2 : Hid (facA p f (facB p n (allI p a n).length a (allI p a n) out).1 (n + 1) (facB p n (allI p a n).length a (allI p a n) out).2 = facI p a0) := Lib.hid (by rw [← HS.out, facA, if_neg h1, if_neg h2])
        clear HS
        go_wp2_with (first
          | (go_at_call 79; (with_reducible refine (DEG.out _).mono ?_); rintro e w' ⟨rfl, rfl⟩)
          | (go_at_call 78; (with_reducible refine (letter_any _).mono ?_); rintro e w2 ⟨A2, k2, rfl, R2, E2⟩))
        go_loopg [7, 35] n (fun f vf i wr2 => FrRel p a n wr f vf i wr2)
        case atStart => exact ⟨0, by omega, rfl, ⟨A2, k2, rfl, R2⟩, E2⟩
        case round =>
          clear R2 E2
          obtain ⟨j, hj, rfl, ⟨Af, kf, rfl, Rf⟩, E5⟩ := hrel
          have RF := Lib.hid Rf
          have FS := Lib.hid (frobI_spec HP.out HC.out a1 j)
          have FL := FS.out.2
          clear Rf
          by_cases hjn : j < n
          · obtain ⟨g, rfl⟩ : ∃ g, gk = g + 1 := ⟨gk - 1, by omega⟩
            have t3 : decide ((j : Int) < (n : Int)) = true := decide_eq_true (by omega)
            have PT : Hid ((p.toNat : Int) = p) := Lib.hid (by omega)
            have PW' := power_any p Af Aa kf ka (frobI p a j) a p.toNat (by omega) HP.out FS.out.1 HC.out (by omega) (by omega) a1 wr RF.out (RAa.out.below E5)
            rw [PT.out] at PW'
            have PW := Lib.hid PW'
            clear PW' PT
            go_wp2_with (first | (go_at_call 93; (with_reducible refine PW.out.mono ?_); rintro e w6 ⟨A6, k6, rfl, R6, E6⟩))
            go_roundg g
            case measure => omega
            case rel => exact ⟨j + 1, by omega, by go_num, ⟨A6, k6, rfl, R6⟩, E5.tr E6⟩
          · have t3 : decide ((j : Int) < (n : Int)) = false := decide_eq_false (by omega)
            obtain rfl : j = n := by omega
            have FI := Lib.hid (can_isB FS.out.1 hi)
            have TI := Lib.hid (can_isB (can_tee (show 1 < p by omega)) hi)
            have CM := Lib.hid (comb_can (show 0 < p by omega) (frobI p a j) [0, 1] (-1))
            have CL := comb_le p (frobI p a j) [0, 1] (-1)
            simp only [List.length_cons, List.length_nil] at CL
            have AL := Lib.hid (allI_spec HP.out HC.out a1 (by omega) j)
            have CB : Hid (∀ W A k, RowAt W A [0, 1] → RowAt W Af (frobI p a j) → Calls Tryz.prog 59 #[.int .i64 p, .slice Af (frobI p a j).length kf, .slice A 2 k, .int .i64 (-1)] W (Row (comb p (frobI p a j) [0, 1] (-1)) W)) :=
              Lib.hid fun W A k r rf => combine_any p (-1) Af A kf k (frobI p a j) [0, 1] lo hi (by decide) (by decide) FI.out TI.out W rf r
            go_wp2_with (first
              | (go_at_call 78; (with_reducible refine (letter_any _).mono ?_); rintro e w6 ⟨A6, k6, rfl, R6, E6⟩)
              | (go_at_call 59; (with_reducible refine (CB.out _ A6 k6 R6 (RF.out.below E6)).mono ?_); rintro e w7 ⟨A7, k7, rfl, R7, E7⟩)
              | (go_at_call 100; (with_reducible refine (gcd_any p A7 Aa k7 ka (comb p (frobI p a j) [0, 1] (-1)) a HP.out CM.out HC.out (by omega) (by omega) (.inr (by omega)) _ R7 (RAa.out.below (E5.tr (E6.tr E7)))).mono ?_); rintro e w8 ⟨A8, k8, rfl, R8, E8⟩))
            have EE := E5.tr (E6.tr (E7.tr E8))
            have HO8 := Lib.hid (HO.out.next EE)
            have RA8 := Lib.hid (RAa.out.below EE)
            have RL8 : Hid (RowAt w8 A8 (allI p a j)) := Lib.hid R8
            have LA : (allI p a j).length ≤ 64 := AL.out.2.1
            rw [show bezD p (comb p (frobI p a j) [0, 1] (-1)) a = allI p a j from rfl]
            clear R6 R7 R8 E6 E7 E8 EE E5 RF RAa HO CL FI TI CM FL hj hjn CB
            go_loopg [1, 5, 8] (allI p a j).length (fun f va vo vl wr2 => FbRel p a j out w f va vo vl wr2)
            case atStart => exact ⟨a, allI p a j, out, rfl, AL.out.1, AL.out.2.2, Nat.le_refl _, LA, HC.out, a1, Nat.le_refl _, by omega, ⟨Aa, ka, rfl, RA8.out⟩, ⟨A8, k8, rfl, RL8.out⟩, HO8.out⟩
            case round =>
              clear RA8 RL8 HO8
              obtain ⟨a', all, out', hb, hall, l0, lf, lf2, ha', b0, b1, hob, ⟨A1, k1, rfl, R1⟩, ⟨A2, k2, rfl, R2⟩, O⟩ := hrel
              have HB := Lib.hid hb
              have HAL := Lib.hid hall
              have HA1 := Lib.hid ha'
              have RR1 := Lib.hid R1
              have RR2 := Lib.hid R2
              have HO1 := Lib.hid O
              clear hb hall ha' R1 R2 O
              by_cases hl : all.length ≤ 1
              · have t4 : decide ((1 : Int) < (all.length : Int)) = false := decide_eq_false (by omega)
                go_wp2_with (first
                  | (go_at_call 79; (with_reducible refine (degree_any A2 all.length k2 (by omega) _).mono ?_); rintro e w' ⟨rfl, rfl⟩))
                have HBe : Hid (facB p j (allI p a j).length a (allI p a j) out = (a', out')) := Lib.hid (by
                  rw [← HB.out]
                  cases gk with
                  | zero => rfl
                  | succ g => rw [facB, if_pos hl])
                have HS3 : Hid (facA p f a' (j + 1) out' = facI p a0) := Lib.hid (by rw [← HS2.out, HBe.out])
                go_roundg f
                case measure => omega
                case rel => exact ⟨a', j + 1, out', by omega, by omega, by omega, HA1.out, b0, by omega, by omega, HS3.out, by go_num, ⟨A1, k1, rfl, RR1.out⟩, HO1.out⟩
              · have t4 : decide ((1 : Int) < (all.length : Int)) = true := decide_eq_true (by omega)
                obtain ⟨g, rfl⟩ : ∃ g, gk = g + 1 := ⟨gk - 1, by omega⟩
                obtain ⟨s1, s2, s3, s4⟩ := withDeg_spec HP.out HAL.out (by omega) n1
                have SB := Lib.hid s1
                have ST1 := Lib.hid (strip_spec HP.out HA1.out s1 b0 s2)
                have ST2 := Lib.hid (strip_spec HP.out HAL.out s1 l0 s2)
                have SL := strip_less HP.out HAL.out s1 l0 s2 s4
                have HB2 : Hid (facB p j g (stripI p a' (withDegI p all j)).1 (stripI p all (withDegI p all j)).1 (out' ++ [(withDegI p all j, (stripI p a' (withDegI p all j)).2)]) = facB p j (allI p a j).length a (allI p a j) out) := Lib.hid (by rw [← HB.out, facB, if_neg hl])
                have WD := Lib.hid (withDegree_any p A2 k2 all j HP.out HAL.out (by omega) l0 (by omega) wr RR2.out)
                have SA : Hid (∀ W B kb, RowAt W B (withDegI p all j) → Ext wr W → Calls Tryz.prog 127 #[.int .i64 p, .slice A1 a'.length k1, .slice B (withDegI p all j).length kb] W fun e w' => ∃ v, e = .returned (.tuple #[v, .int .i64 (stripI p a' (withDegI p all j)).2]) ∧ Rv w' v (stripI p a' (withDegI p all j)).1 ∧ Ext W w') :=
                  Lib.hid fun W B kb rb hE => strip_any p A1 B k1 kb a' _ HP.out HA1.out SB.out (by omega) (by omega) b0 s2 W (RR1.out.below hE) rb
                have SAl : Hid (∀ W B kb, RowAt W B (withDegI p all j) → Ext wr W → Calls Tryz.prog 127 #[.int .i64 p, .slice A2 all.length k2, .slice B (withDegI p all j).length kb] W fun e w' => ∃ v, e = .returned (.tuple #[v, .int .i64 (stripI p all (withDegI p all j)).2]) ∧ Rv w' v (stripI p all (withDegI p all j)).1 ∧ Ext W w') :=
                  Lib.hid fun W B kb rb hE => strip_any p A2 B k2 kb all _ HP.out HAL.out SB.out (by omega) (by omega) l0 s2 W (RR2.out.below hE) rb
                have L1 := ST1.out.2.1
                have L1' := ST1.out.2.2
                have L2 := ST2.out.2.1
                clear s1 s4 HB hl
                go_wp2_with (first
                  | (go_at_call 79; (with_reducible refine (degree_any A2 all.length k2 (by omega) _).mono ?_); rintro e w' ⟨rfl, rfl⟩)
                  | (go_at_call 126; (with_reducible refine WD.out.mono ?_); rintro e w3 ⟨A3, k3, rfl, R3, E3⟩)
                  | (go_at_call 127; (with_reducible refine (SA.out _ A3 k3 R3 E3).mono ?_); rintro e w4 ⟨v4, rfl, R4, E4⟩)
                  | (go_at_call 127; (with_reducible refine (SAl.out _ A3 k3 (R3.below E4) (E3.tr E4)).mono ?_); rintro e w5 ⟨v5, rfl, R5, E5⟩)
                  | ((with_reducible show wpList _ _ _ _ _ _); apply wplAppF; exact rfl; exact rfl; exact ((HO1.out.next (E3.tr (E4.tr E5))).next ((Ext.refl _).alloc _)); exact rfl; exact rfl; exact cell_of (heap_alloc_new _ _) rfl; exact cell_of (heap_alloc_new _ _) rfl; exact Rv.below ⟨A3, k3, rfl, R3.below (E4.tr E5)⟩ ((Ext.refl _).alloc _); omega))
                intro A9 c9 w9 O9 K9
                have V4 := K9 _ _ ((R4.below E5).below ((Ext.refl _).alloc _))
                have V5 := K9 _ _ (R5.below ((Ext.refl _).alloc _))
                clear K9
                go_wp2
                go_roundg g
                case measure => omega
                case rel => exact ⟨_, _, _, HB2.out, ST2.out.1, L2, by omega, by omega, ST1.out.1, L1, by omega, by rw [List.length_append]; simp only [List.length_cons, List.length_nil]; omega, V4, V5, O9⟩

end Go.Proofs.YtaemiknaiccijaaGreat
