/- Lemmas and contracts of functions, for the laws: The program's check of lists of residues. -/
import Derived.Test.YtaemiknaiccijaaGreatRm26
import Derived.Test.YtaemiknaiccijaaGreatRm25
set_option linter.unusedVariables false
set_option linter.unusedSimpArgs false
namespace Go.Proofs.YtaemiknaiccijaaGreat
open Go.RowKit

set_option maxRecDepth 100000 in
set_option maxHeartbeats 1000000 in
theorem residuesCode_any (p : Int) (l : List Int) (A : Option Addr) (cap : Nat) (L : List (List Int)) (hl : l.length = 64) (hb : IsB l) (w : World) (hL : PsAt w A L) (hB : ∀ x ∈ L, IsB x) :
    Calls Tryz.prog 54 #[.int .i64 p, .agg (u8s l), .slice A L.length cap] w fun e w' => e = .returned (.int .i64 (resC p l L)) ∧ Ext w w' := by
  have FD := Lib.hid fun W => isField_any p l hl hb W
  have FO := Lib.hid fun W => fieldOf_any p l hl hb W
  have HL := Lib.hid hL
  have F := Hp.start w
  cases h1 : fldB p l with
  | false =>
    rw [h1] at FD
    have G : Hid (resC p l L = 1) := Lib.hid (by rw [resC, h1]; rfl)
    clear h1 hb hL hB
    go_enter Tryz.func54, Tryz.ntmps54
    go_wp2_with (first | ((with_reducible show wpList _ _ _ _ _ _); first | (apply hpLd F; exact rfl; exact rfl; exact rfl; (· repeat (first | exact Has.head | apply Has.tail))) | (apply hpBox F; exact rfl; exact rfl; exact rfl; (· with_reducible first | exact pad_length _ | exact zeros64_length | exact tab_length _ _ | assumption)) | (apply hpAlloc F; exact rfl; exact rfl) | (apply hpSt F; exact rfl; exact rfl; exact rfl; exact rfl; (· repeat (first | exact Upd.head | apply Upd.tail)); (· with_reducible first | exact pad_length _ | exact zeros64_length | exact tab_length _ _ | assumption))))
    clear F
    intro gl w1 F
    go_wp2_with (first | (go_at_call 85; (with_reducible refine (FD.out _).mono ?_); rintro e w2 ⟨rfl, E2⟩; replace F := F.next E2) | ((with_reducible show wpList _ _ _ _ _ _); first | (apply hpLd F; exact rfl; exact rfl; exact rfl; (· repeat (first | exact Has.head | apply Has.tail))) | (apply hpBox F; exact rfl; exact rfl; exact rfl; (· with_reducible first | exact pad_length _ | exact zeros64_length | exact tab_length _ _ | assumption)) | (apply hpAlloc F; exact rfl; exact rfl) | (apply hpSt F; exact rfl; exact rfl; exact rfl; exact rfl; (· repeat (first | exact Upd.head | apply Upd.tail)); (· with_reducible first | exact pad_length _ | exact zeros64_length | exact tab_length _ _ | assumption))))
    go_ret
    exact ⟨ret_int G.out.symm, F.ext⟩
  | true =>
    rw [h1] at FD
    obtain ⟨hp, hc, m2, m5, _, he, _⟩ := fldB_row hl hb h1
    have AR : Hid (∀ W M cm, Ext w W → RowAt W M (trim l) → Calls Tryz.prog 86 #[.slice A L.length cap, .func (.func 87) #[.agg #[.int .i64 p, .slice M (trim l).length cm]] #[]] W fun e w' => e = .returned (.bool (L.all (resB p (trim l)))) ∧ Ext W w') :=
      Lib.hid fun W M cm hE rM => arePolys_any 87 #[.agg #[.int .i64 p, .slice M (trim l).length cm]] #[] (enters_of Tryz.func87 (by kernel_rfl) rfl) A cap L (resB p (trim l)) W (hL.below hE)
        (fun W2 x hx hW => isResidue_any p M cm (trim l) x ((primeB_iff p).2 hp) (by omega) (hL.2.1 x hx) (hB x hx) W2 (rM.below hW))
    have G : Hid (resC p l L = if L.all (resB p (trim l)) then 0 else 1) := Lib.hid (by rw [resC, h1]; rfl)
    clear h1 hb hL hB he hc hp
    cases h2 : L.all (resB p (trim l)) with
    | true =>
      rw [h2] at AR
      have G2 : Hid (resC p l L = 0) := Lib.hid (by rw [G.out, h2]; rfl)
      clear h2
      go_enter Tryz.func54, Tryz.ntmps54
      go_wp2_with (first | ((with_reducible show wpList _ _ _ _ _ _); first | (apply hpLd F; exact rfl; exact rfl; exact rfl; (· repeat (first | exact Has.head | apply Has.tail))) | (apply hpBox F; exact rfl; exact rfl; exact rfl; (· with_reducible first | exact pad_length _ | exact zeros64_length | exact tab_length _ _ | assumption)) | (apply hpAlloc F; exact rfl; exact rfl) | (apply hpSt F; exact rfl; exact rfl; exact rfl; exact rfl; (· repeat (first | exact Upd.head | apply Upd.tail)); (· with_reducible first | exact pad_length _ | exact zeros64_length | exact tab_length _ _ | assumption))))
      clear F
      intro gl w1 F
      go_wp2_with (first | (go_at_call 85; (with_reducible refine (FD.out _).mono ?_); rintro e w2 ⟨rfl, E2⟩; replace F := F.next E2) | (go_at_call 32; (with_reducible refine (FO.out _).mono ?_); rintro e w3 ⟨M3, c3, rfl, R3, E3⟩; replace F := F.next E3) | (go_at_call 86; (with_reducible refine (AR.out _ _ _ F.ext R3).mono ?_); rintro e w4 ⟨rfl, E4⟩; replace F := F.next E4) | ((with_reducible show wpList _ _ _ _ _ _); first | (apply hpLd F; exact rfl; exact rfl; exact rfl; (· repeat (first | exact Has.head | apply Has.tail))) | (apply hpBox F; exact rfl; exact rfl; exact rfl; (· with_reducible first | exact pad_length _ | exact zeros64_length | exact tab_length _ _ | assumption)) | (apply hpAlloc F; exact rfl; exact rfl) | (apply hpSt F; exact rfl; exact rfl; exact rfl; exact rfl; (· repeat (first | exact Upd.head | apply Upd.tail)); (· with_reducible first | exact pad_length _ | exact zeros64_length | exact tab_length _ _ | assumption))))
      go_ret
      exact ⟨ret_int G2.out.symm, F.ext⟩
    | false =>
      rw [h2] at AR
      have G2 : Hid (resC p l L = 1) := Lib.hid (by rw [G.out, h2]; rfl)
      clear h2
      go_enter Tryz.func54, Tryz.ntmps54
      go_wp2_with (first | ((with_reducible show wpList _ _ _ _ _ _); first | (apply hpLd F; exact rfl; exact rfl; exact rfl; (· repeat (first | exact Has.head | apply Has.tail))) | (apply hpBox F; exact rfl; exact rfl; exact rfl; (· with_reducible first | exact pad_length _ | exact zeros64_length | exact tab_length _ _ | assumption)) | (apply hpAlloc F; exact rfl; exact rfl) | (apply hpSt F; exact rfl; exact rfl; exact rfl; exact rfl; (· repeat (first | exact Upd.head | apply Upd.tail)); (· with_reducible first | exact pad_length _ | exact zeros64_length | exact tab_length _ _ | assumption))))
      clear F
      intro gl w1 F
      go_wp2_with (first | (go_at_call 85; (with_reducible refine (FD.out _).mono ?_); rintro e w2 ⟨rfl, E2⟩; replace F := F.next E2) | (go_at_call 32; (with_reducible refine (FO.out _).mono ?_); rintro e w3 ⟨M3, c3, rfl, R3, E3⟩; replace F := F.next E3) | (go_at_call 86; (with_reducible refine (AR.out _ _ _ F.ext R3).mono ?_); rintro e w4 ⟨rfl, E4⟩; replace F := F.next E4) | ((with_reducible show wpList _ _ _ _ _ _); first | (apply hpLd F; exact rfl; exact rfl; exact rfl; (· repeat (first | exact Has.head | apply Has.tail))) | (apply hpBox F; exact rfl; exact rfl; exact rfl; (· with_reducible first | exact pad_length _ | exact zeros64_length | exact tab_length _ _ | assumption)) | (apply hpAlloc F; exact rfl; exact rfl) | (apply hpSt F; exact rfl; exact rfl; exact rfl; exact rfl; (· repeat (first | exact Upd.head | apply Upd.tail)); (· with_reducible first | exact pad_length _ | exact zeros64_length | exact tab_length _ _ | assumption))))
      go_ret
      exact ⟨ret_int G2.out.symm, F.ext⟩

set_option maxRecDepth 100000 in
set_option maxHeartbeats 1000000 in
theorem listCode_any (p high : Int) (l : List Int) (A : Option Addr) (cap : Nat) (L : List (List Int)) (hl : l.length = 64) (hb : IsB l) (w : World) (hL : PsAt w A L) (hB : ∀ x ∈ L, IsB x) :
    Calls Tryz.prog 31 #[.int .i64 p, .agg (u8s l), .slice A L.length cap, .int .i64 0, .int .i64 high] w fun e w' => e = .returned (.int .i64 (lstC p l L high)) ∧ Ext w w' := by
  have RC := Lib.hid fun W h => residuesCode_any p l A cap L hl hb W h hB
  have HL := Lib.hid hL
  have lm := hL.1
  have t0 : decide ((L.length : Int) < 0) = false := decide_eq_false (by omega)
  have F := Hp.start w
  rcases resC_01 p l L with h1 | h1
  · by_cases h2 : high < (L.length : Int)
    · have G : Hid (lstC p l L high = 2) := Lib.hid (by rw [lstC, h1, if_pos rfl, if_pos h2])
      have t1 : decide ((L.length : Int) > high) = true := decide_eq_true h2
      have t2 : decide (high < (L.length : Int)) = true := decide_eq_true h2
      rw [h1] at RC
      clear h1 hb hL hB
      go_enter Tryz.func31, Tryz.ntmps31
      go_wp2_with (first | ((with_reducible show wpList _ _ _ _ _ _); first | (apply hpLd F; exact rfl; exact rfl; exact rfl; (· repeat (first | exact Has.head | apply Has.tail))) | (apply hpBox F; exact rfl; exact rfl; exact rfl; (· with_reducible first | exact pad_length _ | exact zeros64_length | exact tab_length _ _ | assumption)) | (apply hpAlloc F; exact rfl; exact rfl) | (apply hpSt F; exact rfl; exact rfl; exact rfl; exact rfl; (· repeat (first | exact Upd.head | apply Upd.tail)); (· with_reducible first | exact pad_length _ | exact zeros64_length | exact tab_length _ _ | assumption))))
      clear F
      intro gl w1 F
      go_wp2_with (first | (go_at_call 54; (with_reducible refine (RC.out _ (HL.out.below F.ext)).mono ?_); rintro e w2 ⟨rfl, E2⟩; replace F := F.next E2) | ((with_reducible show wpList _ _ _ _ _ _); first | (apply hpLd F; exact rfl; exact rfl; exact rfl; (· repeat (first | exact Has.head | apply Has.tail))) | (apply hpBox F; exact rfl; exact rfl; exact rfl; (· with_reducible first | exact pad_length _ | exact zeros64_length | exact tab_length _ _ | assumption)) | (apply hpAlloc F; exact rfl; exact rfl) | (apply hpSt F; exact rfl; exact rfl; exact rfl; exact rfl; (· repeat (first | exact Upd.head | apply Upd.tail)); (· with_reducible first | exact pad_length _ | exact zeros64_length | exact tab_length _ _ | assumption))))
      go_ret
      exact ⟨ret_int G.out.symm, F.ext⟩
    · have G : Hid (lstC p l L high = 0) := Lib.hid (by rw [lstC, h1, if_pos rfl, if_neg h2])
      have t1 : decide ((L.length : Int) > high) = false := decide_eq_false h2
      have t2 : decide (high < (L.length : Int)) = false := decide_eq_false h2
      rw [h1] at RC
      clear h1 hb hL hB
      go_enter Tryz.func31, Tryz.ntmps31
      go_wp2_with (first | ((with_reducible show wpList _ _ _ _ _ _); first | (apply hpLd F; exact rfl; exact rfl; exact rfl; (· repeat (first | exact Has.head | apply Has.tail))) | (apply hpBox F; exact rfl; exact rfl; exact rfl; (· with_reducible first | exact pad_length _ | exact zeros64_length | exact tab_length _ _ | assumption)) | (apply hpAlloc F; exact rfl; exact rfl) | (apply hpSt F; exact rfl; exact rfl; exact rfl; exact rfl; (· repeat (first | exact Upd.head | apply Upd.tail)); (· with_reducible first | exact pad_length _ | exact zeros64_length | exact tab_length _ _ | assumption))))
      clear F
      intro gl w1 F
      go_wp2_with (first | (go_at_call 54; (with_reducible refine (RC.out _ (HL.out.below F.ext)).mono ?_); rintro e w2 ⟨rfl, E2⟩; replace F := F.next E2) | ((with_reducible show wpList _ _ _ _ _ _); first | (apply hpLd F; exact rfl; exact rfl; exact rfl; (· repeat (first | exact Has.head | apply Has.tail))) | (apply hpBox F; exact rfl; exact rfl; exact rfl; (· with_reducible first | exact pad_length _ | exact zeros64_length | exact tab_length _ _ | assumption)) | (apply hpAlloc F; exact rfl; exact rfl) | (apply hpSt F; exact rfl; exact rfl; exact rfl; exact rfl; (· repeat (first | exact Upd.head | apply Upd.tail)); (· with_reducible first | exact pad_length _ | exact zeros64_length | exact tab_length _ _ | assumption))))
      go_ret
      exact ⟨ret_int G.out.symm, F.ext⟩
  · have G : Hid (lstC p l L high = 1) := Lib.hid (by rw [lstC, h1]; rfl)
    rw [h1] at RC
    clear h1 hb hL hB
    go_enter Tryz.func31, Tryz.ntmps31
    go_wp2_with (first | ((with_reducible show wpList _ _ _ _ _ _); first | (apply hpLd F; exact rfl; exact rfl; exact rfl; (· repeat (first | exact Has.head | apply Has.tail))) | (apply hpBox F; exact rfl; exact rfl; exact rfl; (· with_reducible first | exact pad_length _ | exact zeros64_length | exact tab_length _ _ | assumption)) | (apply hpAlloc F; exact rfl; exact rfl) | (apply hpSt F; exact rfl; exact rfl; exact rfl; exact rfl; (· repeat (first | exact Upd.head | apply Upd.tail)); (· with_reducible first | exact pad_length _ | exact zeros64_length | exact tab_length _ _ | assumption))))
    clear F
    intro gl w1 F
    go_wp2_with (first | (go_at_call 54; (with_reducible refine (RC.out _ (HL.out.below F.ext)).mono ?_); rintro e w2 ⟨rfl, E2⟩; replace F := F.next E2) | ((with_reducible show wpList _ _ _ _ _ _); first | (apply hpLd F; exact rfl; exact rfl; exact rfl; (· repeat (first | exact Has.head | apply Has.tail))) | (apply hpBox F; exact rfl; exact rfl; exact rfl; (· with_reducible first | exact pad_length _ | exact zeros64_length | exact tab_length _ _ | assumption)) | (apply hpAlloc F; exact rfl; exact rfl) | (apply hpSt F; exact rfl; exact rfl; exact rfl; exact rfl; (· repeat (first | exact Upd.head | apply Upd.tail)); (· with_reducible first | exact pad_length _ | exact zeros64_length | exact tab_length _ _ | assumption))))
    go_ret
    exact ⟨ret_int G.out.symm, F.ext⟩

end Go.Proofs.YtaemiknaiccijaaGreat

/- The reference's Frobenius of residues. -/
namespace Go.Proofs.YtaemiknaiccijaaGreat
open Go.RowKit

/-- The Frobenius map, taken n times. -/
def frobX (p : Int) (m : List Int) : Nat → List Int → List Int
  | 0, a => a
  | n + 1, a => frobX p m n (powI p a p.toNat m)
theorem frobX_spec {p : Int} (hp : PrimeP p) {m : List Int} (hm : Can p m) (nm : 0 < m.length) : ∀ n a, Can p a → a.length < m.length → Can p (frobX p m n a) ∧ (frobX p m n a).length < m.length
  | 0, a, h1, h2 => ⟨h1, h2⟩
  | n + 1, a, h1, h2 => by
    have s := powI_spec hp h1 hm nm p.toNat
    exact frobX_spec hp hm nm n _ s.1 s.2
/-- The Frobenius map, taken k times, as the program reckons it. -/
def frobY (p : Int) (m a : List Int) (k : Nat) : List Int := frobX p m (k % (m.length - 1)) a
def FbrRel (p : Int) (m a0 : List Int) (n0 : Nat) (w : World) (ga gm g8 f : Nat) (i : Value) (wr : World) : Prop :=
  ∃ a : List Int, f ≤ n0 ∧ i = .int .i64 f ∧ Can p a ∧ a.length < m.length ∧ frobX p m f a = frobX p m n0 a0 ∧ Hp w wr [(g8, zeros64), (gm, pad m), (ga, pad a)]

set_option maxRecDepth 100000 in
set_option maxHeartbeats 1000000 in
theorem l03Frobenius_any (p : Int) (a0 m : List Int) (k : Nat) (hp : PrimeP p) (ha : Can p a0) (hm : Can p m) (m2 : 2 ≤ m.length) (lm : m.length ≤ 64) (la : a0.length < m.length) (hk : k ≤ 1000) (w : World) :
    Calls Tryz.prog 53 #[.int .i64 p, .agg (u8s (pad a0)), .int .i64 k, .agg (u8s (pad m))] w fun e w' => e = .returned (.agg (u8s (pad (frobY p m a0 k)))) ∧ Ext w w' := by
  have hz := zlit
  have HP := Lib.hid hp
  have HA := Lib.hid ha
  have HM := Lib.hid hm
  have lo := hp.lo
  have hi := hp.hi
  have DG := Lib.hid fun W => l01Deg_pad m ((m.length : Int) - 1) hm.nz lm rfl W
  obtain ⟨n0, hn0⟩ : ∃ n0, n0 = k % (m.length - 1) := ⟨_, rfl⟩
  have GF : Hid (frobX p m n0 a0 = frobY p m a0 k) := Lib.hid (by rw [hn0]; rfl)
  have nb : n0 < 64 := by have := Nat.mod_lt k (show m.length - 1 > 0 by omega); omega
  have MD : Hid ((k : Int) % ((m.length : Int) - 1) = (n0 : Int)) := Lib.hid (by
    rw [hn0]
    have : ((m.length : Int) - 1) = ((m.length - 1 : Nat) : Int) := by omega
    rw [this]; exact (Int.natCast_emod k (m.length - 1)).symm)
  have PN : Hid (((p.toNat : Nat) : Int) = p) := Lib.hid (by omega)
  clear hp ha hm hn0
  have d0 : (m.length : Int) - 1 ≠ 0 := by omega
  have F := Hp.start w
  go_enter Tryz.func53, Tryz.ntmps53
  go_wp2_with (first | ((with_reducible show wpList _ _ _ _ _ _); first | (apply hpLd F; exact rfl; exact rfl; exact rfl; (· repeat (first | exact Has.head | apply Has.tail))) | (apply hpBox F; exact rfl; exact rfl; exact rfl; (· with_reducible first | exact pad_length _ | exact zeros64_length | exact tab_length _ _ | assumption)) | (apply hpAlloc F; exact rfl; exact rfl) | (apply hpSt F; exact rfl; exact rfl; exact rfl; exact rfl; (· repeat (first | exact Upd.head | apply Upd.tail)); (· with_reducible first | exact pad_length _ | exact zeros64_length | exact tab_length _ _ | assumption))))
  clear F
  intro ga w1 F
  go_wp2_with (first | ((with_reducible show wpList _ _ _ _ _ _); first | (apply hpLd F; exact rfl; exact rfl; exact rfl; (· repeat (first | exact Has.head | apply Has.tail))) | (apply hpBox F; exact rfl; exact rfl; exact rfl; (· with_reducible first | exact pad_length _ | exact zeros64_length | exact tab_length _ _ | assumption)) | (apply hpAlloc F; exact rfl; exact rfl) | (apply hpSt F; exact rfl; exact rfl; exact rfl; exact rfl; (· repeat (first | exact Upd.head | apply Upd.tail)); (· with_reducible first | exact pad_length _ | exact zeros64_length | exact tab_length _ _ | assumption))))
  clear F
  intro gm w2 F
  go_wp2_with (first | ((with_reducible show wpList _ _ _ _ _ _); first | (apply hpLd F; exact rfl; exact rfl; exact rfl; (· repeat (first | exact Has.head | apply Has.tail))) | (apply hpBox F; exact rfl; exact rfl; exact rfl; (· with_reducible first | exact pad_length _ | exact zeros64_length | exact tab_length _ _ | assumption)) | (apply hpAlloc F; exact rfl; exact rfl) | (apply hpSt F; exact rfl; exact rfl; exact rfl; exact rfl; (· repeat (first | exact Upd.head | apply Upd.tail)); (· with_reducible first | exact pad_length _ | exact zeros64_length | exact tab_length _ _ | assumption))))
  clear F
  intro g8 w3 F
  go_wp2_with (first | (go_at_call 49; (with_reducible refine (DG.out _).mono ?_); rintro e w4 ⟨rfl, E4⟩; replace F := F.next E4) | ((with_reducible show wpList _ _ _ _ _ _); first | (apply hpLd F; exact rfl; exact rfl; exact rfl; (· repeat (first | exact Has.head | apply Has.tail))) | (apply hpBox F; exact rfl; exact rfl; exact rfl; (· with_reducible first | exact pad_length _ | exact zeros64_length | exact tab_length _ _ | assumption)) | (apply hpAlloc F; exact rfl; exact rfl) | (apply hpSt F; exact rfl; exact rfl; exact rfl; exact rfl; (· repeat (first | exact Upd.head | apply Upd.tail)); (· with_reducible first | exact pad_length _ | exact zeros64_length | exact tab_length _ _ | assumption))))
  rw [MD.out]
  go_loopg [9] n0 (fun f i wr => FbrRel p m a0 n0 w ga gm g8 f i wr)
  case atStart => exact ⟨a0, Nat.le_refl _, rfl, HA.out, la, rfl, F⟩
  case round =>
    clear F
    obtain ⟨a, hf, rfl, hc, hl, hs, F⟩ := hrel
    have HC := Lib.hid hc
    have HS := Lib.hid hs
    clear hc hs
    by_cases g0 : gk = 0
    · subst g0
      have G : Hid (frobY p m a0 k = a) := Lib.hid (by rw [← GF.out, ← HS.out]; rfl)
      go_wp2_with (first | ((with_reducible show wpList _ _ _ _ _ _); first | (apply hpLd F; exact rfl; exact rfl; exact rfl; (· repeat (first | exact Has.head | apply Has.tail))) | (apply hpBox F; exact rfl; exact rfl; exact rfl; (· with_reducible first | exact pad_length _ | exact zeros64_length | exact tab_length _ _ | assumption)) | (apply hpAlloc F; exact rfl; exact rfl) | (apply hpSt F; exact rfl; exact rfl; exact rfl; exact rfl; (· repeat (first | exact Upd.head | apply Upd.tail)); (· with_reducible first | exact pad_length _ | exact zeros64_length | exact tab_length _ _ | assumption))))
      clear F
      intro w5 F
      try simp only [List.set_cons_zero, List.set_cons_succ] at F
      go_wp2_with (first | ((with_reducible show wpList _ _ _ _ _ _); first | (apply hpLd F; exact rfl; exact rfl; exact rfl; (· repeat (first | exact Has.head | apply Has.tail))) | (apply hpBox F; exact rfl; exact rfl; exact rfl; (· with_reducible first | exact pad_length _ | exact zeros64_length | exact tab_length _ _ | assumption)) | (apply hpAlloc F; exact rfl; exact rfl) | (apply hpSt F; exact rfl; exact rfl; exact rfl; exact rfl; (· repeat (first | exact Upd.head | apply Upd.tail)); (· with_reducible first | exact pad_length _ | exact zeros64_length | exact tab_length _ _ | assumption))))
      exact bodyPost_ret (res_c rfl rfl (F.at_ 0 rfl) (pad_length _) Tryz.underlying25 infoPoly) rfl ⟨by rw [G.out], F.ext⟩
    · obtain ⟨f, rfl⟩ : ∃ f, gk = f + 1 := ⟨gk - 1, by omega⟩
      have t1 : decide (((f + 1 : Nat) : Int) > 0) = true := decide_eq_true (by omega)
      have CALL' := fun W => l01PowMod_any p a m p.toNat (by omega) HP.out HC.out HM.out (by omega) lm (by omega) W
      rw [PN.out, powM_eq HP.out HM.out (by omega)] at CALL'
      have CALL := Lib.hid CALL'
      have PS := Lib.hid (powI_spec HP.out HC.out HM.out (by omega) p.toNat)
      have PL := PS.out.2
      clear CALL' g0
      go_wp2_with (first | (go_at_call 67; (with_reducible refine (CALL.out _).mono ?_); rintro e w4 ⟨rfl, E4⟩; replace F := F.next E4) | ((with_reducible show wpList _ _ _ _ _ _); first | (apply hpLd F; exact rfl; exact rfl; exact rfl; (· repeat (first | exact Has.head | apply Has.tail))) | (apply hpBox F; exact rfl; exact rfl; exact rfl; (· with_reducible first | exact pad_length _ | exact zeros64_length | exact tab_length _ _ | assumption)) | (apply hpAlloc F; exact rfl; exact rfl) | (apply hpSt F; exact rfl; exact rfl; exact rfl; exact rfl; (· repeat (first | exact Upd.head | apply Upd.tail)); (· with_reducible first | exact pad_length _ | exact zeros64_length | exact tab_length _ _ | assumption))))
      clear F
      intro w5 F
      try simp only [List.set_cons_zero, List.set_cons_succ] at F
      go_wp2
      go_roundg f
      case measure => omega
      case rel => exact ⟨_, by omega, by go_num, PS.out.1, PL, HS.out, F⟩

end Go.Proofs.YtaemiknaiccijaaGreat

/- The program's Frobenius of residues. -/
namespace Go.Proofs.YtaemiknaiccijaaGreat
open Go.RowKit

def FrbRel (p : Int) (m a0 : List Int) (n0 : Nat) (w1 : World) (f : Nat) (va i : Value) (wr : World) : Prop :=
  ∃ (a : List Int) (j : Nat), f + j = n0 ∧ i = .int .i64 j ∧ Can p a ∧ a.length < m.length ∧ frobX p m f a = frobX p m n0 a0 ∧ Rv wr va a ∧ Ext w1 wr

set_option maxRecDepth 100000 in
set_option maxHeartbeats 1000000 in
theorem frobenius_any (p : Int) (M A : Option Addr) (cm ca : Nat) (m a0 : List Int) (k : Nat) (hp : PrimeP p) (ha : Can p a0) (hm : Can p m) (m2 : 2 ≤ m.length) (lm : m.length ≤ 64) (la : a0.length < m.length) (hk : k ≤ 1000) (w : World) (rm : RowAt w M m) (ra : RowAt w A a0) :
    Calls Tryz.prog 60 #[.agg #[.int .i64 p, .slice M m.length cm], .slice A a0.length ca, .int .i64 k] w (Row (frobY p m a0 k) w) := by
  have HP := Lib.hid hp
  have HA := Lib.hid ha
  have HM := Lib.hid hm
  have RM := Lib.hid rm
  have RA := Lib.hid ra
  have lo := hp.lo
  have hi := hp.hi
  obtain ⟨n0, hn0⟩ : ∃ n0, n0 = k % (m.length - 1) := ⟨_, rfl⟩
  have GF : Hid (frobX p m n0 a0 = frobY p m a0 k) := Lib.hid (by rw [hn0]; rfl)
  have nb : n0 < 64 := by have := Nat.mod_lt k (show m.length - 1 > 0 by omega); omega
  have MD : Hid ((k : Int) % ((m.length : Int) - 1) = (n0 : Int)) := Lib.hid (by
    rw [hn0]
    have : ((m.length : Int) - 1) = ((m.length - 1 : Nat) : Int) := by omega
    rw [this]; exact (Int.natCast_emod k (m.length - 1)).symm)
  have PN : Hid (((p.toNat : Nat) : Int) = p) := Lib.hid (by omega)
  clear hp ha hm hn0 rm ra
  have d0 : (m.length : Int) - 1 ≠ 0 := by omega
  have E0 := (Ext.refl w).alloc (.cells #[.int .i64 p, .slice M m.length cm] 54)
  have C0 := Lib.hid (cell_of (heap_alloc_new w (.cells #[.int .i64 p, .slice M m.length cm] 54)) (j := 0) rfl)
  have C1 := Lib.hid (cell_of (heap_alloc_new w (.cells #[.int .i64 p, .slice M m.length cm] 54)) (j := 1) rfl)
  go_enter Tryz.func60, Tryz.ntmps60
  go_wp2_with (first | (go_at_call 79; (with_reducible refine (degree_any M m.length cm (by omega) _).mono ?_); rintro e w' ⟨rfl, rfl⟩))
  rw [MD.out]
  go_loopg [1, 12] n0 (fun f va i wr => FrbRel p m a0 n0 (w.alloc (.cells #[.int .i64 p, .slice M m.length cm] 54)) f va i wr)
  case atStart => exact ⟨a0, 0, rfl, rfl, HA.out, la, rfl, ⟨A, ca, rfl, RA.out.below E0⟩, Ext.refl _⟩
  case round =>
    obtain ⟨a, j, hf, rfl, hc, hl, hs, ⟨A1, c1, rfl, Ra⟩, E⟩ := hrel
    have HC := Lib.hid hc
    have HS := Lib.hid hs
    have RAa := Lib.hid Ra
    clear hc hs Ra
    by_cases g0 : gk = 0
    · subst g0
      have t1 : decide ((j : Int) < (n0 : Int)) = false := decide_eq_false (by omega)
      have G : Hid (a = frobY p m a0 k) := Lib.hid (by rw [← GF.out, ← HS.out]; rfl)
      go_wp2
      go_ret
      rw [← G.out]
      exact ⟨A1, c1, rfl, RAa.out, E0.tr E⟩
    · obtain ⟨f, rfl⟩ : ∃ f, gk = f + 1 := ⟨gk - 1, by omega⟩
      have t1 : decide ((j : Int) < (n0 : Int)) = true := decide_eq_true (by omega)
      have c0 := cellE C0.out E
      have c1' := cellE C1.out E
      have PW' := power_any p A1 M c1 cm a m p.toNat (by omega) HP.out HC.out HM.out (by omega) (by omega) (by omega) wr RAa.out (RM.out.below (E0.tr E))
      rw [PN.out] at PW'
      have PW := Lib.hid PW'
      have PS := Lib.hid (powI_spec HP.out HC.out HM.out (by omega) p.toNat)
      have PL := PS.out.2
      clear PW' g0
      go_wp2_with (first | (go_at_call 93; (with_reducible refine PW.out.mono ?_); rintro e w6 ⟨A6, k6, rfl, R6, E6⟩))
      go_roundg f
      case measure => omega
      case rel => exact ⟨_, j + 1, by omega, by go_num, PS.out.1, PL, HS.out, ⟨A6, k6, rfl, R6⟩, E.tr E6⟩

end Go.Proofs.YtaemiknaiccijaaGreat

/- The laws' own functions: copies of arrays, slices of whole numbers compared and marked. -/
namespace Go.Proofs.YtaemiknaiccijaaGreat
open Go.RowKit

def copyTo (l : List Int) (n : Nat) : List Int := tab 64 fun j => if j < n then at0 l j else 0
theorem copyTo_zero (l : List Int) : copyTo l 0 = zeros64 := by rw [zeros64_tab]; exact tab_congr fun j _ => if_neg (by omega)
theorem copyTo_step (l : List Int) (n : Nat) (h : n < 64) : (copyTo l n).set n (at0 l n) = copyTo l (n + 1) := by
  unfold copyTo
  rw [tab_set 64 _ _ _ h]
  refine tab_congr fun j _ => ?_
  by_cases e : j = n
  · subst e; rw [if_pos rfl, if_pos (by omega)]
  · rw [if_neg e]
    by_cases h2 : j < n
    · rw [if_pos h2, if_pos (by omega)]
    · rw [if_neg h2, if_neg (by omega)]
theorem copyTo_end {l : List Int} (hl : l.length = 64) : copyTo l 64 = l :=
  (tab_congr fun j hj => if_pos hj).trans (tab_self' hl)
theorem copyTo_length (l : List Int) (n : Nat) : (copyTo l n).length = 64 := tab_length _ _
def TpRel (l : List Int) (w1 : World) (g2 g3 f : Nat) (i : Value) (wr : World) : Prop :=
  ∃ n : Nat, f + n = 64 ∧ i = .int .i64 n ∧ Hp w1 wr [(g3, copyTo l n), (g2, zeros64)]

set_option maxRecDepth 100000 in
set_option maxHeartbeats 1000000 in
theorem toPoly_any (l : List Int) (hl : l.length = 64) (hb : IsB l) (w : World) :
    Calls Tryz.prog 9 #[.agg (u8s l)] w fun e w' => e = .returned (.agg (u8s l)) ∧ Ext w w' := by
  have hz := zlit
  have A0 := Lib.hid (Arr.new w 22 l)
  have E0 := (Ext.refl w).alloc (.cells (u8s l) 22)
  have F := Hp.start (w.alloc (.cells (u8s l) 22))
  have HB := Lib.hid hb
  clear hb
  go_enter Tryz.func9, Tryz.ntmps9
  go_wp2_with (first | ((with_reducible show wpList _ _ _ _ _ _); first | (apply hpLd F; exact rfl; exact rfl; exact rfl; (· repeat (first | exact Has.head | apply Has.tail))) | (apply hpBox F; exact rfl; exact rfl; exact rfl; (· with_reducible first | exact pad_length _ | exact zeros64_length | exact tab_length _ _ | assumption)) | (apply hpAlloc F; exact rfl; exact rfl) | (apply hpSt F; exact rfl; exact rfl; exact rfl; exact rfl; (· repeat (first | exact Upd.head | apply Upd.tail)); (· with_reducible first | exact pad_length _ | exact zeros64_length | exact tab_length _ _ | assumption))))
  clear F
  intro g2 w2 F
  go_wp2_with (first | ((with_reducible show wpList _ _ _ _ _ _); first | (apply hpLd F; exact rfl; exact rfl; exact rfl; (· repeat (first | exact Has.head | apply Has.tail))) | (apply hpBox F; exact rfl; exact rfl; exact rfl; (· with_reducible first | exact pad_length _ | exact zeros64_length | exact tab_length _ _ | assumption)) | (apply hpAlloc F; exact rfl; exact rfl) | (apply hpSt F; exact rfl; exact rfl; exact rfl; exact rfl; (· repeat (first | exact Upd.head | apply Upd.tail)); (· with_reducible first | exact pad_length _ | exact zeros64_length | exact tab_length _ _ | assumption))))
  clear F
  intro g3 w3 F
  go_wp2_with (first | ((with_reducible show wpList _ _ _ _ _ _); first | (apply hpLd F; exact rfl; exact rfl; exact rfl; (· repeat (first | exact Has.head | apply Has.tail))) | (apply hpBox F; exact rfl; exact rfl; exact rfl; (· with_reducible first | exact pad_length _ | exact zeros64_length | exact tab_length _ _ | assumption)) | (apply hpAlloc F; exact rfl; exact rfl) | (apply hpSt F; exact rfl; exact rfl; exact rfl; exact rfl; (· repeat (first | exact Upd.head | apply Upd.tail)); (· with_reducible first | exact pad_length _ | exact zeros64_length | exact tab_length _ _ | assumption))))
  go_loopg [4] 64 (fun f i wr => TpRel l (w.alloc (.cells (u8s l) 22)) g2 g3 f i wr)
  case atStart => exact ⟨0, rfl, rfl, by rw [copyTo_zero]; exact F⟩
  case round =>
    clear F
    obtain ⟨n, hf, rfl, F⟩ := hrel
    by_cases hn : n < 64
    · have t1 : decide ((n : Int) < 64) = true := decide_eq_true (by omega)
      have c1 := cellE (A0.out.cell n (by omega)) F.ext
      have f1 := F.free 0 rfl n
      have c2 := F.cell 0 rfl n (by omega)
      have b1 := HB.out n
      have i6 : (n : Int) < 64 := by omega
      have i7 : (0 : Int) ≤ (n : Int) := by omega
      have ST := Lib.hid (copyTo_step l n hn)
      go_wp2
      go_roundg (gk - 1)
      case measure => omega
      case rel => exact ⟨n + 1, by omega, by go_num, by rw [← ST.out]; exact F.setCell 0 rfl n _⟩
    · have t1 : decide ((n : Int) < 64) = false := decide_eq_false (by omega)
      have G : Hid (copyTo l n = l) := Lib.hid (by rw [show n = 64 by omega]; exact copyTo_end hl)
      rw [G.out] at F
      go_wp2_with (first | ((with_reducible show wpList _ _ _ _ _ _); first | (apply hpLd F; exact rfl; exact rfl; exact rfl; (· repeat (first | exact Has.head | apply Has.tail))) | (apply hpBox F; exact rfl; exact rfl; exact rfl; (· with_reducible first | exact pad_length _ | exact zeros64_length | exact tab_length _ _ | assumption)) | (apply hpAlloc F; exact rfl; exact rfl) | (apply hpSt F; exact rfl; exact rfl; exact rfl; exact rfl; (· repeat (first | exact Upd.head | apply Upd.tail)); (· with_reducible first | exact pad_length _ | exact zeros64_length | exact tab_length _ _ | assumption))))
      clear F
      intro w7 F
      try simp only [List.set_cons_zero, List.set_cons_succ] at F
      go_wp2_with (first | ((with_reducible show wpList _ _ _ _ _ _); first | (apply hpLd F; exact rfl; exact rfl; exact rfl; (· repeat (first | exact Has.head | apply Has.tail))) | (apply hpBox F; exact rfl; exact rfl; exact rfl; (· with_reducible first | exact pad_length _ | exact zeros64_length | exact tab_length _ _ | assumption)) | (apply hpAlloc F; exact rfl; exact rfl) | (apply hpSt F; exact rfl; exact rfl; exact rfl; exact rfl; (· repeat (first | exact Upd.head | apply Upd.tail)); (· with_reducible first | exact pad_length _ | exact zeros64_length | exact tab_length _ _ | assumption))))
      exact bodyPost_ret (res_c rfl rfl (F.at_ 1 rfl) hl Tryz.underlying25 infoPoly) rfl ⟨rfl, E0.tr F.ext⟩

def EqRel (L : List Int) (w : World) (f : Nat) (i : Value) (wr : World) : Prop :=
  ∃ n : Nat, f + n = L.length ∧ i = .int .i64 n ∧ Ext w wr
set_option maxRecDepth 100000 in
set_option maxHeartbeats 1000000 in
/-- Two slices that read the same. -/
theorem eqInts_same (A B : Option Addr) (ca cb : Nat) (L : List Int) (w : World) (ra : RowAt w A L) (rb : RowAt w B L) :
    Calls Tryz.prog 22 #[.slice A L.length ca, .slice B L.length cb] w fun e w' => e = .returned (.bool true) ∧ Ext w w' := by
  have RA := Lib.hid ra
  have RB := Lib.hid rb
  have lm := ra.1
  clear ra rb
  go_enter Tryz.func22, Tryz.ntmps22
  go_wp2
  go_loopg [5] L.length (fun f i wr => EqRel L w f i wr)
  case atStart => exact ⟨0, by omega, rfl, Ext.refl _⟩
  case round =>
    obtain ⟨n, hf, rfl, E⟩ := hrel
    by_cases hn : n < L.length
    · have t1 : decide ((n : Int) < (L.length : Int)) = true := decide_eq_true (by omega)
      obtain ⟨b1, o1, rfl, _, h1⟩ := (RA.out.below E).place (by omega)
      obtain ⟨b2, o2, rfl, _, h2⟩ := (RB.out.below E).place (by omega)
      have c1 := h1 n hn
      have c2 := h2 n hn
      have i1 : (n : Int) < (L.length : Int) := by omega
      clear h1 h2
      go_wp2
      go_quiet (fail)
      go_wp2
      go_roundg (gk - 1)
      case measure => omega
      case rel => exact ⟨n + 1, by omega, by go_num, Ext.drewN E _⟩
    · have t1 : decide ((n : Int) < (L.length : Int)) = false := decide_eq_false (by omega)
      go_wp2
      go_ret
      exact ⟨rfl, E⟩

def marks (k : Int) (n : Nat) : List Int := tab n fun j => k + j
theorem marks_length (k : Int) (n : Nat) : (marks k n).length = n := tab_length _ _
def markTo (L : List Int) (k : Int) (n : Nat) : List Int := tab L.length fun j => if j < n then k + j else at0 L j
theorem markTo_zero (L : List Int) (k : Int) : markTo L k 0 = L := (tab_congr fun j _ => if_neg (by omega)).trans (tab_self L)
theorem markTo_length (L : List Int) (k : Int) (n : Nat) : (markTo L k n).length = L.length := tab_length _ _
theorem markTo_end (L : List Int) (k : Int) : markTo L k L.length = marks k L.length := tab_congr fun j hj => if_pos hj
theorem markTo_step (L : List Int) (k : Int) (n : Nat) (h : n < L.length) : (markTo L k n).set n (k + n) = markTo L k (n + 1) := by
  unfold markTo
  rw [tab_set _ _ _ _ h]
  refine tab_congr fun j _ => ?_
  by_cases e : j = n
  · subst e; rw [if_pos rfl, if_pos (by omega)]
  · rw [if_neg e]
    by_cases h2 : j < n
    · rw [if_pos h2, if_pos (by omega)]
    · rw [if_neg h2, if_neg (by omega)]
theorem grownBy_set {w wr : World} {g : Nat} (h : w.grownBy wr (some g)) (j : Nat) (v : Value) : w.grownBy (wr.setCell ⟨g, j, none⟩ v) (some g) :=
  ⟨h.os, h.tape, h.output, by simpa [World.setCell] using h.size, fun k hk hne => by rw [heap_setCell_other _ _ k _ (fun e => hne (by rw [e]))]; exact h.block k hk hne⟩
theorem grownBy_self (w : World) (r : Option Nat) : w.grownBy w r := ⟨rfl, rfl, rfl, Nat.le_refl _, fun _ _ _ => rfl⟩
def MkRel (L : List Int) (k : Int) (g : Nat) (w : World) (f : Nat) (vk i : Value) (wr : World) : Prop :=
  ∃ n : Nat, f + n = L.length ∧ i = .int .i64 n ∧ vk = .int .i64 (k + n) ∧ Ints wr g 2 (markTo L k n) ∧ w.grownBy wr (some g)
set_option maxRecDepth 100000 in
set_option maxHeartbeats 1000000 in
theorem markInts_any (g cap : Nat) (L : List Int) (k : Int) (hk : 0 ≤ k) (hk2 : k ≤ 1000) (hl : L.length ≤ 1000) (w : World) (h : Ints w g 2 L) :
    Calls Tryz.prog 23 #[.slice (some ⟨g, 0, none⟩) L.length cap, .int .i64 k] w fun e w' => e = .returned (.int .i64 (k + L.length)) ∧ Ints w' g 2 (marks k L.length) ∧ w.grownBy w' (some g) := by
  have H := Lib.hid h
  clear h
  go_enter Tryz.func23, Tryz.ntmps23
  go_wp2
  go_loopg [1, 5] L.length (fun f vk i wr => MkRel L k g w f vk i wr)
  case atStart => exact ⟨0, by omega, rfl, by go_num, by rw [markTo_zero]; exact H.out, grownBy_self w _⟩
  case round =>
    obtain ⟨n, hf, rfl, rfl, hI, hG⟩ := hrel
    have HI := Lib.hid hI
    have HG := Lib.hid hG
    clear hI hG
    by_cases hn : n < L.length
    · have t1 : decide ((n : Int) < (L.length : Int)) = true := decide_eq_true (by omega)
      have c1 := HI.out.cell n (by rw [markTo_length]; exact hn)
      have f1 := HI.out.free n
      have i1 : (n : Int) < (L.length : Int) := by omega
      have ST := Lib.hid (markTo_step L k n hn)
      go_wp2
      go_roundg (gk - 1)
      case measure => omega
      case rel => exact ⟨n + 1, by omega, by go_num, by go_num, by rw [← ST.out]; exact HI.out.set n _, grownBy_set HG.out _ _⟩
    · have t1 : decide ((n : Int) < (L.length : Int)) = false := decide_eq_false (by omega)
      have en : Hid (n = L.length) := Lib.hid (by omega)
      go_wp2
      go_ret
      exact ⟨ret_int (by rw [en.out]), by have := HI.out; rwa [en.out, markTo_end] at this, HG.out⟩

def HdRel (n0 : Nat) (k : Int) (f : Nat) (vk i : Value) (w wr : World) : Prop :=
  ∃ n : Nat, f + n = n0 ∧ i = .int .i64 n ∧ vk = .int .i64 (k + n) ∧ w = wr
set_option maxRecDepth 100000 in
set_option maxHeartbeats 1000000 in
theorem heldInts_any (g cap n0 : Nat) (k : Int) (hk : 0 ≤ k) (hk2 : k ≤ 1000) (hl : n0 ≤ 1000) (w : World) (h : Ints w g 2 (marks k n0)) :
    Calls Tryz.prog 24 #[.slice (some ⟨g, 0, none⟩) n0 cap, .int .i64 k] w fun e w' => e = .returned (.int .i64 (k + n0)) ∧ w = w' := by
  have H := Lib.hid h
  clear h
  go_enter Tryz.func24, Tryz.ntmps24
  go_wp2
  go_loopg [1, 5] n0 (fun f vk i wr => HdRel n0 k f vk i w wr)
  case atStart => exact ⟨0, by omega, rfl, by go_num, rfl⟩
  case round =>
    obtain ⟨n, hf, rfl, rfl, rfl⟩ := hrel
    by_cases hn : n < n0
    · have t1 : decide ((n : Int) < (n0 : Int)) = true := decide_eq_true (by omega)
      have c1 := H.out.cell n (by rw [marks_length]; exact hn)
      rw [show at0 (marks k n0) n = k + n from at0_tab_lt _ hn] at c1
      have i1 : (n : Int) < (n0 : Int) := by omega
      go_wp2
      go_roundg (gk - 1)
      case measure => omega
      case rel => exact ⟨n + 1, by omega, by go_num, by go_num, rfl⟩
    · have t1 : decide ((n : Int) < (n0 : Int)) = false := decide_eq_false (by omega)
      have en : Hid (n = n0) := Lib.hid (by omega)
      go_wp2
      go_ret
      exact ⟨ret_int (by rw [en.out]), rfl⟩

end Go.Proofs.YtaemiknaiccijaaGreat

/- Slices of polynomials and of rows that a call owns: they may be appended to. -/
namespace Go.Proofs.YtaemiknaiccijaaGreat
open Go.RowKit

/-! ### polynomials -/
/-- Block g holds these polynomials, one behind the other, and perhaps more room. -/
structure PB (w : World) (g : Nat) (L : List (List Int)) : Prop where
  len : ∀ x ∈ L, x.length = 64
  blk : ∃ C, w.heap[g]? = some (.cells C 25 (0, 0)) ∧ L.length * 64 ≤ C.size
  at_ : ∀ i x, L[i]? = some x → w.rangeAt g (i * 64) (u8s x).toList
theorem PB.lt {w : World} {g : Nat} {L : List (List Int)} (h : PB w g L) : g < w.heap.size := by obtain ⟨C, hC, _⟩ := h.blk; exact (Array.getElem?_eq_some_iff.1 hC).1
theorem PB.same {w w' : World} {g : Nat} {L : List (List Int)} (h : PB w g L) (hb : w'.heap[g]? = w.heap[g]?) : PB w' g L :=
  ⟨h.len, by obtain ⟨C, hC, hs⟩ := h.blk; exact ⟨C, hb.trans hC, hs⟩, fun i x hx j v hv => by
    rw [World.cell?_of_block (a := ⟨g, i * 64 + j, none⟩) hb]; exact h.at_ i x hx j v hv⟩
theorem PB.ext {w w' : World} {g : Nat} {L : List (List Int)} (h : PB w g L) (hE : Ext w w') : PB w' g L := h.same (hE.block g h.lt)
theorem PB.grown {w w' : World} {g k : Nat} {L : List (List Int)} (h : PB w g L) (hg : w.grownBy w' (some k)) (hne : g ≠ k) : PB w' g L := h.same (hg.block g h.lt fun e => hne (Option.some.inj e))
theorem PB.ps {w : World} {g : Nat} {L : List (List Int)} (h : PB w g L) (hm : L.length ≤ 2000000) : PsAt w (some ⟨g, 0, none⟩) L :=
  ⟨hm, h.len, fun _ => ⟨g, 0, rfl, fun i x hx => by rw [Nat.zero_add]; exact h.at_ i x hx⟩⟩
theorem PB.free {w : World} {g : Nat} {L : List (List Int)} (h : PB w g L) (j : Nat) : w.frozen? ⟨g, j, none⟩ = false := by
  obtain ⟨C, hC, _⟩ := h.blk
  exact frozen_of_row _ _ _ _ _ hC
theorem PB.cell {w : World} {g : Nat} {L : List (List Int)} (h : PB w g L) {i : Nat} {x : List Int} (hx : L[i]? = some x) (j : Nat) (hj : j < 64) : w.cell? ⟨g, i * 64 + j, none⟩ = some (.int .u8 (at0 x j)) :=
  range_u8s.1 (h.at_ i x hx) j (by rw [h.len x (List.mem_of_getElem? hx)]; exact hj)
/-- One byte of one polynomial is written. -/
theorem PB.setByte {w : World} {g : Nat} {L : List (List Int)} (h : PB w g L) {i : Nat} {x : List Int} (hx : L[i]? = some x) (j : Nat) (hj : j < 64) (y : Int) : PB (w.setCell ⟨g, i * 64 + j, none⟩ (.int .u8 y)) g (L.set i (x.set j y)) := by
  have hi := (List.getElem?_eq_some_iff.1 hx).1
  refine ⟨fun z hz => ?_, ?_, fun k z hz => ?_⟩
  · rcases List.mem_or_eq_of_mem_set hz with hz | rfl
    · exact h.len z hz
    · rw [List.length_set]; exact h.len x (List.mem_of_getElem? hx)
  · obtain ⟨C, hC, hs⟩ := h.blk
    refine ⟨_, heap_setCell_same _ _ _ _ _ _ hC, by rw [List.length_set]; simpa using hs⟩
  · rw [range_u8s]
    intro t ht
    have zl : z.length = 64 := by
      rcases List.mem_or_eq_of_mem_set (List.mem_of_getElem? hz) with hz' | rfl
      · exact h.len z hz'
      · rw [List.length_set]; exact h.len x (List.mem_of_getElem? hx)
    obtain ⟨C, hC, hs⟩ := h.blk
    have hk : k < L.length := by have := (List.getElem?_eq_some_iff.1 hz).1; simpa using this
    by_cases e : k = i
    · subst e
      have ez : z = x.set j y := by rw [List.getElem?_set, if_pos rfl, if_pos hi] at hz; exact (Option.some.inj hz).symm
      subst ez
      by_cases et : t = j
      · subst et
        rw [cell_of_row _ _ _ _ _ _ (heap_setCell_same _ _ _ _ _ _ hC), at0_set, if_pos ⟨rfl, by rw [h.len x (List.mem_of_getElem? hx)]; exact hj⟩]
        have : k * 64 + t < C.size := by have := Nat.mul_le_mul_right 64 (show k + 1 ≤ L.length from hk); omega
        simp [this]
      · have hne : (⟨g, k * 64 + j, none⟩ : Addr) ≠ ⟨g, k * 64 + t, none⟩ := by intro h'; injection h' with h1 h2; omega
        rw [at0_set, if_neg (fun h' => et h'.1.symm)]
        exact (World.cell?_setCell_other _ _ _ _ hne).trans (h.cell hx t (by omega))
    · have hz' : L[k]? = some z := by rw [List.getElem?_set, if_neg (fun h' => e h'.symm)] at hz; exact hz
      have hne : (⟨g, i * 64 + j, none⟩ : Addr) ≠ ⟨g, k * 64 + t, none⟩ := by
        intro h'; injection h' with h1 h2
        rcases Nat.lt_or_gt_of_ne e with h3 | h3
        · have := Nat.mul_le_mul_right 64 (show k + 1 ≤ i from h3); omega
        · have := Nat.mul_le_mul_right 64 (show i + 1 ≤ k from h3); omega
      exact (World.cell?_setCell_other _ _ _ _ hne).trans (h.cell hz' t (by omega))

/-- One polynomial is written. -/
theorem PB.setPoly {w : World} {g : Nat} {L : List (List Int)} (h : PB w g L) (i : Nat) (hi : i < L.length) {y : List Int} (hy : y.length = 64) : PB (w.setCells g (i * 64) (u8s y).toList) g (L.set i y) ∧ w.grownBy (w.setCells g (i * 64) (u8s y).toList) (some g) := by
  have key : ∀ (vs : List Value) (o : Nat) (w : World) (C : Array Value), w.heap[g]? = some (.cells C 25 (0, 0)) → (∃ C', (w.setCells g o vs).heap[g]? = some (.cells C' 25 (0, 0)) ∧ C'.size = C.size) ∧ w.grownBy (w.setCells g o vs) (some g) := by
    intro vs
    induction vs with
    | nil => intro o w C hC; exact ⟨⟨C, hC, rfl⟩, grownBy_self w _⟩
    | cons v r ih =>
      intro o w C hC
      have h1 := heap_setCell_same w g o C _ v hC
      obtain ⟨⟨C', a, b⟩, c⟩ := ih (o + 1) (w.setCell ⟨g, o, none⟩ v) _ h1
      refine ⟨⟨C', a, by simpa using b⟩, ?_⟩
      have := grownBy_set (grownBy_self w (some g)) o v
      exact this.trans c
  obtain ⟨C, hC, hs⟩ := h.blk
  obtain ⟨⟨C', k1, k2⟩, k3⟩ := key (u8s y).toList (i * 64) w C hC
  have yl : (u8s y).toList.length = 64 := by rw [u8s_toList, List.length_map, hy]
  refine ⟨⟨fun z hz => ?_, ⟨C', k1, by rw [List.length_set, k2]; exact hs⟩, fun k z hz => ?_⟩, k3⟩
  · rcases List.mem_or_eq_of_mem_set hz with hz | rfl
    · exact h.len z hz
    · exact hy
  · have hk : k < L.length := by have := (List.getElem?_eq_some_iff.1 hz).1; simpa using this
    by_cases e : k = i
    · subst e
      have ez : z = y := by rw [List.getElem?_set, if_pos rfl, if_pos hi] at hz; exact (Option.some.inj hz).symm
      subst ez
      refine World.rangeAt_setCells_same w g (k * 64) _ fun j hj => ⟨?_, h.free _⟩
      rw [yl] at hj
      rw [h.cell (List.getElem?_eq_getElem hi) j hj]; rfl
    · have hz' : L[k]? = some z := by rw [List.getElem?_set, if_neg (fun h' => e h'.symm)] at hz; exact hz
      refine World.rangeAt_setCells_apart (h.at_ k z hz') g (i * 64) _ (.inr ?_)
      have zl : (u8s z).toList.length = 64 := by rw [u8s_toList, List.length_map, h.len z (List.mem_of_getElem? hz')]
      rw [zl, yl]
      rcases Nat.lt_or_gt_of_ne e with h3 | h3
      · have := Nat.mul_le_mul_right 64 (show k + 1 ≤ i from h3); omega
      · have := Nat.mul_le_mul_right 64 (show i + 1 ≤ k from h3); omega

/-! ### a slice of polynomials that is appended to -/
def cellsP (L : List (List Int)) : List Value := L.flatMap fun x => (u8s x).toList
theorem cellsP_len : ∀ L : List (List Int), (∀ x ∈ L, x.length = 64) → (cellsP L).length = L.length * 64
  | [], _ => rfl
  | x :: r, h => by
    have := cellsP_len r fun y hy => h y (by simp [hy])
    have e : cellsP (x :: r) = (u8s x).toList ++ cellsP r := rfl
    rw [e, List.length_append, this, u8s_toList, List.length_map, h x (by simp), List.length_cons]; omega
theorem cellsP_get : ∀ (L : List (List Int)) (_ : ∀ x ∈ L, x.length = 64) (i : Nat) (x : List Int), L[i]? = some x → ∀ j v, (u8s x).toList[j]? = some v → (cellsP L)[i * 64 + j]? = some v
  | [], _, i, x, h => by simp at h
  | y :: r, hl, 0, x, h => by
    simp only [List.getElem?_cons_zero, Option.some.injEq] at h
    subst h
    intro j v hv
    have e : cellsP (y :: r) = (u8s y).toList ++ cellsP r := rfl
    rw [e, Nat.zero_mul, Nat.zero_add, List.getElem?_append_left (List.getElem?_eq_some_iff.1 hv).1, hv]
  | y :: r, hl, i + 1, x, h => by
    intro j v hv
    have e : cellsP (y :: r) = (u8s y).toList ++ cellsP r := rfl
    have yl : (u8s y).toList.length = 64 := by rw [u8s_toList, List.length_map, hl y (by simp)]
    rw [e, List.getElem?_append_right (by rw [yl]; omega), yl, show (i + 1) * 64 + j - 64 = i * 64 + j by omega]
    exact cellsP_get r (fun z hz => hl z (by simp [hz])) i x (by simpa using h) j v hv
theorem cellsP_app (L : List (List Int)) (x : List Int) : cellsP (L ++ [x]) = cellsP L ++ (u8s x).toList := by simp [cellsP]
def OwP (w0 w : World) (v : Value) (L : List (List Int)) : Prop := OwV 25 64 w0 w v L.length (cellsP L) ∧ ∀ x ∈ L, x.length = 64
theorem OwP.nil {w0 w : World} (h : Ext w0 w) : OwP w0 w (.slice none 0 0) [] := ⟨OwV.nil h, by simp⟩
theorem OwP.ext {w0 w : World} {v : Value} {L : List (List Int)} (h : OwP w0 w v L) : Ext w0 w := h.1.ext
theorem OwP.next {w0 w w' : World} {v : Value} {L : List (List Int)} (h : OwP w0 w v L) (hE : Ext w w') : OwP w0 w' v L := ⟨h.1.next hE, h.2⟩
/-- What has come of it. -/
theorem OwP.out {w0 w : World} {v : Value} {L : List (List Int)} (h : OwP w0 w v L) : ∃ A cap, v = .slice A L.length cap ∧ L.length ≤ 1000000 ∧ (0 < L.length → ∃ g, A = some ⟨g, 0, none⟩ ∧ w0.heap.size ≤ g ∧ PB w g L) := by
  have hm : L.length ≤ 1000000 := h.1.2.2
  rcases h.1.2.1.2 with ⟨rfl, hn⟩ | ⟨g, cap, cur, rfl, hb, hg, h1, h2, h3, h4⟩
  · exact ⟨none, 0, by rw [hn], hm, fun h0 => by omega⟩
  · refine ⟨_, cap, rfl, hm, fun _ => ⟨g, rfl, hb, h.2, ⟨cur, hg, by rw [h3]; exact Nat.mul_le_mul_right 64 h1⟩, fun i x hx j u hu => ?_⟩⟩
    have := h.1.2.1.cells (g := g) rfl _ _ (cellsP_get L h.2 i x hx j u hu)
    rwa [Addr.add_lit, Nat.zero_add] at this
theorem infoPolyA : (Tryz.prog.info? 25).map (fun i => (i.zero, i.size, i.bytes)) = some (some (.agg (u8s zeros64)), 64, 64) := by kernel_rfl
section
variable {ops : Array Oper} {rest : List Oper} {o : Oper} {a : Act} {w w0 : World} {Q : Exit → Act → World → Prop}
theorem wplAppP (s x : Operand) (ho : o.op = .call { callee := .builtin .append, args := #[s, x], argTypes := #[29, 29] }) (hgd : o.guard = none)
    {vo : Value} {L : List (List Int)} {n : Nat} {l : List Int} {b c : Nat} {T : TypeId} (hO : OwP w0 w vo L) (hn : L.length = n) (hs : a.eval s = vo) (hx : a.eval x = .slice (some ⟨b, 0, none⟩) 1 c) (hA : Arr w b T l) (hl : l.length = 64) (hm : n < 1000000)
    (h : ∀ A cap w', OwP w0 w' (.slice A (n + 1) cap) (L ++ [l]) → w.grownBy w' vo.ownBlock → wpList Tryz.prog ops Q rest (a.put o.dst (.slice A (n + 1) cap)) w') : wpList Tryz.prog ops Q (o :: rest) a w := by
  subst hn
  refine wplAppV s x ho hgd Tryz.underlying29 infoPolyA (by show (u8s zeros64).size = 64; rw [u8s_size, zeros64_length]) (by decide) (by decide) (u8s l).toList hO.1 hs hx (by rw [u8s_toList, List.length_map, hl]) ?_ ?_ hm fun A cap w' i1 i2 i3 => ?_
  · intro j u hj
    rw [Addr.add_lit, Nat.zero_add]
    rw [u8s_toList, List.getElem?_map, Option.map_eq_some_iff] at hj
    obtain ⟨y, hy, rfl⟩ := hj
    obtain ⟨hj', e⟩ := List.getElem?_eq_some_iff.1 hy
    rw [hA.cell j hj']
    simp [at0, hj', e]
  · intro u hu
    rw [u8s_toList] at hu
    obtain ⟨y, _, rfl⟩ := List.mem_map.1 hu
    rfl
  · refine h A cap w' ⟨by rw [cellsP_app, List.length_append]; exact i1, fun y hy => ?_⟩ i3
    rcases List.mem_append.1 hy with hy | hy
    · exact hO.2 y hy
    · simp only [List.mem_cons, List.not_mem_nil, or_false] at hy
      rw [hy]; exact hl
end

end Go.Proofs.YtaemiknaiccijaaGreat
