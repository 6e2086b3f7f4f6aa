/- Lemmas and contracts of functions, for the laws: The reference's derivative. -/
import Derived.Test.YtaemiknaiccijaaGreatRm10
set_option linter.unusedVariables false
set_option linter.unusedSimpArgs false
namespace Go.Proofs.YtaemiknaiccijaaGreat
open Go.RowKit

def derC (p : Int) (a : List Int) (i : Nat) : Int := ((i : Int) + 1) % p * at0 a (i + 1) % p
def derTo (p : Int) (a : List Int) (i : Nat) : List Int := tab 64 fun j => if j < i then derC p a j else 0
theorem derTo_zero (p : Int) (a : List Int) : derTo p a 0 = zeros64 := by rw [zeros64_tab]; exact tab_congr fun j _ => if_neg (by omega)
theorem derTo_step (p : Int) (a : List Int) (i : Nat) (h : i < 64) : (derTo p a i).set i (derC p a i) = derTo p a (i + 1) := by
  unfold derTo
  rw [tab_set 64 _ _ _ h]
  refine tab_congr fun j _ => ?_
  by_cases e : j = i
  · subst e; rw [if_pos rfl, if_pos (by omega)]
  · rw [if_neg e]
    by_cases h2 : j < i
    · rw [if_pos h2, if_pos (by omega)]
    · rw [if_neg h2, if_neg (by omega)]
theorem derTo_end (p : Int) (a : List Int) : derTo p a 63 = pad (derr p a) := tab_congr fun j _ => by rw [derr, at0_rowN]; rfl
theorem derr_can {p : Int} (hp : 0 < p) (a : List Int) : Can p (derr p a) := can_rowN hp fun _ _ => emod_range _ _ hp
theorem derr_le (p : Int) (a : List Int) : (derr p a).length ≤ 64 := Nat.le_trans (rowN_le _ _) (by decide)
/-- Go's own reckoning of a coefficient of the derivative. -/
theorem derC_go (p : Int) (a : List Int) (i : Nat) (lo : 2 ≤ p) (hi : p ≤ 7) (ha : 0 ≤ at0 a (i + 1)) :
    ((((i : Int) + 1) % p) * at0 a (i + 1)).tmod p % 256 = derC p a i := by
  have r1 := emod_range ((i : Int) + 1) p (by omega)
  have h2 : 0 ≤ ((i : Int) + 1) % p * at0 a (i + 1) := Int.mul_nonneg r1.1 ha
  have r2 := emod_range (((i : Int) + 1) % p * at0 a (i + 1)) p (by omega)
  rw [Int.tmod_eq_emod_of_nonneg h2, Int.emod_eq_of_lt r2.1 (by omega)]
  rfl
theorem isPB_pad {p : Int} {a : List Int} (hp : PrimeP p) (ha : Can p a) : isPB p (pad a) = true := by
  rw [isPB, (primeB_iff p).2 hp, Bool.and_true, allLt_iff]
  intro j hj
  rw [pad, at0_tab, if_pos hj]
  exact (ha.inp j).2
theorem codeP_one {p : Int} {a : List Int} (hp : PrimeP p) (ha : Can p a) : codeP p [pad a] = 0 := by
  rw [codeP, (primeB_iff p).2 hp, List.all_cons, isPB_pad hp ha]; rfl

def DerRel (p : Int) (a : List Int) (w : World) (ga g1 g2 f : Nat) (i : Value) (wr : World) : Prop :=
  ∃ n : Nat, f + n = 63 ∧ i = .int .i64 ((n : Int) + 1) ∧ Hp w wr [(g2, derTo p a n), (g1, zeros64), (ga, pad a)]

theorem one_polys {w : World} {g : Nat} {T : TypeId} {l : List Int} (h : Arr w g T l) (hl : l.length = 64) : PsAt w (some ⟨g, 0, none⟩) [l] :=
  Arr.polys (L := [l]) (by rw [flat, flat, List.append_nil]; exact h) (by intro x hx; simp at hx; subst hx; exact hl) (by simp)
theorem l01Code_one {p : Int} {a : List Int} (hp : PrimeP p) (ha : Can p a) (la : a.length ≤ 64) (w : World) (g T : Nat) (h : Arr w g T (pad a)) :
    Calls Tryz.prog 95 #[.int .i64 p, .slice (some ⟨g, 0, none⟩) 1 1] w fun e w' => e = .returned (.int .i64 0) ∧ Ext w w' := by
  have := l01Code_any p (some ⟨g, 0, none⟩) 1 [pad a] w (one_polys h (pad_length _)) (by
    intro x hx; simp at hx; subst hx; exact fun j => by rw [at0_pad a la]; have := ha.inp j; have := hp.hi; omega)
  rw [codeP_one hp ha] at this
  exact this

set_option maxRecDepth 100000 in
set_option maxHeartbeats 1000000 in
theorem DerivativeOf_any (p : Int) (a : List Int) (hp : PrimeP p) (ha : Can p a) (la : a.length ≤ 64) (w : World) :
    Calls Tryz.prog 62 #[.int .i64 p, .agg (u8s (pad a))] w fun e w' => e = .returned (.tuple #[.agg (u8s (pad (derr p a))), .int .i64 0]) ∧ Ext w w' := by
  have hz := zlit
  have lo := hp.lo
  have hi := hp.hi
  have HA := Lib.hid ha
  have CD := Lib.hid (fun w g T => l01Code_one hp ha la w g T)
  have BA : Hid (IsB (pad a)) := Lib.hid (fun j => by rw [at0_pad a la]; have := ha.inp j; omega)
  clear hp ha
  have F := Hp.start w
  go_enter Tryz.func62, Tryz.ntmps62
  go_wp2_with (first | ((with_reducible show wpList _ _ _ _ _ _); first | (apply hpLd F; exact rfl; exact rfl; exact rfl; (· repeat (first | exact Has.head | apply Has.tail))) | (apply hpBox F; exact rfl; exact rfl; exact rfl; (· with_reducible first | exact pad_length _ | exact zeros64_length | exact tab_length _ _ | assumption)) | (apply hpAlloc F; exact rfl; exact rfl) | (apply hpSt F; exact rfl; exact rfl; exact rfl; exact rfl; (· repeat (first | exact Upd.head | apply Upd.tail)); (· with_reducible first | exact pad_length _ | exact zeros64_length | exact tab_length _ _ | assumption))))
  clear F
  intro ga w1 F
  go_wp2_with (first | ((with_reducible show wpList _ _ _ _ _ _); first | (apply hpLd F; exact rfl; exact rfl; exact rfl; (· repeat (first | exact Has.head | apply Has.tail))) | (apply hpBox F; exact rfl; exact rfl; exact rfl; (· with_reducible first | exact pad_length _ | exact zeros64_length | exact tab_length _ _ | assumption)) | (apply hpAlloc F; exact rfl; exact rfl) | (apply hpSt F; exact rfl; exact rfl; exact rfl; exact rfl; (· repeat (first | exact Upd.head | apply Upd.tail)); (· with_reducible first | exact pad_length _ | exact zeros64_length | exact tab_length _ _ | assumption))))
  clear F
  intro g1 w2 F
  go_wp2_with (first | ((with_reducible show wpList _ _ _ _ _ _); apply wplOne; exact rfl; exact rfl; exact rfl; exact pad_length _; intro w3 g3 E3 A3 B3; replace F := F.next E3) | (go_at_call 95; refine (CD.out _ _ _ A3).mono ?_; rintro e w4 ⟨rfl, E4⟩; replace F := F.next E4) | ((with_reducible show wpList _ _ _ _ _ _); first | (apply hpLd F; exact rfl; exact rfl; exact rfl; (· repeat (first | exact Has.head | apply Has.tail))) | (apply hpBox F; exact rfl; exact rfl; exact rfl; (· with_reducible first | exact pad_length _ | exact zeros64_length | exact tab_length _ _ | assumption)) | (apply hpAlloc F; exact rfl; exact rfl) | (apply hpSt F; exact rfl; exact rfl; exact rfl; exact rfl; (· repeat (first | exact Upd.head | apply Upd.tail)); (· with_reducible first | exact pad_length _ | exact zeros64_length | exact tab_length _ _ | assumption))))
  clear F
  intro g2 w5 F
  go_wp2_with (first | ((with_reducible show wpList _ _ _ _ _ _); first | (apply hpLd F; exact rfl; exact rfl; exact rfl; (· repeat (first | exact Has.head | apply Has.tail))) | (apply hpBox F; exact rfl; exact rfl; exact rfl; (· with_reducible first | exact pad_length _ | exact zeros64_length | exact tab_length _ _ | assumption)) | (apply hpAlloc F; exact rfl; exact rfl) | (apply hpSt F; exact rfl; exact rfl; exact rfl; exact rfl; (· repeat (first | exact Upd.head | apply Upd.tail)); (· with_reducible first | exact pad_length _ | exact zeros64_length | exact tab_length _ _ | assumption))))
  clear F
  intro w6 F
  try simp only [List.set_cons_zero, List.set_cons_succ] at F
  go_wp2_with (first | ((with_reducible show wpList _ _ _ _ _ _); first | (apply hpLd F; exact rfl; exact rfl; exact rfl; (· repeat (first | exact Has.head | apply Has.tail))) | (apply hpBox F; exact rfl; exact rfl; exact rfl; (· with_reducible first | exact pad_length _ | exact zeros64_length | exact tab_length _ _ | assumption)) | (apply hpAlloc F; exact rfl; exact rfl) | (apply hpSt F; exact rfl; exact rfl; exact rfl; exact rfl; (· repeat (first | exact Upd.head | apply Upd.tail)); (· with_reducible first | exact pad_length _ | exact zeros64_length | exact tab_length _ _ | assumption))))
  go_loopg [8] 63 (fun f i wr => DerRel p a w ga g1 g2 f i wr)
  case atStart => exact ⟨0, rfl, rfl, by rw [derTo_zero]; exact F⟩
  case round =>
    clear F
    obtain ⟨n, hf, rfl, F⟩ := hrel
    by_cases hn : n < 63
    · have t1 : decide ((n : Int) + 1 < 64) = true := decide_eq_true (by omega)
      have c1 := F.cell 2 rfl (n + 1) (by omega)
      rw [at0_pad a la] at c1
      have f1 := F.free 0 rfl n
      have c2 := F.cell 0 rfl n (by omega)
      have b1 := BA.out (n + 1)
      rw [at0_pad a la] at b1
      have hp0 : p ≠ 0 := by omega
      have q1 := tmodB ((n : Int) + 1) p lo hi
      have q1' : 0 ≤ ((n : Int) + 1).tmod p := Int.tmod_nonneg _ (by omega)
      have q2 := mulB (by decide : (0:Int) ≤ 6) q1.1 q1.2 b1.1 b1.2
      have e1 := Int.tmod_eq_emod_of_nonneg (b := p) (show 0 ≤ (n : Int) + 1 by omega)
      rw [e1] at q1 q1' q2
      clear e1
      have q3 := tmodB (((n : Int) + 1) % p * at0 a (n + 1)) p lo hi
      have i1 : (0 : Int) ≤ (n : Int) + 1 := by omega
      have i2 : (n : Int) + 1 < 64 := by omega
      have i3 : ((n : Int) + 1).toNat = n + 1 := by omega
      have i4 : ((n : Int) + 1 - 1).toNat = n := by omega
      have i5 : (n : Int) + 1 - 1 = n := by omega
      have i6 : (n : Int) < 64 := by omega
      have i7 : (0 : Int) ≤ (n : Int) := by omega
      go_wp2
      refine wp_region_still_tail 13 (by kernel_rfl) (by kernel_rfl) ?_
      simp only [List.take_succ_cons, List.take_zero, List.drop_succ_cons, List.drop_zero]
      repeat (refine wpStill_step (fun K hK => ?_); go_simp; (try go_bits); refine hK _ ?_; clear hK K)
      refine wpStill_nil ?_
      change wpList _ _ _ _ _ wr.drew
      go_wp2
      have V := Lib.hid (derC_go p a n lo hi b1.1)
      have ST := Lib.hid (derTo_step p a n (by omega))
      go_roundg (gk - 1)
      case measure => omega
      case rel =>
        refine ⟨n + 1, by omega, by go_num, ?_⟩
        rw [← ST.out, ← V.out]
        exact (F.setCell 0 rfl n _).drew
    · have t1 : decide ((n : Int) + 1 < 64) = false := decide_eq_false (by omega)
      have G : Hid (derTo p a n = pad (derr p a)) := Lib.hid (by rw [show n = 63 by omega, derTo_end])
      rw [G.out] at F
      go_wp2_with (first | ((with_reducible show wpList _ _ _ _ _ _); first | (apply hpLd F; exact rfl; exact rfl; exact rfl; (· repeat (first | exact Has.head | apply Has.tail))) | (apply hpBox F; exact rfl; exact rfl; exact rfl; (· with_reducible first | exact pad_length _ | exact zeros64_length | exact tab_length _ _ | assumption)) | (apply hpAlloc F; exact rfl; exact rfl) | (apply hpSt F; exact rfl; exact rfl; exact rfl; exact rfl; (· repeat (first | exact Upd.head | apply Upd.tail)); (· with_reducible first | exact pad_length _ | exact zeros64_length | exact tab_length _ _ | assumption))))
      clear F
      intro w7 F
      try simp only [List.set_cons_zero, List.set_cons_succ] at F
      go_wp2_with (first | ((with_reducible show wpList _ _ _ _ _ _); first | (apply hpLd F; exact rfl; exact rfl; exact rfl; (· repeat (first | exact Has.head | apply Has.tail))) | (apply hpBox F; exact rfl; exact rfl; exact rfl; (· with_reducible first | exact pad_length _ | exact zeros64_length | exact tab_length _ _ | assumption)) | (apply hpAlloc F; exact rfl; exact rfl) | (apply hpSt F; exact rfl; exact rfl; exact rfl; exact rfl; (· repeat (first | exact Upd.head | apply Upd.tail)); (· with_reducible first | exact pad_length _ | exact zeros64_length | exact tab_length _ _ | assumption))))
      exact bodyPost_ret (res_ct rfl rfl rfl (F.at_ 1 rfl) (pad_length _) Tryz.underlying25 infoPoly) rfl ⟨rfl, F.ext⟩

end Go.Proofs.YtaemiknaiccijaaGreat

/- The reference's discriminants, CountPoints, CurvePolynomial. -/
namespace Go.Proofs.YtaemiknaiccijaaGreat
open Go.RowKit

def isDS (p : Int) (a : List Int) : Bool := (a.length == 2 || a.length == 4 || a.length == 6) && (gcdr p a (derr p a)).length == 1
def isD (p : Int) (l : List Int) : Bool := isPB p l && p != 2 && isDS p (trim l)

set_option maxHeartbeats 400000 in
theorem l07Is_bad (p : Int) (l : List Int) (hl : l.length = 64) (hb : IsB l) (hbad : isPB p l = false ∨ p = 2) (w : World) :
    Calls Tryz.prog 39 #[.int .i64 p, .agg (u8s l)] w fun e w' => e = .returned (.bool (isD p l)) ∧ Ext w w' := by
  have G : Hid (isD p l = false) := Lib.hid (by
    rcases hbad with h | h
    · rw [isD, h]; rfl
    · rw [isD, h]; simp)
  have HB := Lib.hid hb
  have hz := zlit
  have F := Hp.start w
  clear hb
  cases hq : isPB p l with
  | false =>
    have Q := Lib.hid hq
    clear hq hbad
    go_enter Tryz.func39, Tryz.ntmps39
    go_wp2_with (first | ((with_reducible show wpList _ _ _ _ _ _); first | (apply hpLd F; exact rfl; exact rfl; exact rfl; (· repeat (first | exact Has.head | apply Has.tail))) | (apply hpBox F; exact rfl; exact rfl; exact rfl; (· with_reducible first | exact pad_length _ | exact zeros64_length | exact tab_length _ _ | assumption)) | (apply hpAlloc F; exact rfl; exact rfl) | (apply hpSt F; exact rfl; exact rfl; exact rfl; exact rfl; (· repeat (first | exact Upd.head | apply Upd.tail)); (· with_reducible first | exact pad_length _ | exact zeros64_length | exact tab_length _ _ | assumption))))
    clear F
    intro g w1 F
    go_wp2_with (first | (go_at_call 61; refine (l01Is_any p l hl HB.out _).mono ?_; rintro e w2 ⟨rfl, E2⟩; replace F := F.next E2; rw [Q.out]) | ((with_reducible show wpList _ _ _ _ _ _); first | (apply hpLd F; exact rfl; exact rfl; exact rfl; (· repeat (first | exact Has.head | apply Has.tail))) | (apply hpBox F; exact rfl; exact rfl; exact rfl; (· with_reducible first | exact pad_length _ | exact zeros64_length | exact tab_length _ _ | assumption)) | (apply hpAlloc F; exact rfl; exact rfl) | (apply hpSt F; exact rfl; exact rfl; exact rfl; exact rfl; (· repeat (first | exact Upd.head | apply Upd.tail)); (· with_reducible first | exact pad_length _ | exact zeros64_length | exact tab_length _ _ | assumption))))
    go_ret
    exact ⟨ret_bool G.out.symm, F.ext⟩
  | true =>
    have p2 : p = 2 := by simpa [hq] using hbad
    subst p2
    have Q := Lib.hid hq
    clear hq hbad
    go_enter Tryz.func39, Tryz.ntmps39
    go_wp2_with (first | ((with_reducible show wpList _ _ _ _ _ _); first | (apply hpLd F; exact rfl; exact rfl; exact rfl; (· repeat (first | exact Has.head | apply Has.tail))) | (apply hpBox F; exact rfl; exact rfl; exact rfl; (· with_reducible first | exact pad_length _ | exact zeros64_length | exact tab_length _ _ | assumption)) | (apply hpAlloc F; exact rfl; exact rfl) | (apply hpSt F; exact rfl; exact rfl; exact rfl; exact rfl; (· repeat (first | exact Upd.head | apply Upd.tail)); (· with_reducible first | exact pad_length _ | exact zeros64_length | exact tab_length _ _ | assumption))))
    clear F
    intro g w1 F
    go_wp2_with (first | (go_at_call 61; refine (l01Is_any 2 l hl HB.out _).mono ?_; rintro e w2 ⟨rfl, E2⟩; replace F := F.next E2; rw [Q.out]) | ((with_reducible show wpList _ _ _ _ _ _); first | (apply hpLd F; exact rfl; exact rfl; exact rfl; (· repeat (first | exact Has.head | apply Has.tail))) | (apply hpBox F; exact rfl; exact rfl; exact rfl; (· with_reducible first | exact pad_length _ | exact zeros64_length | exact tab_length _ _ | assumption)) | (apply hpAlloc F; exact rfl; exact rfl) | (apply hpSt F; exact rfl; exact rfl; exact rfl; exact rfl; (· repeat (first | exact Upd.head | apply Upd.tail)); (· with_reducible first | exact pad_length _ | exact zeros64_length | exact tab_length _ _ | assumption))))
    go_ret
    exact ⟨ret_bool G.out.symm, F.ext⟩

set_option maxRecDepth 100000 in
set_option maxHeartbeats 1000000 in
theorem l07Is_good (p : Int) (a : List Int) (hp : OddP p) (ha : Can p a) (la : a.length ≤ 64) (w : World) :
    Calls Tryz.prog 39 #[.int .i64 p, .agg (u8s (pad a))] w fun e w' => e = .returned (.bool (isDS p a)) ∧ Ext w w' := by
  have HP := Lib.hid hp.prime
  have HA := Lib.hid ha
  have BA : Hid (IsB (pad a)) := Lib.hid (fun j => by rw [at0_pad a la]; have := ha.inp j; have := hp.prime.hi; omega)
  have Q := Lib.hid (isPB_pad hp.prime ha)
  have p2 : decide (p = 2) = false := decide_eq_false (by rcases hp with rfl | rfl | rfl <;> decide)
  have p3 : (p == 2) = false := by simpa using p2
  have lo := HP.out.lo
  have DC := Lib.hid (derr_can (show 0 < p by omega) a)
  have DL := derr_le p a
  have GC := Lib.hid (gcdr_can (show 0 < p by omega) a (derr p a))
  have GL := gcdr_le HP.out ha DC.out la DL
  have hz := zlit
  have F := Hp.start w
  clear hp ha
  go_enter Tryz.func39, Tryz.ntmps39
  go_wp2_with (first | ((with_reducible show wpList _ _ _ _ _ _); first | (apply hpLd F; exact rfl; exact rfl; exact rfl; (· repeat (first | exact Has.head | apply Has.tail))) | (apply hpBox F; exact rfl; exact rfl; exact rfl; (· with_reducible first | exact pad_length _ | exact zeros64_length | exact tab_length _ _ | assumption)) | (apply hpAlloc F; exact rfl; exact rfl) | (apply hpSt F; exact rfl; exact rfl; exact rfl; exact rfl; (· repeat (first | exact Upd.head | apply Upd.tail)); (· with_reducible first | exact pad_length _ | exact zeros64_length | exact tab_length _ _ | assumption))))
  clear F
  intro ga w1 F
  have GB : Hid ((((gcdr p a (derr p a)).length : Int) - 1 == 0) = ((gcdr p a (derr p a)).length == 1)) := Lib.hid (by
    rw [Bool.eq_iff_iff, beq_iff_eq, beq_iff_eq]; omega)
  by_cases hd : a.length = 2 ∨ a.length = 4 ∨ a.length = 6
  · have G : Hid (isDS p a = ((gcdr p a (derr p a)).length == 1)) := Lib.hid (by
      rcases hd with h | h | h <;> simp [isDS, h])
    have hd' : (((a.length : Int) - 1 != 1) = false) ∨ (((a.length : Int) - 1 != 1) = true ∧ ((a.length : Int) - 1 != 3) = false) ∨ (((a.length : Int) - 1 != 1) = true ∧ ((a.length : Int) - 1 != 3) = true ∧ ((a.length : Int) - 1 != 5) = false) := by
      rcases hd with h | h | h <;> rw [h] <;> decide
    clear hd
    rcases hd' with t1 | ⟨t1, t2⟩ | ⟨t1, t2, t3⟩
    · skip
      go_wp2_with (first | (go_at_call 61; refine (l01Is_any p (pad a) (pad_length _) BA.out _).mono ?_; rintro e w2 ⟨rfl, E2⟩; replace F := F.next E2; rw [Q.out]) | (go_at_call 49; refine (l01Deg_pad a _ HA.out.nz la rfl _).mono ?_; rintro e w2 ⟨rfl, E2⟩; replace F := F.next E2) | (go_at_call 62; refine (DerivativeOf_any p a HP.out HA.out la _).mono ?_; rintro e w2 ⟨rfl, E2⟩; replace F := F.next E2) | ((with_reducible show wpList _ _ _ _ _ _); first | (apply hpLd F; exact rfl; exact rfl; exact rfl; (· repeat (first | exact Has.head | apply Has.tail))) | (apply hpBox F; exact rfl; exact rfl; exact rfl; (· with_reducible first | exact pad_length _ | exact zeros64_length | exact tab_length _ _ | assumption)) | (apply hpAlloc F; exact rfl; exact rfl) | (apply hpSt F; exact rfl; exact rfl; exact rfl; exact rfl; (· repeat (first | exact Upd.head | apply Upd.tail)); (· with_reducible first | exact pad_length _ | exact zeros64_length | exact tab_length _ _ | assumption))))
      clear F
      intro g6 w6 F
      go_wp2_with (first | ((with_reducible show wpList _ _ _ _ _ _); first | (apply hpLd F; exact rfl; exact rfl; exact rfl; (· repeat (first | exact Has.head | apply Has.tail))) | (apply hpBox F; exact rfl; exact rfl; exact rfl; (· with_reducible first | exact pad_length _ | exact zeros64_length | exact tab_length _ _ | assumption)) | (apply hpAlloc F; exact rfl; exact rfl) | (apply hpSt F; exact rfl; exact rfl; exact rfl; exact rfl; (· repeat (first | exact Upd.head | apply Upd.tail)); (· with_reducible first | exact pad_length _ | exact zeros64_length | exact tab_length _ _ | assumption))))
      clear F
      intro w7 F
      try simp only [List.set_cons_zero, List.set_cons_succ] at F
      go_wp2_with (first | (go_at_call 63; refine (l01Gcd_any p a (derr p a) HP.out HA.out DC.out la DL _).mono ?_; rintro e w8 ⟨rfl, E2⟩; replace F := F.next E2) | (go_at_call 49; refine (l01Deg_pad _ _ GC.out.nz GL rfl _).mono ?_; rintro e w9 ⟨rfl, E2⟩; replace F := F.next E2) | ((with_reducible show wpList _ _ _ _ _ _); first | (apply hpLd F; exact rfl; exact rfl; exact rfl; (· repeat (first | exact Has.head | apply Has.tail))) | (apply hpBox F; exact rfl; exact rfl; exact rfl; (· with_reducible first | exact pad_length _ | exact zeros64_length | exact tab_length _ _ | assumption)) | (apply hpAlloc F; exact rfl; exact rfl) | (apply hpSt F; exact rfl; exact rfl; exact rfl; exact rfl; (· repeat (first | exact Upd.head | apply Upd.tail)); (· with_reducible first | exact pad_length _ | exact zeros64_length | exact tab_length _ _ | assumption))))
      go_ret
      exact ⟨ret_bool (by rw [G.out, GB.out]), F.ext⟩
    · skip
      go_wp2_with (first | (go_at_call 61; refine (l01Is_any p (pad a) (pad_length _) BA.out _).mono ?_; rintro e w2 ⟨rfl, E2⟩; replace F := F.next E2; rw [Q.out]) | (go_at_call 49; refine (l01Deg_pad a _ HA.out.nz la rfl _).mono ?_; rintro e w2 ⟨rfl, E2⟩; replace F := F.next E2) | (go_at_call 62; refine (DerivativeOf_any p a HP.out HA.out la _).mono ?_; rintro e w2 ⟨rfl, E2⟩; replace F := F.next E2) | ((with_reducible show wpList _ _ _ _ _ _); first | (apply hpLd F; exact rfl; exact rfl; exact rfl; (· repeat (first | exact Has.head | apply Has.tail))) | (apply hpBox F; exact rfl; exact rfl; exact rfl; (· with_reducible first | exact pad_length _ | exact zeros64_length | exact tab_length _ _ | assumption)) | (apply hpAlloc F; exact rfl; exact rfl) | (apply hpSt F; exact rfl; exact rfl; exact rfl; exact rfl; (· repeat (first | exact Upd.head | apply Upd.tail)); (· with_reducible first | exact pad_length _ | exact zeros64_length | exact tab_length _ _ | assumption))))
      clear F
      intro g6 w6 F
      go_wp2_with (first | ((with_reducible show wpList _ _ _ _ _ _); first | (apply hpLd F; exact rfl; exact rfl; exact rfl; (· repeat (first | exact Has.head | apply Has.tail))) | (apply hpBox F; exact rfl; exact rfl; exact rfl; (· with_reducible first | exact pad_length _ | exact zeros64_length | exact tab_length _ _ | assumption)) | (apply hpAlloc F; exact rfl; exact rfl) | (apply hpSt F; exact rfl; exact rfl; exact rfl; exact rfl; (· repeat (first | exact Upd.head | apply Upd.tail)); (· with_reducible first | exact pad_length _ | exact zeros64_length | exact tab_length _ _ | assumption))))
      clear F
      intro w7 F
      try simp only [List.set_cons_zero, List.set_cons_succ] at F
      go_wp2_with (first | (go_at_call 63; refine (l01Gcd_any p a (derr p a) HP.out HA.out DC.out la DL _).mono ?_; rintro e w8 ⟨rfl, E2⟩; replace F := F.next E2) | (go_at_call 49; refine (l01Deg_pad _ _ GC.out.nz GL rfl _).mono ?_; rintro e w9 ⟨rfl, E2⟩; replace F := F.next E2) | ((with_reducible show wpList _ _ _ _ _ _); first | (apply hpLd F; exact rfl; exact rfl; exact rfl; (· repeat (first | exact Has.head | apply Has.tail))) | (apply hpBox F; exact rfl; exact rfl; exact rfl; (· with_reducible first | exact pad_length _ | exact zeros64_length | exact tab_length _ _ | assumption)) | (apply hpAlloc F; exact rfl; exact rfl) | (apply hpSt F; exact rfl; exact rfl; exact rfl; exact rfl; (· repeat (first | exact Upd.head | apply Upd.tail)); (· with_reducible first | exact pad_length _ | exact zeros64_length | exact tab_length _ _ | assumption))))
      go_ret
      exact ⟨ret_bool (by rw [G.out, GB.out]), F.ext⟩
    · skip
      go_wp2_with (first | (go_at_call 61; refine (l01Is_any p (pad a) (pad_length _) BA.out _).mono ?_; rintro e w2 ⟨rfl, E2⟩; replace F := F.next E2; rw [Q.out]) | (go_at_call 49; refine (l01Deg_pad a _ HA.out.nz la rfl _).mono ?_; rintro e w2 ⟨rfl, E2⟩; replace F := F.next E2) | (go_at_call 62; refine (DerivativeOf_any p a HP.out HA.out la _).mono ?_; rintro e w2 ⟨rfl, E2⟩; replace F := F.next E2) | ((with_reducible show wpList _ _ _ _ _ _); first | (apply hpLd F; exact rfl; exact rfl; exact rfl; (· repeat (first | exact Has.head | apply Has.tail))) | (apply hpBox F; exact rfl; exact rfl; exact rfl; (· with_reducible first | exact pad_length _ | exact zeros64_length | exact tab_length _ _ | assumption)) | (apply hpAlloc F; exact rfl; exact rfl) | (apply hpSt F; exact rfl; exact rfl; exact rfl; exact rfl; (· repeat (first | exact Upd.head | apply Upd.tail)); (· with_reducible first | exact pad_length _ | exact zeros64_length | exact tab_length _ _ | assumption))))
      clear F
      intro g6 w6 F
      go_wp2_with (first | ((with_reducible show wpList _ _ _ _ _ _); first | (apply hpLd F; exact rfl; exact rfl; exact rfl; (· repeat (first | exact Has.head | apply Has.tail))) | (apply hpBox F; exact rfl; exact rfl; exact rfl; (· with_reducible first | exact pad_length _ | exact zeros64_length | exact tab_length _ _ | assumption)) | (apply hpAlloc F; exact rfl; exact rfl) | (apply hpSt F; exact rfl; exact rfl; exact rfl; exact rfl; (· repeat (first | exact Upd.head | apply Upd.tail)); (· with_reducible first | exact pad_length _ | exact zeros64_length | exact tab_length _ _ | assumption))))
      clear F
      intro w7 F
      try simp only [List.set_cons_zero, List.set_cons_succ] at F
      go_wp2_with (first | (go_at_call 63; refine (l01Gcd_any p a (derr p a) HP.out HA.out DC.out la DL _).mono ?_; rintro e w8 ⟨rfl, E2⟩; replace F := F.next E2) | (go_at_call 49; refine (l01Deg_pad _ _ GC.out.nz GL rfl _).mono ?_; rintro e w9 ⟨rfl, E2⟩; replace F := F.next E2) | ((with_reducible show wpList _ _ _ _ _ _); first | (apply hpLd F; exact rfl; exact rfl; exact rfl; (· repeat (first | exact Has.head | apply Has.tail))) | (apply hpBox F; exact rfl; exact rfl; exact rfl; (· with_reducible first | exact pad_length _ | exact zeros64_length | exact tab_length _ _ | assumption)) | (apply hpAlloc F; exact rfl; exact rfl) | (apply hpSt F; exact rfl; exact rfl; exact rfl; exact rfl; (· repeat (first | exact Upd.head | apply Upd.tail)); (· with_reducible first | exact pad_length _ | exact zeros64_length | exact tab_length _ _ | assumption))))
      go_ret
      exact ⟨ret_bool (by rw [G.out, GB.out]), F.ext⟩
  · have G : Hid (isDS p a = false) := Lib.hid (by
      have h1 : (a.length == 2) = false := by simp; omega
      have h2 : (a.length == 4) = false := by simp; omega
      have h3 : (a.length == 6) = false := by simp; omega
      rw [isDS, h1, h2, h3]; rfl)
    have t1 : ((a.length : Int) - 1 != 1) = true := by simp; omega
    have t2 : ((a.length : Int) - 1 != 3) = true := by simp; omega
    have t3 : ((a.length : Int) - 1 != 5) = true := by simp; omega
    clear hd
    go_wp2_with (first | (go_at_call 61; refine (l01Is_any p (pad a) (pad_length _) BA.out _).mono ?_; rintro e w2 ⟨rfl, E2⟩; replace F := F.next E2; rw [Q.out]) | (go_at_call 49; refine (l01Deg_pad a _ HA.out.nz la rfl _).mono ?_; rintro e w2 ⟨rfl, E2⟩; replace F := F.next E2) | (go_at_call 62; refine (DerivativeOf_any p a HP.out HA.out la _).mono ?_; rintro e w2 ⟨rfl, E2⟩; replace F := F.next E2) | ((with_reducible show wpList _ _ _ _ _ _); first | (apply hpLd F; exact rfl; exact rfl; exact rfl; (· repeat (first | exact Has.head | apply Has.tail))) | (apply hpBox F; exact rfl; exact rfl; exact rfl; (· with_reducible first | exact pad_length _ | exact zeros64_length | exact tab_length _ _ | assumption)) | (apply hpAlloc F; exact rfl; exact rfl) | (apply hpSt F; exact rfl; exact rfl; exact rfl; exact rfl; (· repeat (first | exact Upd.head | apply Upd.tail)); (· with_reducible first | exact pad_length _ | exact zeros64_length | exact tab_length _ _ | assumption))))
    go_ret
    exact ⟨ret_bool G.out.symm, F.ext⟩

end Go.Proofs.YtaemiknaiccijaaGreat

/- The reference's CountPoints and CurvePolynomial. -/
namespace Go.Proofs.YtaemiknaiccijaaGreat
open Go.RowKit

/-- A whole array that is a polynomial over the field of p elements is the array of its row. -/
theorem isPB_row {p : Int} {l : List Int} (hl : l.length = 64) (hb : IsB l) (h : isPB p l = true) : PrimeP p ∧ Can p (trim l) ∧ (trim l).length ≤ 64 ∧ pad (trim l) = l := by
  rw [isPB, Bool.and_eq_true, allLt_iff] at h
  have hp := (primeB_iff p).1 h.2
  refine ⟨hp, can_trim fun j => ?_, ?_, pad_trim hl⟩
  · rcases Nat.lt_or_ge j 64 with hj | hj
    · exact ⟨(hb j).1, h.1 j hj⟩
    · rw [at0_out l j (by omega)]; have := hp.lo; omega
  · rw [← hl]; exact rowN_le _ _
theorem l07Is_any (p : Int) (l : List Int) (hl : l.length = 64) (hb : IsB l) (w : World) :
    Calls Tryz.prog 39 #[.int .i64 p, .agg (u8s l)] w fun e w' => e = .returned (.bool (isD p l)) ∧ Ext w w' := by
  by_cases h : isPB p l = true ∧ p ≠ 2
  · obtain ⟨hp, hc, h64, he⟩ := isPB_row hl hb h.1
    have ho : OddP p := by rcases hp with h' | h' | h' | h' <;> first | exact absurd h' h.2 | (unfold OddP; omega)
    have := l07Is_good p (trim l) ho hc h64 w
    rw [he] at this
    have e : isD p l = isDS p (trim l) := by
      rw [isD, h.1, show (p != 2) = true by simpa using h.2]; rfl
    rw [e]; exact this
  · refine l07Is_bad p l hl hb ?_ w
    by_cases h1 : isPB p l = true
    · exact .inr (Decidable.byContradiction fun h2 => h ⟨h1, h2⟩)
    · exact .inl (by simpa using h1)
theorem isD_row {p : Int} {l : List Int} (hl : l.length = 64) (hb : IsB l) (h : isD p l = true) : OddP p ∧ Can p (trim l) ∧ (trim l).length ≤ 64 ∧ pad (trim l) = l ∧ isDS p (trim l) = true := by
  rw [isD, Bool.and_eq_true, Bool.and_eq_true] at h
  obtain ⟨⟨h1, h2⟩, h3⟩ := h
  obtain ⟨hp, hc, h64, he⟩ := isPB_row hl hb h1
  have h2' : p ≠ 2 := by simpa using h2
  exact ⟨by rcases hp with h' | h' | h' | h' <;> first | exact absurd h' h2' | (unfold OddP; omega), hc, h64, he, h3⟩

/-- A call that hands back a slice of whole numbers and a code. -/
def GivesInts (L : List Int) (c : Int) (w : World) (e : Ending) (w' : World) : Prop :=
  ∃ A cap, e = .returned (.tuple #[.slice A L.length cap, .int .i64 c]) ∧ RowAt w' A L ∧ Ext w w'

def n1S (p : Int) (d : List Int) : Int := cntU (ptS p d (fld p) (e1 p)) p.toNat
def n2S (p : Int) (d : List Int) : Int := cntU (ptS p d (fld p) (e2 p)) (p.toNat * p.toNat)
def countS (p : Int) (l : List Int) : List Int := if isD p l then [n1S p (trim l), n2S p (trim l)] else []

set_option maxRecDepth 100000 in
set_option maxHeartbeats 1000000 in
theorem CountPoints_any (p : Int) (l : List Int) (hl : l.length = 64) (hb : IsB l) (w : World) :
    Calls Tryz.prog 20 #[.int .i64 p, .agg (u8s l)] w (GivesInts (countS p l) (if isD p l then 0 else 1) w) := by
  have HB := Lib.hid hb
  have hz := zlit
  have F := Hp.start w
  cases hd : isD p l with
  | false =>
    have Q := Lib.hid hd
    have G : Hid (countS p l = []) := Lib.hid (by rw [countS, hd]; rfl)
    clear hb hd
    go_enter Tryz.func20, Tryz.ntmps20
    go_wp2_with (first | ((with_reducible show wpList _ _ _ _ _ _); first | (apply hpLd F; exact rfl; exact rfl; exact rfl; (· repeat (first | exact Has.head | apply Has.tail))) | (apply hpBox F; exact rfl; exact rfl; exact rfl; (· with_reducible first | exact pad_length _ | exact zeros64_length | exact tab_length _ _ | assumption)) | (apply hpAlloc F; exact rfl; exact rfl) | (apply hpSt F; exact rfl; exact rfl; exact rfl; exact rfl; (· repeat (first | exact Upd.head | apply Upd.tail)); (· with_reducible first | exact pad_length _ | exact zeros64_length | exact tab_length _ _ | assumption))))
    clear F
    intro ga w1 F
    go_wp2_with (first | (go_at_call 39; refine (l07Is_any p l hl HB.out _).mono ?_; rintro e w2 ⟨rfl, E2⟩; replace F := F.next E2; rw [Q.out]) | ((with_reducible show wpList _ _ _ _ _ _); first | (apply hpLd F; exact rfl; exact rfl; exact rfl; (· repeat (first | exact Has.head | apply Has.tail))) | (apply hpBox F; exact rfl; exact rfl; exact rfl; (· with_reducible first | exact pad_length _ | exact zeros64_length | exact tab_length _ _ | assumption)) | (apply hpAlloc F; exact rfl; exact rfl) | (apply hpSt F; exact rfl; exact rfl; exact rfl; exact rfl; (· repeat (first | exact Upd.head | apply Upd.tail)); (· with_reducible first | exact pad_length _ | exact zeros64_length | exact tab_length _ _ | assumption))))
    go_ret2
    rw [G.out]
    exact ⟨none, 0, rfl, RowAt.nil _ _, F.ext⟩
  | true =>
    have Q := Lib.hid hd
    have hr := isD_row hl hb hd
    have G : Hid (countS p l = [n1S p (trim l), n2S p (trim l)]) := Lib.hid (by rw [countS, hd]; rfl)
    have HO := Lib.hid hr.1
    have HC := Lib.hid hr.2.1
    have L64 := hr.2.2.1
    have PC := l07Points_any p (trim l) HO.out HC.out L64
    rw [hr.2.2.2.1] at PC
    replace PC := Lib.hid PC
    clear hb hd hr
    go_enter Tryz.func20, Tryz.ntmps20
    go_wp2_with (first | ((with_reducible show wpList _ _ _ _ _ _); first | (apply hpLd F; exact rfl; exact rfl; exact rfl; (· repeat (first | exact Has.head | apply Has.tail))) | (apply hpBox F; exact rfl; exact rfl; exact rfl; (· with_reducible first | exact pad_length _ | exact zeros64_length | exact tab_length _ _ | assumption)) | (apply hpAlloc F; exact rfl; exact rfl) | (apply hpSt F; exact rfl; exact rfl; exact rfl; exact rfl; (· repeat (first | exact Upd.head | apply Upd.tail)); (· with_reducible first | exact pad_length _ | exact zeros64_length | exact tab_length _ _ | assumption))))
    clear F
    intro ga w1 F
    go_wp2_with (first | (go_at_call 39; refine (l07Is_any p l hl HB.out _).mono ?_; rintro e w2 ⟨rfl, E2⟩; replace F := F.next E2; rw [Q.out]) | (go_at_call 40; refine (PC.out _).mono ?_; rintro e w3 ⟨rfl, E2⟩; replace F := F.next E2) | ((with_reducible show wpList _ _ _ _ _ _); first | (apply hpLd F; exact rfl; exact rfl; exact rfl; (· repeat (first | exact Has.head | apply Has.tail))) | (apply hpBox F; exact rfl; exact rfl; exact rfl; (· with_reducible first | exact pad_length _ | exact zeros64_length | exact tab_length _ _ | assumption)) | (apply hpAlloc F; exact rfl; exact rfl) | (apply hpSt F; exact rfl; exact rfl; exact rfl; exact rfl; (· repeat (first | exact Upd.head | apply Upd.tail)); (· with_reducible first | exact pad_length _ | exact zeros64_length | exact tab_length _ _ | assumption))))
    go_ret2
    rw [G.out]
    exact ⟨_, 2, rfl, (Ints.new _ 2 [n1S p (trim l), n2S p (trim l)]).row' (by simp), F.ext.alloc _⟩

theorem sq_range {a : Int} (h1 : -20 ≤ a) (h2 : a ≤ 20) : 0 ≤ a * a ∧ a * a ≤ 400 := by
  constructor
  · rcases Int.le_total 0 a with h | h
    · exact Int.mul_nonneg h h
    · exact Int.mul_nonneg_of_nonpos_of_nonpos h h
  · rcases Int.le_total 0 a with h | h
    · exact Int.le_trans (Int.mul_le_mul h2 h2 h (by decide)) (by decide)
    · have := Int.mul_le_mul (show -a ≤ 20 by omega) (show -a ≤ 20 by omega) (by omega) (by decide)
      rw [Int.neg_mul_neg] at this
      exact Int.le_trans this (by decide)
/-- The coefficients of the L polynomial out of the numbers of points, by the genus. -/
def lpoly (p n1 n2 : Int) (g : Nat) : List Int :=
  if g = 0 then [1] else if g = 1 then [1, n1 - p - 1, p] else
    [1, n1 - p - 1, (n2 - p * p - 1 + (n1 - p - 1) * (n1 - p - 1)).tdiv 2, p * (n1 - p - 1), p * p]
def polyS (p : Int) (l : List Int) : List Int := if isD p l then lpoly p (n1S p (trim l)) (n2S p (trim l)) (((trim l).length - 2) / 2) else []
theorem n1S_range {p : Int} (hp : OddP p) (d : List Int) : 1 ≤ n1S p d ∧ n1S p d ≤ 15 := by
  have := cntU_range p d (fld p) (e1 p) p.toNat
  rcases hp with rfl | rfl | rfl <;> exact ⟨this.1, Int.le_trans this.2 (by decide)⟩
theorem n2S_range {p : Int} (hp : OddP p) (d : List Int) : 1 ≤ n2S p d ∧ n2S p d ≤ 99 := by
  have := cntU_range p d (fld p) (e2 p) (p.toNat * p.toNat)
  rcases hp with rfl | rfl | rfl <;> exact ⟨this.1, Int.le_trans this.2 (by decide)⟩

set_option maxRecDepth 100000 in
set_option maxHeartbeats 1000000 in
theorem CurvePolynomial_any (p : Int) (l : List Int) (hl : l.length = 64) (hb : IsB l) (w : World) :
    Calls Tryz.prog 25 #[.int .i64 p, .agg (u8s l)] w (GivesInts (polyS p l) (if isD p l then 0 else 1) w) := by
  have HB := Lib.hid hb
  have hz := zlit
  have F := Hp.start w
  cases hd : isD p l with
  | false =>
    have Q := Lib.hid hd
    have G : Hid (polyS p l = []) := Lib.hid (by rw [polyS, hd]; rfl)
    clear hb hd
    go_enter Tryz.func25, Tryz.ntmps25
    go_wp2_with (first | ((with_reducible show wpList _ _ _ _ _ _); first | (apply hpLd F; exact rfl; exact rfl; exact rfl; (· repeat (first | exact Has.head | apply Has.tail))) | (apply hpBox F; exact rfl; exact rfl; exact rfl; (· with_reducible first | exact pad_length _ | exact zeros64_length | exact tab_length _ _ | assumption)) | (apply hpAlloc F; exact rfl; exact rfl) | (apply hpSt F; exact rfl; exact rfl; exact rfl; exact rfl; (· repeat (first | exact Upd.head | apply Upd.tail)); (· with_reducible first | exact pad_length _ | exact zeros64_length | exact tab_length _ _ | assumption))))
    clear F
    intro ga w1 F
    go_wp2_with (first | (go_at_call 39; refine (l07Is_any p l hl HB.out _).mono ?_; rintro e w2 ⟨rfl, E2⟩; replace F := F.next E2; rw [Q.out]) | ((with_reducible show wpList _ _ _ _ _ _); first | (apply hpLd F; exact rfl; exact rfl; exact rfl; (· repeat (first | exact Has.head | apply Has.tail))) | (apply hpBox F; exact rfl; exact rfl; exact rfl; (· with_reducible first | exact pad_length _ | exact zeros64_length | exact tab_length _ _ | assumption)) | (apply hpAlloc F; exact rfl; exact rfl) | (apply hpSt F; exact rfl; exact rfl; exact rfl; exact rfl; (· repeat (first | exact Upd.head | apply Upd.tail)); (· with_reducible first | exact pad_length _ | exact zeros64_length | exact tab_length _ _ | assumption))))
    go_ret2
    rw [G.out]
    exact ⟨none, 0, rfl, RowAt.nil _ _, F.ext⟩
  | true =>
    have Q := Lib.hid hd
    have hr := isD_row hl hb hd
    have G : Hid (polyS p l = lpoly p (n1S p (trim l)) (n2S p (trim l)) (((trim l).length - 2) / 2)) := Lib.hid (by rw [polyS, hd]; rfl)
    have HO := Lib.hid hr.1
    have HC := Lib.hid hr.2.1
    have L64 := hr.2.2.1
    have PC := l07Points_any p (trim l) HO.out HC.out L64
    rw [hr.2.2.2.1] at PC
    replace PC := Lib.hid PC
    have ln : (trim l).length = 2 ∨ (trim l).length = 4 ∨ (trim l).length = 6 := by
      have := hr.2.2.2.2
      rw [isDS, Bool.and_eq_true, Bool.or_eq_true, Bool.or_eq_true, beq_iff_eq, beq_iff_eq, beq_iff_eq] at this
      omega
    have r1 := n1S_range HO.out (trim l)
    have r2 := n2S_range HO.out (trim l)
    have lo := HO.out.prime.lo
    have hi := HO.out.prime.hi
    have m1 : -140 ≤ p * (n1S p (trim l) - p - 1) ∧ p * (n1S p (trim l) - p - 1) ≤ 140 := by
      have := mulB (k := n1S p (trim l) - p - 1) (b := p) (K := 20) (C := 7) (by decide) (by omega) (by omega) (by omega) hi
      rw [Int.mul_comm p]; exact this
    have m2 := sq_range (a := n1S p (trim l) - p - 1) (by omega) (by omega)
    have m3 : 9 ≤ p * p ∧ p * p ≤ 49 := by rcases HO.out with h | h | h <;> rw [h] <;> decide
    have GE := l07Genus_any (trim l) HC.out.nz L64 (by omega)
    rw [hr.2.2.2.1] at GE
    replace GE := Lib.hid GE
    clear hb hd hr
    generalize hN1 : n1S p (trim l) = N1 at *
    generalize hN2 : n2S p (trim l) = N2 at *
    unfold n1S at hN1
    unfold n2S at hN2
    rw [hN1, hN2] at PC
    clear hN1 hN2
    generalize hLn : (trim l).length = n at *
    have HL := Lib.hid hLn
    clear hLn
    rcases ln with rfl | rfl | rfl
    · have GG : Hid (polyS p l = [1]) := Lib.hid (by rw [G.out]; rfl)
      go_enter Tryz.func25, Tryz.ntmps25
      go_wp2_with (first | ((with_reducible show wpList _ _ _ _ _ _); first | (apply hpLd F; exact rfl; exact rfl; exact rfl; (· repeat (first | exact Has.head | apply Has.tail))) | (apply hpBox F; exact rfl; exact rfl; exact rfl; (· with_reducible first | exact pad_length _ | exact zeros64_length | exact tab_length _ _ | assumption)) | (apply hpAlloc F; exact rfl; exact rfl) | (apply hpSt F; exact rfl; exact rfl; exact rfl; exact rfl; (· repeat (first | exact Upd.head | apply Upd.tail)); (· with_reducible first | exact pad_length _ | exact zeros64_length | exact tab_length _ _ | assumption))))
      clear F
      intro ga w1 F
      go_wp2_with (first | (go_at_call 39; refine (l07Is_any p l hl HB.out _).mono ?_; rintro e w2 ⟨rfl, E2⟩; replace F := F.next E2; rw [Q.out]) | (go_at_call 40; refine (PC.out _).mono ?_; rintro e w3 ⟨rfl, E2⟩; replace F := F.next E2) | (go_at_call 44; refine (GE.out _).mono ?_; rintro e w4 ⟨rfl, E2⟩; replace F := F.next E2) | ((with_reducible show wpList _ _ _ _ _ _); first | (apply hpLd F; exact rfl; exact rfl; exact rfl; (· repeat (first | exact Has.head | apply Has.tail))) | (apply hpBox F; exact rfl; exact rfl; exact rfl; (· with_reducible first | exact pad_length _ | exact zeros64_length | exact tab_length _ _ | assumption)) | (apply hpAlloc F; exact rfl; exact rfl) | (apply hpSt F; exact rfl; exact rfl; exact rfl; exact rfl; (· repeat (first | exact Upd.head | apply Upd.tail)); (· with_reducible first | exact pad_length _ | exact zeros64_length | exact tab_length _ _ | assumption))))
      go_ret2
      rw [GG.out]
      exact ⟨_, 1, rfl, (Ints.new _ 2 [1]).row' (by simp), F.ext.alloc _⟩
    · have GG : Hid (polyS p l = [1, N1 - p - 1, p]) := Lib.hid (by rw [G.out]; rfl)
      go_enter Tryz.func25, Tryz.ntmps25
      go_wp2_with (first | ((with_reducible show wpList _ _ _ _ _ _); first | (apply hpLd F; exact rfl; exact rfl; exact rfl; (· repeat (first | exact Has.head | apply Has.tail))) | (apply hpBox F; exact rfl; exact rfl; exact rfl; (· with_reducible first | exact pad_length _ | exact zeros64_length | exact tab_length _ _ | assumption)) | (apply hpAlloc F; exact rfl; exact rfl) | (apply hpSt F; exact rfl; exact rfl; exact rfl; exact rfl; (· repeat (first | exact Upd.head | apply Upd.tail)); (· with_reducible first | exact pad_length _ | exact zeros64_length | exact tab_length _ _ | assumption))))
      clear F
      intro ga w1 F
      go_wp2_with (first | (go_at_call 39; refine (l07Is_any p l hl HB.out _).mono ?_; rintro e w2 ⟨rfl, E2⟩; replace F := F.next E2; rw [Q.out]) | (go_at_call 40; refine (PC.out _).mono ?_; rintro e w3 ⟨rfl, E2⟩; replace F := F.next E2) | (go_at_call 44; refine (GE.out _).mono ?_; rintro e w4 ⟨rfl, E2⟩; replace F := F.next E2) | ((with_reducible show wpList _ _ _ _ _ _); first | (apply hpLd F; exact rfl; exact rfl; exact rfl; (· repeat (first | exact Has.head | apply Has.tail))) | (apply hpBox F; exact rfl; exact rfl; exact rfl; (· with_reducible first | exact pad_length _ | exact zeros64_length | exact tab_length _ _ | assumption)) | (apply hpAlloc F; exact rfl; exact rfl) | (apply hpSt F; exact rfl; exact rfl; exact rfl; exact rfl; (· repeat (first | exact Upd.head | apply Upd.tail)); (· with_reducible first | exact pad_length _ | exact zeros64_length | exact tab_length _ _ | assumption))))
      go_ret2
      rw [GG.out]
      exact ⟨_, 3, rfl, (Ints.new _ 2 [1, N1 - p - 1, p]).row' (by simp), F.ext.alloc _⟩
    · have GG : Hid (polyS p l = [1, N1 - p - 1, (N2 - p * p - 1 + (N1 - p - 1) * (N1 - p - 1)).tdiv 2, p * (N1 - p - 1), p * p]) := Lib.hid (by rw [G.out]; rfl)
      go_enter Tryz.func25, Tryz.ntmps25
      go_wp2_with (first | ((with_reducible show wpList _ _ _ _ _ _); first | (apply hpLd F; exact rfl; exact rfl; exact rfl; (· repeat (first | exact Has.head | apply Has.tail))) | (apply hpBox F; exact rfl; exact rfl; exact rfl; (· with_reducible first | exact pad_length _ | exact zeros64_length | exact tab_length _ _ | assumption)) | (apply hpAlloc F; exact rfl; exact rfl) | (apply hpSt F; exact rfl; exact rfl; exact rfl; exact rfl; (· repeat (first | exact Upd.head | apply Upd.tail)); (· with_reducible first | exact pad_length _ | exact zeros64_length | exact tab_length _ _ | assumption))))
      clear F
      intro ga w1 F
      go_wp2_with (first | (go_at_call 39; refine (l07Is_any p l hl HB.out _).mono ?_; rintro e w2 ⟨rfl, E2⟩; replace F := F.next E2; rw [Q.out]) | (go_at_call 40; refine (PC.out _).mono ?_; rintro e w3 ⟨rfl, E2⟩; replace F := F.next E2) | (go_at_call 44; refine (GE.out _).mono ?_; rintro e w4 ⟨rfl, E2⟩; replace F := F.next E2) | ((with_reducible show wpList _ _ _ _ _ _); first | (apply hpLd F; exact rfl; exact rfl; exact rfl; (· repeat (first | exact Has.head | apply Has.tail))) | (apply hpBox F; exact rfl; exact rfl; exact rfl; (· with_reducible first | exact pad_length _ | exact zeros64_length | exact tab_length _ _ | assumption)) | (apply hpAlloc F; exact rfl; exact rfl) | (apply hpSt F; exact rfl; exact rfl; exact rfl; exact rfl; (· repeat (first | exact Upd.head | apply Upd.tail)); (· with_reducible first | exact pad_length _ | exact zeros64_length | exact tab_length _ _ | assumption))))
      go_ret2
      rw [GG.out]
      exact ⟨_, 5, rfl, (Ints.new _ 2 [1, N1 - p - 1, (N2 - p * p - 1 + (N1 - p - 1) * (N1 - p - 1)).tdiv 2, p * (N1 - p - 1), p * p]).row' (by simp), F.ext.alloc _⟩

end Go.Proofs.YtaemiknaiccijaaGreat
