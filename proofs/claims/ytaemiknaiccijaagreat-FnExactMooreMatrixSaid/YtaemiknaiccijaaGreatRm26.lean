/- Lemmas and contracts of functions, for the laws: The points of a curve over both fields; CountPoints. -/
import Derived.Test.YtaemiknaiccijaaGreatRm24
import Derived.Test.YtaemiknaiccijaaGreatRm25
set_option linter.unusedVariables false
set_option linter.unusedSimpArgs false
namespace Go.Proofs.YtaemiknaiccijaaGreat
open Go.RowKit

def BpRel (p : Int) (w2 : World) (f : Nat) (sq i : Value) (wr : World) : Prop :=
  ∃ k : Nat, f + k = fldC p ∧ i = .int .i64 k ∧ sq = .slice none 0 0 ∧ Ext w2 wr
theorem odd_cast {p : Int} (h : OddP p) : (p.toNat : Int) = p ∧ p.toNat ≤ 7 ∧ 3 ≤ p.toNat := by
  rcases h with rfl | rfl | rfl <;> decide

set_option maxRecDepth 100000 in
set_option maxHeartbeats 2000000 in
theorem bothPoints_any (p : Int) (D : Option Addr) (cd : Nat) (d : List Int) (hp : OddP p) (hd : Can p d) (ld : d.length ≤ 64) (w : World) (rd : RowAt w D d) :
    Calls Tryz.prog 43 #[.agg #[.int .i64 p, .slice D d.length cd]] w fun e w' => e = .returned (.tuple #[.int .i64 (n1S p d), .int .i64 (n2S p d)]) ∧ Ext w w' := by
  have HO := Lib.hid hp
  have HP := Lib.hid hp.prime
  have HD := Lib.hid hd
  have RD := Lib.hid rd
  have lo := HP.out.lo
  have hi := HP.out.hi
  have hm := odd_mem hp
  have NN := Lib.hid (norm2 p hm)
  have oc := odd_cast hp
  have NB : p.toNat * p.toNat ≤ 49 := Nat.mul_le_mul oc.2.1 oc.2.1
  have NB2 : 3 * 3 ≤ p.toNat * p.toNat := Nat.mul_le_mul oc.2.2 oc.2.2
  have FC := fldC_le p
  have M2 := Lib.hid (monic2 p hm)
  have I2 := Lib.hid (irr2 p hm)
  have P1 : Hid (∀ W A c, RowAt W A [0, 1] → RowAt W D d → Calls Tryz.prog 77 #[.agg #[.int .i64 p, .slice D d.length cd], .slice A 2 c] W fun e w' => e = .returned (.int .i64 (n1S p d)) ∧ Ext W w') :=
    Lib.hid fun W A c r1 r2 => by
      have := points_any p D A cd c d [0, 1] p.toNat HP.out hd (can_tee (by omega)) ld (by decide) (by decide) (norm1 p hm) (by omega) W r2 r1
      rw [points1 hp d] at this
      exact this
  have P2 : Hid (∀ W A c, RowAt W A (fld p) → RowAt W D d → Calls Tryz.prog 77 #[.agg #[.int .i64 p, .slice D d.length cd], .slice A 3 c] W fun e w' => e = .returned (.int .i64 (n2S p d)) ∧ Ext W w') :=
    Lib.hid fun W A c r1 r2 => by
      have := points_any p D A cd c d (fld p) (p.toNat * p.toNat) HP.out hd (fld_can hp) ld (by show 3 ≤ 64; decide) (by show 0 < 3; decide) (norm22 p hm) (by omega) W r2 r1
      rw [points2 hp d] at this
      exact this
  have IC : Hid (∀ k, k ≤ fldC p → Can p [(k : Int), 0, 1]) := Lib.hid fun k hk => by
    have mk : k ∈ [0, 1, 2] := by have : k = 0 ∨ k = 1 ∨ k = 2 := by omega
                                  simpa using this
    have := numr_can (show 0 < p by omega) (p.toNat * p.toNat + k)
    rwa [M2.out k mk hk] at this
  clear hp hd rd hm oc
  have MO := Lib.hid fun W => monics_any p 2 (p.toNat * p.toNat) lo hi (by decide) NN.out (by omega) W
  go_enter Tryz.func43, Tryz.ntmps43
  go_wp2_with (first | (go_at_call 75; fail))
  obtain ⟨w1, gc, hw, hgc, C0, C1, E1⟩ : ∃ w1 gc, w1 = w.alloc (.cells #[.int .i64 p, .slice D d.length cd] 68) ∧ gc = w.heap.size ∧ w1.cell? ⟨gc, 0, none⟩ = some (.int .i64 p) ∧ w1.cell? ⟨gc, 1, none⟩ = some (.slice D d.length cd) ∧ Ext w w1 :=
    ⟨_, _, rfl, rfl, cell_of (heap_alloc_new _ _) rfl, cell_of (heap_alloc_new _ _) rfl, (Ext.refl w).alloc _⟩
  rw [← hw, ← hgc]
  clear hw hgc
  refine (MO.out _).mono ?_
  rintro e w2 ⟨Am, cm, rfl, RW, E2⟩
  have RWh := Lib.hid RW
  replace C0 := Lib.hid (cellE C0 E2)
  replace C1 := Lib.hid (cellE C1 E2)
  clear RW MO
  obtain ⟨N, hN⟩ : ∃ N, N = p.toNat * p.toNat := ⟨_, rfl⟩
  rw [← hN] at NB NB2 RWh M2 NN ⊢
  have HN := Lib.hid hN
  clear hN
  go_wp2
  go_loopg [4, 11] (fldC p) (fun f sq i wr => BpRel p w2 f sq i wr)
  case atStart => exact ⟨0, rfl, rfl, rfl, Ext.refl _⟩
  case round =>
    obtain ⟨k, hk, rfl, rfl, E⟩ := hrel
    have t1 : decide ((k : Int) < (N : Int)) = true := decide_eq_true (by omega)
    have mk : k ∈ [0, 1, 2] := by have : k = 0 ∨ k = 1 ∨ k = 2 := by omega
                                  simpa using this
    obtain ⟨bm, om, rfl, hcm⟩ := RWh.out.2 (by rw [monI, List.length_map, List.length_range]; omega)
    obtain ⟨v, hv, Ak, ck, rfl, Rk⟩ := hcm k (numr p (N + k)) (by rw [monI, List.getElem?_map, List.getElem?_range (by omega)]; rfl)
    rw [M2.out k mk (by omega)] at hv Rk
    have IR := Lib.hid (I2.out k mk (by omega))
    have hv2 := cellE hv E
    have c0 := cellE C0.out E
    have i1 : k < N := by omega
    have IA' := isIrreducible_any p Ak ck [(k : Int), 0, 1] HP.out (IC.out k (by omega)) (by show 3 ≤ 64; decide) (by show 0 < 3; decide) wr (Rk.below E)
    rw [IR.out] at IA'
    have RKh := Lib.hid (Rk.below E)
    clear hcm hv Rk mk
    by_cases hlt : k < fldC p
    · rw [decide_eq_false (show ¬ k = fldC p by omega)] at IA'
      have IA : Hid (Calls Tryz.prog 76 #[.int .i64 p, .slice Ak 3 ck] wr fun e w' => e = .returned (.bool false) ∧ Ext wr w') := Lib.hid IA'
      clear IA'
      go_wp2_with (first | (go_at_call 76; (with_reducible refine IA.out.mono ?_); rintro e w3 ⟨rfl, E3⟩))
      go_roundg (gk - 1)
      case measure => omega
      case rel => exact ⟨k + 1, by omega, by go_num, rfl, E.tr E3⟩
    · have ek : k = fldC p := by omega
      rw [decide_eq_true ek] at IA'
      have IA : Hid (Calls Tryz.prog 76 #[.int .i64 p, .slice Ak 3 ck] wr fun e w' => e = .returned (.bool true) ∧ Ext wr w') := Lib.hid IA'
      have RF : Hid (RowAt wr Ak (fld p)) := Lib.hid (by have := RKh.out; rw [ek] at this; exact this)
      clear IA' RKh ek hlt
      go_wp2_with (first | (go_at_call 76; (with_reducible refine IA.out.mono ?_); rintro e w3 ⟨rfl, E3⟩; clear c0 hv2))
      have EW := E.tr E3
      refine region_ext 5 (by kernel_rfl) (by kernel_rfl) (by kernel_rfl) [] [eqv (.agg #[.int .i64 p, .slice D d.length cd]), isRow [0, 1], eqv (.int .i64 (n1S p d)), eqv (.agg #[.int .i64 p, .slice D d.length cd]), eqv (.slice Ak 3 ck)]
        ⟨mono_eqv _, mono_row _, mono_eqv _, mono_eqv _, mono_eqv _, trivial⟩ (fun vals => ?_) (fun vals w9 hE9 hS9 hN9 => ?_)
      · simp only [List.take_succ_cons, List.take_zero]
        refine ⟨fun w8 hE8 hk => doesK_plain rfl fun K hK => ?_, ?_⟩
        · have c8 := cellE C0.out (EW.tr hE8); have c9 := cellE C1.out (EW.tr hE8)
          go_simp
          (try go_bits)
          exact hK _ _ rfl (Ext.refl _) rfl
        simp only [Act.put, List.setIfInBounds_toArray, List.set_cons_zero, List.set_cons_succ]
        refine ⟨fun w8 hE8 hk => doesK_plain rfl fun K hK => ?_, ?_⟩
        · go_simp
          refine (letter_any _).mono ?_
          rintro e7 w7 ⟨A7, c7, rfl, R7, hE7⟩
          exact hK _ _ ⟨A7, c7, rfl, R7⟩ hE7 rfl
        simp only [Act.put, List.setIfInBounds_toArray, List.set_cons_zero, List.set_cons_succ]
        refine ⟨fun w8 hE8 hk => doesK_plain rfl fun K hK => ?_, ?_⟩
        · have k0 : vals 0 = .agg #[.int .i64 p, .slice D d.length cd] := hk 0 (by decide) (by kernel_rfl)
          obtain ⟨A1, c1, k1, r1⟩ : isRow [0, 1] (vals 1) _ := hk 1 (by decide) (by kernel_rfl)
          go_simp
          refine (P1.out _ A1 c1 r1 (RD.out.below (E1.tr (E2.tr (EW.tr hE8))))).mono ?_
          rintro e7 w7 ⟨rfl, hE7⟩
          exact hK _ _ rfl hE7 rfl
        simp only [Act.put, List.setIfInBounds_toArray, List.set_cons_zero, List.set_cons_succ]
        refine ⟨fun w8 hE8 hk => doesK_plain rfl fun K hK => ?_, ?_⟩
        · have c8 := cellE C0.out (EW.tr hE8); have c9 := cellE C1.out (EW.tr hE8)
          go_simp
          (try go_bits)
          exact hK _ _ rfl (Ext.refl _) rfl
        simp only [Act.put, List.setIfInBounds_toArray, List.set_cons_zero, List.set_cons_succ]
        refine ⟨fun w8 hE8 hk => doesK_plain rfl fun K hK => ?_, ?_⟩
        · go_simp
          (try go_bits)
          exact hK _ _ rfl (Ext.refl _) rfl
        exact trivial
      simp only [List.take_succ_cons, List.take_zero, List.drop_succ_cons, List.drop_zero, preAct, Nat.reduceAdd, Act.put, List.setIfInBounds_toArray, List.set_cons_zero, List.set_cons_succ]
      have k0 : vals 0 = .agg #[.int .i64 p, .slice D d.length cd] := hS9 0 (by decide) 
      obtain ⟨A1, c1, k1, r1⟩ : isRow [0, 1] (vals 1) _ := hS9 1 (by decide) 
      have k2 : vals 2 = .int .i64 (n1S p d) := hS9 2 (by decide) 
      have k3 : vals 3 = .agg #[.int .i64 p, .slice D d.length cd] := hS9 3 (by decide) 
      have k4 : vals 4 = .slice Ak 3 ck := hS9 4 (by decide) 
      simp only [k0, k1, k2, k3, k4]
      clear hN9 hS9 k0 k1 k2 k3 k4
      go_wp2_with (first | (go_at_call 77; (with_reducible refine (P2.out _ Ak ck (RF.out.below (E3.tr hE9)) (RD.out.below (E1.tr (E2.tr (EW.tr hE9))))).mono ?_); rintro e w5 ⟨rfl, E5⟩))
      go_ret2
      exact ⟨rfl, E1.tr (E2.tr (EW.tr (hE9.tr E5)))⟩

/-- A curve's value, after curveOf. -/
def CvIs (p : Int) (d : List Int) (w : World) (e : Ending) (w' : World) : Prop := ∃ D cd, e = .returned (.agg #[.int .i64 p, .slice D d.length cd]) ∧ RowAt w' D d ∧ Ext w w'
set_option maxRecDepth 100000 in
set_option maxHeartbeats 1000000 in
theorem curveOf_any (p : Int) (l : List Int) (hl : l.length = 64) (hb : IsB l) (w : World) :
    Calls Tryz.prog 42 #[.int .i64 p, .agg (u8s l)] w (CvIs p (trim l) w) := by
  have RO := Lib.hid fun W => rowOf_any l hl hb W
  have F := Hp.start w
  clear hb
  go_enter Tryz.func42, Tryz.ntmps42
  go_wp2_with (first | ((with_reducible show wpList _ _ _ _ _ _); first | (apply hpLd F; exact rfl; exact rfl; exact rfl; (· repeat (first | exact Has.head | apply Has.tail))) | (apply hpBox F; exact rfl; exact rfl; exact rfl; (· with_reducible first | exact pad_length _ | exact zeros64_length | exact tab_length _ _ | assumption)) | (apply hpAlloc F; exact rfl; exact rfl) | (apply hpSt F; exact rfl; exact rfl; exact rfl; exact rfl; (· repeat (first | exact Upd.head | apply Upd.tail)); (· with_reducible first | exact pad_length _ | exact zeros64_length | exact tab_length _ _ | assumption))))
  clear F
  intro ga w1 F
  have FA := Lib.hid (F.at_ 0 rfl)
  have E1 := F.ext
  have H4 := heap_alloc_new w1 (.cells #[.int .i64 0, .slice none 0 0] 68)
  have L4 : w1.heap.size < (w1.alloc (.cells #[.int .i64 0, .slice none 0 0] 68)).heap.size := by simp
  have EA := (Ext.refl w1).alloc (.cells #[.int .i64 0, .slice none 0 0] 68)
  have H4' := Lib.hid H4
  have EA' := Lib.hid EA
  clear F H4 EA
  go_wp2_with (first
    | ((with_reducible show wpList _ _ _ _ _ _); apply wplLG; exact rfl; exact rfl; exact FA.out.ext EA'.out; exact rfl; exact hl))
  refine (RO.out _).mono ?_
  rintro e w2 ⟨A2, c2, rfl, R2, E2⟩
  have H5 := (E2.block _ L4).trans H4'.out
  have c0 : w2.cell? ⟨w1.heap.size, 0, none⟩ = some (.int .i64 0) := cell_of H5 rfl
  have c1 : w2.cell? ⟨w1.heap.size, 1, none⟩ = some (.slice none 0 0) := cell_of H5 rfl
  have f0 : w2.frozen? ⟨w1.heap.size, 0, none⟩ = false := frozen_of_row _ _ _ _ _ H5
  have f1 : w2.frozen? ⟨w1.heap.size, 1, none⟩ = false := frozen_of_row _ _ _ _ _ H5
  have H5' := Lib.hid H5
  clear H5
  go_wp2
  obtain ⟨w9, hw9⟩ : ∃ w9, w9 = (w2.setCell ⟨w1.heap.size, 0, none⟩ (.int .i64 p)).setCell ⟨w1.heap.size, 1, none⟩ (.slice A2 (trim l).length c2) := ⟨_, rfl⟩
  have HG : w9.heap[w1.heap.size]? = some (.cells #[.int .i64 p, .slice A2 (trim l).length c2] 68 (0, 0)) := by
    rw [hw9, heap_setCell_same _ _ _ _ _ _ (heap_setCell_same _ _ _ _ _ _ H5'.out)]; rfl
  have GB : w2.grownBy w9 (some w1.heap.size) := by
    rw [hw9]
    exact ⟨rfl, rfl, rfl, by simp [World.setCell], fun k _ hk => by
      rw [heap_setCell_other _ _ k _ (fun e => hk (by rw [e])), heap_setCell_other _ _ k _ (fun e => hk (by rw [e]))]⟩
  rw [← hw9]
  have RV := Rv.other ⟨A2, c2, rfl, R2⟩ ⟨_, _, H5'.out⟩ (show 68 ≠ 2 by decide) GB
  obtain ⟨A9, c9, e9, R9⟩ := RV
  refine bodyPost_ret (results_cell_row rfl _ _ _ _ _ (0, 0) _ rfl HG Tryz.underlying68 rfl (by kernel_rfl)) rfl ⟨A2, c2, rfl, ?_, Ext.grown (E1.tr (EA'.out.tr E2)) GB E1.size⟩
  cases e9
  exact R9

end Go.Proofs.YtaemiknaiccijaaGreat

/- The program's fields and residues, and its check of lists of residues. -/
namespace Go.Proofs.YtaemiknaiccijaaGreat
open Go.RowKit

theorem fldB_impl {p : Int} {l : List Int} (hl : l.length = 64) (hb : IsB l) : fldB p l = (isPB p l && (inB (((trim l).length : Int) - 1) 1 4 && irrI p (trim l))) := by
  unfold fldB
  cases h1 : isPB p l with
  | false => rfl
  | true =>
    obtain ⟨hp, hc, h64, he⟩ := isPB_row hl hb h1
    rw [Bool.true_and, Bool.true_and]
    cases h2 : inB (((trim l).length : Int) - 1) 1 4 with
    | false => simp
    | true =>
      rw [inB, Bool.and_eq_true, decide_eq_true_eq, decide_eq_true_eq] at h2
      rw [Bool.true_and, Bool.true_and]
      by_cases h3 : lc (trim l) = 1
      · have e : monicB (trim l) = true := by rw [monicB, h3, decide_eq_true (by omega)]; rfl
        rw [e, Bool.true_and, irr_eq hp hc h3 (by omega) (by omega)]
      · have e : monicB (trim l) = false := by
          have : (lc (trim l) == 1) = false := by simpa using h3
          rw [monicB, this, Bool.and_false]
        have e2 : irrI p (trim l) = false := by
          have : (lc (trim l) == 1) = false := by simpa using h3
          rw [irrI, this]; rfl
        rw [e, e2]; rfl

set_option maxRecDepth 100000 in
set_option maxHeartbeats 1000000 in
theorem isField_any (p : Int) (l : List Int) (hl : l.length = 64) (hb : IsB l) (w : World) :
    Calls Tryz.prog 85 #[.int .i64 p, .agg (u8s l)] w fun e w' => e = .returned (.bool (fldB p l)) ∧ Ext w w' := by
  have RO := Lib.hid fun W => rowOf_any l hl hb W
  have IP := Lib.hid fun W => IsPoly_any p l hl hb W
  have GF := Lib.hid (fldB_impl (p := p) hl hb)
  have LT : (trim l).length ≤ 64 := by have := trim_le l; omega
  have WI := Lib.hid fun W => within_any (((trim l).length : Int) - 1) 1 4 W
  have F := Hp.start w
  cases h1 : isPB p l with
  | false =>
    rw [h1] at IP
    have G : Hid (fldB p l = false) := Lib.hid (by rw [fldB, h1]; rfl)
    clear h1 hb GF
    go_enter Tryz.func85, Tryz.ntmps85
    go_wp2_with (first | ((with_reducible show wpList _ _ _ _ _ _); first | (apply hpLd F; exact rfl; exact rfl; exact rfl; (· repeat (first | exact Has.head | apply Has.tail))) | (apply hpBox F; exact rfl; exact rfl; exact rfl; (· with_reducible first | exact pad_length _ | exact zeros64_length | exact tab_length _ _ | assumption)) | (apply hpAlloc F; exact rfl; exact rfl) | (apply hpSt F; exact rfl; exact rfl; exact rfl; exact rfl; (· repeat (first | exact Upd.head | apply Upd.tail)); (· with_reducible first | exact pad_length _ | exact zeros64_length | exact tab_length _ _ | assumption))))
    clear F
    intro ga w1 F
    go_wp2_with (first | (go_at_call 55; (with_reducible refine (RO.out _).mono ?_); rintro e w2 ⟨A2, c2, rfl, R2, E2⟩; replace F := F.next E2) | (go_at_call 97; (with_reducible refine (IP.out _).mono ?_); rintro e w3 ⟨rfl, E3⟩; replace F := F.next E3) | ((with_reducible show wpList _ _ _ _ _ _); first | (apply hpLd F; exact rfl; exact rfl; exact rfl; (· repeat (first | exact Has.head | apply Has.tail))) | (apply hpBox F; exact rfl; exact rfl; exact rfl; (· with_reducible first | exact pad_length _ | exact zeros64_length | exact tab_length _ _ | assumption)) | (apply hpAlloc F; exact rfl; exact rfl) | (apply hpSt F; exact rfl; exact rfl; exact rfl; exact rfl; (· repeat (first | exact Upd.head | apply Upd.tail)); (· with_reducible first | exact pad_length _ | exact zeros64_length | exact tab_length _ _ | assumption))))
    go_ret
    exact ⟨ret_bool G.out.symm, F.ext⟩
  | true =>
    rw [h1] at IP
    obtain ⟨hp, hc, h64, he⟩ := isPB_row hl hb h1
    cases h2 : inB (((trim l).length : Int) - 1) 1 4 with
    | false =>
      rw [h2] at WI
      have G : Hid (fldB p l = false) := Lib.hid (by rw [GF.out, h1, h2]; rfl)
      clear h1 h2 hb GF hp hc he
      go_enter Tryz.func85, Tryz.ntmps85
      go_wp2_with (first | ((with_reducible show wpList _ _ _ _ _ _); first | (apply hpLd F; exact rfl; exact rfl; exact rfl; (· repeat (first | exact Has.head | apply Has.tail))) | (apply hpBox F; exact rfl; exact rfl; exact rfl; (· with_reducible first | exact pad_length _ | exact zeros64_length | exact tab_length _ _ | assumption)) | (apply hpAlloc F; exact rfl; exact rfl) | (apply hpSt F; exact rfl; exact rfl; exact rfl; exact rfl; (· repeat (first | exact Upd.head | apply Upd.tail)); (· with_reducible first | exact pad_length _ | exact zeros64_length | exact tab_length _ _ | assumption))))
      clear F
      intro ga w1 F
      go_wp2_with (first | (go_at_call 55; (with_reducible refine (RO.out _).mono ?_); rintro e w2 ⟨A2, c2, rfl, R2, E2⟩; replace F := F.next E2) | (go_at_call 97; (with_reducible refine (IP.out _).mono ?_); rintro e w3 ⟨rfl, E3⟩; replace F := F.next E3) | (go_at_call 79; (with_reducible refine (degree_any _ (trim l).length _ (by omega) _).mono ?_); rintro e w' ⟨rfl, rfl⟩) | (go_at_call 113; (with_reducible refine (WI.out _).mono ?_); rintro e w' ⟨rfl, rfl⟩) | ((with_reducible show wpList _ _ _ _ _ _); first | (apply hpLd F; exact rfl; exact rfl; exact rfl; (· repeat (first | exact Has.head | apply Has.tail))) | (apply hpBox F; exact rfl; exact rfl; exact rfl; (· with_reducible first | exact pad_length _ | exact zeros64_length | exact tab_length _ _ | assumption)) | (apply hpAlloc F; exact rfl; exact rfl) | (apply hpSt F; exact rfl; exact rfl; exact rfl; exact rfl; (· repeat (first | exact Upd.head | apply Upd.tail)); (· with_reducible first | exact pad_length _ | exact zeros64_length | exact tab_length _ _ | assumption))))
      go_ret
      exact ⟨ret_bool G.out.symm, F.ext⟩
    | true =>
      rw [h2] at WI
      have G : Hid (fldB p l = irrI p (trim l)) := Lib.hid (by rw [GF.out, h1, h2]; rfl)
      have np : 0 < (trim l).length := by
        rw [inB, Bool.and_eq_true, decide_eq_true_eq] at h2
        omega
      have IR := Lib.hid fun A c W r => isIrreducible_any p A c (trim l) hp hc h64 np W r
      clear h1 h2 hb GF hp hc he
      rw [G.out]
      generalize irrI p (trim l) = r at IR
      go_enter Tryz.func85, Tryz.ntmps85
      go_wp2_with (first | ((with_reducible show wpList _ _ _ _ _ _); first | (apply hpLd F; exact rfl; exact rfl; exact rfl; (· repeat (first | exact Has.head | apply Has.tail))) | (apply hpBox F; exact rfl; exact rfl; exact rfl; (· with_reducible first | exact pad_length _ | exact zeros64_length | exact tab_length _ _ | assumption)) | (apply hpAlloc F; exact rfl; exact rfl) | (apply hpSt F; exact rfl; exact rfl; exact rfl; exact rfl; (· repeat (first | exact Upd.head | apply Upd.tail)); (· with_reducible first | exact pad_length _ | exact zeros64_length | exact tab_length _ _ | assumption))))
      clear F
      intro ga w1 F
      go_wp2_with (first | (go_at_call 55; (with_reducible refine (RO.out _).mono ?_); rintro e w2 ⟨A2, c2, rfl, R2, E2⟩; replace F := F.next E2; have FA := Lib.hid (F.at_ 0 rfl); have FE := F.ext; clear F; have F := Hp.start w2) | ((with_reducible show wpList _ _ _ _ _ _); apply wplLG; exact rfl; exact rfl; exact FA.out.ext F.ext; exact rfl; exact hl) | (go_at_call 97; (with_reducible refine (IP.out _).mono ?_); rintro e w3 ⟨rfl, E3⟩; replace F := F.next E3) | (go_at_call 79; (with_reducible refine (degree_any _ (trim l).length _ (by omega) _).mono ?_); rintro e w' ⟨rfl, rfl⟩) | (go_at_call 113; (with_reducible refine (WI.out _).mono ?_); rintro e w' ⟨rfl, rfl⟩) | (go_at_call 76; (with_reducible refine (IR.out A2 c2 _ (R2.below F.ext)).mono ?_); rintro e w5 ⟨rfl, E5⟩; replace F := F.next E5) | ((with_reducible show wpList _ _ _ _ _ _); first | (apply hpLd F; exact rfl; exact rfl; exact rfl; (· repeat (first | exact Has.head | apply Has.tail))) | (apply hpBox F; exact rfl; exact rfl; exact rfl; (· with_reducible first | exact pad_length _ | exact zeros64_length | exact tab_length _ _ | assumption)) | (apply hpAlloc F; exact rfl; exact rfl) | (apply hpSt F; exact rfl; exact rfl; exact rfl; exact rfl; (· repeat (first | exact Upd.head | apply Upd.tail)); (· with_reducible first | exact pad_length _ | exact zeros64_length | exact tab_length _ _ | assumption))))
      go_ret
      exact ⟨rfl, FE.tr F.ext⟩

end Go.Proofs.YtaemiknaiccijaaGreat

/- The program's check of a field and its residues. -/
namespace Go.Proofs.YtaemiknaiccijaaGreat
open Go.RowKit

/-- A field's value. -/
def FvIs (p : Int) (m : List Int) (w : World) (e : Ending) (w' : World) : Prop := ∃ M cm, e = .returned (.agg #[.int .i64 p, .slice M m.length cm]) ∧ RowAt w' M m ∧ Ext w w'
set_option maxRecDepth 100000 in
set_option maxHeartbeats 1000000 in
theorem fieldOf_any (p : Int) (l : List Int) (hl : l.length = 64) (hb : IsB l) (w : World) :
    Calls Tryz.prog 32 #[.int .i64 p, .agg (u8s l)] w (FvIs p (trim l) w) := by
  have RO := Lib.hid fun W => rowOf_any l hl hb W
  have F := Hp.start w
  clear hb
  go_enter Tryz.func32, Tryz.ntmps32
  go_wp2_with (first | ((with_reducible show wpList _ _ _ _ _ _); first | (apply hpLd F; exact rfl; exact rfl; exact rfl; (· repeat (first | exact Has.head | apply Has.tail))) | (apply hpBox F; exact rfl; exact rfl; exact rfl; (· with_reducible first | exact pad_length _ | exact zeros64_length | exact tab_length _ _ | assumption)) | (apply hpAlloc F; exact rfl; exact rfl) | (apply hpSt F; exact rfl; exact rfl; exact rfl; exact rfl; (· repeat (first | exact Upd.head | apply Upd.tail)); (· with_reducible first | exact pad_length _ | exact zeros64_length | exact tab_length _ _ | assumption))))
  clear F
  intro ga w1 F
  have FA := Lib.hid (F.at_ 0 rfl)
  have E1 := F.ext
  have H4 := heap_alloc_new w1 (.cells #[.int .i64 0, .slice none 0 0] 54)
  have L4 : w1.heap.size < (w1.alloc (.cells #[.int .i64 0, .slice none 0 0] 54)).heap.size := by simp
  have EA := (Ext.refl w1).alloc (.cells #[.int .i64 0, .slice none 0 0] 54)
  have H4' := Lib.hid H4
  have EA' := Lib.hid EA
  clear F H4 EA
  go_wp2_with (first
    | ((with_reducible show wpList _ _ _ _ _ _); apply wplLG; exact rfl; exact rfl; exact FA.out.ext EA'.out; exact rfl; exact hl))
  refine (RO.out _).mono ?_
  rintro e w2 ⟨A2, c2, rfl, R2, E2⟩
  have H5 := (E2.block _ L4).trans H4'.out
  have c0 : w2.cell? ⟨w1.heap.size, 0, none⟩ = some (.int .i64 0) := cell_of H5 rfl
  have c1 : w2.cell? ⟨w1.heap.size, 1, none⟩ = some (.slice none 0 0) := cell_of H5 rfl
  have f0 : w2.frozen? ⟨w1.heap.size, 0, none⟩ = false := frozen_of_row _ _ _ _ _ H5
  have f1 : w2.frozen? ⟨w1.heap.size, 1, none⟩ = false := frozen_of_row _ _ _ _ _ H5
  have H5' := Lib.hid H5
  clear H5
  go_wp2
  obtain ⟨w9, hw9⟩ : ∃ w9, w9 = (w2.setCell ⟨w1.heap.size, 0, none⟩ (.int .i64 p)).setCell ⟨w1.heap.size, 1, none⟩ (.slice A2 (trim l).length c2) := ⟨_, rfl⟩
  have HG : w9.heap[w1.heap.size]? = some (.cells #[.int .i64 p, .slice A2 (trim l).length c2] 54 (0, 0)) := by
    rw [hw9, heap_setCell_same _ _ _ _ _ _ (heap_setCell_same _ _ _ _ _ _ H5'.out)]; rfl
  have GB : w2.grownBy w9 (some w1.heap.size) := by
    rw [hw9]
    exact ⟨rfl, rfl, rfl, by simp [World.setCell], fun k _ hk => by
      rw [heap_setCell_other _ _ k _ (fun e => hk (by rw [e])), heap_setCell_other _ _ k _ (fun e => hk (by rw [e]))]⟩
  rw [← hw9]
  have RV := Rv.other ⟨A2, c2, rfl, R2⟩ ⟨_, _, H5'.out⟩ (show 54 ≠ 2 by decide) GB
  obtain ⟨A9, c9, e9, R9⟩ := RV
  refine bodyPost_ret (results_cell_row rfl _ _ _ _ _ (0, 0) _ rfl HG Tryz.underlying54 rfl (by kernel_rfl)) rfl ⟨A2, c2, rfl, ?_, Ext.grown (E1.tr (EA'.out.tr E2)) GB E1.size⟩
  cases e9
  exact R9

set_option maxRecDepth 100000 in
set_option maxHeartbeats 1000000 in
theorem isResidue_any (p : Int) (M : Option Addr) (cm : Nat) (m l : List Int) (hp : primeB p = true) (lm : m.length ≤ 64) (hl : l.length = 64) (hb : IsB l) (w : World) (rm : RowAt w M m) :
    Calls Tryz.prog 87 #[.agg #[.int .i64 p, .slice M m.length cm], .agg (u8s l)] w fun e w' => e = .returned (.bool (resB p m l)) ∧ Ext w w' := by
  have IS' := fun W => isPoly_any p l hl hb W
  have e1 : allLt p l 64 = isPB p l := by rw [isPB, hp, Bool.and_true]
  rw [e1] at IS'
  have IS := Lib.hid IS'
  have RO := Lib.hid fun W => rowOf_any l hl hb W
  have LT : (trim l).length ≤ 64 := by have := trim_le l; omega
  have DT := Lib.hid fun A c W => degree_any A (trim l).length c (by omega) W
  have DM := Lib.hid fun W => degree_any M m.length cm (by omega) W
  have E0 := (Ext.refl w).alloc (.cells #[.int .i64 p, .slice M m.length cm] 54)
  have C0 := Lib.hid (cell_of (heap_alloc_new w (.cells #[.int .i64 p, .slice M m.length cm] 54)) (j := 0) rfl)
  have C1 := Lib.hid (cell_of (heap_alloc_new w (.cells #[.int .i64 p, .slice M m.length cm] 54)) (j := 1) rfl)
  have F := Hp.start (w.alloc (.cells #[.int .i64 p, .slice M m.length cm] 54))
  clear IS' e1 hb rm
  cases h1 : isPB p l with
  | false =>
    rw [h1] at IS
    have G : Hid (resB p m l = false) := Lib.hid (by rw [resB, h1]; rfl)
    clear h1
    go_enter Tryz.func87, Tryz.ntmps87
    go_wp2_with (first | ((with_reducible show wpList _ _ _ _ _ _); first | (apply hpLd F; exact rfl; exact rfl; exact rfl; (· repeat (first | exact Has.head | apply Has.tail))) | (apply hpBox F; exact rfl; exact rfl; exact rfl; (· with_reducible first | exact pad_length _ | exact zeros64_length | exact tab_length _ _ | assumption)) | (apply hpAlloc F; exact rfl; exact rfl) | (apply hpSt F; exact rfl; exact rfl; exact rfl; exact rfl; (· repeat (first | exact Upd.head | apply Upd.tail)); (· with_reducible first | exact pad_length _ | exact zeros64_length | exact tab_length _ _ | assumption))))
    clear F
    intro gl w2 F
    go_wp2_with (first | ((with_reducible show wpList _ _ _ _ _ _); first | (apply hpLd F; exact rfl; exact rfl; exact rfl; (· repeat (first | exact Has.head | apply Has.tail))) | (apply hpBox F; exact rfl; exact rfl; exact rfl; (· with_reducible first | exact pad_length _ | exact zeros64_length | exact tab_length _ _ | assumption)) | (apply hpAlloc F; exact rfl; exact rfl) | (apply hpSt F; exact rfl; exact rfl; exact rfl; exact rfl; (· repeat (first | exact Upd.head | apply Upd.tail)); (· with_reducible first | exact pad_length _ | exact zeros64_length | exact tab_length _ _ | assumption))))
    refine region_ext 12 (by kernel_rfl) (by kernel_rfl) (by kernel_rfl) [] [eqv (.pointer (some ⟨w.heap.size, 0, none⟩)), eqv (.int .i64 p), eqv (.agg (u8s l)), eqv (.bool false), eqv (.bool false), eqv (undef), eqv (undef), eqv (undef), eqv (undef), eqv (undef), eqv (undef), eqv (undef)]
      ⟨mono_eqv _, mono_eqv _, mono_eqv _, mono_eqv _, mono_eqv _, mono_eqv _, mono_eqv _, mono_eqv _, mono_eqv _, mono_eqv _, mono_eqv _, mono_eqv _, trivial⟩ (fun vals => ?_) (fun vals w9 hE9 hS9 hN9 => ?_)
    · simp only [List.take_succ_cons, List.take_zero]
      refine ⟨fun w8 hE8 hk => doesK_plain rfl fun K hK => ?_, ?_⟩
      · go_simp
        (try go_bits)
        exact hK _ _ rfl (Ext.refl _) rfl
      simp only [Act.put, List.setIfInBounds_toArray, List.set_cons_zero, List.set_cons_succ]
      refine ⟨fun w8 hE8 hk => doesK_plain rfl fun K hK => ?_, ?_⟩
      · have k0 : vals 0 = .pointer (some ⟨w.heap.size, 0, none⟩) := hk 0 (by decide) (by kernel_rfl)
        have c8 := cellE C0.out (F.ext.tr hE8)
        go_simp
        (try go_bits)
        exact hK _ _ rfl (Ext.refl _) rfl
      simp only [Act.put, List.setIfInBounds_toArray, List.set_cons_zero, List.set_cons_succ]
      refine ⟨fun w8 hE8 hk => doesK_plain rfl fun K hK => ?_, ?_⟩
      · exact wp_load_row _ _ rfl _ (by first | rfl | simp [*]) _ _ (0, 0) _ ((F.at_ 0 rfl).ext hE8) Tryz.underlying25 rfl (by rw [infoPoly, u8s_size, hl]) (hK _ _ rfl (Ext.refl _) rfl)
      simp only [Act.put, List.setIfInBounds_toArray, List.set_cons_zero, List.set_cons_succ]
      refine ⟨fun w8 hE8 hk => doesK_plain rfl fun K hK => ?_, ?_⟩
      · have k1 : vals 1 = .int .i64 p := hk 1 (by decide) (by kernel_rfl)
        have k2 : vals 2 = .agg (u8s l) := hk 2 (by decide) (by kernel_rfl)
        go_simp
        refine (IS.out _).mono ?_
        rintro e7 w7 ⟨rfl, hE7⟩
        exact hK _ _ rfl hE7 rfl
      simp only [Act.put, List.setIfInBounds_toArray, List.set_cons_zero, List.set_cons_succ]
      refine ⟨fun w8 hE8 hk => doesK_plain rfl fun K hK => ?_, ?_⟩
      · have k3 : vals 3 = .bool false := hk 3 (by decide) (by kernel_rfl)
        go_simp
        (try go_bits)
        exact hK _ _ rfl (Ext.refl _) rfl
      simp only [Act.put, List.setIfInBounds_toArray, List.set_cons_zero, List.set_cons_succ]
      refine ⟨fun w8 hE8 hk => fun K hK => ?_, ?_⟩
      · have k4 : vals 4 = .bool false := hk 4 (by decide) (by kernel_rfl)
        rw [if_neg (by simp [Region.wanted, yielded, k4])]
        exact hK _ _ rfl (Ext.refl _) rfl
      simp only [Act.put, List.setIfInBounds_toArray, List.set_cons_zero, List.set_cons_succ]
      refine ⟨fun w8 hE8 hk => fun K hK => ?_, ?_⟩
      · have k4 : vals 4 = .bool false := hk 4 (by decide) (by kernel_rfl)
        have k5 : vals 5 = undef := hk 5 (by decide) (by kernel_rfl)
        rw [if_neg (by simp [Region.wanted, yielded, k4])]
        exact hK _ _ rfl (Ext.refl _) rfl
      simp only [Act.put, List.setIfInBounds_toArray, List.set_cons_zero, List.set_cons_succ]
      refine ⟨fun w8 hE8 hk => fun K hK => ?_, ?_⟩
      · have k4 : vals 4 = .bool false := hk 4 (by decide) (by kernel_rfl)
        have k6 : vals 6 = undef := hk 6 (by decide) (by kernel_rfl)
        rw [if_neg (by simp [Region.wanted, yielded, k4])]
        exact hK _ _ rfl (Ext.refl _) rfl
      simp only [Act.put, List.setIfInBounds_toArray, List.set_cons_zero, List.set_cons_succ]
      refine ⟨fun w8 hE8 hk => fun K hK => ?_, ?_⟩
      · have k4 : vals 4 = .bool false := hk 4 (by decide) (by kernel_rfl)
        rw [if_neg (by simp [Region.wanted, yielded, k4])]
        exact hK _ _ rfl (Ext.refl _) rfl
      simp only [Act.put, List.setIfInBounds_toArray, List.set_cons_zero, List.set_cons_succ]
      refine ⟨fun w8 hE8 hk => fun K hK => ?_, ?_⟩
      · have k4 : vals 4 = .bool false := hk 4 (by decide) (by kernel_rfl)
        have k8 : vals 8 = undef := hk 8 (by decide) (by kernel_rfl)
        rw [if_neg (by simp [Region.wanted, yielded, k4])]
        exact hK _ _ rfl (Ext.refl _) rfl
      simp only [Act.put, List.setIfInBounds_toArray, List.set_cons_zero, List.set_cons_succ]
      refine ⟨fun w8 hE8 hk => fun K hK => ?_, ?_⟩
      · have k4 : vals 4 = .bool false := hk 4 (by decide) (by kernel_rfl)
        have k7 : vals 7 = undef := hk 7 (by decide) (by kernel_rfl)
        have k9 : vals 9 = undef := hk 9 (by decide) (by kernel_rfl)
        rw [if_neg (by simp [Region.wanted, yielded, k4])]
        exact hK _ _ rfl (Ext.refl _) rfl
      simp only [Act.put, List.setIfInBounds_toArray, List.set_cons_zero, List.set_cons_succ]
      refine ⟨fun w8 hE8 hk => fun K hK => ?_, ?_⟩
      · have k4 : vals 4 = .bool false := hk 4 (by decide) (by kernel_rfl)
        have k7 : vals 7 = undef := hk 7 (by decide) (by kernel_rfl)
        have k10 : vals 10 = undef := hk 10 (by decide) (by kernel_rfl)
        rw [if_neg (by simp [Region.wanted, yielded, k4])]
        exact hK _ _ rfl (Ext.refl _) rfl
      exact trivial
    simp only [List.take_succ_cons, List.take_zero, List.drop_succ_cons, List.drop_zero, preAct, Nat.reduceAdd, Act.put, List.setIfInBounds_toArray, List.set_cons_zero, List.set_cons_succ]
    have k0 : vals 0 = .pointer (some ⟨w.heap.size, 0, none⟩) := hS9 0 (by decide) 
    have k1 : vals 1 = .int .i64 p := hS9 1 (by decide) 
    have k2 : vals 2 = .agg (u8s l) := hS9 2 (by decide) 
    have k3 : vals 3 = .bool false := hS9 3 (by decide) 
    have k4 : vals 4 = .bool false := hS9 4 (by decide) 
    have k5 : vals 5 = undef := hS9 5 (by decide) 
    have k6 : vals 6 = undef := hS9 6 (by decide) 
    have k7 : vals 7 = undef := hS9 7 (by decide) 
    have k8 : vals 8 = undef := hS9 8 (by decide) 
    have k9 : vals 9 = undef := hS9 9 (by decide) 
    have k10 : vals 10 = undef := hS9 10 (by decide) 
    have k11 : vals 11 = undef := hS9 11 (by decide) 
    simp only [k0, k1, k2, k3, k4, k5, k6, k7, k8, k9, k10, k11]
    clear hN9 hS9 k0 k1 k2 k3 k4 k5 k6 k7 k8 k9 k10 k11
    go_wp2
    go_ret
    exact ⟨ret_bool (by rw [G.out]), E0.tr (F.next hE9).ext⟩
  | true =>
    rw [h1] at IS
    have G : Hid (resB p m l = decide ((trim l).length < m.length)) := Lib.hid (by rw [resB, h1]; rfl)
    clear h1
    go_enter Tryz.func87, Tryz.ntmps87
    go_wp2_with (first | ((with_reducible show wpList _ _ _ _ _ _); first | (apply hpLd F; exact rfl; exact rfl; exact rfl; (· repeat (first | exact Has.head | apply Has.tail))) | (apply hpBox F; exact rfl; exact rfl; exact rfl; (· with_reducible first | exact pad_length _ | exact zeros64_length | exact tab_length _ _ | assumption)) | (apply hpAlloc F; exact rfl; exact rfl) | (apply hpSt F; exact rfl; exact rfl; exact rfl; exact rfl; (· repeat (first | exact Upd.head | apply Upd.tail)); (· with_reducible first | exact pad_length _ | exact zeros64_length | exact tab_length _ _ | assumption))))
    clear F
    intro gl w2 F
    go_wp2_with (first | ((with_reducible show wpList _ _ _ _ _ _); first | (apply hpLd F; exact rfl; exact rfl; exact rfl; (· repeat (first | exact Has.head | apply Has.tail))) | (apply hpBox F; exact rfl; exact rfl; exact rfl; (· with_reducible first | exact pad_length _ | exact zeros64_length | exact tab_length _ _ | assumption)) | (apply hpAlloc F; exact rfl; exact rfl) | (apply hpSt F; exact rfl; exact rfl; exact rfl; exact rfl; (· repeat (first | exact Upd.head | apply Upd.tail)); (· with_reducible first | exact pad_length _ | exact zeros64_length | exact tab_length _ _ | assumption))))
    refine region_ext 12 (by kernel_rfl) (by kernel_rfl) (by kernel_rfl) [] [eqv (.pointer (some ⟨w.heap.size, 0, none⟩)), eqv (.int .i64 p), eqv (.agg (u8s l)), eqv (.bool true), eqv (.bool true), eqv (.agg (u8s l)), isRow (trim l), eqv (.int .i64 (((trim l).length : Int) - 1)), eqv (.pointer (some ⟨w.heap.size, 1, none⟩)), eqv (.slice M m.length cm), eqv (.int .i64 ((m.length : Int) - 1)), eqv (.bool (decide ((trim l).length < m.length)))]
      ⟨mono_eqv _, mono_eqv _, mono_eqv _, mono_eqv _, mono_eqv _, mono_eqv _, mono_row _, mono_eqv _, mono_eqv _, mono_eqv _, mono_eqv _, mono_eqv _, trivial⟩ (fun vals => ?_) (fun vals w9 hE9 hS9 hN9 => ?_)
    · simp only [List.take_succ_cons, List.take_zero]
      refine ⟨fun w8 hE8 hk => doesK_plain rfl fun K hK => ?_, ?_⟩
      · go_simp
        (try go_bits)
        exact hK _ _ rfl (Ext.refl _) rfl
      simp only [Act.put, List.setIfInBounds_toArray, List.set_cons_zero, List.set_cons_succ]
      refine ⟨fun w8 hE8 hk => doesK_plain rfl fun K hK => ?_, ?_⟩
      · have k0 : vals 0 = .pointer (some ⟨w.heap.size, 0, none⟩) := hk 0 (by decide) (by kernel_rfl)
        have c8 := cellE C0.out (F.ext.tr hE8)
        go_simp
        (try go_bits)
        exact hK _ _ rfl (Ext.refl _) rfl
      simp only [Act.put, List.setIfInBounds_toArray, List.set_cons_zero, List.set_cons_succ]
      refine ⟨fun w8 hE8 hk => doesK_plain rfl fun K hK => ?_, ?_⟩
      · exact wp_load_row _ _ rfl _ (by first | rfl | simp [*]) _ _ (0, 0) _ ((F.at_ 0 rfl).ext hE8) Tryz.underlying25 rfl (by rw [infoPoly, u8s_size, hl]) (hK _ _ rfl (Ext.refl _) rfl)
      simp only [Act.put, List.setIfInBounds_toArray, List.set_cons_zero, List.set_cons_succ]
      refine ⟨fun w8 hE8 hk => doesK_plain rfl fun K hK => ?_, ?_⟩
      · have k1 : vals 1 = .int .i64 p := hk 1 (by decide) (by kernel_rfl)
        have k2 : vals 2 = .agg (u8s l) := hk 2 (by decide) (by kernel_rfl)
        go_simp
        refine (IS.out _).mono ?_
        rintro e7 w7 ⟨rfl, hE7⟩
        exact hK _ _ rfl hE7 rfl
      simp only [Act.put, List.setIfInBounds_toArray, List.set_cons_zero, List.set_cons_succ]
      refine ⟨fun w8 hE8 hk => doesK_plain rfl fun K hK => ?_, ?_⟩
      · have k3 : vals 3 = .bool true := hk 3 (by decide) (by kernel_rfl)
        go_simp
        (try go_bits)
        exact hK _ _ rfl (Ext.refl _) rfl
      simp only [Act.put, List.setIfInBounds_toArray, List.set_cons_zero, List.set_cons_succ]
      refine ⟨fun w8 hE8 hk => fun K hK => ?_, ?_⟩
      · have k4 : vals 4 = .bool true := hk 4 (by decide) (by kernel_rfl)
        rw [if_pos (by simp [Region.wanted, yielded, k4])]
        exact wp_load_row _ _ rfl _ (by first | rfl | simp [*]) _ _ (0, 0) _ ((F.at_ 0 rfl).ext hE8) Tryz.underlying25 rfl (by rw [infoPoly, u8s_size, hl]) (hK _ _ rfl (Ext.refl _) rfl)
      simp only [Act.put, List.setIfInBounds_toArray, List.set_cons_zero, List.set_cons_succ]
      refine ⟨fun w8 hE8 hk => fun K hK => ?_, ?_⟩
      · have k4 : vals 4 = .bool true := hk 4 (by decide) (by kernel_rfl)
        have k5 : vals 5 = .agg (u8s l) := hk 5 (by decide) (by kernel_rfl)
        rw [if_pos (by simp [Region.wanted, yielded, k4])]
        go_simp
        refine (RO.out _).mono ?_
        rintro e7 w7 ⟨A7, c7, rfl, R7, hE7⟩
        exact hK _ _ ⟨A7, c7, rfl, R7⟩ hE7 rfl
      simp only [Act.put, List.setIfInBounds_toArray, List.set_cons_zero, List.set_cons_succ]
      refine ⟨fun w8 hE8 hk => fun K hK => ?_, ?_⟩
      · have k4 : vals 4 = .bool true := hk 4 (by decide) (by kernel_rfl)
        obtain ⟨A6, c6, k6, r6⟩ : isRow (trim l) (vals 6) _ := hk 6 (by decide) (by kernel_rfl)
        rw [if_pos (by simp [Region.wanted, yielded, k4])]
        go_simp
        refine (DT.out _ _ _).mono ?_
        rintro e7 w7 ⟨rfl, rfl⟩
        exact hK _ _ rfl (Ext.refl _) rfl
      simp only [Act.put, List.setIfInBounds_toArray, List.set_cons_zero, List.set_cons_succ]
      refine ⟨fun w8 hE8 hk => fun K hK => ?_, ?_⟩
      · have k4 : vals 4 = .bool true := hk 4 (by decide) (by kernel_rfl)
        rw [if_pos (by simp [Region.wanted, yielded, k4])]
        go_simp
        (try go_bits)
        exact hK _ _ rfl (Ext.refl _) rfl
      simp only [Act.put, List.setIfInBounds_toArray, List.set_cons_zero, List.set_cons_succ]
      refine ⟨fun w8 hE8 hk => fun K hK => ?_, ?_⟩
      · have k4 : vals 4 = .bool true := hk 4 (by decide) (by kernel_rfl)
        have k8 : vals 8 = .pointer (some ⟨w.heap.size, 1, none⟩) := hk 8 (by decide) (by kernel_rfl)
        rw [if_pos (by simp [Region.wanted, yielded, k4])]
        have c8 := cellE C1.out (F.ext.tr hE8)
        go_simp
        (try go_bits)
        exact hK _ _ rfl (Ext.refl _) rfl
      simp only [Act.put, List.setIfInBounds_toArray, List.set_cons_zero, List.set_cons_succ]
      refine ⟨fun w8 hE8 hk => fun K hK => ?_, ?_⟩
      · have k4 : vals 4 = .bool true := hk 4 (by decide) (by kernel_rfl)
        have k7 : vals 7 = .int .i64 (((trim l).length : Int) - 1) := hk 7 (by decide) (by kernel_rfl)
        have k9 : vals 9 = .slice M m.length cm := hk 9 (by decide) (by kernel_rfl)
        rw [if_pos (by simp [Region.wanted, yielded, k4])]
        go_simp
        refine (DM.out _).mono ?_
        rintro e7 w7 ⟨rfl, rfl⟩
        exact hK _ _ rfl (Ext.refl _) rfl
      simp only [Act.put, List.setIfInBounds_toArray, List.set_cons_zero, List.set_cons_succ]
      refine ⟨fun w8 hE8 hk => fun K hK => ?_, ?_⟩
      · have k4 : vals 4 = .bool true := hk 4 (by decide) (by kernel_rfl)
        have k7 : vals 7 = .int .i64 (((trim l).length : Int) - 1) := hk 7 (by decide) (by kernel_rfl)
        have k10 : vals 10 = .int .i64 ((m.length : Int) - 1) := hk 10 (by decide) (by kernel_rfl)
        rw [if_pos (by simp [Region.wanted, yielded, k4])]
        go_simp
        (try go_bits)
        exact hK _ _ rfl (Ext.refl _) rfl
      exact trivial
    simp only [List.take_succ_cons, List.take_zero, List.drop_succ_cons, List.drop_zero, preAct, Nat.reduceAdd, Act.put, List.setIfInBounds_toArray, List.set_cons_zero, List.set_cons_succ]
    have k0 : vals 0 = .pointer (some ⟨w.heap.size, 0, none⟩) := hS9 0 (by decide) 
    have k1 : vals 1 = .int .i64 p := hS9 1 (by decide) 
    have k2 : vals 2 = .agg (u8s l) := hS9 2 (by decide) 
    have k3 : vals 3 = .bool true := hS9 3 (by decide) 
    have k4 : vals 4 = .bool true := hS9 4 (by decide) 
    have k5 : vals 5 = .agg (u8s l) := hS9 5 (by decide) 
    obtain ⟨A6, c6, k6, r6⟩ : isRow (trim l) (vals 6) _ := hS9 6 (by decide) 
    have k7 : vals 7 = .int .i64 (((trim l).length : Int) - 1) := hS9 7 (by decide) 
    have k8 : vals 8 = .pointer (some ⟨w.heap.size, 1, none⟩) := hS9 8 (by decide) 
    have k9 : vals 9 = .slice M m.length cm := hS9 9 (by decide) 
    have k10 : vals 10 = .int .i64 ((m.length : Int) - 1) := hS9 10 (by decide) 
    have k11 : vals 11 = .bool (decide ((trim l).length < m.length)) := hS9 11 (by decide) 
    simp only [k0, k1, k2, k3, k4, k5, k6, k7, k8, k9, k10, k11]
    clear hN9 hS9 k0 k1 k2 k3 k4 k5 k6 k7 k8 k9 k10 k11
    go_wp2
    go_ret
    exact ⟨ret_bool (by rw [G.out]), E0.tr (F.next hE9).ext⟩

end Go.Proofs.YtaemiknaiccijaaGreat
