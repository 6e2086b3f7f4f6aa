/- Lemmas and contracts of functions, for the laws on curves: The program's points of a curve over a field of rests. -/
import Derived.Test.YtaemiknaiccijaaGreatPp7
import Derived.Test.YtaemiknaiccijaaGreatRows
import Derived.ProofKit
import Derived.OpenShut
import Derived.ChangeOld
import Derived.Below
set_option linter.unusedVariables false
set_option linter.unusedSimpArgs false
namespace Go.Proofs.YtaemiknaiccijaaGreat
open Go.RowKit

theorem Ext.drewN {a w : World} (h : Ext a w) (n : Nat) : Ext a (w.drewN n) := h.trans ⟨rfl, rfl, rfl, Nat.le_refl _, fun _ _ => rfl⟩
def PtRel1 (p : Int) (m : List Int) (N : Nat) (w1 : World) (B f : Nat) (i : Value) (wr : World) : Prop :=
  ∃ k : Nat, f + k = N ∧ i = .int .i64 k ∧ Ext w1 wr ∧ MapC wr B (sqI p m) k

def isFix (L : List Int) : Value → World → Prop := fun v w => ∃ A c, v = .slice A L.length c ∧ L.length ≤ c ∧ RowAt w A L
theorem mono_Fix (L : List Int) : Mono (isFix L) := fun _ _ _ ⟨A, c, h1, h2, h3⟩ hE => ⟨A, c, h1, h2, h3.below hE⟩
/-- What has been counted over the first k places. -/
def pntTo (p : Int) (d m : List Int) (N k : Nat) : Int := 1 + sumN k fun j => times (sqI p m) (atI p d (numr p j) m) N
theorem pntTo_step (p : Int) (d m : List Int) (N k : Nat) : pntTo p d m N (k + 1) = pntTo p d m N k + times (sqI p m) (atI p d (numr p k) m) N := by unfold pntTo; rw [sumN]; omega
theorem pntTo_range (p : Int) (d m : List Int) (N : Nat) (hN : N ≤ 1000000) : ∀ k : Nat, 1 ≤ pntTo p d m N k ∧ pntTo p d m N k ≤ 1 + k * 1000000
  | 0 => by unfold pntTo; rw [sumN]; omega
  | k + 1 => by
    have a := pntTo_range p d m N hN k
    have b := times_range (sqI p m) (atI p d (numr p k) m) N
    rw [pntTo_step]; omega
def PtRel2 (p : Int) (d m : List Int) (N : Nat) (w1 : World) (B f : Nat) (va i : Value) (wr : World) : Prop :=
  ∃ k : Nat, f + k = N ∧ i = .int .i64 k ∧ va = .int .i64 (pntTo p d m N k) ∧ Ext w1 wr ∧ MapC wr B (sqI p m) N
def PtRel3 (p : Int) (d x m : List Int) (w5 : World) (f : Nat) (vv i : Value) (wr : World) : Prop :=
  ∃ v : List Int, f ≤ d.length ∧ i = .int .i64 ((f : Int) - 1) ∧ Rv wr vv v ∧ Can p v ∧ v.length ≤ 64 ∧ atG p d x m f v = atI p d x m ∧ Ext w5 wr

set_option maxRecDepth 100000 in
set_option maxHeartbeats 2000000 in
theorem points_any (p : Int) (D M : Option Addr) (cd cm : Nat) (d m : List Int) (N : Nat) (hp : PrimeP p) (hd : Can p d) (hm : Can p m) (ld : d.length ≤ 64) (lm : m.length ≤ 64) (nm : 0 < m.length) (hN : normI p (m.length - 1) 1099511627776 = (N : Int)) (hN2 : N ≤ 1000000) (w : World) (rd : RowAt w D d) (rm : RowAt w M m) :
    Calls Tryz.prog 77 #[.agg #[.int .i64 p, .slice D d.length cd], .slice M m.length cm] w fun e w' => e = .returned (.int .i64 (pntI p d m N)) ∧ Ext w w' := by
  have HP := Lib.hid hp
  have HD := Lib.hid hd
  have HM := Lib.hid hm
  have RD := Lib.hid rd
  have RM := Lib.hid rm
  have HN := Lib.hid hN
  have lo := hp.lo
  have hi := hp.hi
  clear hp hd hm rd rm hN
  go_enter Tryz.func77, Tryz.ntmps77
  go_wp2
  obtain ⟨w1, gc, gf, hw, hgc, hgf, C0, C1, F0, F1, E1⟩ : ∃ w1 gc gf, w1 = (w.alloc (.cells #[.int .i64 p, .slice D d.length cd] 68)).alloc (.cells #[.int .i64 p, .slice M m.length cm] 54) ∧ gc = w.heap.size ∧ gf = w.heap.size + 1 ∧
      w1.cell? ⟨gc, 0, none⟩ = some (.int .i64 p) ∧ w1.cell? ⟨gc, 1, none⟩ = some (.slice D d.length cd) ∧ w1.cell? ⟨gf, 0, none⟩ = some (.int .i64 p) ∧ w1.cell? ⟨gf, 1, none⟩ = some (.slice M m.length cm) ∧ Ext w w1 := by
    have A := heap_alloc_new w (.cells #[.int .i64 p, .slice D d.length cd] 68)
    have B := heap_alloc_new (w.alloc (.cells #[.int .i64 p, .slice D d.length cd] 68)) (.cells #[.int .i64 p, .slice M m.length cm] 54)
    have s1 : (w.alloc (.cells #[.int .i64 p, .slice D d.length cd] 68)).heap.size = w.heap.size + 1 := by simp
    rw [s1] at B
    refine ⟨_, _, _, rfl, rfl, rfl, cellE (cell_of A rfl) ((Ext.refl _).alloc _), cellE (cell_of A rfl) ((Ext.refl _).alloc _), cell_of B rfl, cell_of B rfl, ((Ext.refl w).alloc _).alloc _⟩
  rw [← hw, ← hgf, ← hgc]
  clear hw hgc hgf
  have NC : Hid (∀ W, Calls Tryz.prog 105 #[.int .i64 p, .int .i64 ((m.length : Int) - 1), .int .i64 1099511627776] W fun e w' => e = .returned (.int .i64 (N : Int)) ∧ w' = W) := Lib.hid fun W => by
    have := norm_any p 1099511627776 (m.length - 1) lo hi (by omega) (by decide) (by decide) W
    rw [HN.out, show ((m.length - 1 : Nat) : Int) = (m.length : Int) - 1 by omega] at this
    exact this.mono fun _ _ h => ⟨h.1, h.2.symm⟩
  have DC : Hid (∀ W, Calls Tryz.prog 79 #[.slice M m.length cm] W fun e w' => e = .returned (.int .i64 ((m.length : Int) - 1)) ∧ w' = W) := Lib.hid fun W => (degree_any M m.length cm (by omega) W).mono fun _ _ h => ⟨h.1, h.2.symm⟩
  have hmm := @run_makeMap Tryz.prog
  go_quiet ((first | (go_at_call 79; exact Calls.quiet_of_same (DC.out _)) | (go_at_call 105; exact Calls.quiet_of_same (NC.out _))))
  go_wp2
  obtain ⟨w2, B, hw, hB, MC, E2⟩ : ∃ w2 B, w2 = (w1.drewN nq).alloc (.map #[] 0) ∧ B = w1.heap.size ∧ MapC w2 B (sqI p m) 0 ∧ Ext w1 w2 :=
    ⟨_, _, rfl, rfl, MapC.made (w1.drewN nq) _, (Ext.drewN (Ext.refl w1) nq).alloc _⟩
  have LB : w1.heap.size ≤ B := by omega
  rw [← hw, ← hB]
  clear hw hB hmm NC DC
  replace C0 := Lib.hid C0
  replace C1 := Lib.hid C1
  replace F0 := Lib.hid F0
  replace F1 := Lib.hid F1
  go_loopg [26] N (fun f i wr => PtRel1 p m N w1 B f i wr)
  case atStart => exact ⟨0, rfl, rfl, E2, MC⟩
  case round =>
    clear E2 MC
    obtain ⟨k, hk, rfl, E, MC⟩ := hrel
    by_cases hlt : k < N
    · have t1 : decide ((k : Int) < (N : Int)) = true := decide_eq_true (by omega)
      have c0 := cellE C0.out E
      have NB := Lib.hid (numbered_any p k lo hi (Nat.lt_of_lt_of_le (show k < 10000000 by omega) (by decide)))
      have NL := numr_le p k
      have NC := Lib.hid (numr_can (show 0 < p by omega) k)
      have SP := Lib.hid (mulI_spec HP.out (numr p k) (numr p k) HM.out nm)
      have SL := SP.out.2
      have SD : Hid (Dig (mulI p (numr p k) (numr p k) m)) := Lib.hid (SP.out.1.dig hi)
      have TR := times_range (sqI p m) (mulI p (numr p k) (numr p k) m) k
      have SQ : Hid (sqI p m k = mulI p (numr p k) (numr p k) m) := Lib.hid rfl
      have SI : Hid (∀ j, 0 ≤ at0 (mulI p (numr p k) (numr p k) m) j ∧ at0 (mulI p (numr p k) (numr p k) m) j ≤ 9) := Lib.hid SD.out.2
      go_wp2_with (first
        | (go_at_call 106; (with_reducible refine (NB.out _).mono ?_); rintro e w3 ⟨⟨A3, c3, rfl, R3, E3⟩, F3⟩; clear F3 c0; have f0 := cellE F0.out (E.tr E3); have f1 := cellE F1.out (E.tr E3))
        | (go_at_call 58; (with_reducible refine (product_any p M A3 A3 cm c3 c3 m (numr p k) (numr p k) HP.out HM.out NC.out NC.out (by omega) (by omega) (by omega) nm _ (RM.out.below (E1.tr (E.tr E3))) R3 R3).mono ?_); rintro e w4 ⟨A4, c4, rfl, R4, E4⟩; clear f0 f1)
        | (go_at_call 109; (with_reducible refine (text_any A4 c4 (mulI p (numr p k) (numr p k) m) SI.out (by omega) _ R4).mono ?_); rintro e w5 ⟨rfl, E5⟩; replace MC := MC.ext (E3.tr (E4.tr E5)))
        | ((with_reducible show wpList _ _ _ _ _ _); apply wplMapGet; exact rfl; exact rfl; exact MC; exact rfl; exact rfl; exact SD.out; omega)
        | ((with_reducible show wpList _ _ _ _ _ _); apply wplMapInc; exact rfl; exact rfl; exact MC; exact rfl; exact rfl; exact SD.out; omega; exact SQ.out; exact rfl; omega))
      intro w6 M6 G6
      have E6 := (E.tr (E3.tr (E4.tr E5))).grown G6 LB
      clear MC G6 E3 E4 E5
      go_wp2
      go_roundg (gk - 1)
      case measure => omega
      case rel => exact ⟨k + 1, by omega, by go_num, E6, M6⟩
    · have t1 : decide ((k : Int) < (N : Int)) = false := decide_eq_false (by omega)
      obtain rfl : N = k := by omega
      clear hlt hk
      have E0 := E
      have MC0 := Lib.hid MC
      go_wp2
      go_loopg [10, 43] N (fun f va i wr => PtRel2 p d m N w1 B f va i wr)
      case atStart => exact ⟨0, rfl, rfl, rfl, E0, MC0.out⟩
      case round =>
        clear E MC E0 MC0 t1
        obtain ⟨k, hk, rfl, rfl, E, MC⟩ := hrel
        have PR := pntTo_range p d m N hN2 k
        by_cases hlt : k < N
        · obtain ⟨fo, rfl⟩ : ∃ fo, gk = fo + 1 := ⟨gk - 1, by omega⟩
          have t1 : decide ((k : Int) < (N : Int)) = true := decide_eq_true (by omega)
          have c0 := cellE C0.out E
          have c1 := cellE C1.out E
          have NB := Lib.hid (numbered_any p k lo hi (Nat.lt_of_lt_of_le (show k < 10000000 by omega) (by decide)))
          have NL := numr_le p k
          have NC := Lib.hid (numr_can (show 0 < p by omega) k)
          have PS := Lib.hid (pntTo_step p d m N k)
          have MCk := Lib.hid MC
          clear MC
          go_wp2_with (first
            | (go_at_call 106; (with_reducible refine (NB.out _).mono ?_); rintro e w3 ⟨⟨A3, c3, rfl, R3, E3⟩, F3⟩; clear F3 c0; replace c1 := cellE c1 E3))
          have RD3 := Lib.hid (RD.out.below (E1.tr (E.tr E3)))
          go_loopg [13, 14] d.length (fun f vv i wr => PtRel3 p d (numr p k) m w3 f vv i wr)
          case atStart => exact ⟨[], Nat.le_refl _, rfl, ⟨none, 0, rfl, RowAt.nil _ _⟩, can_nil (by omega), by decide, rfl, Ext.refl _⟩
          case round =>
            obtain ⟨v, hf, rfl, ⟨Av, cv, rfl, Rw⟩, hv, lv, hs, E5⟩ := hrel
            have HV := Lib.hid hv
            have HS := Lib.hid hs
            have RV := Lib.hid Rw
            clear hv hs Rw c1
            have EW := E.tr (E3.tr E5)
            by_cases g0 : gk = 0
            · subst g0
              have VA : Hid (v = atI p d (numr p k) m) := Lib.hid HS.out
              have MC5 := Lib.hid (MCk.out.ext (E3.tr E5))
              have VD := Lib.hid (HV.out.dig hi)
              have SI : Hid (∀ j, 0 ≤ at0 v j ∧ at0 v j ≤ 9) := Lib.hid VD.out.2
              have TR := times_range (sqI p m) v N
              rw [show ((0 : Nat) : Int) - 1 = -1 from rfl]
              go_wp2_with (first
                | (go_at_call 109; (with_reducible refine (text_any Av cv v SI.out (by omega) _ RV.out).mono ?_); rintro e w6 ⟨rfl, E6⟩; replace MC5 := Lib.hid (MC5.out.ext E6))
                | ((with_reducible show wpList _ _ _ _ _ _); apply wplMapGet; exact rfl; exact rfl; exact MC5.out; exact rfl; exact rfl; exact VD.out; omega))
              go_roundg fo
              case measure => omega
              case rel => exact ⟨k + 1, by omega, by go_num, by rw [PS.out, ← VA.out], EW.tr E6, MC5.out⟩
            · obtain ⟨f, rfl⟩ : ∃ f, gk = f + 1 := ⟨gk - 1, by omega⟩
              rw [show ((f + 1 : Nat) : Int) - 1 = (f : Int) by omega]
              obtain ⟨bd, od, rfl, _, hcd⟩ := RD3.out.place (by omega)
              have cdw := Lib.hid (cellE (hcd f (by omega)) E5)
              have MS := Lib.hid (mulI_spec HP.out v (numr p k) HM.out nm)
              have ML := MS.out.2
              have bf := HD.out.inp f
              have i1 : f < d.length := by omega
              have i2 : (f : Int) < (d.length : Int) := by omega
              have CL := comb_le p (mulI p v (numr p k) m) (trim [at0 d f]) 1
              have TL := trim_le [at0 d f]
              simp only [List.length_cons, List.length_nil] at TL
              have BT : Hid (IsB (trim [at0 d f])) := Lib.hid (fun j => by
                rw [at0_trim]
                match j with
                | 0 => exact ⟨bf.1, by show at0 d f ≤ 255; omega⟩
                | j + 1 => exact ⟨Int.le_refl _, by show (0 : Int) ≤ 255; decide⟩)
              have BM : Hid (IsB (mulI p v (numr p k) m)) := Lib.hid (MS.out.1.inp.b (by omega))
              have CC := Lib.hid (comb_can (show 0 < p by omega) (mulI p v (numr p k) m) (trim [at0 d f]) 1)
              clear hcd g0
              go_wp2
              refine region_ext 13 (by kernel_rfl) (by kernel_rfl) (by kernel_rfl) [] [eqv (.pointer (some ⟨gc, 0, none⟩)), eqv (.int .i64 p), eqv (.agg #[.int .i64 p, .slice M m.length cm]), eqv (.slice Av v.length cv), eqv (.slice A3 (numr p k).length c3), isRow (mulI p v (numr p k) m), eqv (.pointer (some ⟨gc, 1, none⟩)), eqv (.slice (some ⟨bd, od, none⟩) d.length cd), eqv (.int .i64 (f : Int)), eqv (.pointer (some ⟨bd, od + f, none⟩)), eqv (.int .i64 (at0 d f)), isFix ([at0 d f]), isRow (trim [at0 d f])]
                ⟨mono_eqv _, mono_eqv _, mono_eqv _, mono_eqv _, mono_eqv _, mono_row _, mono_eqv _, mono_eqv _, mono_eqv _, mono_eqv _, mono_eqv _, mono_Fix _, mono_row _, trivial⟩ (fun vals => ?_) (fun vals w9 hE9 hS9 hN9 => ?_)
              · simp only [List.take_succ_cons, List.take_zero]
                refine ⟨fun w8 hE8 hk => doesK_plain rfl fun K hK => ?_, ?_⟩
                · go_simp
                  (try go_bits)
                  exact hK _ _ rfl (Ext.refl _) rfl
                simp only [Act.put, List.setIfInBounds_toArray, List.set_cons_zero, List.set_cons_succ]
                refine ⟨fun w8 hE8 hk => doesK_plain rfl fun K hK => ?_, ?_⟩
                · have k0 : vals 0 = .pointer (some ⟨gc, 0, none⟩) := hk 0 (by decide) (by kernel_rfl)
                  have c8 := cellE C0.out (EW.tr hE8)
                  go_simp
                  (try go_bits)
                  exact hK _ _ rfl (Ext.refl _) rfl
                simp only [Act.put, List.setIfInBounds_toArray, List.set_cons_zero, List.set_cons_succ]
                refine ⟨fun w8 hE8 hk => doesK_plain rfl fun K hK => ?_, ?_⟩
                · have f8 := cellE F0.out (EW.tr hE8); have f9 := cellE F1.out (EW.tr hE8)
                  go_simp
                  (try go_bits)
                  exact hK _ _ rfl (Ext.refl _) rfl
                simp only [Act.put, List.setIfInBounds_toArray, List.set_cons_zero, List.set_cons_succ]
                refine ⟨fun w8 hE8 hk => doesK_plain rfl fun K hK => ?_, ?_⟩
                · go_simp
                  (try go_bits)
                  exact hK _ _ rfl (Ext.refl _) rfl
                simp only [Act.put, List.setIfInBounds_toArray, List.set_cons_zero, List.set_cons_succ]
                refine ⟨fun w8 hE8 hk => doesK_plain rfl fun K hK => ?_, ?_⟩
                · go_simp
                  (try go_bits)
                  exact hK _ _ rfl (Ext.refl _) rfl
                simp only [Act.put, List.setIfInBounds_toArray, List.set_cons_zero, List.set_cons_succ]
                refine ⟨fun w8 hE8 hk => doesK_plain rfl fun K hK => ?_, ?_⟩
                · have k2 : vals 2 = .agg #[.int .i64 p, .slice M m.length cm] := hk 2 (by decide) (by kernel_rfl)
                  have k3 : vals 3 = .slice Av v.length cv := hk 3 (by decide) (by kernel_rfl)
                  have k4 : vals 4 = .slice A3 (numr p k).length c3 := hk 4 (by decide) (by kernel_rfl)
                  go_simp
                  refine (product_any p M Av A3 cm cv c3 m v (numr p k) HP.out HM.out HV.out NC.out (by omega) (by omega) (by omega) nm _ (RM.out.below (E1.tr (EW.tr hE8))) (RV.out.below hE8) (R3.below (E5.tr hE8))).mono ?_
                  rintro e7 w7 ⟨A7, c7, rfl, R7, hE7⟩
                  exact hK _ _ ⟨A7, c7, rfl, R7⟩ hE7 rfl
                simp only [Act.put, List.setIfInBounds_toArray, List.set_cons_zero, List.set_cons_succ]
                refine ⟨fun w8 hE8 hk => doesK_plain rfl fun K hK => ?_, ?_⟩
                · go_simp
                  (try go_bits)
                  exact hK _ _ rfl (Ext.refl _) rfl
                simp only [Act.put, List.setIfInBounds_toArray, List.set_cons_zero, List.set_cons_succ]
                refine ⟨fun w8 hE8 hk => doesK_plain rfl fun K hK => ?_, ?_⟩
                · have k6 : vals 6 = .pointer (some ⟨gc, 1, none⟩) := hk 6 (by decide) (by kernel_rfl)
                  have c8 := cellE C1.out (EW.tr hE8)
                  go_simp
                  (try go_bits)
                  exact hK _ _ rfl (Ext.refl _) rfl
                simp only [Act.put, List.setIfInBounds_toArray, List.set_cons_zero, List.set_cons_succ]
                refine ⟨fun w8 hE8 hk => doesK_plain rfl fun K hK => ?_, ?_⟩
                · go_simp
                  (try go_bits)
                  exact hK _ _ rfl (Ext.refl _) rfl
                simp only [Act.put, List.setIfInBounds_toArray, List.set_cons_zero, List.set_cons_succ]
                refine ⟨fun w8 hE8 hk => doesK_plain rfl fun K hK => ?_, ?_⟩
                · have k7 : vals 7 = .slice (some ⟨bd, od, none⟩) d.length cd := hk 7 (by decide) (by kernel_rfl)
                  have k8 : vals 8 = .int .i64 (f : Int) := hk 8 (by decide) (by kernel_rfl)
                  go_simp
                  (try go_bits)
                  exact hK _ _ rfl (Ext.refl _) rfl
                simp only [Act.put, List.setIfInBounds_toArray, List.set_cons_zero, List.set_cons_succ]
                refine ⟨fun w8 hE8 hk => doesK_plain rfl fun K hK => ?_, ?_⟩
                · have k9 : vals 9 = .pointer (some ⟨bd, od + f, none⟩) := hk 9 (by decide) (by kernel_rfl)
                  have c8 := cellE cdw.out hE8
                  go_simp
                  (try go_bits)
                  exact hK _ _ rfl (Ext.refl _) rfl
                simp only [Act.put, List.setIfInBounds_toArray, List.set_cons_zero, List.set_cons_succ]
                refine ⟨fun w8 hE8 hk => doesK_plain rfl fun K hK => ?_, ?_⟩
                · have k10 : vals 10 = .int .i64 (at0 d f) := hk 10 (by decide) (by kernel_rfl)
                  go_simp
                  (try go_bits)
                  exact hK _ _ ⟨_, 1, rfl, Nat.le_refl 1, (Ints.new w8 2 [at0 d f]).row' (by simp)⟩ ((Ext.refl _).alloc _) rfl
                simp only [Act.put, List.setIfInBounds_toArray, List.set_cons_zero, List.set_cons_succ]
                refine ⟨fun w8 hE8 hk => doesK_plain rfl fun K hK => ?_, ?_⟩
                · obtain ⟨A5, c5, k5, r5⟩ : isRow (mulI p v (numr p k) m) (vals 5) _ := hk 5 (by decide) (by kernel_rfl)
                  have k11 : (isFix ([at0 d f])) (vals 11) _ := hk 11 (by decide) (by kernel_rfl)
                  obtain ⟨A11, c11, q11, l11, r11⟩ := k11
                  rw [q11]
                  go_simp
                  refine (trimmed_any A11 c11 [at0 d f] _ r11 l11).mono ?_
                  rintro e7 w7 ⟨⟨A7, c7, rfl, R7, hE7⟩, rfl⟩
                  exact hK _ _ ⟨A7, c7, rfl, R7⟩ hE7 rfl
                exact trivial
              simp only [List.take_succ_cons, List.take_zero, List.drop_succ_cons, List.drop_zero, preAct, Nat.reduceAdd, Act.put, List.setIfInBounds_toArray, List.set_cons_zero, List.set_cons_succ]
              have k0 : vals 0 = .pointer (some ⟨gc, 0, none⟩) := hS9 0 (by decide) 
              have k1 : vals 1 = .int .i64 p := hS9 1 (by decide) 
              have k2 : vals 2 = .agg #[.int .i64 p, .slice M m.length cm] := hS9 2 (by decide) 
              have k3 : vals 3 = .slice Av v.length cv := hS9 3 (by decide) 
              have k4 : vals 4 = .slice A3 (numr p k).length c3 := hS9 4 (by decide) 
              obtain ⟨A5, c5, k5, r5⟩ : isRow (mulI p v (numr p k) m) (vals 5) _ := hS9 5 (by decide) 
              have k6 : vals 6 = .pointer (some ⟨gc, 1, none⟩) := hS9 6 (by decide) 
              have k7 : vals 7 = .slice (some ⟨bd, od, none⟩) d.length cd := hS9 7 (by decide) 
              have k8 : vals 8 = .int .i64 (f : Int) := hS9 8 (by decide) 
              have k9 : vals 9 = .pointer (some ⟨bd, od + f, none⟩) := hS9 9 (by decide) 
              have k10 : vals 10 = .int .i64 (at0 d f) := hS9 10 (by decide) 
              have k11 : (isFix ([at0 d f])) (vals 11) _ := hS9 11 (by decide) 
              obtain ⟨A12, c12, k12, r12⟩ : isRow (trim [at0 d f]) (vals 12) _ := hS9 12 (by decide) 
              simp only [k0, k1, k2, k3, k4, k5, k6, k7, k8, k9, k10, k11, k12]
              clear hN9 hS9 k0 k1 k2 k3 k4 k5 k6 k7 k8 k9 k10 k11 k12
              go_wp2_with (first | (go_at_call 59; (with_reducible refine (combine_any p 1 A5 A12 c5 c12 (mulI p v (numr p k) m) (trim [at0 d f]) lo hi (by decide) (by decide) BM.out BT.out _ r5 r12).mono ?_); rintro e w7 ⟨A7, c7, rfl, R7, E7⟩))
              go_roundg f
              case measure => omega
              case rel => exact ⟨_, by omega, by go_num, ⟨A7, c7, rfl, R7⟩, CC.out, by omega, HS.out, E5.tr (hE9.tr E7)⟩
        · have t1 : decide ((k : Int) < (N : Int)) = false := decide_eq_false (by omega)
          obtain rfl : N = k := by omega
          go_wp2
          go_ret
          exact ⟨rfl, E1.tr E⟩

end Go.Proofs.YtaemiknaiccijaaGreat

/- The program's test for irreducible polynomials, and the points of a curve over both fields. -/
namespace Go.Proofs.YtaemiknaiccijaaGreat
open Go.RowKit

def onceB (l : List (List Int × Nat)) : Bool := match l with
  | [x] => x.2 == 1
  | _ => false
def irrI (p : Int) (m : List Int) : Bool := (lc m == 1) && (decide (2 ≤ m.length) && onceB (facI p m))

set_option maxRecDepth 100000 in
set_option maxHeartbeats 1000000 in
theorem isIrreducible_any (p : Int) (A : Option Addr) (ca : Nat) (m : List Int) (hp : PrimeP p) (hm : Can p m) (lm : m.length ≤ 64) (nm : 0 < m.length) (w : World) (rm : RowAt w A m) :
    Calls Tryz.prog 76 #[.int .i64 p, .slice A m.length ca] w fun e w' => e = .returned (.bool (irrI p m)) ∧ Ext w w' := by
  have LD := lead_any A ca m w rm
  rw [show lead m = lc m from if_neg (by omega)] at LD
  have LDM := Lib.hid LD
  have FA := Lib.hid (factors_any p A ca m hp hm lm nm w rm)
  have DEG := Lib.hid fun W => degree_any A m.length ca (by omega) W
  clear LD hp hm rm
  by_cases h1 : lc m = 1
  · by_cases h2 : 2 ≤ m.length
    · have t2 : decide ((m.length : Int) - 1 < 1) = false := decide_eq_false (by omega)
      have t2' : decide ((m.length : Int) < 2) = false := decide_eq_false (by omega)
      have G : Hid (irrI p m = onceB (facI p m)) := Lib.hid (by rw [irrI, h1]; simp [h2])
      have LH : Hid (lc m = 1) := Lib.hid h1
      rw [h1] at LDM
      clear h1
      go_enter Tryz.func76, Tryz.ntmps76
      go_wp2_with (first
        | (go_at_call 107; (with_reducible refine LDM.out.mono ?_); rintro e w2 ⟨rfl, rfl⟩)
        | (go_at_call 79; (with_reducible refine (DEG.out _).mono ?_); rintro e w2 ⟨rfl, rfl⟩)
        | (go_at_call 108; fail))
      refine FA.out.mono ?_
      rintro e w2 ⟨v2, rfl, A2, c2, Fs, rfl, hperm, hs, hg, hok, E2⟩
      have PM := Lib.hid hperm
      clear hs hok hperm
      by_cases hl : Fs.length = 1
      · obtain ⟨x, rfl⟩ := List.length_eq_one_iff.1 hl
        obtain ⟨g, rfl, hc⟩ := hg (by simp)
        have c1 := (hc 0 x rfl).2
        have G2 : Hid (onceB (facI p m) = ((x.k : Int) == 1)) := Lib.hid (by
          have e : facI p m = [unF x] := List.perm_singleton.1 PM.out.symm
          rw [e, onceB, unF, Bool.eq_iff_iff, beq_iff_eq, beq_iff_eq]; omega)
        clear hc hl
        rw [Nat.zero_mul, Nat.zero_add] at c1
        go_wp2
        go_ret
        exact ⟨ret_bool (by rw [G.out, G2.out]), E2⟩
      · have t3 : ((Fs.length : Int) == 1) = false := by rw [beq_eq_false_iff_ne]; omega
        have G2 : Hid (onceB (facI p m) = false) := Lib.hid (by
          have e := PM.out.length_eq
          rw [List.length_map] at e
          match h : facI p m with
          | [] => rfl
          | [y] => rw [h] at e; exact absurd e hl
          | y :: z :: r => rfl)
        clear hg hl
        go_wp2
        go_ret
        exact ⟨ret_bool (by rw [G.out, G2.out]), E2⟩
    · have t2 : decide ((m.length : Int) - 1 < 1) = true := decide_eq_true (by omega)
      have t2' : decide ((m.length : Int) < 2) = true := decide_eq_true (by omega)
      have G : Hid (irrI p m = false) := Lib.hid (by rw [irrI]; simp [h2])
      rw [h1] at LDM
      clear h1
      go_enter Tryz.func76, Tryz.ntmps76
      go_wp2_with (first
        | (go_at_call 107; (with_reducible refine LDM.out.mono ?_); rintro e w2 ⟨rfl, rfl⟩)
        | (go_at_call 79; (with_reducible refine (DEG.out _).mono ?_); rintro e w2 ⟨rfl, rfl⟩))
      go_ret
      exact ⟨ret_bool G.out.symm, Ext.refl _⟩
  · have t1 : (lc m != 1) = true := by simpa using h1
    have G : Hid (irrI p m = false) := Lib.hid (by rw [irrI]; simp [h1])
    clear h1
    go_enter Tryz.func76, Tryz.ntmps76
    go_wp2_with (first
      | (go_at_call 107; (with_reducible refine LDM.out.mono ?_); rintro e w2 ⟨rfl, rfl⟩))
    go_ret
    exact ⟨ret_bool G.out.symm, Ext.refl _⟩

/-! ### the first irreducible polynomial of the degree 2 -/
theorem norm2 : ∀ p ∈ [(3 : Int), 5, 7], normI p 2 343 = ((p.toNat * p.toNat : Nat) : Int) := by decide +kernel
theorem norm1 : ∀ p ∈ [(3 : Int), 5, 7], normI p 1 1099511627776 = (p.toNat : Int) := by decide +kernel
theorem norm22 : ∀ p ∈ [(3 : Int), 5, 7], normI p 2 1099511627776 = ((p.toNat * p.toNat : Nat) : Int) := by decide +kernel
set_option maxRecDepth 100000 in
theorem monic2 : ∀ p ∈ [(3 : Int), 5, 7], ∀ i ∈ [0, 1, 2], i ≤ fldC p → numr p (p.toNat * p.toNat + i) = [(i : Int), 0, 1] := by decide +kernel
set_option maxRecDepth 100000 in
theorem irr2 : ∀ p ∈ [(3 : Int), 5, 7], ∀ i ∈ [0, 1, 2], i ≤ fldC p → irrI p [(i : Int), 0, 1] = decide (i = fldC p) := by decide +kernel

end Go.Proofs.YtaemiknaiccijaaGreat

/- The points of a curve over both fields; CountPoints. -/
namespace Go.Proofs.YtaemiknaiccijaaGreat
open Go.RowKit

def BpRel (p : Int) (w2 : World) (f : Nat) (sq i : Value) (wr : World) : Prop :=
  ∃ k : Nat, f + k = fldC p ∧ i = .int .i64 k ∧ sq = .slice none 0 0 ∧ Ext w2 wr
theorem odd_cast {p : Int} (h : OddP p) : (p.toNat : Int) = p ∧ p.toNat ≤ 7 ∧ 3 ≤ p.toNat := by
  rcases h with rfl | rfl | rfl <;> decide

set_option maxRecDepth 100000 in
set_option maxHeartbeats 2000000 in
theorem bothPoints_any (p : Int) (D : Option Addr) (cd : Nat) (d : List Int) (hp : OddP p) (hd : Can p d) (ld : d.length ≤ 64) (w : World) (rd : RowAt w D d) :
    Calls Tryz.prog 43 #[.agg #[.int .i64 p, .slice D d.length cd]] w fun e w' => e = .returned (.tuple #[.int .i64 (n1S p d), .int .i64 (n2S p d)]) ∧ Ext w w' := by
  have HO := Lib.hid hp
  have HP := Lib.hid hp.prime
  have HD := Lib.hid hd
  have RD := Lib.hid rd
  have lo := HP.out.lo
  have hi := HP.out.hi
  have hm := odd_mem hp
  have NN := Lib.hid (norm2 p hm)
  have oc := odd_cast hp
  have NB : p.toNat * p.toNat ≤ 49 := Nat.mul_le_mul oc.2.1 oc.2.1
  have NB2 : 3 * 3 ≤ p.toNat * p.toNat := Nat.mul_le_mul oc.2.2 oc.2.2
  have FC := fldC_le p
  have M2 := Lib.hid (monic2 p hm)
  have I2 := Lib.hid (irr2 p hm)
  have P1 : Hid (∀ W A c, RowAt W A [0, 1] → RowAt W D d → Calls Tryz.prog 77 #[.agg #[.int .i64 p, .slice D d.length cd], .slice A 2 c] W fun e w' => e = .returned (.int .i64 (n1S p d)) ∧ Ext W w') :=
    Lib.hid fun W A c r1 r2 => by
      have := points_any p D A cd c d [0, 1] p.toNat HP.out hd (can_tee (by omega)) ld (by decide) (by decide) (norm1 p hm) (by omega) W r2 r1
      rw [points1 hp d] at this
      exact this
  have P2 : Hid (∀ W A c, RowAt W A (fld p) → RowAt W D d → Calls Tryz.prog 77 #[.agg #[.int .i64 p, .slice D d.length cd], .slice A 3 c] W fun e w' => e = .returned (.int .i64 (n2S p d)) ∧ Ext W w') :=
    Lib.hid fun W A c r1 r2 => by
      have := points_any p D A cd c d (fld p) (p.toNat * p.toNat) HP.out hd (fld_can hp) ld (by show 3 ≤ 64; decide) (by show 0 < 3; decide) (norm22 p hm) (by omega) W r2 r1
      rw [points2 hp d] at this
      exact this
  have IC : Hid (∀ k, k ≤ fldC p → Can p [(k : Int), 0, 1]) := Lib.hid fun k hk => by
    have mk : k ∈ [0, 1, 2] := by have : k = 0 ∨ k = 1 ∨ k = 2 := by omega
                                  simpa using this
    have := numr_can (show 0 < p by omega) (p.toNat * p.toNat + k)
    rwa [M2.out k mk hk] at this
  clear hp hd rd hm oc
  have MO := Lib.hid fun W => monics_any p 2 (p.toNat * p.toNat) lo hi (by decide) NN.out (by omega) W
  go_enter Tryz.func43, Tryz.ntmps43
  go_wp2_with (first | (go_at_call 75; fail))
  obtain ⟨w1, gc, hw, hgc, C0, C1, E1⟩ : ∃ w1 gc, w1 = w.alloc (.cells #[.int .i64 p, .slice D d.length cd] 68) ∧ gc = w.heap.size ∧ w1.cell? ⟨gc, 0, none⟩ = some (.int .i64 p) ∧ w1.cell? ⟨gc, 1, none⟩ = some (.slice D d.length cd) ∧ Ext w w1 :=
    ⟨_, _, rfl, rfl, cell_of (heap_alloc_new _ _) rfl, cell_of (heap_alloc_new _ _) rfl, (Ext.refl w).alloc _⟩
  rw [← hw, ← hgc]
  clear hw hgc
  refine (MO.out _).mono ?_
  rintro e w2 ⟨Am, cm, rfl, RW, E2⟩
  have RWh := Lib.hid RW
  replace C0 := Lib.hid (cellE C0 E2)
  replace C1 := Lib.hid (cellE C1 E2)
  clear RW MO
  obtain ⟨N, hN⟩ : ∃ N, N = p.toNat * p.toNat := ⟨_, rfl⟩
  rw [← hN] at NB NB2 RWh M2 NN ⊢
  have HN := Lib.hid hN
  clear hN
  go_wp2
  go_loopg [4, 11] (fldC p) (fun f sq i wr => BpRel p w2 f sq i wr)
  case atStart => exact ⟨0, rfl, rfl, rfl, Ext.refl _⟩
  case round =>
    obtain ⟨k, hk, rfl, rfl, E⟩ := hrel
    have t1 : decide ((k : Int) < (N : Int)) = true := decide_eq_true (by omega)
    have mk : k ∈ [0, 1, 2] := by have : k = 0 ∨ k = 1 ∨ k = 2 := by omega
                                  simpa using this
    obtain ⟨bm, om, rfl, hcm⟩ := RWh.out.2 (by rw [monI, List.length_map, List.length_range]; omega)
    obtain ⟨v, hv, Ak, ck, rfl, Rk⟩ := hcm k (numr p (N + k)) (by rw [monI, List.getElem?_map, List.getElem?_range (by omega)]; rfl)
    rw [M2.out k mk (by omega)] at hv Rk
    have IR := Lib.hid (I2.out k mk (by omega))
    have hv2 := cellE hv E
    have c0 := cellE C0.out E
    have i1 : k < N := by omega
    have IA' := isIrreducible_any p Ak ck [(k : Int), 0, 1] HP.out (IC.out k (by omega)) (by show 3 ≤ 64; decide) (by show 0 < 3; decide) wr (Rk.below E)
    rw [IR.out] at IA'
    have RKh := Lib.hid (Rk.below E)
    clear hcm hv Rk mk
    by_cases hlt : k < fldC p
    · rw [decide_eq_false (show ¬ k = fldC p by omega)] at IA'
      have IA : Hid (Calls Tryz.prog 76 #[.int .i64 p, .slice Ak 3 ck] wr fun e w' => e = .returned (.bool false) ∧ Ext wr w') := Lib.hid IA'
      clear IA'
      go_wp2_with (first | (go_at_call 76; (with_reducible refine IA.out.mono ?_); rintro e w3 ⟨rfl, E3⟩))
      go_roundg (gk - 1)
      case measure => omega
      case rel => exact ⟨k + 1, by omega, by go_num, rfl, E.tr E3⟩
    · have ek : k = fldC p := by omega
      rw [decide_eq_true ek] at IA'
      have IA : Hid (Calls Tryz.prog 76 #[.int .i64 p, .slice Ak 3 ck] wr fun e w' => e = .returned (.bool true) ∧ Ext wr w') := Lib.hid IA'
      have RF : Hid (RowAt wr Ak (fld p)) := Lib.hid (by have := RKh.out; rw [ek] at this; exact this)
      clear IA' RKh ek hlt
      go_wp2_with (first | (go_at_call 76; (with_reducible refine IA.out.mono ?_); rintro e w3 ⟨rfl, E3⟩; clear c0 hv2))
      have EW := E.tr E3
      refine region_ext 5 (by kernel_rfl) (by kernel_rfl) (by kernel_rfl) [] [eqv (.agg #[.int .i64 p, .slice D d.length cd]), isRow [0, 1], eqv (.int .i64 (n1S p d)), eqv (.agg #[.int .i64 p, .slice D d.length cd]), eqv (.slice Ak 3 ck)]
        ⟨mono_eqv _, mono_row _, mono_eqv _, mono_eqv _, mono_eqv _, trivial⟩ (fun vals => ?_) (fun vals w9 hE9 hS9 hN9 => ?_)
      · simp only [List.take_succ_cons, List.take_zero]
        refine ⟨fun w8 hE8 hk => doesK_plain rfl fun K hK => ?_, ?_⟩
        · have c8 := cellE C0.out (EW.tr hE8); have c9 := cellE C1.out (EW.tr hE8)
          go_simp
          (try go_bits)
          exact hK _ _ rfl (Ext.refl _) rfl
        simp only [Act.put, List.setIfInBounds_toArray, List.set_cons_zero, List.set_cons_succ]
        refine ⟨fun w8 hE8 hk => doesK_plain rfl fun K hK => ?_, ?_⟩
        · go_simp
          refine (letter_any _).mono ?_
          rintro e7 w7 ⟨A7, c7, rfl, R7, hE7⟩
          exact hK _ _ ⟨A7, c7, rfl, R7⟩ hE7 rfl
        simp only [Act.put, List.setIfInBounds_toArray, List.set_cons_zero, List.set_cons_succ]
        refine ⟨fun w8 hE8 hk => doesK_plain rfl fun K hK => ?_, ?_⟩
        · have k0 : vals 0 = .agg #[.int .i64 p, .slice D d.length cd] := hk 0 (by decide) (by kernel_rfl)
          obtain ⟨A1, c1, k1, r1⟩ : isRow [0, 1] (vals 1) _ := hk 1 (by decide) (by kernel_rfl)
          go_simp
          refine (P1.out _ A1 c1 r1 (RD.out.below (E1.tr (E2.tr (EW.tr hE8))))).mono ?_
          rintro e7 w7 ⟨rfl, hE7⟩
          exact hK _ _ rfl hE7 rfl
        simp only [Act.put, List.setIfInBounds_toArray, List.set_cons_zero, List.set_cons_succ]
        refine ⟨fun w8 hE8 hk => doesK_plain rfl fun K hK => ?_, ?_⟩
        · have c8 := cellE C0.out (EW.tr hE8); have c9 := cellE C1.out (EW.tr hE8)
          go_simp
          (try go_bits)
          exact hK _ _ rfl (Ext.refl _) rfl
        simp only [Act.put, List.setIfInBounds_toArray, List.set_cons_zero, List.set_cons_succ]
        refine ⟨fun w8 hE8 hk => doesK_plain rfl fun K hK => ?_, ?_⟩
        · go_simp
          (try go_bits)
          exact hK _ _ rfl (Ext.refl _) rfl
        exact trivial
      simp only [List.take_succ_cons, List.take_zero, List.drop_succ_cons, List.drop_zero, preAct, Nat.reduceAdd, Act.put, List.setIfInBounds_toArray, List.set_cons_zero, List.set_cons_succ]
      have k0 : vals 0 = .agg #[.int .i64 p, .slice D d.length cd] := hS9 0 (by decide) 
      obtain ⟨A1, c1, k1, r1⟩ : isRow [0, 1] (vals 1) _ := hS9 1 (by decide) 
      have k2 : vals 2 = .int .i64 (n1S p d) := hS9 2 (by decide) 
      have k3 : vals 3 = .agg #[.int .i64 p, .slice D d.length cd] := hS9 3 (by decide) 
      have k4 : vals 4 = .slice Ak 3 ck := hS9 4 (by decide) 
      simp only [k0, k1, k2, k3, k4]
      clear hN9 hS9 k0 k1 k2 k3 k4
      go_wp2_with (first | (go_at_call 77; (with_reducible refine (P2.out _ Ak ck (RF.out.below (E3.tr hE9)) (RD.out.below (E1.tr (E2.tr (EW.tr hE9))))).mono ?_); rintro e w5 ⟨rfl, E5⟩))
      go_ret2
      exact ⟨rfl, E1.tr (E2.tr (EW.tr (hE9.tr E5)))⟩

/-- A curve's value, after curveOf. -/
def CvIs (p : Int) (d : List Int) (w : World) (e : Ending) (w' : World) : Prop := ∃ D cd, e = .returned (.agg #[.int .i64 p, .slice D d.length cd]) ∧ RowAt w' D d ∧ Ext w w'
set_option maxRecDepth 100000 in
set_option maxHeartbeats 1000000 in
theorem curveOf_any (p : Int) (l : List Int) (hl : l.length = 64) (hb : IsB l) (w : World) :
    Calls Tryz.prog 42 #[.int .i64 p, .agg (u8s l)] w (CvIs p (trim l) w) := by
  have RO := Lib.hid fun W => rowOf_any l hl hb W
  have F := Hp.start w
  clear hb
  go_enter Tryz.func42, Tryz.ntmps42
  go_wp2_with (first | ((with_reducible show wpList _ _ _ _ _ _); first | (apply hpLd F; exact rfl; exact rfl; exact rfl; (· repeat (first | exact Has.head | apply Has.tail))) | (apply hpBox F; exact rfl; exact rfl; exact rfl; (· with_reducible first | exact pad_length _ | exact zeros64_length | exact tab_length _ _ | assumption)) | (apply hpAlloc F; exact rfl; exact rfl) | (apply hpSt F; exact rfl; exact rfl; exact rfl; exact rfl; (· repeat (first | exact Upd.head | apply Upd.tail)); (· with_reducible first | exact pad_length _ | exact zeros64_length | exact tab_length _ _ | assumption))))
  clear F
  intro ga w1 F
  have FA := Lib.hid (F.at_ 0 rfl)
  have E1 := F.ext
  have H4 := heap_alloc_new w1 (.cells #[.int .i64 0, .slice none 0 0] 68)
  have L4 : w1.heap.size < (w1.alloc (.cells #[.int .i64 0, .slice none 0 0] 68)).heap.size := by simp
  have EA := (Ext.refl w1).alloc (.cells #[.int .i64 0, .slice none 0 0] 68)
  have H4' := Lib.hid H4
  have EA' := Lib.hid EA
  clear F H4 EA
  go_wp2_with (first
    | ((with_reducible show wpList _ _ _ _ _ _); apply wplLG; exact rfl; exact rfl; exact FA.out.ext EA'.out; exact rfl; exact hl))
  refine (RO.out _).mono ?_
  rintro e w2 ⟨A2, c2, rfl, R2, E2⟩
  have H5 := (E2.block _ L4).trans H4'.out
  have c0 : w2.cell? ⟨w1.heap.size, 0, none⟩ = some (.int .i64 0) := cell_of H5 rfl
  have c1 : w2.cell? ⟨w1.heap.size, 1, none⟩ = some (.slice none 0 0) := cell_of H5 rfl
  have f0 : w2.frozen? ⟨w1.heap.size, 0, none⟩ = false := frozen_of_row _ _ _ _ _ H5
  have f1 : w2.frozen? ⟨w1.heap.size, 1, none⟩ = false := frozen_of_row _ _ _ _ _ H5
  have H5' := Lib.hid H5
  clear H5
  go_wp2
  obtain ⟨w9, hw9⟩ : ∃ w9, w9 = (w2.setCell ⟨w1.heap.size, 0, none⟩ (.int .i64 p)).setCell ⟨w1.heap.size, 1, none⟩ (.slice A2 (trim l).length c2) := ⟨_, rfl⟩
  have HG : w9.heap[w1.heap.size]? = some (.cells #[.int .i64 p, .slice A2 (trim l).length c2] 68 (0, 0)) := by
    rw [hw9, heap_setCell_same _ _ _ _ _ _ (heap_setCell_same _ _ _ _ _ _ H5'.out)]; rfl
  have GB : w2.grownBy w9 (some w1.heap.size) := by
    rw [hw9]
    exact ⟨rfl, rfl, rfl, by simp [World.setCell], fun k _ hk => by
      rw [heap_setCell_other _ _ k _ (fun e => hk (by rw [e])), heap_setCell_other _ _ k _ (fun e => hk (by rw [e]))]⟩
  rw [← hw9]
  have RV := Rv.other ⟨A2, c2, rfl, R2⟩ ⟨_, _, H5'.out⟩ (show 68 ≠ 2 by decide) GB
  obtain ⟨A9, c9, e9, R9⟩ := RV
  refine bodyPost_ret (results_cell_row rfl _ _ _ _ _ (0, 0) _ rfl HG Tryz.underlying68 rfl (by kernel_rfl)) rfl ⟨A2, c2, rfl, ?_, Ext.grown (E1.tr (EA'.out.tr E2)) GB E1.size⟩
  cases e9
  exact R9

end Go.Proofs.YtaemiknaiccijaaGreat

/- The program's CountPoints and CurvePolynomial: the reference's lists, in memory of their own. -/
namespace Go.Proofs.YtaemiknaiccijaaGreat
open Go.RowKit

/-- A call that hands back a new slice of whole numbers and a code. -/
def GivesOwn (L : List Int) (c : Int) (w : World) (e : Ending) (w' : World) : Prop :=
  ∃ A cap, e = .returned (.tuple #[.slice A L.length cap, .int .i64 c]) ∧ (0 < L.length → ∃ g, A = some ⟨g, 0, none⟩ ∧ Ints w' g 2 L ∧ w.heap.size ≤ g) ∧ L.length ≤ 5 ∧ Ext w w'
theorem gives_none {w w' : World} (h : Ext w w') : GivesOwn [] 1 w (.returned (.tuple #[.slice none 0 0, .int .i64 1])) w' := ⟨none, 0, rfl, fun h => absurd h (by simp), by simp, h⟩
theorem gives_new {w w' : World} {L : List Int} (h : Ext w w') (hl : L.length ≤ 5) : GivesOwn L 0 w (.returned (.tuple #[.slice (some ⟨w'.heap.size, 0, none⟩) L.length L.length, .int .i64 0])) (w'.alloc (.cells (i64s L) 2)) :=
  ⟨_, _, rfl, fun _ => ⟨_, rfl, Ints.new _ _ _, h.size⟩, hl, h.alloc _⟩

set_option maxRecDepth 100000 in
set_option maxHeartbeats 1000000 in
theorem countPoints_any (p : Int) (l : List Int) (hl : l.length = 64) (hb : IsB l) (w : World) :
    Calls Tryz.prog 21 #[.int .i64 p, .agg (u8s l)] w (GivesOwn (countS p l) (if isD p l then 0 else 1) w) := by
  have FC := Lib.hid fun W => formCode_none p l hl hb W
  have CV := Lib.hid fun W => curveOf_any p l hl hb W
  have F := Hp.start w
  cases hd : isD p l with
  | false =>
    have Q : Hid (codeD (isD p l) = 1) := Lib.hid (by rw [hd]; rfl)
    have G : Hid (countS p l = []) := Lib.hid (by rw [countS, hd]; rfl)
    clear hb hd
    go_enter Tryz.func21, Tryz.ntmps21
    go_wp2_with (first | ((with_reducible show wpList _ _ _ _ _ _); first | (apply hpLd F; exact rfl; exact rfl; exact rfl; (· repeat (first | exact Has.head | apply Has.tail))) | (apply hpBox F; exact rfl; exact rfl; exact rfl; (· with_reducible first | exact pad_length _ | exact zeros64_length | exact tab_length _ _ | assumption)) | (apply hpAlloc F; exact rfl; exact rfl) | (apply hpSt F; exact rfl; exact rfl; exact rfl; exact rfl; (· repeat (first | exact Upd.head | apply Upd.tail)); (· with_reducible first | exact pad_length _ | exact zeros64_length | exact tab_length _ _ | assumption))))
    clear F
    intro ga w1 F
    go_wp2_with (first | (go_at_call 41; (with_reducible refine (FC.out _).mono ?_); rintro e w2 ⟨rfl, E2⟩; replace F := F.next E2; rw [Q.out]) | ((with_reducible show wpList _ _ _ _ _ _); first | (apply hpLd F; exact rfl; exact rfl; exact rfl; (· repeat (first | exact Has.head | apply Has.tail))) | (apply hpBox F; exact rfl; exact rfl; exact rfl; (· with_reducible first | exact pad_length _ | exact zeros64_length | exact tab_length _ _ | assumption)) | (apply hpAlloc F; exact rfl; exact rfl) | (apply hpSt F; exact rfl; exact rfl; exact rfl; exact rfl; (· repeat (first | exact Upd.head | apply Upd.tail)); (· with_reducible first | exact pad_length _ | exact zeros64_length | exact tab_length _ _ | assumption))))
    go_ret2
    rw [G.out]
    exact gives_none F.ext
  | true =>
    have Q : Hid (codeD (isD p l) = 0) := Lib.hid (by rw [hd]; rfl)
    have hr := isD_row hl hb hd
    have G : Hid (countS p l = [n1S p (trim l), n2S p (trim l)]) := Lib.hid (by rw [countS, hd]; rfl)
    have BP := Lib.hid fun D cd W r => bothPoints_any p D cd (trim l) hr.1 hr.2.1 hr.2.2.1 W r
    clear hb hd hr
    go_enter Tryz.func21, Tryz.ntmps21
    go_wp2_with (first | ((with_reducible show wpList _ _ _ _ _ _); first | (apply hpLd F; exact rfl; exact rfl; exact rfl; (· repeat (first | exact Has.head | apply Has.tail))) | (apply hpBox F; exact rfl; exact rfl; exact rfl; (· with_reducible first | exact pad_length _ | exact zeros64_length | exact tab_length _ _ | assumption)) | (apply hpAlloc F; exact rfl; exact rfl) | (apply hpSt F; exact rfl; exact rfl; exact rfl; exact rfl; (· repeat (first | exact Upd.head | apply Upd.tail)); (· with_reducible first | exact pad_length _ | exact zeros64_length | exact tab_length _ _ | assumption))))
    clear F
    intro ga w1 F
    go_wp2_with (first | (go_at_call 41; (with_reducible refine (FC.out _).mono ?_); rintro e w2 ⟨rfl, E2⟩; replace F := F.next E2; rw [Q.out]) | (go_at_call 42; (with_reducible refine (CV.out _).mono ?_); rintro e w3 ⟨D3, c3, rfl, R3, E3⟩; replace F := F.next E3) | (go_at_call 43; (with_reducible refine (BP.out _ _ _ R3).mono ?_); rintro e w4 ⟨rfl, E4⟩; replace F := F.next E4) | ((with_reducible show wpList _ _ _ _ _ _); first | (apply hpLd F; exact rfl; exact rfl; exact rfl; (· repeat (first | exact Has.head | apply Has.tail))) | (apply hpBox F; exact rfl; exact rfl; exact rfl; (· with_reducible first | exact pad_length _ | exact zeros64_length | exact tab_length _ _ | assumption)) | (apply hpAlloc F; exact rfl; exact rfl) | (apply hpSt F; exact rfl; exact rfl; exact rfl; exact rfl; (· repeat (first | exact Upd.head | apply Upd.tail)); (· with_reducible first | exact pad_length _ | exact zeros64_length | exact tab_length _ _ | assumption))))
    go_ret2
    rw [G.out]
    exact gives_new (L := [n1S p (trim l), n2S p (trim l)]) F.ext (by simp)

set_option maxRecDepth 100000 in
set_option maxHeartbeats 2000000 in
theorem curvePoly_any (p : Int) (l : List Int) (hl : l.length = 64) (hb : IsB l) (w : World) :
    Calls Tryz.prog 26 #[.int .i64 p, .agg (u8s l)] w (GivesOwn (polyS p l) (if isD p l then 0 else 1) w) := by
  have FC := Lib.hid fun W => formCode_none p l hl hb W
  have CV := Lib.hid fun W => curveOf_any p l hl hb W
  have F := Hp.start w
  cases hd : isD p l with
  | false =>
    have Q : Hid (codeD (isD p l) = 1) := Lib.hid (by rw [hd]; rfl)
    have G : Hid (polyS p l = []) := Lib.hid (by rw [polyS, hd]; rfl)
    clear hb hd
    go_enter Tryz.func26, Tryz.ntmps26
    go_wp2_with (first | ((with_reducible show wpList _ _ _ _ _ _); first | (apply hpLd F; exact rfl; exact rfl; exact rfl; (· repeat (first | exact Has.head | apply Has.tail))) | (apply hpBox F; exact rfl; exact rfl; exact rfl; (· with_reducible first | exact pad_length _ | exact zeros64_length | exact tab_length _ _ | assumption)) | (apply hpAlloc F; exact rfl; exact rfl) | (apply hpSt F; exact rfl; exact rfl; exact rfl; exact rfl; (· repeat (first | exact Upd.head | apply Upd.tail)); (· with_reducible first | exact pad_length _ | exact zeros64_length | exact tab_length _ _ | assumption))))
    clear F
    intro ga w1 F
    go_wp2_with (first | (go_at_call 41; (with_reducible refine (FC.out _).mono ?_); rintro e w2 ⟨rfl, E2⟩; replace F := F.next E2; rw [Q.out]) | ((with_reducible show wpList _ _ _ _ _ _); first | (apply hpLd F; exact rfl; exact rfl; exact rfl; (· repeat (first | exact Has.head | apply Has.tail))) | (apply hpBox F; exact rfl; exact rfl; exact rfl; (· with_reducible first | exact pad_length _ | exact zeros64_length | exact tab_length _ _ | assumption)) | (apply hpAlloc F; exact rfl; exact rfl) | (apply hpSt F; exact rfl; exact rfl; exact rfl; exact rfl; (· repeat (first | exact Upd.head | apply Upd.tail)); (· with_reducible first | exact pad_length _ | exact zeros64_length | exact tab_length _ _ | assumption))))
    go_ret2
    rw [G.out]
    exact gives_none F.ext
  | true =>
    have Q : Hid (codeD (isD p l) = 0) := Lib.hid (by rw [hd]; rfl)
    have hr := isD_row hl hb hd
    have G : Hid (polyS p l = lpoly p (n1S p (trim l)) (n2S p (trim l)) (((trim l).length - 2) / 2)) := Lib.hid (by rw [polyS, hd]; rfl)
    have BP := Lib.hid fun D cd W r => bothPoints_any p D cd (trim l) hr.1 hr.2.1 hr.2.2.1 W r
    have HO := Lib.hid hr.1
    have ln : (trim l).length = 2 ∨ (trim l).length = 4 ∨ (trim l).length = 6 := by
      have := hr.2.2.2.2
      rw [isDS, Bool.and_eq_true, Bool.or_eq_true, Bool.or_eq_true, beq_iff_eq, beq_iff_eq, beq_iff_eq] at this
      omega
    have r1 := n1S_range HO.out (trim l)
    have r2 := n2S_range HO.out (trim l)
    have lo := HO.out.prime.lo
    have hi := HO.out.prime.hi
    have m1 : -140 ≤ p * (n1S p (trim l) - p - 1) ∧ p * (n1S p (trim l) - p - 1) ≤ 140 := by
      have := mulB (k := n1S p (trim l) - p - 1) (b := p) (K := 20) (C := 7) (by decide) (by omega) (by omega) (by omega) hi
      rw [Int.mul_comm p]; exact this
    have m2 := sq_range (a := n1S p (trim l) - p - 1) (by omega) (by omega)
    have m3 : 9 ≤ p * p ∧ p * p ≤ 49 := by rcases HO.out with h | h | h <;> rw [h] <;> decide
    clear hb hd hr
    generalize hN1 : n1S p (trim l) = N1 at *
    generalize hN2 : n2S p (trim l) = N2 at *
    clear hN1 hN2
    rcases ln with h | h | h
    · have GG : Hid (polyS p l = [1]) := Lib.hid (by rw [G.out, h]; rfl)
      have GE : Hid (∀ W D cd, Calls Tryz.prog 45 #[.agg #[.int .i64 p, .slice D (trim l).length cd]] W fun e w' => e = .returned (.int .i64 0) ∧ Ext W w') := Lib.hid fun W D cd => by
        have := genus_any p D (trim l).length cd (by omega) (by omega) W
        rw [show ((trim l).length - 2) / 2 = 0 by omega] at this
        exact this
      clear h G
      go_enter Tryz.func26, Tryz.ntmps26
      go_wp2_with (first | ((with_reducible show wpList _ _ _ _ _ _); first | (apply hpLd F; exact rfl; exact rfl; exact rfl; (· repeat (first | exact Has.head | apply Has.tail))) | (apply hpBox F; exact rfl; exact rfl; exact rfl; (· with_reducible first | exact pad_length _ | exact zeros64_length | exact tab_length _ _ | assumption)) | (apply hpAlloc F; exact rfl; exact rfl) | (apply hpSt F; exact rfl; exact rfl; exact rfl; exact rfl; (· repeat (first | exact Upd.head | apply Upd.tail)); (· with_reducible first | exact pad_length _ | exact zeros64_length | exact tab_length _ _ | assumption))))
      clear F
      intro ga w1 F
      go_wp2_with (first | (go_at_call 41; (with_reducible refine (FC.out _).mono ?_); rintro e w2 ⟨rfl, E2⟩; replace F := F.next E2; rw [Q.out]) | (go_at_call 42; (with_reducible refine (CV.out _).mono ?_); rintro e w3 ⟨D3, c3, rfl, R3, E3⟩; replace F := (F.next E3).next ((Ext.refl _).alloc (.cells #[.int .i64 p, .slice D3 (trim l).length c3] 68)); have H0 := Lib.hid (cell_of (heap_alloc_new w3 (.cells #[.int .i64 p, .slice D3 (trim l).length c3] 68)) (j := 0) rfl); have H1 := Lib.hid (cell_of (heap_alloc_new w3 (.cells #[.int .i64 p, .slice D3 (trim l).length c3] 68)) (j := 1) rfl)) | (go_at_call 43; (with_reducible refine (BP.out _ _ _ (R3.below ((Ext.refl _).alloc _))).mono ?_); rintro e w4 ⟨rfl, E4⟩; replace F := F.next E4; have c0 := cellE H0.out E4; have c1 := cellE H1.out E4) | (go_at_call 45; (with_reducible refine (GE.out _ _ _).mono ?_); rintro e w5 ⟨rfl, E5⟩; replace F := F.next E5; clear c0 c1) | ((with_reducible show wpList _ _ _ _ _ _); first | (apply hpLd F; exact rfl; exact rfl; exact rfl; (· repeat (first | exact Has.head | apply Has.tail))) | (apply hpBox F; exact rfl; exact rfl; exact rfl; (· with_reducible first | exact pad_length _ | exact zeros64_length | exact tab_length _ _ | assumption)) | (apply hpAlloc F; exact rfl; exact rfl) | (apply hpSt F; exact rfl; exact rfl; exact rfl; exact rfl; (· repeat (first | exact Upd.head | apply Upd.tail)); (· with_reducible first | exact pad_length _ | exact zeros64_length | exact tab_length _ _ | assumption))))
      go_ret2
      rw [GG.out]
      exact gives_new (L := [1]) F.ext (by simp)
    · have GG : Hid (polyS p l = [1, N1 - p - 1, p]) := Lib.hid (by rw [G.out, h]; rfl)
      have GE : Hid (∀ W D cd, Calls Tryz.prog 45 #[.agg #[.int .i64 p, .slice D (trim l).length cd]] W fun e w' => e = .returned (.int .i64 1) ∧ Ext W w') := Lib.hid fun W D cd => by
        have := genus_any p D (trim l).length cd (by omega) (by omega) W
        rw [show ((trim l).length - 2) / 2 = 1 by omega] at this
        exact this
      clear h G
      go_enter Tryz.func26, Tryz.ntmps26
      go_wp2_with (first | ((with_reducible show wpList _ _ _ _ _ _); first | (apply hpLd F; exact rfl; exact rfl; exact rfl; (· repeat (first | exact Has.head | apply Has.tail))) | (apply hpBox F; exact rfl; exact rfl; exact rfl; (· with_reducible first | exact pad_length _ | exact zeros64_length | exact tab_length _ _ | assumption)) | (apply hpAlloc F; exact rfl; exact rfl) | (apply hpSt F; exact rfl; exact rfl; exact rfl; exact rfl; (· repeat (first | exact Upd.head | apply Upd.tail)); (· with_reducible first | exact pad_length _ | exact zeros64_length | exact tab_length _ _ | assumption))))
      clear F
      intro ga w1 F
      go_wp2_with (first | (go_at_call 41; (with_reducible refine (FC.out _).mono ?_); rintro e w2 ⟨rfl, E2⟩; replace F := F.next E2; rw [Q.out]) | (go_at_call 42; (with_reducible refine (CV.out _).mono ?_); rintro e w3 ⟨D3, c3, rfl, R3, E3⟩; replace F := (F.next E3).next ((Ext.refl _).alloc (.cells #[.int .i64 p, .slice D3 (trim l).length c3] 68)); have H0 := Lib.hid (cell_of (heap_alloc_new w3 (.cells #[.int .i64 p, .slice D3 (trim l).length c3] 68)) (j := 0) rfl); have H1 := Lib.hid (cell_of (heap_alloc_new w3 (.cells #[.int .i64 p, .slice D3 (trim l).length c3] 68)) (j := 1) rfl)) | (go_at_call 43; (with_reducible refine (BP.out _ _ _ (R3.below ((Ext.refl _).alloc _))).mono ?_); rintro e w4 ⟨rfl, E4⟩; replace F := F.next E4; have c0 := cellE H0.out E4; have c1 := cellE H1.out E4) | (go_at_call 45; (with_reducible refine (GE.out _ _ _).mono ?_); rintro e w5 ⟨rfl, E5⟩; replace F := F.next E5; clear c0 c1) | ((with_reducible show wpList _ _ _ _ _ _); first | (apply hpLd F; exact rfl; exact rfl; exact rfl; (· repeat (first | exact Has.head | apply Has.tail))) | (apply hpBox F; exact rfl; exact rfl; exact rfl; (· with_reducible first | exact pad_length _ | exact zeros64_length | exact tab_length _ _ | assumption)) | (apply hpAlloc F; exact rfl; exact rfl) | (apply hpSt F; exact rfl; exact rfl; exact rfl; exact rfl; (· repeat (first | exact Upd.head | apply Upd.tail)); (· with_reducible first | exact pad_length _ | exact zeros64_length | exact tab_length _ _ | assumption))))
      go_ret2
      rw [GG.out]
      exact gives_new (L := [1, N1 - p - 1, p]) F.ext (by simp)
    · have GG : Hid (polyS p l = [1, N1 - p - 1, (N2 - p * p - 1 + (N1 - p - 1) * (N1 - p - 1)).tdiv 2, p * (N1 - p - 1), p * p]) := Lib.hid (by rw [G.out, h]; rfl)
      have GE : Hid (∀ W D cd, Calls Tryz.prog 45 #[.agg #[.int .i64 p, .slice D (trim l).length cd]] W fun e w' => e = .returned (.int .i64 2) ∧ Ext W w') := Lib.hid fun W D cd => by
        have := genus_any p D (trim l).length cd (by omega) (by omega) W
        rw [show ((trim l).length - 2) / 2 = 2 by omega] at this
        exact this
      clear h G
      go_enter Tryz.func26, Tryz.ntmps26
      go_wp2_with (first | ((with_reducible show wpList _ _ _ _ _ _); first | (apply hpLd F; exact rfl; exact rfl; exact rfl; (· repeat (first | exact Has.head | apply Has.tail))) | (apply hpBox F; exact rfl; exact rfl; exact rfl; (· with_reducible first | exact pad_length _ | exact zeros64_length | exact tab_length _ _ | assumption)) | (apply hpAlloc F; exact rfl; exact rfl) | (apply hpSt F; exact rfl; exact rfl; exact rfl; exact rfl; (· repeat (first | exact Upd.head | apply Upd.tail)); (· with_reducible first | exact pad_length _ | exact zeros64_length | exact tab_length _ _ | assumption))))
      clear F
      intro ga w1 F
      go_wp2_with (first | (go_at_call 41; (with_reducible refine (FC.out _).mono ?_); rintro e w2 ⟨rfl, E2⟩; replace F := F.next E2; rw [Q.out]) | (go_at_call 42; (with_reducible refine (CV.out _).mono ?_); rintro e w3 ⟨D3, c3, rfl, R3, E3⟩; replace F := (F.next E3).next ((Ext.refl _).alloc (.cells #[.int .i64 p, .slice D3 (trim l).length c3] 68)); have H0 := Lib.hid (cell_of (heap_alloc_new w3 (.cells #[.int .i64 p, .slice D3 (trim l).length c3] 68)) (j := 0) rfl); have H1 := Lib.hid (cell_of (heap_alloc_new w3 (.cells #[.int .i64 p, .slice D3 (trim l).length c3] 68)) (j := 1) rfl)) | (go_at_call 43; (with_reducible refine (BP.out _ _ _ (R3.below ((Ext.refl _).alloc _))).mono ?_); rintro e w4 ⟨rfl, E4⟩; replace F := F.next E4; have c0 := cellE H0.out E4; have c1 := cellE H1.out E4) | (go_at_call 45; (with_reducible refine (GE.out _ _ _).mono ?_); rintro e w5 ⟨rfl, E5⟩; replace F := F.next E5; clear c0 c1) | ((with_reducible show wpList _ _ _ _ _ _); first | (apply hpLd F; exact rfl; exact rfl; exact rfl; (· repeat (first | exact Has.head | apply Has.tail))) | (apply hpBox F; exact rfl; exact rfl; exact rfl; (· with_reducible first | exact pad_length _ | exact zeros64_length | exact tab_length _ _ | assumption)) | (apply hpAlloc F; exact rfl; exact rfl) | (apply hpSt F; exact rfl; exact rfl; exact rfl; exact rfl; (· repeat (first | exact Upd.head | apply Upd.tail)); (· with_reducible first | exact pad_length _ | exact zeros64_length | exact tab_length _ _ | assumption))))
      go_ret2
      rw [GG.out]
      exact gives_new (L := [1, N1 - p - 1, (N2 - p * p - 1 + (N1 - p - 1) * (N1 - p - 1)).tdiv 2, p * (N1 - p - 1), p * p]) F.ext (by simp)

end Go.Proofs.YtaemiknaiccijaaGreat

/- The laws' own functions: copies of arrays, slices of whole numbers compared and marked. -/
namespace Go.Proofs.YtaemiknaiccijaaGreat
open Go.RowKit

def copyTo (l : List Int) (n : Nat) : List Int := tab 64 fun j => if j < n then at0 l j else 0
theorem copyTo_zero (l : List Int) : copyTo l 0 = zeros64 := by rw [zeros64_tab]; exact tab_congr fun j _ => if_neg (by omega)
theorem copyTo_step (l : List Int) (n : Nat) (h : n < 64) : (copyTo l n).set n (at0 l n) = copyTo l (n + 1) := by
  unfold copyTo
  rw [tab_set 64 _ _ _ h]
  refine tab_congr fun j _ => ?_
  by_cases e : j = n
  · subst e; rw [if_pos rfl, if_pos (by omega)]
  · rw [if_neg e]
    by_cases h2 : j < n
    · rw [if_pos h2, if_pos (by omega)]
    · rw [if_neg h2, if_neg (by omega)]
theorem copyTo_end {l : List Int} (hl : l.length = 64) : copyTo l 64 = l :=
  (tab_congr fun j hj => if_pos hj).trans (tab_self' hl)
theorem copyTo_length (l : List Int) (n : Nat) : (copyTo l n).length = 64 := tab_length _ _
def TpRel (l : List Int) (w1 : World) (g2 g3 f : Nat) (i : Value) (wr : World) : Prop :=
  ∃ n : Nat, f + n = 64 ∧ i = .int .i64 n ∧ Hp w1 wr [(g3, copyTo l n), (g2, zeros64)]

set_option maxRecDepth 100000 in
set_option maxHeartbeats 1000000 in
theorem toPoly_any (l : List Int) (hl : l.length = 64) (hb : IsB l) (w : World) :
    Calls Tryz.prog 9 #[.agg (u8s l)] w fun e w' => e = .returned (.agg (u8s l)) ∧ Ext w w' := by
  have hz := zlit
  have A0 := Lib.hid (Arr.new w 22 l)
  have E0 := (Ext.refl w).alloc (.cells (u8s l) 22)
  have F := Hp.start (w.alloc (.cells (u8s l) 22))
  have HB := Lib.hid hb
  clear hb
  go_enter Tryz.func9, Tryz.ntmps9
  go_wp2_with (first | ((with_reducible show wpList _ _ _ _ _ _); first | (apply hpLd F; exact rfl; exact rfl; exact rfl; (· repeat (first | exact Has.head | apply Has.tail))) | (apply hpBox F; exact rfl; exact rfl; exact rfl; (· with_reducible first | exact pad_length _ | exact zeros64_length | exact tab_length _ _ | assumption)) | (apply hpAlloc F; exact rfl; exact rfl) | (apply hpSt F; exact rfl; exact rfl; exact rfl; exact rfl; (· repeat (first | exact Upd.head | apply Upd.tail)); (· with_reducible first | exact pad_length _ | exact zeros64_length | exact tab_length _ _ | assumption))))
  clear F
  intro g2 w2 F
  go_wp2_with (first | ((with_reducible show wpList _ _ _ _ _ _); first | (apply hpLd F; exact rfl; exact rfl; exact rfl; (· repeat (first | exact Has.head | apply Has.tail))) | (apply hpBox F; exact rfl; exact rfl; exact rfl; (· with_reducible first | exact pad_length _ | exact zeros64_length | exact tab_length _ _ | assumption)) | (apply hpAlloc F; exact rfl; exact rfl) | (apply hpSt F; exact rfl; exact rfl; exact rfl; exact rfl; (· repeat (first | exact Upd.head | apply Upd.tail)); (· with_reducible first | exact pad_length _ | exact zeros64_length | exact tab_length _ _ | assumption))))
  clear F
  intro g3 w3 F
  go_wp2_with (first | ((with_reducible show wpList _ _ _ _ _ _); first | (apply hpLd F; exact rfl; exact rfl; exact rfl; (· repeat (first | exact Has.head | apply Has.tail))) | (apply hpBox F; exact rfl; exact rfl; exact rfl; (· with_reducible first | exact pad_length _ | exact zeros64_length | exact tab_length _ _ | assumption)) | (apply hpAlloc F; exact rfl; exact rfl) | (apply hpSt F; exact rfl; exact rfl; exact rfl; exact rfl; (· repeat (first | exact Upd.head | apply Upd.tail)); (· with_reducible first | exact pad_length _ | exact zeros64_length | exact tab_length _ _ | assumption))))
  go_loopg [4] 64 (fun f i wr => TpRel l (w.alloc (.cells (u8s l) 22)) g2 g3 f i wr)
  case atStart => exact ⟨0, rfl, rfl, by rw [copyTo_zero]; exact F⟩
  case round =>
    clear F
    obtain ⟨n, hf, rfl, F⟩ := hrel
    by_cases hn : n < 64
    · have t1 : decide ((n : Int) < 64) = true := decide_eq_true (by omega)
      have c1 := cellE (A0.out.cell n (by omega)) F.ext
      have f1 := F.free 0 rfl n
      have c2 := F.cell 0 rfl n (by omega)
      have b1 := HB.out n
      have i6 : (n : Int) < 64 := by omega
      have i7 : (0 : Int) ≤ (n : Int) := by omega
      have ST := Lib.hid (copyTo_step l n hn)
      go_wp2
      go_roundg (gk - 1)
      case measure => omega
      case rel => exact ⟨n + 1, by omega, by go_num, by rw [← ST.out]; exact F.setCell 0 rfl n _⟩
    · have t1 : decide ((n : Int) < 64) = false := decide_eq_false (by omega)
      have G : Hid (copyTo l n = l) := Lib.hid (by rw [show n = 64 by omega]; exact copyTo_end hl)
      rw [G.out] at F
      go_wp2_with (first | ((with_reducible show wpList _ _ _ _ _ _); first | (apply hpLd F; exact rfl; exact rfl; exact rfl; (· repeat (first | exact Has.head | apply Has.tail))) | (apply hpBox F; exact rfl; exact rfl; exact rfl; (· with_reducible first | exact pad_length _ | exact zeros64_length | exact tab_length _ _ | assumption)) | (apply hpAlloc F; exact rfl; exact rfl) | (apply hpSt F; exact rfl; exact rfl; exact rfl; exact rfl; (· repeat (first | exact Upd.head | apply Upd.tail)); (· with_reducible first | exact pad_length _ | exact zeros64_length | exact tab_length _ _ | assumption))))
      clear F
      intro w7 F
      try simp only [List.set_cons_zero, List.set_cons_succ] at F
      go_wp2_with (first | ((with_reducible show wpList _ _ _ _ _ _); first | (apply hpLd F; exact rfl; exact rfl; exact rfl; (· repeat (first | exact Has.head | apply Has.tail))) | (apply hpBox F; exact rfl; exact rfl; exact rfl; (· with_reducible first | exact pad_length _ | exact zeros64_length | exact tab_length _ _ | assumption)) | (apply hpAlloc F; exact rfl; exact rfl) | (apply hpSt F; exact rfl; exact rfl; exact rfl; exact rfl; (· repeat (first | exact Upd.head | apply Upd.tail)); (· with_reducible first | exact pad_length _ | exact zeros64_length | exact tab_length _ _ | assumption))))
      exact bodyPost_ret (res_c rfl rfl (F.at_ 1 rfl) hl Tryz.underlying25 infoPoly) rfl ⟨rfl, E0.tr F.ext⟩

def EqRel (L : List Int) (w : World) (f : Nat) (i : Value) (wr : World) : Prop :=
  ∃ n : Nat, f + n = L.length ∧ i = .int .i64 n ∧ Ext w wr
set_option maxRecDepth 100000 in
set_option maxHeartbeats 1000000 in
/-- Two slices that read the same. -/
theorem eqInts_same (A B : Option Addr) (ca cb : Nat) (L : List Int) (w : World) (ra : RowAt w A L) (rb : RowAt w B L) :
    Calls Tryz.prog 22 #[.slice A L.length ca, .slice B L.length cb] w fun e w' => e = .returned (.bool true) ∧ Ext w w' := by
  have RA := Lib.hid ra
  have RB := Lib.hid rb
  have lm := ra.1
  clear ra rb
  go_enter Tryz.func22, Tryz.ntmps22
  go_wp2
  go_loopg [5] L.length (fun f i wr => EqRel L w f i wr)
  case atStart => exact ⟨0, by omega, rfl, Ext.refl _⟩
  case round =>
    obtain ⟨n, hf, rfl, E⟩ := hrel
    by_cases hn : n < L.length
    · have t1 : decide ((n : Int) < (L.length : Int)) = true := decide_eq_true (by omega)
      obtain ⟨b1, o1, rfl, _, h1⟩ := (RA.out.below E).place (by omega)
      obtain ⟨b2, o2, rfl, _, h2⟩ := (RB.out.below E).place (by omega)
      have c1 := h1 n hn
      have c2 := h2 n hn
      have i1 : (n : Int) < (L.length : Int) := by omega
      clear h1 h2
      go_wp2
      go_quiet (fail)
      go_wp2
      go_roundg (gk - 1)
      case measure => omega
      case rel => exact ⟨n + 1, by omega, by go_num, Ext.drewN E _⟩
    · have t1 : decide ((n : Int) < (L.length : Int)) = false := decide_eq_false (by omega)
      go_wp2
      go_ret
      exact ⟨rfl, E⟩

def marks (k : Int) (n : Nat) : List Int := tab n fun j => k + j
theorem marks_length (k : Int) (n : Nat) : (marks k n).length = n := tab_length _ _
def markTo (L : List Int) (k : Int) (n : Nat) : List Int := tab L.length fun j => if j < n then k + j else at0 L j
theorem markTo_zero (L : List Int) (k : Int) : markTo L k 0 = L := (tab_congr fun j _ => if_neg (by omega)).trans (tab_self L)
theorem markTo_length (L : List Int) (k : Int) (n : Nat) : (markTo L k n).length = L.length := tab_length _ _
theorem markTo_end (L : List Int) (k : Int) : markTo L k L.length = marks k L.length := tab_congr fun j hj => if_pos hj
theorem markTo_step (L : List Int) (k : Int) (n : Nat) (h : n < L.length) : (markTo L k n).set n (k + n) = markTo L k (n + 1) := by
  unfold markTo
  rw [tab_set _ _ _ _ h]
  refine tab_congr fun j _ => ?_
  by_cases e : j = n
  · subst e; rw [if_pos rfl, if_pos (by omega)]
  · rw [if_neg e]
    by_cases h2 : j < n
    · rw [if_pos h2, if_pos (by omega)]
    · rw [if_neg h2, if_neg (by omega)]
theorem grownBy_set {w wr : World} {g : Nat} (h : w.grownBy wr (some g)) (j : Nat) (v : Value) : w.grownBy (wr.setCell ⟨g, j, none⟩ v) (some g) :=
  ⟨h.os, h.tape, h.output, by simpa [World.setCell] using h.size, fun k hk hne => by rw [heap_setCell_other _ _ k _ (fun e => hne (by rw [e]))]; exact h.block k hk hne⟩
theorem grownBy_self (w : World) (r : Option Nat) : w.grownBy w r := ⟨rfl, rfl, rfl, Nat.le_refl _, fun _ _ _ => rfl⟩
def MkRel (L : List Int) (k : Int) (g : Nat) (w : World) (f : Nat) (vk i : Value) (wr : World) : Prop :=
  ∃ n : Nat, f + n = L.length ∧ i = .int .i64 n ∧ vk = .int .i64 (k + n) ∧ Ints wr g 2 (markTo L k n) ∧ w.grownBy wr (some g)
set_option maxRecDepth 100000 in
set_option maxHeartbeats 1000000 in
theorem markInts_any (g cap : Nat) (L : List Int) (k : Int) (hk : 0 ≤ k) (hk2 : k ≤ 1000) (hl : L.length ≤ 1000) (w : World) (h : Ints w g 2 L) :
    Calls Tryz.prog 23 #[.slice (some ⟨g, 0, none⟩) L.length cap, .int .i64 k] w fun e w' => e = .returned (.int .i64 (k + L.length)) ∧ Ints w' g 2 (marks k L.length) ∧ w.grownBy w' (some g) := by
  have H := Lib.hid h
  clear h
  go_enter Tryz.func23, Tryz.ntmps23
  go_wp2
  go_loopg [1, 5] L.length (fun f vk i wr => MkRel L k g w f vk i wr)
  case atStart => exact ⟨0, by omega, rfl, by go_num, by rw [markTo_zero]; exact H.out, grownBy_self w _⟩
  case round =>
    obtain ⟨n, hf, rfl, rfl, hI, hG⟩ := hrel
    have HI := Lib.hid hI
    have HG := Lib.hid hG
    clear hI hG
    by_cases hn : n < L.length
    · have t1 : decide ((n : Int) < (L.length : Int)) = true := decide_eq_true (by omega)
      have c1 := HI.out.cell n (by rw [markTo_length]; exact hn)
      have f1 := HI.out.free n
      have i1 : (n : Int) < (L.length : Int) := by omega
      have ST := Lib.hid (markTo_step L k n hn)
      go_wp2
      go_roundg (gk - 1)
      case measure => omega
      case rel => exact ⟨n + 1, by omega, by go_num, by go_num, by rw [← ST.out]; exact HI.out.set n _, grownBy_set HG.out _ _⟩
    · have t1 : decide ((n : Int) < (L.length : Int)) = false := decide_eq_false (by omega)
      have en : Hid (n = L.length) := Lib.hid (by omega)
      go_wp2
      go_ret
      exact ⟨ret_int (by rw [en.out]), by have := HI.out; rwa [en.out, markTo_end] at this, HG.out⟩

def HdRel (n0 : Nat) (k : Int) (f : Nat) (vk i : Value) (w wr : World) : Prop :=
  ∃ n : Nat, f + n = n0 ∧ i = .int .i64 n ∧ vk = .int .i64 (k + n) ∧ w = wr
set_option maxRecDepth 100000 in
set_option maxHeartbeats 1000000 in
theorem heldInts_any (g cap n0 : Nat) (k : Int) (hk : 0 ≤ k) (hk2 : k ≤ 1000) (hl : n0 ≤ 1000) (w : World) (h : Ints w g 2 (marks k n0)) :
    Calls Tryz.prog 24 #[.slice (some ⟨g, 0, none⟩) n0 cap, .int .i64 k] w fun e w' => e = .returned (.int .i64 (k + n0)) ∧ w = w' := by
  have H := Lib.hid h
  clear h
  go_enter Tryz.func24, Tryz.ntmps24
  go_wp2
  go_loopg [1, 5] n0 (fun f vk i wr => HdRel n0 k f vk i w wr)
  case atStart => exact ⟨0, by omega, rfl, by go_num, rfl⟩
  case round =>
    obtain ⟨n, hf, rfl, rfl, rfl⟩ := hrel
    by_cases hn : n < n0
    · have t1 : decide ((n : Int) < (n0 : Int)) = true := decide_eq_true (by omega)
      have c1 := H.out.cell n (by rw [marks_length]; exact hn)
      rw [show at0 (marks k n0) n = k + n from at0_tab_lt _ hn] at c1
      have i1 : (n : Int) < (n0 : Int) := by omega
      go_wp2
      go_roundg (gk - 1)
      case measure => omega
      case rel => exact ⟨n + 1, by omega, by go_num, by go_num, rfl⟩
    · have t1 : decide ((n : Int) < (n0 : Int)) = false := decide_eq_false (by omega)
      have en : Hid (n = n0) := Lib.hid (by omega)
      go_wp2
      go_ret
      exact ⟨ret_int (by rw [en.out]), rfl⟩

end Go.Proofs.YtaemiknaiccijaaGreat

/- The laws on points and polynomials of curves: true for every input. -/
namespace Go.Proofs.YtaemiknaiccijaaGreat
open Go.RowKit

theorem info22 : (Tryz.prog.info? 22).map (·.size) = some 64 := by kernel_rfl
section
variable {ops : Array Oper} {rest : List Oper} {o : Oper} {a : Act} {w : World} {Q : Exit → Act → World → Prop}
theorem wplL22 (x : Operand) (ho : o.op = .load 22 x) (hgd : o.guard = none) {g : Nat} {T : TypeId} {l : List Int} (hg : Arr w g T l) (hx : a.eval x = .pointer (some ⟨g, 0, none⟩)) (hl : l.length = 64)
    (h : wpList Tryz.prog ops Q rest (a.put o.dst (.agg (u8s l))) w) : wpList Tryz.prog ops Q (o :: rest) a w :=
  wpList_load_row hgd _ x ho g hx T _ (0, 0) _ hg Tryz.underlying22 rfl (by rw [info22, u8s_size, hl]) h
end
set_option maxHeartbeats 400000 in
theorem markInts_none (A : Option Addr) (cap : Nat) (k : Int) (w : World) :
    Calls Tryz.prog 23 #[.slice A 0 cap, .int .i64 k] w fun e w' => e = .returned (.int .i64 k) ∧ w = w' := by
  go_enter Tryz.func23, Tryz.ntmps23
  go_wp2
  go_loopg [1, 5] 0 (fun f vk i wr => i = .int .i64 0 ∧ vk = .int .i64 k ∧ w = wr)
  case atStart => exact ⟨rfl, rfl, rfl⟩
  case round =>
    obtain ⟨rfl, rfl, rfl⟩ := hrel
    go_wp2
    go_ret
    exact ⟨rfl, rfl⟩
set_option maxHeartbeats 400000 in
theorem heldInts_none (A : Option Addr) (cap : Nat) (k : Int) (w : World) :
    Calls Tryz.prog 24 #[.slice A 0 cap, .int .i64 k] w fun e w' => e = .returned (.int .i64 k) ∧ w = w' := by
  go_enter Tryz.func24, Tryz.ntmps24
  go_wp2
  go_loopg [1, 5] 0 (fun f vk i wr => i = .int .i64 0 ∧ vk = .int .i64 k ∧ w = wr)
  case atStart => exact ⟨rfl, rfl, rfl⟩
  case round =>
    obtain ⟨rfl, rfl, rfl⟩ := hrel
    go_wp2
    go_ret
    exact ⟨rfl, rfl⟩

set_option maxRecDepth 100000 in
set_option maxHeartbeats 2000000 in
theorem lawCountPoints_any (p : Int) (l : List Int) (hl : l.length = 64) (hb : IsB l) (w : World) :
    Calls Tryz.prog 5 #[.int .i64 p, .agg (u8s l)] w fun e w' => e = .returned (.bool true) ∧ Ext w w' := by
  have AA := Lib.hid (Arr.new w 22 l)
  have E0 := (Ext.refl w).alloc (.cells (u8s l) 22)
  have TP := Lib.hid fun W => toPoly_any l hl hb W
  obtain ⟨L, c, hLc, hc⟩ : ∃ L c, (countS p l = L ∧ (if isD p l then (0 : Int) else 1) = c) ∧ (c = 0 ∨ c = 1) := ⟨_, _, ⟨rfl, rfl⟩, by split <;> simp⟩
  have SP' := fun W => CountPoints_any p l hl hb W
  have IM' := fun W => countPoints_any p l hl hb W
  rw [hLc.1, hLc.2] at SP' IM'
  have SP := Lib.hid SP'
  have IM := Lib.hid IM'
  clear SP' IM' hLc hb
  have E := Ext.refl (w.alloc (.cells (u8s l) 22))
  go_enter Tryz.func5, Tryz.ntmps5
  go_wp2_with (first | ((with_reducible show wpList _ _ _ _ _ _); apply wplL22; exact rfl; exact rfl; exact AA.out.ext E; exact rfl; exact hl) | (go_at_call 9; (with_reducible refine (TP.out _).mono ?_); rintro e wt ⟨rfl, Et⟩))
  refine (SP.out _).mono ?_
  rintro e w1 ⟨A0, c0, rfl, R0, E1⟩
  replace E := E.tr (Et.tr E1)
  clear Et E1
  go_wp2_with (first | ((with_reducible show wpList _ _ _ _ _ _); apply wplL22; exact rfl; exact rfl; exact AA.out.ext E; exact rfl; exact hl) | (go_at_call 9; (with_reducible refine (TP.out _).mono ?_); rintro e wt ⟨rfl, Et⟩))
  refine (IM.out _).mono ?_
  rintro e w3 ⟨A1, c1, rfl, H1, L5, E3⟩
  have R0t := R0.below Et
  have R3 := R0t.below E3
  have E' := E.tr (Et.tr E3)
  have HH := Lib.hid H1
  rcases Nat.eq_zero_or_pos L.length with h0 | h0
  · have e0 : L = [] := List.eq_nil_of_length_eq_zero h0
    subst e0
    clear h0 H1 HH L5
    have Q1 := Lib.hid (eqInts_same A1 A0 c1 c0 [] w3 (RowAt.nil _ _) R3)
    replace E := E'
    clear E' Et E3 R0t R0 R3
    go_wp2_with (first | ((with_reducible show wpList _ _ _ _ _ _); apply wplL22; exact rfl; exact rfl; exact AA.out.ext E; exact rfl; exact hl) | (go_at_call 9; (with_reducible refine (TP.out _).mono ?_); rintro e wt ⟨rfl, Et⟩))
    refine (Q1.out).mono ?_
    rintro e w4 ⟨rfl, E4⟩
    replace E := E.tr E4
    clear E4 Q1
    rcases hc with rfl | rfl
    all_goals
      go_wp2_with fail
      refine (markInts_none A1 c1 1 _).mono ?_
      rintro e w5 ⟨rfl, rfl⟩
      go_wp2_with fail
      refine (heldInts_none A1 c1 1 _).mono ?_
      rintro e w5 ⟨rfl, rfl⟩
      go_wp2_with (first | ((with_reducible show wpList _ _ _ _ _ _); apply wplL22; exact rfl; exact rfl; exact AA.out.ext E; exact rfl; exact hl) | (go_at_call 9; (with_reducible refine (TP.out _).mono ?_); rintro e wt ⟨rfl, Et⟩))
      refine (IM.out _).mono ?_
      rintro e w6 ⟨A2, c2, rfl, H2, L6, E6⟩
      replace E := E.tr (Et.tr E6)
      clear H2 L6 Et E6
      go_wp2_with fail
      refine (eqInts_same A2 A0 c2 c0 [] w6 (RowAt.nil _ _) (RowAt.nil _ _)).mono ?_
      rintro e w7 ⟨rfl, E7⟩
      replace E := E.tr E7
      clear E7
      go_wp2_with fail
      refine (heldInts_none A1 c1 1 _).mono ?_
      rintro e w5 ⟨rfl, rfl⟩
      go_wp2
      go_ret
      exact ⟨rfl, E0.tr E⟩
  · obtain ⟨g, rfl, I3, hg⟩ := H1 h0
    obtain ⟨b0, o0, e0, lb0, _⟩ := R0t.place h0
    have Q1 := Lib.hid (eqInts_same (some ⟨g, 0, none⟩) A0 c1 c0 L w3 (I3.row' (by omega)) R3)
    have I3h := Lib.hid I3
    have hgE : (w.alloc (.cells (u8s l) 22)).heap.size ≤ g := Nat.le_trans (E.tr Et).size hg
    have ne0 : ∀ a, A0 = some a → some a.block ≠ some g := fun a ha hb => by
      rw [e0] at ha
      cases ha
      have h5 : b0 = g := Option.some.inj hb
      omega
    have NE := Lib.hid ne0
    have E3b := E'
    clear E E3 R0t R0 I3 H1 HH e0 lb0 ne0 Et E'
    have E := E3b
    clear E3b
    go_wp2_with (first | ((with_reducible show wpList _ _ _ _ _ _); apply wplL22; exact rfl; exact rfl; exact AA.out.ext E; exact rfl; exact hl) | (go_at_call 9; (with_reducible refine (TP.out _).mono ?_); rintro e wt ⟨rfl, Et⟩))
    refine (Q1.out).mono ?_
    rintro e w4 ⟨rfl, E4⟩
    replace E := E.tr E4
    have R4 := R3.below E4
    have I4 := Lib.hid (I3h.out.ext E4)
    clear E4 Q1 R3 I3h
    rcases hc with rfl | rfl
    all_goals
      go_wp2_with fail
      refine (markInts_any g c1 L 1 (by decide) (by decide) (by omega) _ I4.out).mono ?_
      rintro e w5 ⟨rfl, I5', G5⟩
      have I5 := Lib.hid I5'
      have R5 := rowAt_grown R4 G5 NE.out
      have E5 := Ext.grown E G5 hgE
      clear I5' G5 I4 R4
      have HD := Lib.hid fun W h => heldInts_any g c1 L.length 1 (by decide) (by decide) (by omega) W h
      have t1 : decide ((1 : Int) + (L.length : Int) < 0) = false := decide_eq_false (by omega)
      have t2 : ((1 : Int) + (L.length : Int) != 1 + (L.length : Int)) = false := by simp
      go_wp2_with fail
      refine (HD.out _ I5.out).mono ?_
      rintro e w6 ⟨rfl, rfl⟩
      clear E
      have E := E5
      clear E5
      go_wp2_with (first | ((with_reducible show wpList _ _ _ _ _ _); apply wplL22; exact rfl; exact rfl; exact AA.out.ext E; exact rfl; exact hl) | (go_at_call 9; (with_reducible refine (TP.out _).mono ?_); rintro e wt ⟨rfl, Et⟩))
      refine (IM.out _).mono ?_
      rintro e w7 ⟨A2, c2, rfl, H2, L6, E7⟩
      obtain ⟨g2, rfl, J2, _⟩ := H2 h0
      replace E := E.tr (Et.tr E7)
      have R7 := R5.below (Et.tr E7)
      have I7 := Lib.hid (I5.out.ext (Et.tr E7))
      have Q2 := Lib.hid (eqInts_same (some ⟨g2, 0, none⟩) A0 c2 c0 L w7 (J2.row' (by omega)) R7)
      clear H2 J2 Et E7 R7 R5 I5
      go_wp2_with fail
      refine (Q2.out).mono ?_
      rintro e w8 ⟨rfl, E8⟩
      replace E := E.tr E8
      have I8 := Lib.hid (I7.out.ext E8)
      clear Q2 E8 I7
      go_wp2_with fail
      refine (HD.out _ I8.out).mono ?_
      rintro e w9 ⟨rfl, rfl⟩
      go_wp2
      go_ret
      exact ⟨rfl, E0.tr E⟩

set_option maxRecDepth 100000 in
set_option maxHeartbeats 2000000 in
theorem lawCurvePolynomial_any (p : Int) (l : List Int) (hl : l.length = 64) (hb : IsB l) (w : World) :
    Calls Tryz.prog 6 #[.int .i64 p, .agg (u8s l)] w fun e w' => e = .returned (.bool true) ∧ Ext w w' := by
  have AA := Lib.hid (Arr.new w 22 l)
  have E0 := (Ext.refl w).alloc (.cells (u8s l) 22)
  have TP := Lib.hid fun W => toPoly_any l hl hb W
  obtain ⟨L, c, hLc, hc⟩ : ∃ L c, (polyS p l = L ∧ (if isD p l then (0 : Int) else 1) = c) ∧ (c = 0 ∨ c = 1) := ⟨_, _, ⟨rfl, rfl⟩, by split <;> simp⟩
  have SP' := fun W => CurvePolynomial_any p l hl hb W
  have IM' := fun W => curvePoly_any p l hl hb W
  rw [hLc.1, hLc.2] at SP' IM'
  have SP := Lib.hid SP'
  have IM := Lib.hid IM'
  clear SP' IM' hLc hb
  have E := Ext.refl (w.alloc (.cells (u8s l) 22))
  go_enter Tryz.func6, Tryz.ntmps6
  go_wp2_with (first | ((with_reducible show wpList _ _ _ _ _ _); apply wplL22; exact rfl; exact rfl; exact AA.out.ext E; exact rfl; exact hl) | (go_at_call 9; (with_reducible refine (TP.out _).mono ?_); rintro e wt ⟨rfl, Et⟩))
  refine (SP.out _).mono ?_
  rintro e w1 ⟨A0, c0, rfl, R0, E1⟩
  replace E := E.tr (Et.tr E1)
  clear Et E1
  go_wp2_with (first | ((with_reducible show wpList _ _ _ _ _ _); apply wplL22; exact rfl; exact rfl; exact AA.out.ext E; exact rfl; exact hl) | (go_at_call 9; (with_reducible refine (TP.out _).mono ?_); rintro e wt ⟨rfl, Et⟩))
  refine (IM.out _).mono ?_
  rintro e w3 ⟨A1, c1, rfl, H1, L5, E3⟩
  have R0t := R0.below Et
  have R3 := R0t.below E3
  have E' := E.tr (Et.tr E3)
  have HH := Lib.hid H1
  rcases Nat.eq_zero_or_pos L.length with h0 | h0
  · have e0 : L = [] := List.eq_nil_of_length_eq_zero h0
    subst e0
    clear h0 H1 HH L5
    have Q1 := Lib.hid (eqInts_same A1 A0 c1 c0 [] w3 (RowAt.nil _ _) R3)
    replace E := E'
    clear E' Et E3 R0t R0 R3
    go_wp2_with (first | ((with_reducible show wpList _ _ _ _ _ _); apply wplL22; exact rfl; exact rfl; exact AA.out.ext E; exact rfl; exact hl) | (go_at_call 9; (with_reducible refine (TP.out _).mono ?_); rintro e wt ⟨rfl, Et⟩))
    refine (Q1.out).mono ?_
    rintro e w4 ⟨rfl, E4⟩
    replace E := E.tr E4
    clear E4 Q1
    rcases hc with rfl | rfl
    all_goals
      go_wp2_with fail
      refine (markInts_none A1 c1 1 _).mono ?_
      rintro e w5 ⟨rfl, rfl⟩
      go_wp2_with fail
      refine (heldInts_none A1 c1 1 _).mono ?_
      rintro e w5 ⟨rfl, rfl⟩
      go_wp2_with (first | ((with_reducible show wpList _ _ _ _ _ _); apply wplL22; exact rfl; exact rfl; exact AA.out.ext E; exact rfl; exact hl) | (go_at_call 9; (with_reducible refine (TP.out _).mono ?_); rintro e wt ⟨rfl, Et⟩))
      refine (IM.out _).mono ?_
      rintro e w6 ⟨A2, c2, rfl, H2, L6, E6⟩
      replace E := E.tr (Et.tr E6)
      clear H2 L6 Et E6
      go_wp2_with fail
      refine (eqInts_same A2 A0 c2 c0 [] w6 (RowAt.nil _ _) (RowAt.nil _ _)).mono ?_
      rintro e w7 ⟨rfl, E7⟩
      replace E := E.tr E7
      clear E7
      go_wp2_with fail
      refine (heldInts_none A1 c1 1 _).mono ?_
      rintro e w5 ⟨rfl, rfl⟩
      go_wp2
      go_ret
      exact ⟨rfl, E0.tr E⟩
  · obtain ⟨g, rfl, I3, hg⟩ := H1 h0
    obtain ⟨b0, o0, e0, lb0, _⟩ := R0t.place h0
    have Q1 := Lib.hid (eqInts_same (some ⟨g, 0, none⟩) A0 c1 c0 L w3 (I3.row' (by omega)) R3)
    have I3h := Lib.hid I3
    have hgE : (w.alloc (.cells (u8s l) 22)).heap.size ≤ g := Nat.le_trans (E.tr Et).size hg
    have ne0 : ∀ a, A0 = some a → some a.block ≠ some g := fun a ha hb => by
      rw [e0] at ha
      cases ha
      have h5 : b0 = g := Option.some.inj hb
      omega
    have NE := Lib.hid ne0
    have E3b := E'
    clear E E3 R0t R0 I3 H1 HH e0 lb0 ne0 Et E'
    have E := E3b
    clear E3b
    go_wp2_with (first | ((with_reducible show wpList _ _ _ _ _ _); apply wplL22; exact rfl; exact rfl; exact AA.out.ext E; exact rfl; exact hl) | (go_at_call 9; (with_reducible refine (TP.out _).mono ?_); rintro e wt ⟨rfl, Et⟩))
    refine (Q1.out).mono ?_
    rintro e w4 ⟨rfl, E4⟩
    replace E := E.tr E4
    have R4 := R3.below E4
    have I4 := Lib.hid (I3h.out.ext E4)
    clear E4 Q1 R3 I3h
    rcases hc with rfl | rfl
    all_goals
      go_wp2_with fail
      refine (markInts_any g c1 L 1 (by decide) (by decide) (by omega) _ I4.out).mono ?_
      rintro e w5 ⟨rfl, I5', G5⟩
      have I5 := Lib.hid I5'
      have R5 := rowAt_grown R4 G5 NE.out
      have E5 := Ext.grown E G5 hgE
      clear I5' G5 I4 R4
      have HD := Lib.hid fun W h => heldInts_any g c1 L.length 1 (by decide) (by decide) (by omega) W h
      have t1 : decide ((1 : Int) + (L.length : Int) < 0) = false := decide_eq_false (by omega)
      have t2 : ((1 : Int) + (L.length : Int) != 1 + (L.length : Int)) = false := by simp
      go_wp2_with fail
      refine (HD.out _ I5.out).mono ?_
      rintro e w6 ⟨rfl, rfl⟩
      clear E
      have E := E5
      clear E5
      go_wp2_with (first | ((with_reducible show wpList _ _ _ _ _ _); apply wplL22; exact rfl; exact rfl; exact AA.out.ext E; exact rfl; exact hl) | (go_at_call 9; (with_reducible refine (TP.out _).mono ?_); rintro e wt ⟨rfl, Et⟩))
      refine (IM.out _).mono ?_
      rintro e w7 ⟨A2, c2, rfl, H2, L6, E7⟩
      obtain ⟨g2, rfl, J2, _⟩ := H2 h0
      replace E := E.tr (Et.tr E7)
      have R7 := R5.below (Et.tr E7)
      have I7 := Lib.hid (I5.out.ext (Et.tr E7))
      have Q2 := Lib.hid (eqInts_same (some ⟨g2, 0, none⟩) A0 c2 c0 L w7 (J2.row' (by omega)) R7)
      clear H2 J2 Et E7 R7 R5 I5
      go_wp2_with fail
      refine (Q2.out).mono ?_
      rintro e w8 ⟨rfl, E8⟩
      replace E := E.tr E8
      have I8 := Lib.hid (I7.out.ext E8)
      clear Q2 E8 I7
      go_wp2_with fail
      refine (HD.out _ I8.out).mono ?_
      rintro e w9 ⟨rfl, rfl⟩
      go_wp2
      go_ret
      exact ⟨rfl, E0.tr E⟩

end Go.Proofs.YtaemiknaiccijaaGreat

/- An argument that is an array of 64 bytes, opened. -/
namespace Go.Proofs.YtaemiknaiccijaaGreat
open Go.ChangeShapes Go.WideShapes Go.ChangeAt Go.RowKit

theorem own : ownKnob Tryz.prog.godebug = none := by kernel_rfl
theorem laidOut : laidOutB Tryz.prog = true := by kernel_rfl
def cellInt : Value → Int
  | .int _ z => z
  | _ => 0
set_option maxRecDepth 100000 in
theorem open_bytes64 {H : Type} {enc : TypeId × Value → H} {W : World} {r : Reach} {b0 base : Nat} {sp : Nat → Bool} {held : Bool} {v : Value} {d : DataW H} {p : List MemPlace}
    (h : Value.okWide Tryz.prog W r b0 22 v) (k : DataW.Trod enc Tryz.prog W base sp held 22 v d p) : ∃ l : List Int, v = .agg (u8s l) ∧ l.length = 64 ∧ IsB l := by
  have c22 : Tryz.prog.cellsOf 22 = 64 := by kernel_rfl
  have c5 : Tryz.prog.cellsOf 5 = 1 := by kernel_rfl
  simp only [Value.okWide, Tryz.underlying22] at h
  obtain ⟨cs, rfl, h2, _⟩ := h
  rw [c22] at h2
  obtain ⟨fuel, hf⟩ := k
  obtain ⟨xs, m, _, ex, _, hl, hel⟩ := DataW.trod_array Tryz.underlying22 hf
  have key : ∀ i, i < 64 → ∃ z : Int, cs.toList[i]? = some (.int .u8 z) ∧ 0 ≤ z ∧ z ≤ 255 := by
    intro i hi
    have hE := hel i hi
    rw [c5, Nat.mul_one, List.getElem?_eq_getElem (by omega)] at hE
    obtain ⟨z, e1, e2, e3⟩ := DataW.trod_int Tryz.underlying5 hE
    refine ⟨z, ?_, ?_⟩
    · have h0 : ((cs.toList.drop i).take 1)[0]? = some (.int .u8 z) := by
        have e1' : (cs.toList.drop i).take 1 = [.int .u8 z] := e1
        rw [e1']; rfl
      simpa using h0
    · have e4 : IntKind.u8.min ≤ z ∧ z ≤ IntKind.u8.max := by simpa [Lit.wf] using e3
      have m1 : IntKind.u8.min = 0 := by decide
      have m2 : IntKind.u8.max = 255 := by decide
      omega
  refine ⟨cs.toList.map cellInt, ?_, by rw [List.length_map]; simpa using h2, fun j => ?_⟩
  · congr 1
    apply Array.ext'
    apply List.ext_getElem?
    intro i
    unfold u8s
    rw [List.map_map, List.getElem?_map]
    rcases Nat.lt_or_ge i 64 with hi | hi
    · obtain ⟨z, hz, _⟩ := key i hi
      rw [hz]; rfl
    · have : cs.toList[i]? = none := List.getElem?_eq_none (by simpa [h2] using hi)
      rw [this]; rfl
  · rcases Nat.lt_or_ge j 64 with hj | hj
    · obtain ⟨z, hz, hb⟩ := key j hj
      have : at0 (cs.toList.map cellInt) j = z := by
        unfold at0
        rw [List.getD_eq_getElem?_getD, List.getElem?_map, hz]; rfl
      rw [this]; exact hb
    · rw [at0_out _ _ (by rw [List.length_map]; simpa [h2] using hj)]
      exact ⟨Int.le_refl _, by decide⟩

end Go.Proofs.YtaemiknaiccijaaGreat
