/- Lemmas and contracts of functions, for the laws: The program's points of a curve over a field of rests. -/
import Derived.Test.YtaemiknaiccijaaGreatRm23
import Derived.Test.YtaemiknaiccijaaGreatRm13
import Derived.Test.YtaemiknaiccijaaGreatRm14
import Derived.Test.YtaemiknaiccijaaGreatRm15
import Derived.Test.YtaemiknaiccijaaGreatRm16
import Derived.Test.YtaemiknaiccijaaGreatRm17
set_option linter.unusedVariables false
set_option linter.unusedSimpArgs false
namespace Go.Proofs.YtaemiknaiccijaaGreat
open Go.RowKit

theorem Ext.drewN {a w : World} (h : Ext a w) (n : Nat) : Ext a (w.drewN n) := h.trans ⟨rfl, rfl, rfl, Nat.le_refl _, fun _ _ => rfl⟩
def PtRel1 (p : Int) (m : List Int) (N : Nat) (w1 : World) (B f : Nat) (i : Value) (wr : World) : Prop :=
  ∃ k : Nat, f + k = N ∧ i = .int .i64 k ∧ Ext w1 wr ∧ MapC wr B (sqI p m) k

def isFix (L : List Int) : Value → World → Prop := fun v w => ∃ A c, v = .slice A L.length c ∧ L.length ≤ c ∧ RowAt w A L
theorem mono_Fix (L : List Int) : Mono (isFix L) := fun _ _ _ ⟨A, c, h1, h2, h3⟩ hE => ⟨A, c, h1, h2, h3.below hE⟩
/-- What has been counted over the first k places. -/
def pntTo (p : Int) (d m : List Int) (N k : Nat) : Int := 1 + sumN k fun j => times (sqI p m) (atI p d (numr p j) m) N
theorem pntTo_step (p : Int) (d m : List Int) (N k : Nat) : pntTo p d m N (k + 1) = pntTo p d m N k + times (sqI p m) (atI p d (numr p k) m) N := by unfold pntTo; rw [sumN]; omega
theorem pntTo_range (p : Int) (d m : List Int) (N : Nat) (hN : N ≤ 1000000) : ∀ k : Nat, 1 ≤ pntTo p d m N k ∧ pntTo p d m N k ≤ 1 + k * 1000000
  | 0 => by unfold pntTo; rw [sumN]; omega
  | k + 1 => by
    have a := pntTo_range p d m N hN k
    have b := times_range (sqI p m) (atI p d (numr p k) m) N
    rw [pntTo_step]; omega
def PtRel2 (p : Int) (d m : List Int) (N : Nat) (w1 : World) (B f : Nat) (va i : Value) (wr : World) : Prop :=
  ∃ k : Nat, f + k = N ∧ i = .int .i64 k ∧ va = .int .i64 (pntTo p d m N k) ∧ Ext w1 wr ∧ MapC wr B (sqI p m) N
def PtRel3 (p : Int) (d x m : List Int) (w5 : World) (f : Nat) (vv i : Value) (wr : World) : Prop :=
  ∃ v : List Int, f ≤ d.length ∧ i = .int .i64 ((f : Int) - 1) ∧ Rv wr vv v ∧ Can p v ∧ v.length ≤ 64 ∧ atG p d x m f v = atI p d x m ∧ Ext w5 wr

set_option maxRecDepth 100000 in
set_option maxHeartbeats 2000000 in
theorem points_any (p : Int) (D M : Option Addr) (cd cm : Nat) (d m : List Int) (N : Nat) (hp : PrimeP p) (hd : Can p d) (hm : Can p m) (ld : d.length ≤ 64) (lm : m.length ≤ 64) (nm : 0 < m.length) (hN : normI p (m.length - 1) 1099511627776 = (N : Int)) (hN2 : N ≤ 1000000) (w : World) (rd : RowAt w D d) (rm : RowAt w M m) :
    Calls Tryz.prog 77 #[.agg #[.int .i64 p, .slice D d.length cd], .slice M m.length cm] w fun e w' => e = .returned (.int .i64 (pntI p d m N)) ∧ Ext w w' := by
  have HP := Lib.hid hp
  have HD := Lib.hid hd
  have HM := Lib.hid hm
  have RD := Lib.hid rd
  have RM := Lib.hid rm
  have HN := Lib.hid hN
  have lo := hp.lo
  have hi := hp.hi
  clear hp hd hm rd rm hN
  go_enter Tryz.func77, Tryz.ntmps77
  go_wp2
  obtain ⟨w1, gc, gf, hw, hgc, hgf, C0, C1, F0, F1, E1⟩ : ∃ w1 gc gf, w1 = (w.alloc (.cells #[.int .i64 p, .slice D d.length cd] 68)).alloc (.cells #[.int .i64 p, .slice M m.length cm] 54) ∧ gc = w.heap.size ∧ gf = w.heap.size + 1 ∧
      w1.cell? ⟨gc, 0, none⟩ = some (.int .i64 p) ∧ w1.cell? ⟨gc, 1, none⟩ = some (.slice D d.length cd) ∧ w1.cell? ⟨gf, 0, none⟩ = some (.int .i64 p) ∧ w1.cell? ⟨gf, 1, none⟩ = some (.slice M m.length cm) ∧ Ext w w1 := by
    have A := heap_alloc_new w (.cells #[.int .i64 p, .slice D d.length cd] 68)
    have B := heap_alloc_new (w.alloc (.cells #[.int .i64 p, .slice D d.length cd] 68)) (.cells #[.int .i64 p, .slice M m.length cm] 54)
    have s1 : (w.alloc (.cells #[.int .i64 p, .slice D d.length cd] 68)).heap.size = w.heap.size + 1 := by simp
    rw [s1] at B
    refine ⟨_, _, _, rfl, rfl, rfl, cellE (cell_of A rfl) ((Ext.refl _).alloc _), cellE (cell_of A rfl) ((Ext.refl _).alloc _), cell_of B rfl, cell_of B rfl, ((Ext.refl w).alloc _).alloc _⟩
  rw [← hw, ← hgf, ← hgc]
  clear hw hgc hgf
  have NC : Hid (∀ W, Calls Tryz.prog 105 #[.int .i64 p, .int .i64 ((m.length : Int) - 1), .int .i64 1099511627776] W fun e w' => e = .returned (.int .i64 (N : Int)) ∧ w' = W) := Lib.hid fun W => by
    have := norm_any p 1099511627776 (m.length - 1) lo hi (by omega) (by decide) (by decide) W
    rw [HN.out, show ((m.length - 1 : Nat) : Int) = (m.length : Int) - 1 by omega] at this
    exact this.mono fun _ _ h => ⟨h.1, h.2.symm⟩
  have DC : Hid (∀ W, Calls Tryz.prog 79 #[.slice M m.length cm] W fun e w' => e = .returned (.int .i64 ((m.length : Int) - 1)) ∧ w' = W) := Lib.hid fun W => (degree_any M m.length cm (by omega) W).mono fun _ _ h => ⟨h.1, h.2.symm⟩
  have hmm := @run_makeMap Tryz.prog
  go_quiet ((first | (go_at_call 79; exact Calls.quiet_of_same (DC.out _)) | (go_at_call 105; exact Calls.quiet_of_same (NC.out _))))
  go_wp2
  obtain ⟨w2, B, hw, hB, MC, E2⟩ : ∃ w2 B, w2 = (w1.drewN nq).alloc (.map #[] 0) ∧ B = w1.heap.size ∧ MapC w2 B (sqI p m) 0 ∧ Ext w1 w2 :=
    ⟨_, _, rfl, rfl, MapC.made (w1.drewN nq) _, (Ext.drewN (Ext.refl w1) nq).alloc _⟩
  have LB : w1.heap.size ≤ B := by omega
  rw [← hw, ← hB]
  clear hw hB hmm NC DC
  replace C0 := Lib.hid C0
  replace C1 := Lib.hid C1
  replace F0 := Lib.hid F0
  replace F1 := Lib.hid F1
  go_loopg [26] N (fun f i wr => PtRel1 p m N w1 B f i wr)
  case atStart => exact ⟨0, rfl, rfl, E2, MC⟩
  case round =>
    clear E2 MC
    obtain ⟨k, hk, rfl, E, MC⟩ := hrel
    by_cases hlt : k < N
    · have t1 : decide ((k : Int) < (N : Int)) = true := decide_eq_true (by omega)
      have c0 := cellE C0.out E
      have NB := Lib.hid (numbered_any p k lo hi (Nat.lt_of_lt_of_le (show k < 10000000 by omega) (by decide)))
      have NL := numr_le p k
      have NC := Lib.hid (numr_can (show 0 < p by omega) k)
      have SP := Lib.hid (mulI_spec HP.out (numr p k) (numr p k) HM.out nm)
      have SL := SP.out.2
      have SD : Hid (Dig (mulI p (numr p k) (numr p k) m)) := Lib.hid (SP.out.1.dig hi)
      have TR := times_range (sqI p m) (mulI p (numr p k) (numr p k) m) k
      have SQ : Hid (sqI p m k = mulI p (numr p k) (numr p k) m) := Lib.hid rfl
      have SI : Hid (∀ j, 0 ≤ at0 (mulI p (numr p k) (numr p k) m) j ∧ at0 (mulI p (numr p k) (numr p k) m) j ≤ 9) := Lib.hid SD.out.2
      go_wp2_with (first
        | (go_at_call 106; (with_reducible refine (NB.out _).mono ?_); rintro e w3 ⟨⟨A3, c3, rfl, R3, E3⟩, F3⟩; clear F3 c0; have f0 := cellE F0.out (E.tr E3); have f1 := cellE F1.out (E.tr E3))
        | (go_at_call 58; (with_reducible refine (product_any p M A3 A3 cm c3 c3 m (numr p k) (numr p k) HP.out HM.out NC.out NC.out (by omega) (by omega) (by omega) nm _ (RM.out.below (E1.tr (E.tr E3))) R3 R3).mono ?_); rintro e w4 ⟨A4, c4, rfl, R4, E4⟩; clear f0 f1)
        | (go_at_call 109; (with_reducible refine (text_any A4 c4 (mulI p (numr p k) (numr p k) m) SI.out (by omega) _ R4).mono ?_); rintro e w5 ⟨rfl, E5⟩; replace MC := MC.ext (E3.tr (E4.tr E5)))
        | ((with_reducible show wpList _ _ _ _ _ _); apply wplMapGet; exact rfl; exact rfl; exact MC; exact rfl; exact rfl; exact SD.out; omega)
        | ((with_reducible show wpList _ _ _ _ _ _); apply wplMapInc; exact rfl; exact rfl; exact MC; exact rfl; exact rfl; exact SD.out; omega; exact SQ.out; exact rfl; omega))
      intro w6 M6 G6
      have E6 := (E.tr (E3.tr (E4.tr E5))).grown G6 LB
      clear MC G6 E3 E4 E5
      go_wp2
      go_roundg (gk - 1)
      case measure => omega
      case rel => exact ⟨k + 1, by omega, by go_num, E6, M6⟩
    · have t1 : decide ((k : Int) < (N : Int)) = false := decide_eq_false (by omega)
      obtain rfl : N = k := by omega
      clear hlt hk
      have E0 := E
      have MC0 := Lib.hid MC
      go_wp2
      go_loopg [10, 43] N (fun f va i wr => PtRel2 p d m N w1 B f va i wr)
      case atStart => exact ⟨0, rfl, rfl, rfl, E0, MC0.out⟩
      case round =>
        clear E MC E0 MC0 t1
        obtain ⟨k, hk, rfl, rfl, E, MC⟩ := hrel
        have PR := pntTo_range p d m N hN2 k
        by_cases hlt : k < N
        · obtain ⟨fo, rfl⟩ : ∃ fo, gk = fo + 1 := ⟨gk - 1, by omega⟩
          have t1 : decide ((k : Int) < (N : Int)) = true := decide_eq_true (by omega)
          have c0 := cellE C0.out E
          have c1 := cellE C1.out E
          have NB := Lib.hid (numbered_any p k lo hi (Nat.lt_of_lt_of_le (show k < 10000000 by omega) (by decide)))
          have NL := numr_le p k
          have NC := Lib.hid (numr_can (show 0 < p by omega) k)
          have PS := Lib.hid (pntTo_step p d m N k)
          have MCk := Lib.hid MC
          clear MC
          go_wp2_with (first
            | (go_at_call 106; (with_reducible refine (NB.out _).mono ?_); rintro e w3 ⟨⟨A3, c3, rfl, R3, E3⟩, F3⟩; clear F3 c0; replace c1 := cellE c1 E3))
          have RD3 := Lib.hid (RD.out.below (E1.tr (E.tr E3)))
          go_loopg [13, 14] d.length (fun f vv i wr => PtRel3 p d (numr p k) m w3 f vv i wr)
          case atStart => exact ⟨[], Nat.le_refl _, rfl, ⟨none, 0, rfl, RowAt.nil _ _⟩, can_nil (by omega), by decide, rfl, Ext.refl _⟩
          case round =>
            obtain ⟨v, hf, rfl, ⟨Av, cv, rfl, Rw⟩, hv, lv, hs, E5⟩ := hrel
            have HV := Lib.hid hv
            have HS := Lib.hid hs
            have RV := Lib.hid Rw
            clear hv hs Rw c1
            have EW := E.tr (E3.tr E5)
            by_cases g0 : gk = 0
            · subst g0
              have VA : Hid (v = atI p d (numr p k) m) := Lib.hid HS.out
              have MC5 := Lib.hid (MCk.out.ext (E3.tr E5))
              have VD := Lib.hid (HV.out.dig hi)
              have SI : Hid (∀ j, 0 ≤ at0 v j ∧ at0 v j ≤ 9) := Lib.hid VD.out.2
              have TR := times_range (sqI p m) v N
              rw [show ((0 : Nat) : Int) - 1 = -1 from rfl]
              go_wp2_with (first
                | (go_at_call 109; (with_reducible refine (text_any Av cv v SI.out (by omega) _ RV.out).mono ?_); rintro e w6 ⟨rfl, E6⟩; replace MC5 := Lib.hid (MC5.out.ext E6))
                | ((with_reducible show wpList _ _ _ _ _ _); apply wplMapGet; exact rfl; exact rfl; exact MC5.out; exact rfl; exact rfl; exact VD.out; omega))
              go_roundg fo
              case measure => omega
              case rel => exact ⟨k + 1, by omega, by go_num, by rw [PS.out, ← VA.out], EW.tr E6, MC5.out⟩
            · obtain ⟨f, rfl⟩ : ∃ f, gk = f + 1 := ⟨gk - 1, by omega⟩
              rw [show ((f + 1 : Nat) : Int) - 1 = (f : Int) by omega]
              obtain ⟨bd, od, rfl, _, hcd⟩ := RD3.out.place (by omega)
              have cdw := Lib.hid (cellE (hcd f (by omega)) E5)
              have MS := Lib.hid (mulI_spec HP.out v (numr p k) HM.out nm)
              have ML := MS.out.2
              have bf := HD.out.inp f
              have i1 : f < d.length := by omega
              have i2 : (f : Int) < (d.length : Int) := by omega
              have CL := comb_le p (mulI p v (numr p k) m) (trim [at0 d f]) 1
              have TL := trim_le [at0 d f]
              simp only [List.length_cons, List.length_nil] at TL
              have BT : Hid (IsB (trim [at0 d f])) := Lib.hid (fun j => by
                rw [at0_trim]
                match j with
                | 0 => exact ⟨bf.1, by show at0 d f ≤ 255; omega⟩
                | j + 1 => exact ⟨Int.le_refl _, by show (0 : Int) ≤ 255; decide⟩)
              have BM : Hid (IsB (mulI p v (numr p k) m)) := Lib.hid (MS.out.1.inp.b (by omega))
              have CC := Lib.hid (comb_can (show 0 < p by omega) (mulI p v (numr p k) m) (trim [at0 d f]) 1)
              clear hcd g0
              go_wp2
              refine region_ext 13 (by kernel_rfl) (by kernel_rfl) (by kernel_rfl) [] [eqv (.pointer (some ⟨gc, 0, none⟩)), eqv (.int .i64 p), eqv (.agg #[.int .i64 p, .slice M m.length cm]), eqv (.slice Av v.length cv), eqv (.slice A3 (numr p k).length c3), isRow (mulI p v (numr p k) m), eqv (.pointer (some ⟨gc, 1, none⟩)), eqv (.slice (some ⟨bd, od, none⟩) d.length cd), eqv (.int .i64 (f : Int)), eqv (.pointer (some ⟨bd, od + f, none⟩)), eqv (.int .i64 (at0 d f)), isFix ([at0 d f]), isRow (trim [at0 d f])]
                ⟨mono_eqv _, mono_eqv _, mono_eqv _, mono_eqv _, mono_eqv _, mono_row _, mono_eqv _, mono_eqv _, mono_eqv _, mono_eqv _, mono_eqv _, mono_Fix _, mono_row _, trivial⟩ (fun vals => ?_) (fun vals w9 hE9 hS9 hN9 => ?_)
              · simp only [List.take_succ_cons, List.take_zero]
                refine ⟨fun w8 hE8 hk => doesK_plain rfl fun K hK => ?_, ?_⟩
                · go_simp
                  (try go_bits)
                  exact hK _ _ rfl (Ext.refl _) rfl
                simp only [Act.put, List.setIfInBounds_toArray, List.set_cons_zero, List.set_cons_succ]
                refine ⟨fun w8 hE8 hk => doesK_plain rfl fun K hK => ?_, ?_⟩
                · have k0 : vals 0 = .pointer (some ⟨gc, 0, none⟩) := hk 0 (by decide) (by kernel_rfl)
                  have c8 := cellE C0.out (EW.tr hE8)
                  go_simp
                  (try go_bits)
                  exact hK _ _ rfl (Ext.refl _) rfl
                simp only [Act.put, List.setIfInBounds_toArray, List.set_cons_zero, List.set_cons_succ]
                refine ⟨fun w8 hE8 hk => doesK_plain rfl fun K hK => ?_, ?_⟩
                · have f8 := cellE F0.out (EW.tr hE8); have f9 := cellE F1.out (EW.tr hE8)
                  go_simp
                  (try go_bits)
                  exact hK _ _ rfl (Ext.refl _) rfl
                simp only [Act.put, List.setIfInBounds_toArray, List.set_cons_zero, List.set_cons_succ]
                refine ⟨fun w8 hE8 hk => doesK_plain rfl fun K hK => ?_, ?_⟩
                · go_simp
                  (try go_bits)
                  exact hK _ _ rfl (Ext.refl _) rfl
                simp only [Act.put, List.setIfInBounds_toArray, List.set_cons_zero, List.set_cons_succ]
                refine ⟨fun w8 hE8 hk => doesK_plain rfl fun K hK => ?_, ?_⟩
                · go_simp
                  (try go_bits)
                  exact hK _ _ rfl (Ext.refl _) rfl
                simp only [Act.put, List.setIfInBounds_toArray, List.set_cons_zero, List.set_cons_succ]
                refine ⟨fun w8 hE8 hk => doesK_plain rfl fun K hK => ?_, ?_⟩
                · have k2 : vals 2 = .agg #[.int .i64 p, .slice M m.length cm] := hk 2 (by decide) (by kernel_rfl)
                  have k3 : vals 3 = .slice Av v.length cv := hk 3 (by decide) (by kernel_rfl)
                  have k4 : vals 4 = .slice A3 (numr p k).length c3 := hk 4 (by decide) (by kernel_rfl)
                  go_simp
                  refine (product_any p M Av A3 cm cv c3 m v (numr p k) HP.out HM.out HV.out NC.out (by omega) (by omega) (by omega) nm _ (RM.out.below (E1.tr (EW.tr hE8))) (RV.out.below hE8) (R3.below (E5.tr hE8))).mono ?_
                  rintro e7 w7 ⟨A7, c7, rfl, R7, hE7⟩
                  exact hK _ _ ⟨A7, c7, rfl, R7⟩ hE7 rfl
                simp only [Act.put, List.setIfInBounds_toArray, List.set_cons_zero, List.set_cons_succ]
                refine ⟨fun w8 hE8 hk => doesK_plain rfl fun K hK => ?_, ?_⟩
                · go_simp
                  (try go_bits)
                  exact hK _ _ rfl (Ext.refl _) rfl
                simp only [Act.put, List.setIfInBounds_toArray, List.set_cons_zero, List.set_cons_succ]
                refine ⟨fun w8 hE8 hk => doesK_plain rfl fun K hK => ?_, ?_⟩
                · have k6 : vals 6 = .pointer (some ⟨gc, 1, none⟩) := hk 6 (by decide) (by kernel_rfl)
                  have c8 := cellE C1.out (EW.tr hE8)
                  go_simp
                  (try go_bits)
                  exact hK _ _ rfl (Ext.refl _) rfl
                simp only [Act.put, List.setIfInBounds_toArray, List.set_cons_zero, List.set_cons_succ]
                refine ⟨fun w8 hE8 hk => doesK_plain rfl fun K hK => ?_, ?_⟩
                · go_simp
                  (try go_bits)
                  exact hK _ _ rfl (Ext.refl _) rfl
                simp only [Act.put, List.setIfInBounds_toArray, List.set_cons_zero, List.set_cons_succ]
                refine ⟨fun w8 hE8 hk => doesK_plain rfl fun K hK => ?_, ?_⟩
                · have k7 : vals 7 = .slice (some ⟨bd, od, none⟩) d.length cd := hk 7 (by decide) (by kernel_rfl)
                  have k8 : vals 8 = .int .i64 (f : Int) := hk 8 (by decide) (by kernel_rfl)
                  go_simp
                  (try go_bits)
                  exact hK _ _ rfl (Ext.refl _) rfl
                simp only [Act.put, List.setIfInBounds_toArray, List.set_cons_zero, List.set_cons_succ]
                refine ⟨fun w8 hE8 hk => doesK_plain rfl fun K hK => ?_, ?_⟩
                · have k9 : vals 9 = .pointer (some ⟨bd, od + f, none⟩) := hk 9 (by decide) (by kernel_rfl)
                  have c8 := cellE cdw.out hE8
                  go_simp
                  (try go_bits)
                  exact hK _ _ rfl (Ext.refl _) rfl
                simp only [Act.put, List.setIfInBounds_toArray, List.set_cons_zero, List.set_cons_succ]
                refine ⟨fun w8 hE8 hk => doesK_plain rfl fun K hK => ?_, ?_⟩
                · have k10 : vals 10 = .int .i64 (at0 d f) := hk 10 (by decide) (by kernel_rfl)
                  go_simp
                  (try go_bits)
                  exact hK _ _ ⟨_, 1, rfl, Nat.le_refl 1, (Ints.new w8 2 [at0 d f]).row' (by simp)⟩ ((Ext.refl _).alloc _) rfl
                simp only [Act.put, List.setIfInBounds_toArray, List.set_cons_zero, List.set_cons_succ]
                refine ⟨fun w8 hE8 hk => doesK_plain rfl fun K hK => ?_, ?_⟩
                · obtain ⟨A5, c5, k5, r5⟩ : isRow (mulI p v (numr p k) m) (vals 5) _ := hk 5 (by decide) (by kernel_rfl)
                  have k11 : (isFix ([at0 d f])) (vals 11) _ := hk 11 (by decide) (by kernel_rfl)
                  obtain ⟨A11, c11, q11, l11, r11⟩ := k11
                  rw [q11]
                  go_simp
                  refine (trimmed_any A11 c11 [at0 d f] _ r11 l11).mono ?_
                  rintro e7 w7 ⟨⟨A7, c7, rfl, R7, hE7⟩, rfl⟩
                  exact hK _ _ ⟨A7, c7, rfl, R7⟩ hE7 rfl
                exact trivial
              simp only [List.take_succ_cons, List.take_zero, List.drop_succ_cons, List.drop_zero, preAct, Nat.reduceAdd, Act.put, List.setIfInBounds_toArray, List.set_cons_zero, List.set_cons_succ]
              have k0 : vals 0 = .pointer (some ⟨gc, 0, none⟩) := hS9 0 (by decide) 
              have k1 : vals 1 = .int .i64 p := hS9 1 (by decide) 
              have k2 : vals 2 = .agg #[.int .i64 p, .slice M m.length cm] := hS9 2 (by decide) 
              have k3 : vals 3 = .slice Av v.length cv := hS9 3 (by decide) 
              have k4 : vals 4 = .slice A3 (numr p k).length c3 := hS9 4 (by decide) 
              obtain ⟨A5, c5, k5, r5⟩ : isRow (mulI p v (numr p k) m) (vals 5) _ := hS9 5 (by decide) 
              have k6 : vals 6 = .pointer (some ⟨gc, 1, none⟩) := hS9 6 (by decide) 
              have k7 : vals 7 = .slice (some ⟨bd, od, none⟩) d.length cd := hS9 7 (by decide) 
              have k8 : vals 8 = .int .i64 (f : Int) := hS9 8 (by decide) 
              have k9 : vals 9 = .pointer (some ⟨bd, od + f, none⟩) := hS9 9 (by decide) 
              have k10 : vals 10 = .int .i64 (at0 d f) := hS9 10 (by decide) 
              have k11 : (isFix ([at0 d f])) (vals 11) _ := hS9 11 (by decide) 
              obtain ⟨A12, c12, k12, r12⟩ : isRow (trim [at0 d f]) (vals 12) _ := hS9 12 (by decide) 
              simp only [k0, k1, k2, k3, k4, k5, k6, k7, k8, k9, k10, k11, k12]
              clear hN9 hS9 k0 k1 k2 k3 k4 k5 k6 k7 k8 k9 k10 k11 k12
              go_wp2_with (first | (go_at_call 59; (with_reducible refine (combine_any p 1 A5 A12 c5 c12 (mulI p v (numr p k) m) (trim [at0 d f]) lo hi (by decide) (by decide) BM.out BT.out _ r5 r12).mono ?_); rintro e w7 ⟨A7, c7, rfl, R7, E7⟩))
              go_roundg f
              case measure => omega
              case rel => exact ⟨_, by omega, by go_num, ⟨A7, c7, rfl, R7⟩, CC.out, by omega, HS.out, E5.tr (hE9.tr E7)⟩
        · have t1 : decide ((k : Int) < (N : Int)) = false := decide_eq_false (by omega)
          obtain rfl : N = k := by omega
          go_wp2
          go_ret
          exact ⟨rfl, E1.tr E⟩

end Go.Proofs.YtaemiknaiccijaaGreat

/- The program's test for irreducible polynomials, and the points of a curve over both fields. -/
namespace Go.Proofs.YtaemiknaiccijaaGreat
open Go.RowKit

def onceB (l : List (List Int × Nat)) : Bool := match l with
  | [x] => x.2 == 1
  | _ => false
def irrI (p : Int) (m : List Int) : Bool := (lc m == 1) && (decide (2 ≤ m.length) && onceB (facI p m))

set_option maxRecDepth 100000 in
set_option maxHeartbeats 1000000 in
theorem isIrreducible_any (p : Int) (A : Option Addr) (ca : Nat) (m : List Int) (hp : PrimeP p) (hm : Can p m) (lm : m.length ≤ 64) (nm : 0 < m.length) (w : World) (rm : RowAt w A m) :
    Calls Tryz.prog 76 #[.int .i64 p, .slice A m.length ca] w fun e w' => e = .returned (.bool (irrI p m)) ∧ Ext w w' := by
  have LD := lead_any A ca m w rm
  rw [show lead m = lc m from if_neg (by omega)] at LD
  have LDM := Lib.hid LD
  have FA := Lib.hid (factors_any p A ca m hp hm lm nm w rm)
  have DEG := Lib.hid fun W => degree_any A m.length ca (by omega) W
  clear LD hp hm rm
  by_cases h1 : lc m = 1
  · by_cases h2 : 2 ≤ m.length
    · have t2 : decide ((m.length : Int) - 1 < 1) = false := decide_eq_false (by omega)
      have t2' : decide ((m.length : Int) < 2) = false := decide_eq_false (by omega)
      have G : Hid (irrI p m = onceB (facI p m)) := Lib.hid (by rw [irrI, h1]; simp [h2])
      have LH : Hid (lc m = 1) := Lib.hid h1
      rw [h1] at LDM
      clear h1
      go_enter Tryz.func76, Tryz.ntmps76
      go_wp2_with (first
        | (go_at_call 107; (with_reducible refine LDM.out.mono ?_); rintro e w2 ⟨rfl, rfl⟩)
        | (go_at_call 79; (with_reducible refine (DEG.out _).mono ?_); rintro e w2 ⟨rfl, rfl⟩)
        | (go_at_call 108; fail))
      refine FA.out.mono ?_
      rintro e w2 ⟨v2, rfl, A2, c2, Fs, rfl, hperm, hs, hg, hok, E2⟩
      have PM := Lib.hid hperm
      clear hs hok hperm
      by_cases hl : Fs.length = 1
      · obtain ⟨x, rfl⟩ := List.length_eq_one_iff.1 hl
        obtain ⟨g, rfl, hc⟩ := hg (by simp)
        have c1 := (hc 0 x rfl).2
        have G2 : Hid (onceB (facI p m) = ((x.k : Int) == 1)) := Lib.hid (by
          have e : facI p m = [unF x] := List.perm_singleton.1 PM.out.symm
          rw [e, onceB, unF, Bool.eq_iff_iff, beq_iff_eq, beq_iff_eq]; omega)
        clear hc hl
        rw [Nat.zero_mul, Nat.zero_add] at c1
        go_wp2
        go_ret
        exact ⟨ret_bool (by rw [G.out, G2.out]), E2⟩
      · have t3 : ((Fs.length : Int) == 1) = false := by rw [beq_eq_false_iff_ne]; omega
        have G2 : Hid (onceB (facI p m) = false) := Lib.hid (by
          have e := PM.out.length_eq
          rw [List.length_map] at e
          match h : facI p m with
          | [] => rfl
          | [y] => rw [h] at e; exact absurd e hl
          | y :: z :: r => rfl)
        clear hg hl
        go_wp2
        go_ret
        exact ⟨ret_bool (by rw [G.out, G2.out]), E2⟩
    · have t2 : decide ((m.length : Int) - 1 < 1) = true := decide_eq_true (by omega)
      have t2' : decide ((m.length : Int) < 2) = true := decide_eq_true (by omega)
      have G : Hid (irrI p m = false) := Lib.hid (by rw [irrI]; simp [h2])
      rw [h1] at LDM
      clear h1
      go_enter Tryz.func76, Tryz.ntmps76
      go_wp2_with (first
        | (go_at_call 107; (with_reducible refine LDM.out.mono ?_); rintro e w2 ⟨rfl, rfl⟩)
        | (go_at_call 79; (with_reducible refine (DEG.out _).mono ?_); rintro e w2 ⟨rfl, rfl⟩))
      go_ret
      exact ⟨ret_bool G.out.symm, Ext.refl _⟩
  · have t1 : (lc m != 1) = true := by simpa using h1
    have G : Hid (irrI p m = false) := Lib.hid (by rw [irrI]; simp [h1])
    clear h1
    go_enter Tryz.func76, Tryz.ntmps76
    go_wp2_with (first
      | (go_at_call 107; (with_reducible refine LDM.out.mono ?_); rintro e w2 ⟨rfl, rfl⟩))
    go_ret
    exact ⟨ret_bool G.out.symm, Ext.refl _⟩

/-! ### the first irreducible polynomial of the degree 2 -/
theorem norm2 : ∀ p ∈ [(3 : Int), 5, 7], normI p 2 343 = ((p.toNat * p.toNat : Nat) : Int) := by decide +kernel
theorem norm1 : ∀ p ∈ [(3 : Int), 5, 7], normI p 1 1099511627776 = (p.toNat : Int) := by decide +kernel
theorem norm22 : ∀ p ∈ [(3 : Int), 5, 7], normI p 2 1099511627776 = ((p.toNat * p.toNat : Nat) : Int) := by decide +kernel
set_option maxRecDepth 100000 in
theorem monic2 : ∀ p ∈ [(3 : Int), 5, 7], ∀ i ∈ [0, 1, 2], i ≤ fldC p → numr p (p.toNat * p.toNat + i) = [(i : Int), 0, 1] := by decide +kernel
set_option maxRecDepth 100000 in
theorem irr2 : ∀ p ∈ [(3 : Int), 5, 7], ∀ i ∈ [0, 1, 2], i ≤ fldC p → irrI p [(i : Int), 0, 1] = decide (i = fldC p) := by decide +kernel

end Go.Proofs.YtaemiknaiccijaaGreat

/- Irreducible polynomials of the degrees 1 to 4: the program's test is the reference's. No program in sight. -/
namespace Go.Proofs.YtaemiknaiccijaaGreat

/-! ### monic polynomials have numbers -/
def val (p : Int) : List Int → Nat
  | [] => 0
  | c :: r => c.toNat + p.toNat * val p r
theorem InP.tail {p c : Int} {r : List Int} (h : InP p (c :: r)) : InP p r := fun j => h (j + 1)
theorem dig_val {p : Int} (lo : 2 ≤ p) : ∀ (l : List Int) (_ : InP p l) (j : Nat), dig p (val p l) j = at0 l j
  | [], _, j => by rw [at0_nil]; unfold dig val; simp
  | c :: r, h, 0 => by
    have hc := h 0
    rw [show at0 (c :: r) 0 = c from rfl] at hc ⊢
    unfold dig val
    rw [Nat.pow_zero, Nat.div_one, Nat.add_mul_mod_self_left, Nat.mod_eq_of_lt (by omega)]
    omega
  | c :: r, h, j + 1 => by
    have hc := h 0
    rw [show at0 (c :: r) 0 = c from rfl] at hc
    have ih := dig_val lo r h.tail j
    rw [show at0 (c :: r) (j + 1) = at0 r j from rfl, ← ih]
    unfold dig
    rw [val, Nat.pow_succ, Nat.mul_comm (p.toNat ^ j), ← Nat.div_div_eq_div_mul, show (c.toNat + p.toNat * val p r) / p.toNat = val p r from by rw [Nat.add_mul_div_left _ _ (by omega), Nat.div_eq_of_lt (by omega), Nat.zero_add]]
theorem numr_val {p : Int} (lo : 2 ≤ p) {l : List Int} (h : Can p l) (hl : l.length ≤ 64) : numr p (val p l) = l := by
  refine nz_ext (rowN_nz _ _) h.nz fun j => ?_
  rw [numr, at0_rowN]
  split
  · exact dig_val lo l h.inp j
  · rw [at0_out l j (by omega)]
theorem val_monic {p : Int} (lo : 2 ≤ p) : ∀ (n : Nat) (l : List Int), InP p l → l.length = n + 1 → at0 l n = 1 → p.toNat ^ n ≤ val p l ∧ val p l < 2 * p.toNat ^ n
  | 0, l, h, hl, h1 => by
    match l, hl with
    | [c], _ =>
      have : c = 1 := h1
      subst this
      simp [val]
  | n + 1, l, h, hl, h1 => by
    match l, hl with
    | c :: r, hl =>
      have hc := h 0
      rw [show at0 (c :: r) 0 = c from rfl] at hc
      have ih := val_monic lo n r h.tail (by simpa using hl) h1
      rw [val, Nat.pow_succ]
      have a := Nat.mul_le_mul_left p.toNat ih.1
      have b := Nat.mul_le_mul_left p.toNat (show val p r + 1 ≤ 2 * p.toNat ^ n by omega)
      rw [Nat.mul_add, Nat.mul_one] at b
      have e : p.toNat * (2 * p.toNat ^ n) = 2 * (p.toNat ^ n * p.toNat) := by rw [Nat.mul_left_comm, Nat.mul_comm p.toNat]
      rw [Nat.mul_comm p.toNat (p.toNat ^ n)] at a
      omega

/-! ### what the kernel has told -/
theorem fb_all {p : Int} (hp : PrimeP p) {m : List Int} (hm : Can p m) (h1 : lc m = 1) (l1 : 3 ≤ m.length) (l2 : m.length ≤ 5) : chkFB p m = true := by
  have lo := hp.lo
  obtain ⟨n, hn⟩ : ∃ n, m.length = n + 1 := ⟨m.length - 1, by omega⟩
  have v := val_monic lo n m hm.inp hn (by rw [← h1, lc, hn]; rfl)
  have e := numr_val lo hm (by omega)
  obtain ⟨i, hi⟩ : ∃ i, val p m = p.toNat ^ n + i := ⟨val p m - p.toNat ^ n, by omega⟩
  rw [hi] at e
  have hi2 : i < p.toNat ^ n := by omega
  rw [← e]
  have n3 : n = 2 ∨ n = 3 ∨ n = 4 := by omega
  rcases hp with rfl | rfl | rfl | rfl
  · have F := fb2
    simp only [Bool.and_eq_true] at F
    rcases n3 with rfl | rfl | rfl
    · exact chkR_at F.1 (Nat.zero_le _) hi2
    · exact chkR_at F.2.1 (Nat.zero_le _) hi2
    · exact chkR_at F.2.2 (Nat.zero_le _) hi2
  · have F := fb3
    simp only [Bool.and_eq_true] at F
    rcases n3 with rfl | rfl | rfl
    · exact chkR_at F.1 (Nat.zero_le _) hi2
    · exact chkR_at F.2.1 (Nat.zero_le _) hi2
    · exact chkR_at F.2.2 (Nat.zero_le _) hi2
  · have F := fb5
    simp only [Bool.and_eq_true] at F
    rcases n3 with rfl | rfl | rfl
    · exact chkR_at F.1 (Nat.zero_le _) hi2
    · exact chkR_at F.2.1 (Nat.zero_le _) hi2
    · exact chkR_at F.2.2 (Nat.zero_le _) hi2
  · have F := fb7a
    simp only [Bool.and_eq_true] at F
    rcases n3 with rfl | rfl | rfl
    · exact chkR_at F.1 (Nat.zero_le _) hi2
    · exact chkR_at F.2.1 (Nat.zero_le _) hi2
    · have hi3 : i < 2401 := hi2
      by_cases a : i < 300
      · exact chkR_at F.2.2 (Nat.zero_le _) a
      · by_cases b0 : i < 600
        · exact chkR_at fb7_300 (by omega) b0
        · by_cases b1 : i < 900
          · exact chkR_at fb7_600 (by omega) b1
          · by_cases b2 : i < 1200
            · exact chkR_at fb7_900 (by omega) b2
            · by_cases b3 : i < 1500
              · exact chkR_at fb7_1200 (by omega) b3
              · by_cases b4 : i < 1800
                · exact chkR_at fb7_1500 (by omega) b4
                · by_cases b5 : i < 2100
                  · exact chkR_at fb7_1800 (by omega) b5
                  · exact chkR_at fb7_2100 (by omega) hi3

/-! ### lists of factors -/
theorem facB_len (p : Int) (n : Nat) : ∀ f a all out, out.length ≤ (facB p n f a all out).2.length
  | 0, a, all, out => Nat.le_refl _
  | f + 1, a, all, out => by
    rw [facB]; split
    · exact Nat.le_refl _
    · have := facB_len p n f (stripI p a (withDegI p all n)).1 (stripI p all (withDegI p all n)).1 (out ++ [(withDegI p all n, (stripI p a (withDegI p all n)).2)])
      rw [List.length_append] at this
      omega
theorem facB_stay (p : Int) (n f : Nat) (a all : List Int) (out : List (List Int × Nat)) (h : all.length ≤ 1) : facB p n f a all out = (a, out) := by
  cases f with
  | zero => rfl
  | succ f => rw [facB, if_pos h]
theorem facB_more (p : Int) (n f : Nat) (a all : List Int) (out : List (List Int × Nat)) (h : 1 < all.length) : out.length + 1 ≤ (facB p n (f + 1) a all out).2.length := by
  rw [facB, if_neg (by omega)]
  have := facB_len p n f (stripI p a (withDegI p all n)).1 (stripI p all (withDegI p all n)).1 (out ++ [(withDegI p all n, (stripI p a (withDegI p all n)).2)])
  rw [List.length_append] at this
  exact this
theorem facA_len (p : Int) : ∀ f a n out, out.length ≤ (facA p f a n out).length
  | 0, a, n, out => Nat.le_refl _
  | f + 1, a, n, out => by
    rw [facA]; split
    · exact Nat.le_refl _
    · split
      · rw [List.length_append]; omega
      · exact Nat.le_trans (facB_len p n _ _ _ _) (facA_len p f _ _ _)
/-- A polynomial that is no number has factors. -/
theorem facA_more {p : Int} : ∀ f a n out, 1 < a.length → a.length ≤ 2 * (f + n) - 2 → 1 ≤ f → out.length + 1 ≤ (facA p f a n out).length
  | 0, a, n, out, h1, h2, h3 => absurd h3 (by omega)
  | f + 1, a, n, out, h1, h2, h3 => by
    rw [facA, if_neg (by omega)]
    split
    · rw [List.length_append]; exact Nat.le_refl _
    · rename_i hn
      by_cases hl : (allI p a n).length ≤ 1
      · rw [facB_stay p n _ a _ out hl]
        exact facA_more f a (n + 1) out h1 (by omega) (by omega)
      · obtain ⟨g, hg⟩ : ∃ g, (allI p a n).length = g + 1 := ⟨(allI p a n).length - 1, by omega⟩
        have := facB_more p n g a (allI p a n) out (by omega)
        rw [hg]
        exact Nat.le_trans this (facA_len p f _ _ _)

theorem facB_pre (p : Int) (n : Nat) : ∀ f a all out, ∃ r, (facB p n f a all out).2 = out ++ r
  | 0, a, all, out => ⟨[], by simp [facB]⟩
  | f + 1, a, all, out => by
    rw [facB]; split
    · exact ⟨[], by simp⟩
    · obtain ⟨r, hr⟩ := facB_pre p n f (stripI p a (withDegI p all n)).1 (stripI p all (withDegI p all n)).1 (out ++ [(withDegI p all n, (stripI p a (withDegI p all n)).2)])
      exact ⟨_, by rw [hr, List.append_assoc]⟩
theorem facA_pre (p : Int) : ∀ f a n out, ∃ r, facA p f a n out = out ++ r
  | 0, a, n, out => ⟨[], by simp [facA]⟩
  | f + 1, a, n, out => by
    rw [facA]; split
    · exact ⟨[], by simp⟩
    · split
      · exact ⟨_, rfl⟩
      · obtain ⟨r, hr⟩ := facB_pre p n (allI p a n).length a (allI p a n) out
        obtain ⟨t, ht⟩ := facA_pre p f (facB p n (allI p a n).length a (allI p a n) out).1 (n + 1) (facB p n (allI p a n).length a (allI p a n) out).2
        exact ⟨r ++ t, by rw [ht, hr, List.append_assoc]⟩
theorem stripF_count (p : Int) (b : List Int) : ∀ f a k, k ≤ (stripF p b f a k).2
  | 0, a, k => Nat.le_refl _
  | f + 1, a, k => by
    rw [stripF]; split
    · exact Nat.le_trans (Nat.le_succ k) (stripF_count p b f _ _)
    · exact Nat.le_refl _
theorem strip_once {p : Int} {a b : List Int} (na : 2 ≤ a.length) (h : (stripI p a b).2 = 1) : (dr p a b).length = 0 ∧ (stripI p a b).1 = dq p a b := by
  unfold stripI at h ⊢
  obtain ⟨m, em⟩ : ∃ m, a.length = m + 1 + 1 := ⟨a.length - 2, by omega⟩
  rw [em, stripF] at h ⊢
  by_cases h1 : (dr p a b).length = 0
  · rw [if_pos h1] at h ⊢
    refine ⟨h1, ?_⟩
    rw [stripF] at h ⊢
    by_cases h2 : (dr p (dq p a b) b).length = 0
    · rw [if_pos h2] at h
      have := stripF_count p b m (dq p (dq p a b) b) (0 + 1 + 1)
      omega
    · rw [if_neg h2]
  · rw [if_neg h1] at h
    simp at h

/-! ### greatest common divisors in the other order -/
theorem bezF_fst {p : Int} (hp : PrimeP p) : ∀ (n n' : Nat) (a b u x v y u' x' v' y' : List Int), Can p a → Can p b → b.length < n → b.length < n' → (bezF p n a b u x v y).1 = (bezF p n' a b u' x' v' y').1
  | 0, n', a, b, u, x, v, y, u', x', v', y', ha, hb, h1, h2 => absurd h1 (by omega)
  | n + 1, 0, a, b, u, x, v, y, u', x', v', y', ha, hb, h1, h2 => absurd h2 (by omega)
  | n + 1, n' + 1, a, b, u, x, v, y, u', x', v', y', ha, hb, h1, h2 => by
    by_cases h0 : b.length = 0
    · rw [bezF_stop _ _ _ _ _ _ _ _ h0, bezF_stop _ _ _ _ _ _ _ _ h0]
    · rw [bezF_step _ _ _ _ _ _ _ _ h0, bezF_step _ _ _ _ _ _ _ _ h0]
      have l := dr_lt hp hb (by omega) (a := a)
      exact bezF_fst hp n n' b (dr p a b) _ _ _ _ _ _ _ _ hb (dr_can (by have := hp.lo; omega) ha.inp) (by omega) (by omega)
theorem bezD_len {p : Int} (hp : PrimeP p) {a b : List Int} (ha : Can p a) (hb : Can p b) (la : a.length ≤ 64) (lb : b.length ≤ 64) (hne : a.length ≠ 0 ∨ b.length ≠ 0) : (bezD p a b).length = (bez0 p a b).1.length := by
  obtain ⟨c1, _, _, _, _, _, c7⟩ := bez0_inv hp ha hb la lb hne
  have A := c1.last c7
  exact scal_len5 hp c1 (invP_pos hp A.1 A.2) (invP_range (x := lc (bez0 p a b).1) hp).2
theorem gcd_swap {p : Int} (hp : PrimeP p) {x m : List Int} (hx : Can p x) (hm : Can p m) (lm : m.length ≤ 64) (h : x.length < m.length) : (bezD p x m).length = (gcdr p m x).length := by
  have lo := hp.lo
  have e : gcdr p m x = bezD p m x := if_neg (by omega)
  rw [e, bezD_len hp hx hm (by omega) lm (.inr (by omega)), bezD_len hp hm hx lm (by omega) (.inl (by omega))]
  have d : dr p x m = x := by
    refine nz_ext (rowN_nz _ _) hx.nz fun j => ?_
    rw [at0_dr p x m (by omega), show dn x m = 0 by unfold dn; omega]; rfl
  have s : (bez0 p x m).1 = (bezF p m.length m x [] (comb p [1] (mulr p (dq p x m) []) (-1)) [1] (comb p [] (mulr p (dq p x m) [1]) (-1))).1 := by
    unfold bez0
    rw [bezF_step _ _ _ _ _ _ _ _ (by omega), d]
  rw [s]
  exact congrArg List.length (bezF_fst hp _ _ m x _ _ _ _ _ _ _ _ hm hx h (by omega))

/-! ### the two tests -/
theorem allI_len {p : Int} (hp : PrimeP p) {m : List Int} (hm : Can p m) (lm : m.length ≤ 64) (l3 : 3 ≤ m.length) (k : Nat) :
    (allI p m (k + 1)).length = (gcdr p m (comb p (powM p (frobI p m k) p.toNat m) [0, 1] (-1))).length := by
  have lo := hp.lo
  have e : powM p (frobI p m k) p.toNat m = frobI p m (k + 1) := powM_eq hp hm (by omega) _ _
  rw [e]
  have s := (powI_spec hp (frobI_spec hp hm (by omega) k).1 hm (by omega) p.toNat).2
  have s' : (frobI p m (k + 1)).length < m.length := s
  have L := comb_le p (frobI p m (k + 1)) [0, 1] (-1)
  simp only [List.length_cons, List.length_nil] at L
  exact gcd_swap hp (comb_can (by omega) _ _ _) hm lm (by omega)
theorem irrF_iff {p : Int} (hp : PrimeP p) {m : List Int} (hm : Can p m) (lm : m.length ≤ 64) (l3 : 3 ≤ m.length) : ∀ c k, irrF p m c (frobI p m k) = true ↔ ∀ i, k < i → i ≤ k + c → (allI p m i).length = 1
  | 0, k => by
    simp only [irrF, true_iff]
    intro i h1 h2; omega
  | c + 1, k => by
    have e : powM p (frobI p m k) p.toNat m = frobI p m (k + 1) := powM_eq hp hm (by omega) _ _
    rw [irrF, Bool.and_eq_true, beq_iff_eq, ← allI_len hp hm lm l3 k, e, irrF_iff hp hm lm l3 c (k + 1)]
    constructor
    · rintro ⟨h1, h2⟩ i hi1 hi2
      by_cases h : i = k + 1
      · rw [h]; exact h1
      · exact h2 i (by omega) (by omega)
    · intro h
      exact ⟨h (k + 1) (by omega) (by omega), fun i hi1 hi2 => h i (by omega) (by omega)⟩
theorem facA_triv (p : Int) (m : List Int) (h1 : 1 < m.length) : ∀ f n, m.length ≤ 2 * (f + n) - 2 → 1 ≤ f → (∀ i, n ≤ i → 2 * i ≤ m.length - 1 → (allI p m i).length = 1) → facA p f m n [] = [(scal p m (invP p (lc m)), 1)]
  | 0, n, _, hf, _ => absurd hf (by omega)
  | f + 1, n, hl, hf, ht => by
    rw [facA, if_neg (by omega)]
    split
    · rfl
    · rename_i hn
      have e := ht n (Nat.le_refl _) (by omega)
      rw [facB_stay p n _ m _ [] (by omega)]
      exact facA_triv p m h1 f (n + 1) (by omega) (by omega) fun i hi => ht i (by omega)
theorem once_two {l : List (List Int × Nat)} (h : 2 ≤ l.length) : onceB l = false := by
  match l, h with
  | x :: y :: r, _ => rfl
theorem once_one (x : List Int × Nat) (l : List (List Int × Nat)) (h : ¬ x.2 = 1) : onceB (x :: l) = false := by
  cases l with
  | nil => simp [onceB, h]
  | cons y r => rfl
/-- A divisor of a lesser degree: not irreducible. -/
theorem facA_split {p : Int} (hp : PrimeP p) {m : List Int} (hm : Can p m) (l3 : 3 ≤ m.length) {f n : Nat} (hn : 1 ≤ n) (h2 : 2 * n ≤ m.length - 1) (hf : m.length ≤ 2 * (f + n) - 2) (h1f : 1 ≤ f) (la : m.length ≤ 64) (hg : 1 < (allI p m n).length) (hb : (withDegI p (allI p m n) n).length < m.length) : onceB (facA p (f + 1) m n []) = false := by
  have lo := hp.lo
  rw [facA, if_neg (by omega), if_neg (by omega)]
  have A := allI_spec hp hm (by omega) la n
  obtain ⟨s1, s2, s3, s4⟩ := withDeg_spec hp A.1 (by omega) hn
  obtain ⟨g, hgl⟩ : ∃ g, (allI p m n).length = g + 1 + 1 := ⟨(allI p m n).length - 2, by omega⟩
  rw [hgl]
  by_cases hk : (stripI p m (withDegI p (allI p m n) n)).2 = 1
  · obtain ⟨d0, dq1⟩ := strip_once (by omega) hk
    have q := dq_some hp hm s1 (by omega) (by omega) d0
    refine once_two ?_
    by_cases hl : (stripI p (allI p m n) (withDegI p (allI p m n) n)).1.length ≤ 1
    · have e : facB p n (g + 1 + 1) m (allI p m n) [] = ((stripI p m (withDegI p (allI p m n) n)).1, [(withDegI p (allI p m n) n, (stripI p m (withDegI p (allI p m n) n)).2)]) := by
        rw [facB, if_neg (by omega), facB_stay p n _ _ _ _ hl]; rfl
      rw [e]
      have q2 : 1 < (stripI p m (withDegI p (allI p m n) n)).1.length := by rw [dq1]; omega
      have q3 := (strip_spec hp hm s1 (by omega) s2).2.2
      exact facA_more (p := p) f (stripI p m (withDegI p (allI p m n) n)).1 (n + 1) [(withDegI p (allI p m n) n, (stripI p m (withDegI p (allI p m n) n)).2)] q2 (by omega) h1f
    · have e : 2 ≤ (facB p n (g + 1 + 1) m (allI p m n) []).2.length := by
        rw [facB, if_neg (by omega)]
        exact facB_more p n g (stripI p m (withDegI p (allI p m n) n)).1 (stripI p (allI p m n) (withDegI p (allI p m n) n)).1 ([] ++ [(withDegI p (allI p m n) n, (stripI p m (withDegI p (allI p m n) n)).2)]) (by omega)
      exact Nat.le_trans e (facA_len p f _ _ _)
  · obtain ⟨r, hr⟩ : ∃ r, (facB p n (g + 1 + 1) m (allI p m n) []).2 = (withDegI p (allI p m n) n, (stripI p m (withDegI p (allI p m n) n)).2) :: r := by
      rw [facB, if_neg (by omega)]
      obtain ⟨r, hr⟩ := facB_pre p n (g + 1) (stripI p m (withDegI p (allI p m n) n)).1 (stripI p (allI p m n) (withDegI p (allI p m n) n)).1 ([] ++ [(withDegI p (allI p m n) n, (stripI p m (withDegI p (allI p m n) n)).2)])
      exact ⟨r, by rw [hr]; rfl⟩
    obtain ⟨t, ht⟩ := facA_pre p f (facB p n (g + 1 + 1) m (allI p m n) []).1 (n + 1) (facB p n (g + 1 + 1) m (allI p m n) []).2
    rw [ht, hr, List.cons_append]
    exact once_one _ _ hk
theorem bezF_fst_len {p : Int} (hp : PrimeP p) : ∀ (n : Nat) (a b u x v y : List Int), Can p a → Can p b → (bezF p n a b u x v y).1.length ≤ max a.length b.length
  | 0, a, b, u, x, v, y, _, _ => Nat.le_max_left _ _
  | n + 1, a, b, u, x, v, y, ha, hb => by
    by_cases h0 : b.length = 0
    · rw [bezF_stop _ _ _ _ _ _ _ _ h0]; exact Nat.le_max_left _ _
    · rw [bezF_step _ _ _ _ _ _ _ _ h0]
      have l := dr_lt hp hb (by omega) (a := a)
      have := bezF_fst_len hp n b (dr p a b) x (comb p u (mulr p (dq p a b) x) (-1)) y (comb p v (mulr p (dq p a b) y) (-1)) hb (dr_can (by have := hp.lo; omega) ha.inp)
      omega
theorem allI_le {p : Int} (hp : PrimeP p) {m : List Int} (hm : Can p m) (lm : m.length ≤ 64) (l3 : 3 ≤ m.length) (k : Nat) : (allI p m (k + 1)).length ≤ m.length := by
  have lo := hp.lo
  have s' : (frobI p m (k + 1)).length < m.length := (powI_spec hp (frobI_spec hp hm (by omega) k).1 hm (by omega) p.toNat).2
  have L := comb_le p (frobI p m (k + 1)) [0, 1] (-1)
  simp only [List.length_cons, List.length_nil] at L
  have C := comb_can (show 0 < p by omega) (frobI p m (k + 1)) [0, 1] (-1)
  have e : (allI p m (k + 1)).length = (bez0 p (comb p (frobI p m (k + 1)) [0, 1] (-1)) m).1.length := bezD_len hp C hm (by omega) lm (.inr (by omega))
  have := bezF_fst_len hp (m.length + 1) (comb p (frobI p m (k + 1)) [0, 1] (-1)) m [1] [] [] [1] C hm
  rw [e]
  unfold bez0
  omega
theorem numr_len {p : Int} (lo : 2 ≤ p) {n k : Nat} (h : k < p.toNat ^ n) : (numr p k).length ≤ n := by
  rcases Nat.lt_or_ge n (numr p k).length with h1 | h1
  · exfalso
    have z := rowN_nz 64 (dig p k) ((numr p k).length - 1) (by have : (rowN 64 (dig p k)).length = (numr p k).length := rfl
                                                               omega)
    have e : at0 (rowN 64 (dig p k)) ((numr p k).length - 1) = dig p k ((numr p k).length - 1) := by
      have := numr_le p k
      rw [at0_rowN, if_pos (by omega)]
    rw [e] at z
    apply z
    unfold dig
    rw [Nat.div_eq_of_lt (Nat.lt_of_lt_of_le h (Nat.pow_le_pow_right (by omega) (by omega)))]
    simp
  · exact h1
theorem wdF_len {p : Int} (lo : 2 ≤ p) {a : List Int} {N n : Nat} (hN : 2 * N ≤ p.toNat ^ (n + 1)) : ∀ f j, f + j ≤ N → (wdF p a N f j).length ≤ max a.length (n + 1)
  | 0, j, _ => Nat.le_max_left _ _
  | f + 1, j, h => by
    rw [wdF]
    split
    · exact Nat.le_trans (numr_len lo (by omega)) (Nat.le_max_right _ _)
    · exact wdF_len lo hN f (j + 1) (by omega)
theorem normSmall : ∀ p ∈ [(2 : Int), 3, 5, 7], (normI p 1 1099511627776).toNat = p.toNat ^ 1 ∧ (normI p 2 1099511627776).toNat = p.toNat ^ 2 := by decide +kernel
theorem withDeg_len {p : Int} (hp : PrimeP p) (a : List Int) {n : Nat} (h1 : 1 ≤ n) (h2 : n ≤ 2) : (withDegI p a n).length ≤ max a.length (n + 1) := by
  have lo := hp.lo
  unfold withDegI
  split
  · exact Nat.le_trans (scal_le _ _ _) (Nat.le_max_left _ _)
  · have ns := normSmall p (prime_mem hp)
    have e : (normI p n 1099511627776).toNat = p.toNat ^ n := by
      have : n = 1 ∨ n = 2 := by omega
      rcases this with rfl | rfl
      · exact ns.1
      · exact ns.2
    rw [e]
    refine wdF_len lo ?_ _ 0 (by omega)
    rw [Nat.pow_succ, Nat.mul_comm]
    exact Nat.mul_le_mul_left _ (by omega)
theorem irr_eq {p : Int} (hp : PrimeP p) {m : List Int} (hm : Can p m) (h1 : lc m = 1) (l2 : 2 ≤ m.length) (l5 : m.length ≤ 5) : irrI p m = irrS p m := by
  have e : irrI p m = onceB (facI p m) := by
    have : decide (2 ≤ m.length) = true := decide_eq_true l2
    rw [irrI, h1, this]; rfl
  have e2 : irrS p m = irrF p m ((m.length - 1) / 2) (dr p [0, 1] m) := by
    have : decide (2 ≤ m.length) = true := decide_eq_true l2
    rw [irrS, this, Bool.true_and]
  rw [e, e2]
  by_cases h : m.length = 2
  · rw [h]
    have : facI p m = [(scal p m (invP p (lc m)), 1)] := facA_triv p m (by omega) _ 1 (by omega) (by omega) fun i hi hi2 => absurd hi2 (by omega)
    rw [this]; rfl
  · have d : dr p [0, 1] m = frobI p m 0 := by
      refine nz_ext (rowN_nz _ _) (can_tee (p := p) (by have := hp.lo; omega)).nz fun j => ?_
      rw [at0_dr p [0, 1] m (by omega), show dn [0, 1] m = 0 by unfold dn; simp; omega]; rfl
    rw [d]
    have F := irrF_iff hp hm (by omega) (by omega) ((m.length - 1) / 2) 0
    by_cases ht : ∀ i, 0 < i → i ≤ 0 + (m.length - 1) / 2 → (allI p m i).length = 1
    · rw [F.2 ht]
      have : facI p m = [(scal p m (invP p (lc m)), 1)] := facA_triv p m (by omega) _ 1 (by omega) (by omega) fun i hi hi2 => ht i (by omega) (by omega)
      rw [this]; rfl
    · have nf : irrF p m ((m.length - 1) / 2) (frobI p m 0) = false := by
        rw [Bool.eq_false_iff]; exact fun h => ht (F.1 h)
      rw [nf]
      have C := fb_all hp hm h1 (by omega) l5
      rw [chkFB, Bool.and_eq_true, Bool.or_eq_true, Bool.or_eq_true, Bool.or_eq_true, Bool.or_eq_true] at C
      simp only [bne_iff_ne, ne_eq, decide_eq_true_eq] at C
      have lo := hp.lo
      have A1 := (allI_spec hp hm (by omega) (by omega) 1).2.2
      by_cases g1 : (allI p m 1).length = 1
      · have l4 : m.length = 5 := by
          refine Decidable.byContradiction fun hne => ht fun i hi hi2 => ?_
          have : i = 1 := by omega
          rw [this]; exact g1
        have g2 : (allI p m 2).length ≠ 1 := fun g2 => ht fun i hi hi2 => by
          have : i = 1 ∨ i = 2 := by omega
          rcases this with rfl | rfl
          · exact g1
          · exact g2
        have A2 := (allI_spec hp hm (by omega) (by omega) 2).2.2
        have le2 := allI_le hp hm (by omega) (by omega) 1
        have w2 := withDeg_len hp (allI p m 2) (n := 2) (by decide) (by decide)
        have b2 : (withDegI p (allI p m 2) 2).length < m.length := by
          rcases C.2 with h' | h' | h' | h'
          · exact absurd l4 h'
          · exact absurd g1 h'
          · have : (allI p m 2).length < m.length := Nat.lt_of_le_of_ne le2 h'
            omega
          · exact h'
        have e3 : facI p m = facA p (m.length - 1 + 1) m 2 [] := by
          unfold facI
          rw [facA, if_neg (by omega), if_neg (by omega), facB_stay p 1 _ m _ [] (by omega), show m.length - 1 + 1 = m.length by omega]
        rw [e3]
        exact facA_split hp hm (f := m.length - 1) (by omega) (by decide) (by omega) (by omega) (by omega) (by omega) (by omega) b2
      · have le1 := allI_le hp hm (by omega) (by omega) 0
        have w1 := withDeg_len hp (allI p m 1) (n := 1) (by decide) (by decide)
        have b1 : (withDegI p (allI p m 1) 1).length < m.length := by
          rcases C.1 with h' | h'
          · have : (allI p m 1).length < m.length := Nat.lt_of_le_of_ne le1 h'
            omega
          · exact h'
        exact facA_split hp hm (f := m.length) (by omega) (by decide) (by omega) (by omega) (by omega) (by omega) (by omega) b1

end Go.Proofs.YtaemiknaiccijaaGreat
