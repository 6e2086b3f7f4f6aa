/- Lemmas and contracts of functions, for the laws: The laws' marks on matrices of polynomials. -/
import Derived.Test.YtaemiknaiccijaaGreatRm29
import Derived.Test.YtaemiknaiccijaaGreatRm27
import Derived.Laws.MakeOwn
import Derived.Test.YtaemiknaiccijaaGreatRows
import Derived.ProofKit
import Derived.OpenShut
import Derived.ChangeOld
import Derived.Below
import Derived.Deep.Slices
set_option linter.unusedVariables false
set_option linter.unusedSimpArgs false
namespace Go.Proofs.YtaemiknaiccijaaGreat
open Go.RowKit

def HeRelO (n0 : Nat) (k : Int) (f : Nat) (vk i : Value) (w wr : World) : Prop := ∃ n : Nat, f + n = n0 ∧ i = .int .i64 n ∧ vk = .int .i64 (k + 64 * n) ∧ w = wr
def HeRelI (k : Int) (n f : Nat) (vk j : Value) (w wr : World) : Prop := ∃ m : Nat, f + m = 64 ∧ j = .int .i64 m ∧ vk = .int .i64 (k + 64 * n + m) ∧ w = wr
set_option maxRecDepth 100000 in
set_option maxHeartbeats 1000000 in
theorem heldPolyS_any (g cap n0 : Nat) (k : Int) (hk : 0 ≤ k) (hk2 : k ≤ 1000000) (hl : n0 ≤ 2000000) (w : World) (h : PB w g (mkPolys k n0)) :
    Calls Tryz.prog 38 #[.slice (some ⟨g, 0, none⟩) n0 cap, .int .i64 k] w fun e w' => e = .returned (.int .i64 (k + 64 * n0)) ∧ w = w' := by
  have H := Lib.hid h
  clear h
  go_enter Tryz.func38, Tryz.ntmps38
  go_wp2
  go_loopg [1, 5] n0 (fun f vk i wr => HeRelO n0 k f vk i w wr)
  case atStart => exact ⟨0, rfl, rfl, by simp, rfl⟩
  case round =>
    obtain ⟨n, hf, rfl, rfl, rfl⟩ := hrel
    by_cases hn : n < n0
    · have t1 : decide ((n : Int) < (n0 : Int)) = true := decide_eq_true (by omega)
      have HX : (mkPolys k n0)[n]? = some (mkPoly (k + 64 * n)) := by rw [mkPolys, List.getElem?_map, List.getElem?_range hn]; rfl
      have CE : Hid (∀ m, m < 64 → w.cell? ⟨g, n * 64 + m, none⟩ = some (.int .u8 ((k + 64 * n + m) % 256))) := Lib.hid fun m hm => by
        rw [H.out.cell HX m hm, mkPoly, at0_tab, if_pos hm]
      clear HX
      go_wp2
      go_loopg [1, 6] 64 (fun f vk j wr => HeRelI k n f vk j w wr)
      case atStart => exact ⟨0, rfl, rfl, by go_num, rfl⟩
      case round =>
        obtain ⟨m, hf2, rfl, rfl, rfl⟩ := hrel
        by_cases hm : m < 64
        · have t2 : decide ((m : Int) < 64) = true := decide_eq_true (by omega)
          have i1 : (m : Int) < 64 := by omega
          have i2 : (n : Int) < (n0 : Int) := by omega
          have c1 := CE.out m hm
          go_wp2
          go_roundg (gk - 1)
          case measure => omega
          case rel => exact ⟨m + 1, by omega, by go_num, by go_num, rfl⟩
        · have t2 : decide ((m : Int) < 64) = false := decide_eq_false (by omega)
          have m64 : m = 64 := by omega
          subst m64
          go_wp2
          go_roundg (n0 - (n + 1))
          case measure => omega
          case rel => exact ⟨n + 1, by omega, by go_num, by go_num, rfl⟩
    · have t1 : decide ((n : Int) < (n0 : Int)) = false := decide_eq_false (by omega)
      have e : n = n0 := by omega
      subst e
      go_wp2
      go_ret
      exact ⟨rfl, rfl⟩

theorem List.nodup_iff_injective_getElem' {l : List Nat} (h : l.Nodup) {i j : Nat} (hi : i < l.length) (hj : j < l.length) (e : l[i] = l[j]) : i = j := by
  rw [List.nodup_iff_pairwise_ne] at h
  rw [List.pairwise_iff_getElem] at h
  rcases Nat.lt_trichotomy i j with h1 | h1 | h1
  · exact absurd e (h i j hi hj h1)
  · exact h1
  · exact absurd e.symm (h j i hj hi h1)
/-- A matrix whose blocks are all new since there were lo of them. -/
def MatR (lo : Nat) (w : World) (v : Value) (gs : List Nat) (M : List (List (List Int))) : Prop :=
  gs.length = M.length ∧ gs.Nodup ∧ (∀ g ∈ gs, lo ≤ g) ∧ M.length ≤ 1000 ∧ ∃ A cap, v = .slice A M.length cap ∧ (0 < M.length → ∃ b, A = some ⟨b, 0, none⟩ ∧ lo ≤ b ∧ (∃ cs fr, w.heap[b]? = some (.cells cs 29 fr)) ∧
    ∀ (i : Nat) g r, gs[i]? = some g → M[i]? = some r → r.length ≤ 1000 ∧ ∃ c, w.cell? ⟨b, i, none⟩ = some (.slice (some ⟨g, 0, none⟩) r.length c) ∧ PB w g r)
theorem MatO.matR {w0 w : World} {v : Value} {gs : List Nat} {M : List (List (List Int))} (h : MatO w0 w v gs M) (hm : M.length ≤ 1000) (hr : ∀ r ∈ M, r.length ≤ 1000) : MatR w0.heap.size w v gs M := by
  obtain ⟨h1, h2, h3, h4⟩ := h
  refine ⟨h2, h3, fun g hg => (h4 g hg).1, hm, ?_⟩
  have hz : (gs.zip M).length = M.length := by rw [List.length_zip, h2]; exact Nat.min_self _
  obtain ⟨V, k1, k2, k3⟩ := h1
  rw [hz] at k1 k2
  rcases k1.2.1.2 with ⟨rfl, hn⟩ | ⟨b, cap, cur, rfl, hb, hg, _⟩
  · exact ⟨none, 0, by rw [hn], fun h => by omega⟩
  · refine ⟨_, cap, rfl, fun hn => ⟨b, rfl, hb, ⟨_, _, hg⟩, fun i g r hg' hr' => ⟨hr r (List.mem_of_getElem? hr'), ?_⟩⟩⟩
    have hi : i < V.length := by rw [k2]; exact (List.getElem?_eq_some_iff.1 hr').1
    have c := k1.2.1.cells (g := b) rfl i V[i] (List.getElem?_eq_getElem hi)
    rw [Addr.add_lit, Nat.zero_add] at c
    obtain ⟨cp, e, _, hB⟩ := k3 i V[i] (g, r) (List.getElem?_eq_getElem hi) (by rw [List.getElem?_zip_eq_some]; exact ⟨hg', hr'⟩)
    exact ⟨cp, by rw [c, e], hB⟩
section
variable {lo : Nat} {w w' : World} {v : Value} {gs : List Nat} {M : List (List (List Int))}
theorem MatR.polys (h : MatR lo w v gs M) : PolysV w v M := by
  obtain ⟨h1, _, _, hm, A, cap, rfl, hc⟩ := h
  refine ⟨A, cap, rfl, by omega, fun hn => ?_⟩
  obtain ⟨b, e, _, ht, hr⟩ := hc hn
  refine ⟨b, e, ht, fun i x hx => ?_⟩
  have hi : i < gs.length := by rw [h1]; exact (List.getElem?_eq_some_iff.1 hx).1
  obtain ⟨a1, c, a2, a3⟩ := hr i gs[i] x (List.getElem?_eq_getElem hi) hx
  exact ⟨_, a2, gs[i], c, rfl, Nat.le_trans a1 (by decide), a3⟩
theorem MatR.kept (h : MatR lo w v gs M) (hk : ∀ b, lo ≤ b → b < w.heap.size → w'.heap[b]? = w.heap[b]?) : MatR lo w' v gs M := by
  obtain ⟨h1, h2, h3, hm, A, cap, rfl, hc⟩ := h
  refine ⟨h1, h2, h3, hm, A, cap, rfl, fun hn => ?_⟩
  obtain ⟨b, e, hb, ⟨cs, fr, ht⟩, hr⟩ := hc hn
  have sb := hk b hb (Array.getElem?_eq_some_iff.1 ht).1
  refine ⟨b, e, hb, ⟨cs, fr, sb.trans ht⟩, fun i g r hg hr' => ?_⟩
  obtain ⟨a1, c, a2, a3⟩ := hr i g r hg hr'
  exact ⟨a1, c, (World.cell?_of_block (a := ⟨b, i, none⟩) sb).trans a2, a3.same (hk g (h3 g (List.mem_of_getElem? hg)) a3.lt)⟩
theorem MatR.ext (h : MatR lo w v gs M) (hE : Ext w w') : MatR lo w' v gs M := h.kept fun b _ hb => hE.block b hb
theorem MatR.other (h : MatR lo w v gs M) {g : Nat} (hG : w.grownBy w' (some g)) (hg : g < lo) : MatR lo w' v gs M := h.kept fun b hb hs => hG.block b hs fun e => by
  have := Option.some.inj e
  omega
theorem MatR.set (h : MatR lo w v gs M) {i g : Nat} {r r' : List (List Int)} (hg : gs[i]? = some g) (hr : M[i]? = some r) (hl : r'.length = r.length) (hG : w.grownBy w' (some g)) (hB : PB w' g r') : MatR lo w' v gs (M.set i r') := by
  obtain ⟨h1, h2, h3, hm, A, cap, rfl, hc⟩ := h
  have hi : i < M.length := (List.getElem?_eq_some_iff.1 hr).1
  refine ⟨by rw [List.length_set]; exact h1, h2, h3, by rw [List.length_set]; exact hm, A, cap, by rw [List.length_set], fun _ => ?_⟩
  obtain ⟨b, e, hb, ⟨cs, fr, ht⟩, hr0⟩ := hc (by omega)
  obtain ⟨a1, c, a2, a3⟩ := hr0 i g r hg hr
  have hne : b ≠ g := fun e' => by
    obtain ⟨C, hC, _⟩ := a3.blk
    rw [← e', ht] at hC
    simp only [Option.some.injEq, Obj.cells.injEq] at hC
    exact absurd hC.2.1 (by decide)
  have sb := hG.block b (Array.getElem?_eq_some_iff.1 ht).1 fun e' => hne (Option.some.inj e')
  refine ⟨b, e, hb, ⟨cs, fr, sb.trans ht⟩, fun j g' x hg' hx => ?_⟩
  by_cases ej : j = i
  · subst ej
    rw [hg] at hg'
    obtain rfl := Option.some.inj hg'
    rw [List.getElem?_set_self hi] at hx
    obtain rfl := Option.some.inj hx
    exact ⟨by omega, c, by rw [World.cell?_of_block (a := ⟨b, j, none⟩) sb, a2, hl], hB⟩
  · rw [List.getElem?_set_ne (Ne.symm ej)] at hx
    obtain ⟨d1, c', d2, d3⟩ := hr0 j g' x hg' hx
    refine ⟨d1, c', (World.cell?_of_block (a := ⟨b, j, none⟩) sb).trans d2, d3.grown hG fun e' => ?_⟩
    subst e'
    obtain ⟨q1, q2⟩ := List.getElem?_eq_some_iff.1 hg
    obtain ⟨q3, q4⟩ := List.getElem?_eq_some_iff.1 hg'
    exact ej ((List.nodup_iff_injective_getElem' h2) q3 q1 (q4.trans q2.symm))
theorem MatR.at_ (h : MatR lo w v gs M) : ∃ A cap, v = .slice A M.length cap ∧ ∀ i r, M[i]? = some r → ∃ b g c, A = some ⟨b, 0, none⟩ ∧ gs[i]? = some g ∧ lo ≤ g ∧ r.length ≤ 1000 ∧ w.cell? ⟨b, i, none⟩ = some (.slice (some ⟨g, 0, none⟩) r.length c) ∧ PB w g r := by
  obtain ⟨h1, _, h3, _, A, cap, rfl, hc⟩ := h
  refine ⟨A, cap, rfl, fun i r hr => ?_⟩
  have hi := (List.getElem?_eq_some_iff.1 hr).1
  obtain ⟨b, rfl, _, _, hr0⟩ := hc (by omega)
  have hg : gs[i]? = some gs[i] := List.getElem?_eq_getElem (by omega)
  obtain ⟨a1, c, a2, a3⟩ := hr0 i _ r hg hr
  exact ⟨b, _, c, rfl, hg, h3 _ (List.mem_of_getElem? hg), a1, a2, a3⟩
end

end Go.Proofs.YtaemiknaiccijaaGreat

/- The laws' marks on matrices, walked. -/
namespace Go.Proofs.YtaemiknaiccijaaGreat
open Go.RowKit

def tot : List (List (List Int)) → Int
  | [] => 0
  | r :: M => 64 * (r.length : Int) + tot M
def mkMat : Int → List (List (List Int)) → List (List (List Int))
  | _, [] => []
  | k, r :: M => mkPolys k r.length :: mkMat (k + 64 * (r.length : Int)) M
theorem tot_app (M : List (List (List Int))) (r : List (List Int)) : tot (M ++ [r]) = tot M + 64 * (r.length : Int) := by
  induction M with
  | nil => simp [tot]
  | cons x M ih => rw [List.cons_append, tot, tot, ih]; omega
theorem mkMat_app (M : List (List (List Int))) (r : List (List Int)) (k : Int) : mkMat k (M ++ [r]) = mkMat k M ++ [mkPolys (k + tot M) r.length] := by
  induction M generalizing k with
  | nil => simp [mkMat, tot]
  | cons x M ih => rw [List.cons_append, mkMat, mkMat, ih, tot, List.cons_append, Int.add_assoc]
theorem mkMat_length (M : List (List (List Int))) (k : Int) : (mkMat k M).length = M.length := by
  induction M generalizing k with
  | nil => rfl
  | cons x M ih => rw [mkMat, List.length_cons, List.length_cons, ih]
theorem mkMat_get (M : List (List (List Int))) (k : Int) (i : Nat) (r : List (List Int)) (h : M[i]? = some r) : (mkMat k M)[i]? = some (mkPolys (k + tot (M.take i)) r.length) := by
  induction M generalizing k i with
  | nil => simp at h
  | cons x M ih =>
    cases i with
    | zero =>
      simp only [List.getElem?_cons_zero, Option.some.injEq] at h
      subst h
      simp [mkMat, tot]
    | succ i =>
      rw [List.getElem?_cons_succ] at h
      rw [mkMat, List.getElem?_cons_succ, ih _ i h, List.take_succ_cons, tot, Int.add_assoc]
theorem tot_bound (M : List (List (List Int))) (h : ∀ r ∈ M, r.length ≤ 1000) (hm : M.length ≤ 1000) (n : Nat) : 0 ≤ tot (M.take n) ∧ tot (M.take n) ≤ 64000 * (n : Int) := by
  induction M generalizing n with
  | nil => simp [tot]; omega
  | cons x M ih =>
    cases n with
    | zero => simp [tot]
    | succ n =>
      rw [List.take_succ_cons, tot]
      have := ih (fun r hr => h r (by simp [hr])) (by simp at hm; omega) n
      have := h x (by simp)
      omega
def MsRel (M : List (List (List Int))) (k : Int) (lo : Nat) (v : Value) (gs : List Nat) (w : World) (f : Nat) (vk i : Value) (wr : World) : Prop :=
  ∃ n : Nat, f + n = M.length ∧ i = .int .i64 n ∧ vk = .int .i64 (k + tot (M.take n)) ∧ MatR lo wr v gs (mkMat k (M.take n) ++ M.drop n) ∧ ∀ a, Ext a w → a.heap.size ≤ lo → Ext a wr
set_option maxRecDepth 100000 in
set_option maxHeartbeats 1000000 in
theorem markPolySS_any (v : Value) (gs : List Nat) (M : List (List (List Int))) (k : Int) (hk : 0 ≤ k) (hk2 : k ≤ 100) (lo : Nat) (w : World) (h : MatR lo w v gs M) (h4 : M.length ≤ 4) (h5 : ∀ r ∈ M, r.length ≤ 4) :
    Calls Tryz.prog 18 #[v, .int .i64 k] w fun e w' => e = .returned (.int .i64 (k + tot M)) ∧ MatR lo w' v gs (mkMat k M) ∧ ∀ a, Ext a w → a.heap.size ≤ lo → Ext a w' := by
  have H := Lib.hid h
  have hv := h.at_
  obtain ⟨A, cap, rfl, _⟩ := hv
  have TB := Lib.hid fun n => tot_bound M (fun r hr => Nat.le_trans (h5 r hr) (by decide)) (by omega) n
  have H5 := Lib.hid h5
  clear h h5
  go_enter Tryz.func18, Tryz.ntmps18
  go_wp2
  go_loopg [1, 5] M.length (fun f vk i wr => MsRel M k lo (.slice A M.length cap) gs w f vk i wr)
  case atStart => exact ⟨0, rfl, rfl, by simp [tot], by simpa [mkMat] using H.out, fun _ h _ => h⟩
  case round =>
    obtain ⟨n, hf, rfl, rfl, hP, hG⟩ := hrel
    have P := Lib.hid hP
    have GB := Lib.hid hG
    clear hP hG
    by_cases hn : n < M.length
    · have t1 : decide ((n : Int) < (M.length : Int)) = true := decide_eq_true (by omega)
      obtain ⟨r, hr⟩ : ∃ r, M[n]? = some r := ⟨M[n], List.getElem?_eq_getElem hn⟩
      have r4 : r.length ≤ 4 := H5.out r (List.mem_of_getElem? hr)
      have DR : M.drop n = r :: M.drop (n + 1) := by rw [List.drop_eq_getElem_cons hn]; rw [List.getElem?_eq_getElem hn] at hr; rw [Option.some.inj hr]
      have tl : (M.take n).length = n := by rw [List.length_take]; omega
      have TS : M.take (n + 1) = M.take n ++ [r] := by rw [List.take_add_one, hr]; rfl
      have BX : (mkMat k (M.take n) ++ M.drop n)[n]? = some r := by
        rw [List.getElem?_append_right (by rw [mkMat_length, tl]; omega), mkMat_length, tl, DR]; simp
      have S1 : Hid ((mkMat k (M.take n) ++ M.drop n).set n (mkPolys (k + tot (M.take n)) r.length) = mkMat k (M.take (n + 1)) ++ M.drop (n + 1)) := Lib.hid (by
        rw [TS, mkMat_app, DR, List.set_append_right _ _ (by rw [mkMat_length, tl]; omega), mkMat_length, tl, Nat.sub_self, List.set_cons_zero, List.append_assoc]; rfl)
      have S2 : Hid (tot (M.take (n + 1)) = tot (M.take n) + 64 * (r.length : Int)) := Lib.hid (by rw [TS, tot_app])
      obtain ⟨A', cap', e, ha⟩ := P.out.at_
      obtain ⟨b, g, c, rfl, hg, lg, _, c1, B⟩ := ha n r BX
      injection e with e1 e3 e2
      subst e1 e2
      clear e3
      have i1 : (n : Int) < (M.length : Int) := by omega
      have tb := TB.out n
      have MK := Lib.hid (markPolyS_any g c r (k + tot (M.take n)) (by omega) (by omega) (by omega) wr B)
      have HG := Lib.hid hg
      have HB := Lib.hid BX
      have ML : Hid (∀ i, (mkPolys i r.length).length = r.length) := Lib.hid fun i => mkPolys_length _ _
      clear hr DR TS BX ha B hg tb
      generalize tot (M.take n) = T at *
      go_wp2_with (first | (go_at_call 17; (with_reducible refine MK.out.mono ?_); rintro e w2 ⟨rfl, B2, G2⟩))
      have Q := Lib.hid (P.out.set HG.out HB.out (ML.out _) G2 B2)
      rw [S1.out] at Q
      go_roundg (gk - 1)
      case measure => omega
      case rel => exact ⟨n + 1, by omega, by go_num, by rw [S2.out]; go_num, Q.out, fun a h1 h2 => (GB.out a h1 h2).grown G2 (by omega)⟩
    · have t1 : decide ((n : Int) < (M.length : Int)) = false := decide_eq_false (by omega)
      have e : n = M.length := by omega
      have P3 := P.out
      have et : M.take n = M := List.take_of_length_le (by omega)
      rw [et, List.drop_of_length_le (by omega), List.append_nil] at P3
      rw [et]
      go_wp2
      go_ret
      exact ⟨rfl, P3, GB.out⟩

def HsRel (M : List (List (List Int))) (k : Int) (f : Nat) (vk i : Value) (w wr : World) : Prop :=
  ∃ n : Nat, f + n = M.length ∧ i = .int .i64 n ∧ vk = .int .i64 (k + tot (M.take n)) ∧ w = wr
set_option maxRecDepth 100000 in
set_option maxHeartbeats 1000000 in
theorem heldPolySS_any (v : Value) (gs : List Nat) (M : List (List (List Int))) (k : Int) (hk : 0 ≤ k) (hk2 : k ≤ 100) (lo : Nat) (w : World) (h : MatR lo w v gs (mkMat k M)) (h4 : M.length ≤ 4) (h5 : ∀ r ∈ M, r.length ≤ 4) :
    Calls Tryz.prog 19 #[v, .int .i64 k] w fun e w' => e = .returned (.int .i64 (k + tot M)) ∧ w = w' := by
  have hv := h.at_
  rw [mkMat_length] at hv
  obtain ⟨A, cap, rfl, ha⟩ := hv
  have HA := Lib.hid ha
  have TB := Lib.hid fun n => tot_bound M (fun r hr => Nat.le_trans (h5 r hr) (by decide)) (by omega) n
  have H5 := Lib.hid h5
  clear h h5 ha
  go_enter Tryz.func19, Tryz.ntmps19
  go_wp2
  go_loopg [1, 5] M.length (fun f vk i wr => HsRel M k f vk i w wr)
  case atStart => exact ⟨0, rfl, rfl, by simp [tot], rfl⟩
  case round =>
    obtain ⟨n, hf, rfl, rfl, rfl⟩ := hrel
    by_cases hn : n < M.length
    · have t1 : decide ((n : Int) < (M.length : Int)) = true := decide_eq_true (by omega)
      obtain ⟨r, hr⟩ : ∃ r, M[n]? = some r := ⟨M[n], List.getElem?_eq_getElem hn⟩
      have r4 : r.length ≤ 4 := H5.out r (List.mem_of_getElem? hr)
      have S2 : Hid (tot (M.take (n + 1)) = tot (M.take n) + 64 * (r.length : Int)) := Lib.hid (by rw [List.take_add_one, hr]; exact tot_app _ _)
      obtain ⟨b, g, c, rfl, hg, lg, _, c1, B⟩ := HA.out n _ (mkMat_get M k n r hr)
      rw [mkPolys_length] at c1
      have i1 : (n : Int) < (M.length : Int) := by omega
      have tb := TB.out n
      have MK := Lib.hid (heldPolyS_any g c r.length (k + tot (M.take n)) (by omega) (by omega) (by omega) w B)
      have tb2 : decide (k + tot (M.take n) + 64 * (r.length : Int) < 0) = false := decide_eq_false (by omega)
      clear hr B hg tb
      generalize tot (M.take n) = T at *
      go_wp2_with (first | (go_at_call 38; (with_reducible refine MK.out.mono ?_); rintro e w2 ⟨rfl, rfl⟩))
      go_roundg (gk - 1)
      case measure => omega
      case rel => exact ⟨n + 1, by omega, by go_num, by rw [S2.out]; go_num, rfl⟩
    · have t1 : decide ((n : Int) < (M.length : Int)) = false := decide_eq_false (by omega)
      have et : M.take n = M := List.take_of_length_le (by omega)
      rw [et]
      go_wp2
      go_ret
      exact ⟨rfl, rfl⟩

end Go.Proofs.YtaemiknaiccijaaGreat

/- Arrays of 64 bytes that are loaded whole. -/
namespace Go.Proofs.YtaemiknaiccijaaGreat
open Go.RowKit

theorem info22 : (Tryz.prog.info? 22).map (·.size) = some 64 := by kernel_rfl
section
variable {ops : Array Oper} {rest : List Oper} {o : Oper} {a : Act} {w : World} {Q : Exit → Act → World → Prop}
theorem wplL22 (x : Operand) (ho : o.op = .load 22 x) (hgd : o.guard = none) {g : Nat} {T : TypeId} {l : List Int} (hg : Arr w g T l) (hx : a.eval x = .pointer (some ⟨g, 0, none⟩)) (hl : l.length = 64)
    (h : wpList Tryz.prog ops Q rest (a.put o.dst (.agg (u8s l))) w) : wpList Tryz.prog ops Q (o :: rest) a w :=
  wpList_load_row hgd _ x ho g hx T _ (0, 0) _ hg Tryz.underlying22 rfl (by rw [info22, u8s_size, hl]) h
end

end Go.Proofs.YtaemiknaiccijaaGreat

/- The laws' copies of slices of arrays. -/
namespace Go.Proofs.YtaemiknaiccijaaGreat
open Go.RowKit

theorem madePolys_get (n t : Nat) (h : t < n * 64) : (madeCells (u8s zeros64) (n * 64))[t]? = some (.int .u8 0) := by
  unfold madeCells
  rw [Array.getElem?_map, Array.getElem?_range, if_pos h, Option.map_some]
  congr 1
  have hl : (u8s zeros64).size = 64 := by rw [u8s_size, zeros64_length]
  have h2 : t % 64 < 64 := Nat.mod_lt _ (by decide)
  have := u8s_get zeros64 (t % 64) (by rw [zeros64_length]; exact h2)
  rw [at0_zeros64] at this
  rw [hl, getElem!_pos _ _ (by rw [hl]; exact h2)]
  rw [Array.getElem?_eq_getElem (by rw [hl]; exact h2)] at this
  exact Option.some.inj this
theorem PB.made (w : World) (n : Nat) : PB (w.alloc (.cells (madeCells (u8s zeros64) (n * 64)) 25)) w.heap.size (List.replicate n zeros64) := by
  refine ⟨fun x hx => ?_, ⟨_, heap_alloc_new w _, ?_⟩, fun i x hx => ?_⟩
  · rw [List.eq_of_mem_replicate hx]; exact zeros64_length
  · rw [List.length_replicate, size_madeCells]; exact Nat.le_refl _
  · obtain ⟨hi, e⟩ := List.getElem?_eq_some_iff.1 hx
    rw [List.length_replicate] at hi
    rw [List.getElem_replicate] at e
    subst e
    rw [range_u8s]
    intro j hj
    rw [zeros64_length] at hj
    have := Nat.mul_le_mul_right 64 (show i + 1 ≤ n from hi)
    rw [cell_of_row _ _ _ _ _ _ (heap_alloc_new w _), madePolys_get n _ (by omega), at0_zeros64]
theorem info22b : (Tryz.prog.info? 22).map (·.size) = some (u8s zeros64).size := by rw [info22, u8s_size, zeros64_length]
section
variable {ops : Array Oper} {rest : List Oper} {o : Oper} {a : Act} {w : World} {Q : Exit → Act → World → Prop}
theorem wplMakeP (x y : Operand) (ho : o.op = .makeSlice 29 x y) (hgd : o.guard = none) {n : Nat} (hx : a.eval x = .int .i64 (n : Int)) (hy : a.eval y = .int .i64 (n : Int)) (hn : n ≤ 2000000)
    (h : ∀ w' g, Ext w w' → w.heap.size ≤ g → PB w' g (List.replicate n zeros64) → wpList Tryz.prog ops Q rest (a.put o.dst (.slice (some ⟨g, 0, none⟩) n n)) w') : wpList Tryz.prog ops Q (o :: rest) a w :=
  wpList_plain hgd fun K hK => by
    obtain ⟨i, h1, h2, h3, h4⟩ := info_parts infoPolyA
    have := run_make (P := Tryz.prog) (w := w) 29 25 i _ Tryz.underlying29 h1 h2 .i64 .i64 n n (by omega) (Int.le_refl _) (by rw [h4]; omega) (by omega)
    unfold Oper.wp execOp
    simp only [ho, hx, hy, Sem.run_bind, this, h3, Int.toNat_natCast, Result.andThen_ok]
    exact hK _ _ (h _ _ ((Ext.refl w).alloc _) (Nat.le_refl _) (PB.made w n))
theorem wplElem22 (x : Operand) (ho : o.op = .load 22 x) (hgd : o.guard = none) {b p : Nat} {l : List Int} (hg : w.rangeAt b p (u8s l).toList) (hx : a.eval x = .pointer (some ⟨b, p, none⟩)) (hl : l.length = 64)
    (h : wpList Tryz.prog ops Q rest (a.put o.dst (.agg (u8s l))) w) : wpList Tryz.prog ops Q (o :: rest) a w :=
  wpList_load_mid hgd _ x ho b p hx _ _ hg Tryz.underlying22 rfl (by rw [info22, u8s_toList, List.length_map, hl]) (by simpa using h)
theorem wplPutP (x y : Operand) (ho : o.op = .store 25 x y) (hgd : o.guard = none) {g i : Nat} {L : List (List Int)} {l : List Int} (hB : PB w g L) (hi : i < L.length) (hx : a.eval x = .pointer (some ⟨g, i * 64, none⟩)) (hy : a.eval y = .agg (u8s l)) (hl : l.length = 64)
    (h : ∀ w', PB w' g (L.set i l) → w.grownBy w' (some g) → wpList Tryz.prog ops Q rest (a.put o.dst undef) w') : wpList Tryz.prog ops Q (o :: rest) a w := by
  have sp := hB.setPoly i hi hl
  refine wpList_store_mid hgd 25 x y ho g (i * 64) (u8s l) hx hy ?_ ?_ ?_ (h _ sp.1 sp.2)
  · intro j hj
    rw [u8s_size, hl] at hj
    rw [hB.cell (List.getElem?_eq_getElem hi) j hj]
    exact ⟨rfl, hB.free _⟩
  · rw [infoPoly, u8s_size, hl]
  · rw [u8s]; exact all_oneCell_toArray fun v hv => by obtain ⟨y, _, rfl⟩ := List.mem_map.1 hv; rfl
end


def TsRel (L : List (List Int)) (w : World) (g f : Nat) (i : Value) (wr : World) : Prop :=
  ∃ n : Nat, f + n = L.length ∧ i = .int .i64 n ∧ PB wr g (L.take n ++ List.replicate (L.length - n) zeros64) ∧ Ext w wr
set_option maxRecDepth 100000 in
set_option maxHeartbeats 1000000 in
theorem toPolyS_any (A : Option Addr) (cap : Nat) (L : List (List Int)) (w : World) (hL : PsAt w A L) (hB : ∀ x ∈ L, IsB x) :
    Calls Tryz.prog 10 #[.slice A L.length cap] w fun e w' => ∃ g, e = .returned (.slice (some ⟨g, 0, none⟩) L.length L.length) ∧ PB w' g L ∧ w.heap.size ≤ g ∧ Ext w w' := by
  have HL := Lib.hid hL
  have HB := Lib.hid hB
  have lm := hL.1
  clear hL hB
  go_enter Tryz.func10, Tryz.ntmps10
  go_wp2_with (first | ((with_reducible show wpList _ _ _ _ _ _); apply wplMakeP; exact rfl; exact rfl; exact rfl; exact rfl; exact lm))
  rintro w1 g E1 hg P1
  have EG := Lib.hid (show w.heap.size ≤ g ∧ Ext w w1 from ⟨hg, E1⟩)
  have LG := Lib.hid hg
  clear E1 hg
  go_wp2
  go_loopg [4] L.length (fun f i wr => TsRel L w g f i wr)
  case atStart => exact ⟨0, rfl, rfl, by simpa using P1, EG.out.2⟩
  case round =>
    clear P1
    obtain ⟨n, hf, rfl, hP, E⟩ := hrel
    have P := Lib.hid hP
    clear hP
    by_cases hn : n < L.length
    · have t1 : decide ((n : Int) < (L.length : Int)) = true := decide_eq_true (by omega)
      obtain ⟨b, o, rfl, h1⟩ := (HL.out.below E).2.2 (by omega)
      obtain ⟨x, hx⟩ : ∃ x, L[n]? = some x := ⟨L[n], List.getElem?_eq_getElem hn⟩
      have R1 := Lib.hid (h1 n x hx)
      have X64 : x.length = 64 := HL.out.2.1 x (List.mem_of_getElem? hx)
      have TP := Lib.hid (toPoly_any x X64 (HB.out x (List.mem_of_getElem? hx)))
      have TK : L.take (n + 1) = L.take n ++ [x] := by rw [List.take_add_one, hx]; rfl
      have tl : (L.take n).length = n := by rw [List.length_take]; omega
      have S1 : Hid ((L.take n ++ List.replicate (L.length - n) zeros64).set n x = L.take (n + 1) ++ List.replicate (L.length - (n + 1)) zeros64) := Lib.hid (by
        rw [List.set_append_right _ _ (by omega), tl, Nat.sub_self, TK, show L.length - n = (L.length - (n + 1)) + 1 by omega, List.replicate_succ, List.set_cons_zero, List.append_assoc]; rfl)
      have SL : Hid (n < (L.take n ++ List.replicate (L.length - n) zeros64).length) := Lib.hid (by rw [List.length_append, tl, List.length_replicate]; omega)
      have i1 : (n : Int) < (L.length : Int) := by omega
      clear h1 hx TK tl
      go_wp2_with (first | ((with_reducible show wpList _ _ _ _ _ _); apply wplElem22; exact rfl; exact rfl; exact R1.out; exact rfl; exact X64) | (go_at_call 9; (with_reducible refine (TP.out _).mono ?_); rintro e w2 ⟨rfl, E2⟩) | ((with_reducible show wpList _ _ _ _ _ _); apply wplPutP; exact rfl; exact rfl; exact P.out.ext E2; exact SL.out; exact rfl; exact rfl; exact X64))
      intro w3 P3 G3
      rw [S1.out] at P3
      have E3 := (E.tr E2).grown G3 LG.out
      go_wp2
      go_roundg (gk - 1)
      case measure => omega
      case rel => exact ⟨n + 1, by omega, by go_num, P3, E3⟩
    · have t1 : decide ((n : Int) < (L.length : Int)) = false := decide_eq_false (by omega)
      have P3 := P.out
      rw [List.take_of_length_le (by omega), show L.length - n = 0 by omega, List.replicate_zero, List.append_nil] at P3
      go_wp2
      go_ret
      exact ⟨g, rfl, P3, LG.out, E⟩

end Go.Proofs.YtaemiknaiccijaaGreat

/- The law on Moore matrices: true for every input. -/
namespace Go.Proofs.YtaemiknaiccijaaGreat
open Go.RowKit

theorem matS_small {p : Int} {l : List Int} {L : List (List Int)} : (matS p l L).length ≤ 4 ∧ ∀ r ∈ matS p l L, r.length ≤ 4 := by
  unfold matS
  split
  · rename_i h
    have n4 : (L.length : Int) ≤ 4 := by
      unfold lstC at h
      split at h
      · split at h <;> omega
      · omega
    refine ⟨by rw [List.length_map, mooreM_length, List.length_map]; omega, fun r hr => ?_⟩
    obtain ⟨x, hx, rfl⟩ := List.mem_map.1 hr
    rw [mooreM] at hx
    obtain ⟨i, _, rfl⟩ := List.mem_map.1 hx
    simp only [List.length_map]
    omega
  · simp
theorem keepPolys : Keep [29, 25] PolysV := keepRS keepPe
theorem polys_ext {w w' : World} {v : Value} {M : List (List (List Int))} (h : PolysV w v M) (hE : Ext w w') : PolysV w' v M := keepPolys _ _ _ _ h (Same.ext hE)

set_option maxRecDepth 100000 in
set_option maxHeartbeats 4000000 in
theorem lawMooreMatrix_any (p : Int) (l : List Int) (A : Option Addr) (n cap : Nat) (hl : l.length = 64) (hb : IsB l) (hn : n ≤ 9223372036854775807) (w : World) (hL : n ≤ 1048576 → ∃ L : List (List Int), L.length = n ∧ PsAt w A L ∧ ∀ x ∈ L, IsB x) :
    Calls Tryz.prog 4 #[.int .i64 p, .agg (u8s l), .slice A n cap] w fun e w' => e = .returned (.bool true) ∧ Ext w w' := by
  have AA := Lib.hid (Arr.new w 22 l)
  have E0 := Lib.hid ((Ext.refl w).alloc (.cells (u8s l) 22))
  have SZ' := szPolyS_any A n cap hn
  by_cases h : 1048576 < (n : Int)
  · rw [if_pos h] at SZ'
    have SZ := Lib.hid SZ'
    clear SZ' hL hb h hn
    go_enter Tryz.func4, Tryz.ntmps4
    go_wp2_with (first | (go_at_call 7; (with_reducible refine (SZ.out _).mono ?_); rintro e w' ⟨rfl, rfl⟩))
    go_ret
    exact ⟨rfl, E0.out⟩
  · rw [if_neg h] at SZ'
    have SZ := Lib.hid SZ'
    obtain ⟨L, rfl, HL', HB'⟩ := hL (by omega)
    have HL := Lib.hid HL'
    have TP := Lib.hid fun W => toPoly_any l hl hb W
    have TS := Lib.hid fun W (hE : Ext w W) => toPolyS_any A cap L W (HL'.below hE) HB'
    have lm := HL'.1
    have SP' := fun W g (h : PB W g L) => MooreMatrix_any p l (some ⟨g, 0, none⟩) L.length L hl hb W (h.ps lm) HB'
    have IM' := fun W g (h : PB W g L) => mooreMatrix_any p l (some ⟨g, 0, none⟩) L.length L hl hb W (h.ps lm) HB'
    have MS := matS_small (p := p) (l := l) (L := L)
    generalize matS p l L = Mx at SP' IM' MS
    generalize lstC p l L 4 = c at SP' IM'
    have SP := Lib.hid SP'
    have IM := Lib.hid IM'
    obtain ⟨MS4', MSR'⟩ := MS
    have MS4 := Lib.hid MS4'
    have MSR := Lib.hid MSR'
    have TB := tot_bound Mx (fun r hr => Nat.le_trans (MSR' r hr) (by decide)) (by omega) Mx.length
    rw [List.take_of_length_le (Nat.le_refl _)] at TB
    have tc : (c != c) = false := by simp
    have t1 : decide ((1048576 : Int) - (L.length : Int) < 0) = false := decide_eq_false (by omega)
    have HD := Lib.hid fun v gs lo W h => heldPolySS_any v gs Mx 1 (by decide) (by decide) lo W h MS4' MSR'
    have MK := Lib.hid fun v gs lo W h => markPolySS_any v gs Mx 1 (by decide) (by decide) lo W h MS4' MSR'
    obtain ⟨T, hT⟩ : ∃ T, T = tot Mx := ⟨_, rfl⟩
    rw [← hT] at HD MK TB
    have t2 : decide ((1 : Int) + T < 0) = false := decide_eq_false (by omega)
    have t3 : ((1 : Int) + T != 1 + T) = false := by simp
    have t4 : decide ((1 : Int) + 64 * (L.length : Int) < 0) = false := decide_eq_false (by omega)
    clear SZ' hb hn h HL' HB' SP' IM' MS4' MSR' hT
    have E := Ext.refl (w.alloc (.cells (u8s l) 22))
    go_enter Tryz.func4, Tryz.ntmps4
    go_wp2_with (first | (go_at_call 7; (with_reducible refine (SZ.out _).mono ?_); rintro e w' ⟨rfl, rfl⟩) | ((with_reducible show wpList _ _ _ _ _ _); apply wplL22; exact rfl; exact rfl; exact AA.out.ext E; exact rfl; exact hl) | (go_at_call 9; (with_reducible refine (TP.out _).mono ?_); rintro e wt ⟨rfl, Et⟩))
    refine (TS.out _ (E0.out.tr (E.tr Et))).mono ?_
    rintro e w2 ⟨g1, rfl, B1, _, E1⟩
    replace E := E.tr (Et.tr E1)
    clear Et E1
    go_wp2_with fail
    refine (SP.out _ _ B1).mono ?_
    rintro e w3 ⟨v8, rfl, R8, E3⟩
    replace E := E.tr E3
    have l0 := Lib.hid E.size
    clear E3 B1
    go_wp2_with fail
    refine (TS.out _ (E0.out.tr E)).mono ?_
    rintro e w4 ⟨g10, rfl, B10, hg10, E4⟩
    have E34 := E4
    replace E := E.tr E4
    clear E4
    go_wp2_with (first | ((with_reducible show wpList _ _ _ _ _ _); apply wplL22; exact rfl; exact rfl; exact AA.out.ext E; exact rfl; exact hl) | (go_at_call 9; (with_reducible refine (TP.out _).mono ?_); rintro e wt ⟨rfl, Et⟩))
    refine (IM.out _ _ (B10.ext Et)).mono ?_
    rintro e w5 ⟨v11, gs, rfl, O11⟩
    have E5 := O11.1.ext
    have R11 := O11.matR (Nat.le_trans MS4.out (by decide)) fun r hr => Nat.le_trans (MSR.out r hr) (by decide)
    have lg : g10 < wt.heap.size := (B10.ext Et).lt
    have lw : (w.alloc (.cells (u8s l) 22)).heap.size ≤ wt.heap.size := (E.tr Et).size
    have l3 : w3.heap.size ≤ wt.heap.size := (E34.tr Et).size
    have X3 := E34.tr (Et.tr E5)
    replace E := E.tr (Et.tr E5)
    have B5 := B10.ext (Et.tr E5)
    have P11 := Lib.hid (eqPolySS_same v11 v8 Mx w5 R11.polys (polys_ext R8 X3))
    have R8' := Lib.hid R8
    have R11' := Lib.hid R11
    have B5' := Lib.hid B5
    have hlo : Hid (∃ lo, lo = wt.heap.size) := Lib.hid ⟨_, rfl⟩
    obtain ⟨lo, elo⟩ := hlo.out
    rw [← elo] at R11' lg lw l3
    have lg10 := Lib.hid (show w3.heap.size ≤ g10 ∧ g10 < lo ∧ (w.alloc (.cells (u8s l) 22)).heap.size ≤ lo ∧ w3.heap.size ≤ lo ∧ (w.alloc (.cells (u8s l) 22)).heap.size ≤ w3.heap.size from ⟨hg10, lg, lw, l3, l0.out⟩)
    clear R8 R11 B5 O11 E5 Et B10 E34 hg10 lg lw l3 elo hlo
    go_wp2_with fail
    refine P11.out.mono ?_
    rintro e w6 ⟨rfl, E6⟩
    replace E := E.tr E6
    have X6 := X3.tr E6
    have B6 := Lib.hid (B5'.out.ext E6)
    have R6 := Lib.hid (R11'.out.ext E6)
    clear E6 X3 B5' R11' P11
    go_wp2_with fail
    refine (TS.out _ (E0.out.tr E)).mono ?_
    rintro e w7 ⟨g7, rfl, B7, _, E7⟩
    replace E := E.tr E7
    have X7 := X6.tr E7
    have B7' := Lib.hid (B6.out.ext E7)
    have R7 := Lib.hid (R6.out.ext E7)
    have Q7 := Lib.hid (eqPolyS_same (some ⟨g10, 0, none⟩) (some ⟨g7, 0, none⟩) L.length L.length L w7 (B7'.out.ps lm) (B7.ps lm))
    clear E7 X6 B6 R6 B7
    go_wp2_with fail
    refine Q7.out.mono ?_
    rintro e w8 ⟨rfl, E8⟩
    replace E := E.tr E8
    have X8 := X7.tr E8
    have B8 := Lib.hid (B7'.out.ext E8)
    have R8 := Lib.hid (R7.out.ext E8)
    have Q8 := Lib.hid (markPolyS_any g10 L.length L 1 (by decide) (by decide) lm w8 B8.out)
    clear E8 X7 B7' R7 Q7
    go_wp2_with fail
    refine Q8.out.mono ?_
    rintro e w9 ⟨rfl, _, G9⟩
    have E9 := E.grown G9 (by have := lg10.out; omega)
    have X9 := X8.grown G9 lg10.out.1
    have R9 := Lib.hid (R8.out.other G9 lg10.out.2.1)
    have Q9 := Lib.hid (eqPolySS_same v11 v8 Mx w9 R9.out.polys (polys_ext R8'.out X9))
    clear G9 E X8 B8 R8 Q8
    go_wp2_with fail
    refine Q9.out.mono ?_
    rintro e w10 ⟨rfl, E10⟩
    have E := E9.tr E10
    have X10 := X9.tr E10
    have R10 := Lib.hid (R9.out.ext E10)
    have Q10 := Lib.hid (MK.out v11 gs lo w10 R10.out)
    clear E9 X9 E10 R9 Q9
    go_wp2_with fail
    refine Q10.out.mono ?_
    rintro e w11 ⟨rfl, R11, G11⟩
    have E11 := G11 _ E lg10.out.2.2.1
    have X11 := G11 _ X10 lg10.out.2.2.2.1
    have R11' := Lib.hid R11
    clear R11 G11 E X10 R10 Q10
    go_wp2_with fail
    refine (HD.out v11 gs lo w11 R11'.out).mono ?_
    rintro e w12 ⟨rfl, rfl⟩
    have E := E11
    clear E11
    go_wp2_with (first | ((with_reducible show wpList _ _ _ _ _ _); apply wplL22; exact rfl; exact rfl; exact AA.out.ext E; exact rfl; exact hl) | (go_at_call 9; (with_reducible refine (TP.out _).mono ?_); rintro e wt ⟨rfl, Et⟩))
    refine (TS.out _ (E0.out.tr (E.tr Et))).mono ?_
    rintro e w13 ⟨g13, rfl, B13, _, E13⟩
    replace E := E.tr (Et.tr E13)
    have X13 := X11.tr (Et.tr E13)
    have R13 := Lib.hid (R11'.out.ext (Et.tr E13))
    clear Et E13 X11 R11'
    go_wp2_with fail
    refine (IM.out _ _ B13).mono ?_
    rintro e w14 ⟨v14, gs4, rfl, O14⟩
    have E14 := O14.1.ext
    have R14 := O14.matR (Nat.le_trans MS4.out (by decide)) fun r hr => Nat.le_trans (MSR.out r hr) (by decide)
    replace E := E.tr E14
    have X14 := X13.tr E14
    have R15 := Lib.hid (R13.out.ext E14)
    have Q14 := Lib.hid (eqPolySS_same v14 v8 Mx w14 R14.polys (polys_ext R8'.out X14))
    clear E14 X13 R13 R14 O14 B13
    go_wp2_with fail
    refine Q14.out.mono ?_
    rintro e w15 ⟨rfl, E15⟩
    replace E := E.tr E15
    have R16 := Lib.hid (R15.out.ext E15)
    clear E15 R15 Q14
    go_wp2_with fail
    refine (HD.out v11 gs lo w15 R16.out).mono ?_
    rintro e w16 ⟨rfl, rfl⟩
    go_wp2
    go_ret
    exact ⟨rfl, E0.out.tr E⟩

end Go.Proofs.YtaemiknaiccijaaGreat

/- An argument that is an array of 64 bytes, opened. -/
namespace Go.Proofs.YtaemiknaiccijaaGreat
open Go.ChangeShapes Go.WideShapes Go.ChangeAt Go.RowKit

theorem own : ownKnob Tryz.prog.godebug = none := by kernel_rfl
theorem laidOut : laidOutB Tryz.prog = true := by kernel_rfl
def cellInt : Value → Int
  | .int _ z => z
  | _ => 0
set_option maxRecDepth 100000 in
theorem open_bytes64 {H : Type} {enc : TypeId × Value → H} {W : World} {r : Reach} {b0 base : Nat} {sp : Nat → Bool} {held : Bool} {v : Value} {d : DataW H} {p : List MemPlace}
    (h : Value.okWide Tryz.prog W r b0 22 v) (k : DataW.Trod enc Tryz.prog W base sp held 22 v d p) : ∃ l : List Int, v = .agg (u8s l) ∧ l.length = 64 ∧ IsB l := by
  have c22 : Tryz.prog.cellsOf 22 = 64 := by kernel_rfl
  have c5 : Tryz.prog.cellsOf 5 = 1 := by kernel_rfl
  simp only [Value.okWide, Tryz.underlying22] at h
  obtain ⟨cs, rfl, h2, _⟩ := h
  rw [c22] at h2
  obtain ⟨fuel, hf⟩ := k
  obtain ⟨xs, m, _, ex, _, hl, hel⟩ := DataW.trod_array Tryz.underlying22 hf
  have key : ∀ i, i < 64 → ∃ z : Int, cs.toList[i]? = some (.int .u8 z) ∧ 0 ≤ z ∧ z ≤ 255 := by
    intro i hi
    have hE := hel i hi
    rw [c5, Nat.mul_one, List.getElem?_eq_getElem (by omega)] at hE
    obtain ⟨z, e1, e2, e3⟩ := DataW.trod_int Tryz.underlying5 hE
    refine ⟨z, ?_, ?_⟩
    · have h0 : ((cs.toList.drop i).take 1)[0]? = some (.int .u8 z) := by
        have e1' : (cs.toList.drop i).take 1 = [.int .u8 z] := e1
        rw [e1']; rfl
      simpa using h0
    · have e4 : IntKind.u8.min ≤ z ∧ z ≤ IntKind.u8.max := by simpa [Lit.wf] using e3
      have m1 : IntKind.u8.min = 0 := by decide
      have m2 : IntKind.u8.max = 255 := by decide
      omega
  refine ⟨cs.toList.map cellInt, ?_, by rw [List.length_map]; simpa using h2, fun j => ?_⟩
  · congr 1
    apply Array.ext'
    apply List.ext_getElem?
    intro i
    unfold u8s
    rw [List.map_map, List.getElem?_map]
    rcases Nat.lt_or_ge i 64 with hi | hi
    · obtain ⟨z, hz, _⟩ := key i hi
      rw [hz]; rfl
    · have : cs.toList[i]? = none := List.getElem?_eq_none (by simpa [h2] using hi)
      rw [this]; rfl
  · rcases Nat.lt_or_ge j 64 with hj | hj
    · obtain ⟨z, hz, hb⟩ := key j hj
      have : at0 (cs.toList.map cellInt) j = z := by
        unfold at0
        rw [List.getD_eq_getElem?_getD, List.getElem?_map, hz]; rfl
      rw [this]; exact hb
    · rw [at0_out _ _ (by rw [List.length_map]; simpa [h2] using hj)]
      exact ⟨Int.le_refl _, by decide⟩

end Go.Proofs.YtaemiknaiccijaaGreat

/- An argument that is a slice of arrays of 64 bytes, opened. -/
namespace Go.Proofs.YtaemiknaiccijaaGreat
open Go.ChangeShapes Go.WideShapes Go.ChangeAt Go.RowKit

theorem trod_bytes64 {H : Type} {enc : TypeId × Value → H} {W : World} {base fuel : Nat} {sp : Nat → Bool} {held : Bool} {cs : List Value} {x : DataW H × List MemPlace} (hs : cs.length = 64)
    (hf : DataW.trod enc Tryz.prog W base sp held fuel 22 cs = some x) : ∃ l : List Int, cs = (u8s l).toList ∧ l.length = 64 ∧ IsB l := by
  have c5 : Tryz.prog.cellsOf 5 = 1 := by kernel_rfl
  obtain ⟨xs, m, _, ex, _, hl, hel⟩ := DataW.trod_array Tryz.underlying22 hf
  have key : ∀ i, i < 64 → ∃ z : Int, cs[i]? = some (.int .u8 z) ∧ 0 ≤ z ∧ z ≤ 255 := by
    intro i hi
    have hE := hel i hi
    rw [c5, Nat.mul_one, List.getElem?_eq_getElem (by omega)] at hE
    obtain ⟨z, e1, e2, e3⟩ := DataW.trod_int Tryz.underlying5 hE
    refine ⟨z, ?_, ?_⟩
    · have h0 : ((cs.drop i).take 1)[0]? = some (.int .u8 z) := by
        have e1' : (cs.drop i).take 1 = [.int .u8 z] := e1
        rw [e1']; rfl
      simpa using h0
    · have e4 : IntKind.u8.min ≤ z ∧ z ≤ IntKind.u8.max := by simpa [Lit.wf] using e3
      have m1 : IntKind.u8.min = 0 := by decide
      have m2 : IntKind.u8.max = 255 := by decide
      omega
  refine ⟨cs.map cellInt, ?_, by rw [List.length_map, hs], fun j => ?_⟩
  · rw [u8s_toList]
    apply List.ext_getElem?
    intro i
    rw [List.map_map, List.getElem?_map]
    rcases Nat.lt_or_ge i 64 with hi | hi
    · obtain ⟨z, hz, _⟩ := key i hi
      rw [hz]; rfl
    · have : cs[i]? = none := List.getElem?_eq_none (by omega)
      rw [this]; rfl
  · rcases Nat.lt_or_ge j 64 with hj | hj
    · obtain ⟨z, hz, hb⟩ := key j hj
      have : at0 (cs.map cellInt) j = z := by
        unfold at0
        rw [List.getD_eq_getElem?_getD, List.getElem?_map, hz]; rfl
      rw [this]; exact hb
    · rw [at0_out _ _ (by rw [List.length_map]; omega)]
      exact ⟨Int.le_refl _, by decide⟩
theorem exists_list {α : Type} (n : Nat) (P : Nat → α → Prop) (h : ∀ i, i < n → ∃ x, P i x) : ∃ L : List α, L.length = n ∧ ∀ (i : Nat) x, L[i]? = some x → P i x := by
  induction n with
  | zero => exact ⟨[], rfl, fun i x h => by simp at h⟩
  | succ n ih =>
    obtain ⟨L, hl, hL⟩ := ih fun i hi => h i (by omega)
    obtain ⟨x, hx⟩ := h n (by omega)
    refine ⟨L ++ [x], by simp [hl], fun i y hy => ?_⟩
    rcases Nat.lt_or_ge i L.length with hi | hi
    · rw [List.getElem?_append_left hi] at hy
      exact hL i y hy
    · rw [List.getElem?_append_right hi] at hy
      have : i - L.length = 0 := by
        have := (List.getElem?_eq_some_iff.1 hy).1
        simp at this; omega
      rw [this, List.getElem?_cons_zero] at hy
      obtain rfl := Option.some.inj hy
      have : i = n := by omega
      subst this
      exact hx
set_option maxRecDepth 100000 in
theorem open_bytesS {H : Type} {enc : TypeId × Value → H} {W : World} {b0 : Nat} {sp : Nat → Bool} {held : Bool} {v : Value} {d : DataW H} {p : List MemPlace}
    (h : Value.okWide Tryz.prog W .any b0 23 v) (k : DataW.Trod enc Tryz.prog W 0 sp held 23 v d p) :
    ∃ A n cap, v = .slice A n cap ∧ n ≤ 9223372036854775807 ∧ (n ≤ 1048576 → ∃ L : List (List Int), L.length = n ∧ PsAt W A L ∧ ∀ x ∈ L, IsB x) := by
  have c22 : Tryz.prog.cellsOf 22 = 64 := by kernel_rfl
  obtain ⟨A, n, cap, rfl⟩ := okWide_slice Tryz.underlying23 h
  obtain ⟨fuel, hf⟩ := k
  refine ⟨A, n, cap, rfl, ?_⟩
  rcases DataW.trod_slice Tryz.underlying23 hf with ⟨hcs, _⟩ | ⟨a, len, cap', elems, rest, m, _, hcs, _, _, hl, hm, he, hel, _⟩
  · simp [Value.cells] at hcs
    obtain ⟨rfl, rfl, rfl⟩ := hcs
    exact ⟨by decide, fun _ => ⟨[], rfl, PsAt.nil _ _, by simp⟩⟩
  · simp [Value.cells] at hcs
    obtain ⟨rfl, rfl, rfl⟩ := hcs
    refine ⟨by have : maxLen ≤ 9223372036854775807 := by simp [maxLen]
               omega, fun hn => ?_⟩
    have one : ∀ i, i < n → ∃ l : List Int, (∀ j v, (u8s l).toList[j]? = some v → W.cell? ((a.add (i * 64)).add j) = some v) ∧ l.length = 64 ∧ IsB l := by
      intro i hi
      have hE := hel i hi
      rw [c22, List.getElem?_eq_getElem (by omega)] at hE
      obtain ⟨cs, h1, h2⟩ := Option.bind_eq_some_iff.1 hE
      unfold World.cells? at h1
      rw [if_pos (Nat.zero_le _)] at h1
      have hs : cs.length = 64 := by have := mapM_some_length h1; simpa using this
      obtain ⟨l, e, hl, hb⟩ := trod_bytes64 hs h2
      refine ⟨l, fun j v hv => ?_, hl, hb⟩
      have hj : j < 64 := by
        have := (List.getElem?_eq_some_iff.1 hv).1
        rw [← e] at this; omega
      rw [← e] at hv
      have := mapM_some_get h1 j j (by simp [hj])
      rw [this, hv]
    obtain ⟨L, hL, hP⟩ := exists_list n _ one
    refine ⟨L, hL, ⟨by omega, fun x hx => ?_, fun h0 => ?_⟩, fun x hx => ?_⟩
    · obtain ⟨i, hi⟩ := List.getElem?_of_mem hx
      exact (hP i x hi).2.1
    · obtain ⟨ab, ao, spot⟩ := a
      have hspot : spot = none := by
        have h1 := hP 0 L[0] (List.getElem?_eq_getElem h0)
        have h2 := h1.1 0 (.int .u8 (at0 L[0] 0)) (by
          rw [Array.getElem?_toList]
          exact u8s_get _ 0 (by rw [h1.2.1]; decide))
        simpa [Addr.add] using World.cell?_spot h2
      subst hspot
      refine ⟨ab, ao, rfl, fun i x hx j v hv => ?_⟩
      have := (hP i x hx).1 j v hv
      rwa [Addr.add_lit, Addr.add_lit] at this
    · obtain ⟨i, hi⟩ := List.getElem?_of_mem hx
      exact (hP i x hi).2.2

end Go.Proofs.YtaemiknaiccijaaGreat
