/- Lemmas and contracts of functions, for the laws: The program's small functions on numbers and rows. -/
import Derived.Test.YtaemiknaiccijaaGreatRm1
import Derived.Test.YtaemiknaiccijaaGreatRm2
import Derived.Test.YtaemiknaiccijaaGreatRm8
import Derived.Test.YtaemiknaiccijaaGreatRm4
import Derived.Laws.AppendOwn
import Derived.Deep.LoopGhost
set_option linter.unusedVariables false
set_option linter.unusedSimpArgs false
namespace Go.Proofs.YtaemiknaiccijaaGreat
open Go.RowKit

set_option maxHeartbeats 400000 in
theorem isPrime_any (p : Int) (w : World) :
    Calls Tryz.prog 118 #[.int .i64 p] w fun e w' => e = .returned (.bool (primeB p)) ∧ w = w' := by
  by_cases h2 : p = 2
  · subst h2
    go_enter Tryz.func118, Tryz.ntmps118
    go_wp2
    go_ret
    exact ⟨rfl, rfl⟩
  by_cases h3 : p = 3
  · subst h3
    go_enter Tryz.func118, Tryz.ntmps118
    go_wp2
    go_ret
    exact ⟨rfl, rfl⟩
  by_cases h5 : p = 5
  · subst h5
    go_enter Tryz.func118, Tryz.ntmps118
    go_wp2
    go_ret
    exact ⟨rfl, rfl⟩
  have fin : primeB p = (p == 7) := by simp [primeB, h2, h3, h5]
  have FIN := Lib.hid fin
  clear fin
  go_enter Tryz.func118, Tryz.ntmps118
  go_wp2
  go_ret
  exact ⟨ret_bool (by rw [FIN.out]; simp [h2, h3, h5]), rfl⟩

set_option maxHeartbeats 400000 in
theorem within_any (n lo hi : Int) (w : World) :
    Calls Tryz.prog 113 #[.int .i64 n, .int .i64 lo, .int .i64 hi] w fun e w' => e = .returned (.bool (inB n lo hi)) ∧ w = w' := by
  by_cases h1 : lo ≤ n
  · have fin : inB n lo hi = decide (n ≤ hi) := by simp [inB, h1]
    have FIN := Lib.hid fin
    clear fin
    go_enter Tryz.func113, Tryz.ntmps113
    go_wp2
    go_ret
    exact ⟨ret_bool (by rw [FIN.out]), rfl⟩
  · have fin : inB n lo hi = false := by simp [inB, h1]
    have FIN := Lib.hid fin
    clear fin
    go_enter Tryz.func113, Tryz.ntmps113
    go_wp2
    go_ret
    exact ⟨ret_bool (by rw [FIN.out]), rfl⟩

theorem degree_any (A : Option Addr) (n cap : Nat) (hn : n ≤ 1000000) (w : World) :
    Calls Tryz.prog 79 #[.slice A n cap] w fun e w' => e = .returned (.int .i64 ((n : Int) - 1)) ∧ w = w' := by
  go_enter Tryz.func79, Tryz.ntmps79
  go_wp2
  go_ret
  exact ⟨rfl, rfl⟩

theorem fits_any (A : Option Addr) (n cap : Nat) (hn : n ≤ 1000000) (w : World) :
    Calls Tryz.prog 56 #[.slice A n cap] w fun e w' => e = .returned (.bool (decide ((n : Int) - 1 ≤ 63))) ∧ w = w' := by
  go_enter Tryz.func56, Tryz.ntmps56
  go_wp2_with (first | (go_at_call 79; refine (degree_any _ _ _ hn _).mono ?_; rintro e w' ⟨rfl, rfl⟩))
  go_ret
  exact ⟨rfl, rfl⟩

/-- The leading coefficient, 0 for 0. -/
def lead (L : List Int) : Int := if L.length = 0 then 0 else at0 L (L.length - 1)
set_option maxHeartbeats 400000 in
theorem lead_any (A : Option Addr) (cap : Nat) (L : List Int) (w : World) (h : RowAt w A L) :
    Calls Tryz.prog 107 #[.slice A L.length cap] w fun e w' => e = .returned (.int .i64 (lead L)) ∧ w = w' := by
  have hm := h.1
  by_cases h0 : L.length = 0
  · have G : Hid (lead L = 0) := Lib.hid (if_pos h0)
    have t1 : ((L.length : Int) == 0) = true := by simp [h0]
    clear h0
    go_enter Tryz.func107, Tryz.ntmps107
    go_wp2
    go_ret
    exact ⟨ret_int G.out.symm, rfl⟩
  · have G : Hid (lead L = at0 L (L.length - 1)) := Lib.hid (if_neg h0)
    have t1 : ((L.length : Int) == 0) = false := by simpa using h0
    obtain ⟨b, o, rfl, hb, hc⟩ := h.place (by omega)
    have c := hc (L.length - 1) (by omega)
    have i1 : ((L.length : Int) - 1).toNat = L.length - 1 := by omega
    have i2 : (0 : Int) ≤ (L.length : Int) - 1 := by omega
    clear hc h
    go_enter Tryz.func107, Tryz.ntmps107
    go_wp2
    go_ret
    exact ⟨ret_int G.out.symm, rfl⟩

set_option maxHeartbeats 400000 in
theorem at_any (A : Option Addr) (cap : Nat) (L : List Int) (i : Nat) (hi : i ≤ 1000000) (w : World) (h : RowAt w A L) :
    Calls Tryz.prog 92 #[.slice A L.length cap, .int .i64 i] w fun e w' => e = .returned (.int .i64 (at0 L i)) ∧ w = w' := by
  have hm := h.1
  by_cases h0 : i < L.length
  · have t1 : decide ((i : Int) < (L.length : Int)) = true := decide_eq_true (by omega)
    obtain ⟨b, o, rfl, hb, hc⟩ := h.place (by omega)
    have c := hc i h0
    clear hc h
    go_enter Tryz.func92, Tryz.ntmps92
    go_wp2
    go_ret
    exact ⟨rfl, rfl⟩
  · have t1 : decide ((i : Int) < (L.length : Int)) = false := decide_eq_false (by omega)
    have G : Hid (at0 L i = 0) := Lib.hid (at0_out L i (by omega))
    clear h
    go_enter Tryz.func92, Tryz.ntmps92
    go_wp2
    go_ret
    exact ⟨ret_int G.out.symm, rfl⟩

def isOneB (L : List Int) : Bool := L == [1]
set_option maxHeartbeats 400000 in
theorem isOne_any (A : Option Addr) (cap : Nat) (L : List Int) (w : World) (h : RowAt w A L) :
    Calls Tryz.prog 99 #[.slice A L.length cap] w fun e w' => e = .returned (.bool (isOneB L)) ∧ w = w' := by
  have hm := h.1
  by_cases h0 : L.length = 1
  · obtain ⟨x, rfl⟩ : ∃ x, L = [x] := List.length_eq_one_iff.1 h0
    obtain ⟨b, o, rfl, hb, hc⟩ := h.place (by simp)
    have c := hc 0 (by simp)
    have G : Hid (isOneB [x] = (x == 1)) := Lib.hid (by
      rw [Bool.eq_iff_iff]; simp [isOneB])
    rw [Nat.add_zero] at c
    have c2 : at0 [x] 0 = x := rfl
    rw [c2] at c
    clear hc h h0 c2 hm
    show Calls Tryz.prog 99 #[.slice (some ⟨b, o, none⟩) 1 cap] w _
    go_enter Tryz.func99, Tryz.ntmps99
    go_wp2
    go_ret
    exact ⟨ret_bool G.out.symm, rfl⟩
  · have t1 : ((L.length : Int) == 1) = false := by simp; omega
    have G : Hid (isOneB L = false) := Lib.hid (by
      rw [isOneB, Bool.eq_false_iff, Ne, beq_iff_eq]; rintro rfl; exact h0 rfl)
    clear h0 h
    go_enter Tryz.func99, Tryz.ntmps99
    go_wp2
    go_ret
    exact ⟨ret_bool G.out.symm, rfl⟩

set_option maxHeartbeats 400000 in
theorem reduce_any (p n : Int) (lo : 2 ≤ p) (hi : p ≤ 7) (hn : -1000000000 ≤ n) (hn2 : n ≤ 1000000000) (w : World) :
    Calls Tryz.prog 91 #[.int .i64 p, .int .i64 n] w fun e w' => e = .returned (.int .i64 (n % p)) ∧ w = w' := by
  have G := Lib.hid (go_mod n p (by omega))
  have q := tmodB n p lo hi
  have p0 : p ≠ 0 := by omega
  go_enter Tryz.func91, Tryz.ntmps91
  go_wp2
  go_ret
  exact ⟨ret_int G.out, rfl⟩

end Go.Proofs.YtaemiknaiccijaaGreat

/- A row of whole numbers that a call owns: it may be appended to. -/
namespace Go.Proofs.YtaemiknaiccijaaGreat
open Go.RowKit

/-- Since w0 nothing that was there has turned, and v is a row of this call's own that holds L. -/
def Own (w0 w : World) (v : Value) (L : List Int) : Prop :=
  Ext w0 w ∧ w.ownsRow w0.heap.size 2 1 v L.length (L.map (Value.int .i64)) ∧ L.length ≤ 1000000
theorem Own.nil {w0 w : World} (h : Ext w0 w) : Own w0 w (.slice none 0 0) [] := ⟨h, World.ownsRow_nil _ _ _ _, by simp⟩
theorem Own.ext {w0 w : World} {v : Value} {L : List Int} (h : Own w0 w v L) : Ext w0 w := h.1
theorem Own.next {w0 w w' : World} {v : Value} {L : List Int} (h : Own w0 w v L) (hE : Ext w w') : Own w0 w' v L := by
  refine ⟨h.1.tr hE, ?_, h.2.2⟩
  have hl := h.2.1.lt
  refine h.2.1.kept (row := none) ⟨hE.os, hE.tape, hE.output, hE.size, fun k hk _ => hE.block k hk⟩ ?_
  cases e : v.ownBlock <;> simp
theorem Own.row {w0 w : World} {v : Value} {L : List Int} (h : Own w0 w v L) : ∃ A cap, v = .slice A L.length cap ∧ RowAt w A L := by
  rcases h.2.1.2 with ⟨rfl, hn⟩ | ⟨g, cap, cur, rfl, hb, hg, h1, h2, h3, h4⟩
  · rw [List.eq_nil_of_length_eq_zero hn]
    exact ⟨none, 0, rfl, RowAt.nil _ _⟩
  · refine ⟨_, cap, rfl, h.2.2, fun _ => ⟨g, 0, rfl, fun j hj => ?_⟩, fun a ha _ => by cases ha; exact ⟨_, _, hg⟩⟩
    have := h.2.1.cells (g := g) rfl j (.int .i64 (at0 L j)) (by
      rw [List.getElem?_map, List.getElem?_eq_getElem hj]
      simp [at0, hj])
    rw [Addr.add_lit] at this
    exact this

section
variable {ops : Array Oper} {rest : List Oper} {o : Oper} {a : Act} {w w0 : World} {Q : Exit → Act → World → Prop}
/-- append of one number to a row of this call's own (ty: the slice's type). -/
theorem wplApp {ty : TypeId} (s x : Operand) (ho : o.op = .call { callee := .builtin .append, args := #[s, x], argTypes := #[ty, ty] }) (hgd : o.guard = none) (ht : Tryz.prog.underlying ty = some (.slice 2))
    {v : Value} {L : List Int} {y : Int} {ad : Addr} {c : Nat} {n : Nat} (hO : Own w0 w v L) (hn : L.length = n) (hs : a.eval s = v) (hx : a.eval x = .slice (some ad) 1 c) (hy : w.cell? ad = some (.int .i64 y)) (hm : n < 1000000)
    (h : ∀ A cap w', Own w0 w' (.slice A (n + 1) cap) (L ++ [y]) → wpList Tryz.prog ops Q rest (a.put o.dst (.slice A (n + 1) cap)) w') : wpList Tryz.prog ops Q (o :: rest) a w := by
  subst hn
  obtain ⟨i, h1, h2, h3, h4⟩ := info_parts infoInt64
  refine wpList_append_own w hgd s x ty ho w0.heap.size 2 i (.int .i64 0) 1 8 ht h1 h2 h3 h4 rfl (by decide) v L.length (L.map (Value.int .i64)) hs hO.2.1 ad 1 c [.int .i64 y] hx rfl ?_ ?_ ?_ ?_ hO.1.size ?_
  · intro j u hj
    cases j with
    | zero =>
      simp only [List.getElem?_cons_zero, Option.some.injEq] at hj
      subst hj
      rw [show ad.add 0 = ad by cases ad; unfold Addr.add; split <;> simp_all]
      exact hy
    | succ j => simp at hj
  · intro u hu; simp at hu; subst hu; rfl
  · simp only [maxLen]; omega
  · omega
  · intro v' w' hown hg _
    have hO' : Own w0 w' v' (L ++ [y]) := by
      refine ⟨Below.grown hO.1 hg hO.1.size fun k hk => (hO.2.1.lt k hk).1, ?_, by simp; omega⟩
      simpa using hown
    obtain ⟨A, cap, rfl, _⟩ := hO'.row
    rw [List.length_append] at hO' ⊢
    exact h A cap w' hO'
end

theorem cell_new (w : World) (v : Value) (T : TypeId) : (w.alloc (.cells #[v] T)).cell? ⟨w.heap.size, 0, none⟩ = some v := by
  rw [cell_of_row _ _ _ _ _ _ (heap_alloc_new w _)]; rfl
theorem run_index_arr (w : World) (l : List Int) (k : Nat) (hl : l.length = 64) (hk : k < 64) : (Instr.index 25 (.agg (u8s l)) (.int .i64 k)).run Tryz.prog w = .ok (.int .u8 (at0 l k)) w := by
  have := u8s_get l k (by omega)
  have h1 : (0 : Int) ≤ (k : Int) ∧ (k : Int) < 64 := by omega
  simp [Instr.index, asIntOf, run_underlying Tryz.underlying25, sizeByte, part, isAgg, run_underlying Tryz.underlying5, this, h1]
  intro h
  omega

end Go.Proofs.YtaemiknaiccijaaGreat

/- The program's trimming of a row, its rows of polynomials and back, its rows of numbers, its inverses. -/
namespace Go.Proofs.YtaemiknaiccijaaGreat
open Go.RowKit

/-- A call that hands back a row. -/
def Row (L : List Int) (w : World) (e : Ending) (w' : World) : Prop := ∃ A cap, e = .returned (.slice A L.length cap) ∧ RowAt w' A L ∧ Ext w w'

theorem ret_slice {A : Option Addr} {n m cap : Nat} (h : n = m) : Ending.returned (.slice A n cap) = .returned (.slice A m cap) := by rw [h]
theorem trim_cut {L : List Int} {n : Nat} (hn : n ≤ L.length) (hz : ∀ j, n ≤ j → at0 L j = 0) (he : n = 0 ∨ at0 L (n - 1) ≠ 0) : trim L = L.take n := by
  refine nz_ext (trim_nz _) (fun m hm => ?_) fun j => ?_
  · have : m + 1 = n := by simp at hm; omega
    rw [at0_take, if_pos (by omega)]
    rcases he with he | he
    · omega
    · rwa [show n - 1 = m by omega] at he
  · rw [at0_trim, at0_take]
    split
    · rfl
    · exact hz j (by omega)

def TrimRel (L : List Int) (w : World) (f : Nat) (x : Value) (wr : World) : Prop :=
  x = .int .i64 f ∧ f ≤ L.length ∧ (∀ j, f ≤ j → at0 L j = 0) ∧ w = wr

set_option maxHeartbeats 400000 in
theorem trimmed_any (A : Option Addr) (cap : Nat) (L : List Int) (w : World) (h : RowAt w A L) (hc : L.length ≤ cap) :
    Calls Tryz.prog 88 #[.slice A L.length cap] w fun e w' => Row (trim L) w e w' ∧ w = w' := by
  have hm := h.1
  have H := Lib.hid h
  go_enter Tryz.func88, Tryz.ntmps88
  go_wp2
  go_loopg [3] L.length (fun f x wr => TrimRel L w f x wr)
  case atStart => exact ⟨rfl, Nat.le_refl _, fun j hj => at0_out L j hj, rfl⟩
  case round =>
    obtain ⟨rfl, hk, hz, rfl⟩ := hrel
    have HZ := Lib.hid hz
    clear hz
    by_cases k0 : gk = 0
    · subst k0
      have T := trim_cut (L := L) (n := 0) hk HZ.out (.inl rfl)
      rw [List.take_zero] at T
      have TT := Lib.hid T
      clear T
      go_wp2
      go_ret
      exact ⟨⟨_, 0, by rw [TT.out]; rfl, by rw [TT.out]; exact RowAt.nil _ _, Ext.refl _⟩, rfl⟩
    · obtain ⟨n, rfl⟩ : ∃ n, gk = n + 1 := ⟨gk - 1, by omega⟩
      obtain ⟨b, o, rfl, hb, hcell⟩ := H.out.place (by omega)
      have c := hcell n (by omega)
      clear hcell k0
      have i1 : ((n + 1 : Nat) : Int) - 1 = n := by omega
      by_cases hx : at0 L n = 0
      · have t1 : (at0 L n == 0) = true := by simpa using hx
        have HX := Lib.hid hx
        clear hx
        go_wp2
        go_roundg n
        case measure => omega
        case rel => exact ⟨rfl, by omega, fun j hj => by
          rcases Nat.eq_or_lt_of_le hj with rfl | h
          · exact HX.out
          · exact HZ.out j h, rfl⟩
      · have t1 : (at0 L n == 0) = false := by simpa using hx
        have T := Lib.hid (trim_cut (L := L) (n := n + 1) hk HZ.out (.inr hx))
        go_wp2
        have LT : Hid ((trim L).length = n + 1) := Lib.hid (by rw [T.out, List.length_take]; omega)
        go_ret
        exact ⟨⟨_, n + 1, ret_slice LT.out.symm, by rw [T.out]; exact H.out.take (n + 1) hk, Ext.refl _⟩, rfl⟩

def InvRel (p x : Int) (w : World) (f : Nat) (out i : Value) (wr : World) : Prop :=
  ∃ k : Nat, f + k = (p - 2).toNat ∧ out = .int .i64 (powm p x k) ∧ i = .int .i64 k ∧ w = wr
theorem powm_range {p : Int} (hp : 2 ≤ p) (x : Int) : ∀ k, 0 ≤ powm p x k ∧ powm p x k < p
  | 0 => ⟨by simp [powm], by simp [powm]; omega⟩
  | k + 1 => emod_range _ _ (by omega)

set_option maxHeartbeats 400000 in
theorem inverse_any (p x : Int) (lo : 2 ≤ p) (hi : p ≤ 7) (h1 : 0 ≤ x) (h2 : x < p) (w : World) :
    Calls Tryz.prog 125 #[.int .i64 p, .int .i64 x] w fun e w' => e = .returned (.int .i64 (invP p x)) ∧ w = w' := by
  have p0 : p ≠ 0 := by omega
  have pt : Hid (((p - 2).toNat : Int) = p - 2) := Lib.hid (by omega)
  go_enter Tryz.func125, Tryz.ntmps125
  go_wp2
  go_loopg [5, 8] (p - 2).toNat (fun f out i wr => InvRel p x w f out i wr)
  case atStart => exact ⟨0, rfl, rfl, rfl, rfl⟩
  case round =>
    obtain ⟨k, hf, rfl, rfl, rfl⟩ := hrel
    have r := powm_range lo x k
    have m := mulB (k := powm p x k) (b := x) (K := 7) (C := 7) (by decide) (by omega) (by omega) h1 (by omega)
    have m0 : 0 ≤ powm p x k * x := Int.mul_nonneg r.1 h1
    have K := pt.out
    by_cases hk : k = (p - 2).toNat
    · have t1 : decide ((k : Int) < p - 2) = false := decide_eq_false (by omega)
      have G : Hid (powm p x k = invP p x) := Lib.hid (by rw [invP, hk])
      clear hk K
      go_wp2
      go_ret
      exact ⟨ret_int G.out, rfl⟩
    · have t1 : decide ((k : Int) < p - 2) = true := decide_eq_true (by omega)
      clear K
      go_wp2
      go_roundg (gk - 1)
      case measure => omega
      case rel => exact ⟨k + 1, by omega, rfl, by go_num, rfl⟩

theorem row_of_own {w0 w : World} {A : Option Addr} {n cap : Nat} {L : List Int} (h : Own w0 w (.slice A n cap) L) : RowAt w A L ∧ n = L.length := by
  obtain ⟨A', cap', e, hr⟩ := h.row
  cases e
  exact ⟨hr, rfl⟩
theorem cap_of_own {w0 w : World} {A : Option Addr} {n cap : Nat} {L : List Int} (h : Own w0 w (.slice A n cap) L) : n ≤ cap := by
  rcases h.2.1.2 with ⟨e, hn⟩ | ⟨g, cap', cur, e, _, _, hle, _⟩
  · cases e; exact Nat.le_refl _
  · cases e; exact hle
def RowOfRel (l : List Int) (w : World) (f : Nat) (out i : Value) (wr : World) : Prop :=
  ∃ (k : Nat) (A : Option Addr) (cap : Nat), f + k = 64 ∧ out = .slice A k cap ∧ i = .int .i64 k ∧ Own w wr (.slice A k cap) (l.take k)

set_option maxRecDepth 100000 in
set_option maxHeartbeats 400000 in
theorem rowOf_any (l : List Int) (hl : l.length = 64) (hb : IsB l) (w : World) :
    Calls Tryz.prog 55 #[.agg (u8s l)] w (Row (trim l) w) := by
  have HL := Lib.hid hl
  have HB := Lib.hid hb
  have sz : (u8s l).size = 64 := by rw [u8s_size, hl]
  have F := Hp.start w
  clear hb
  go_enter Tryz.func55, Tryz.ntmps55
  go_wp2_with (first | ((with_reducible show wpList _ _ _ _ _ _); first | (apply hpLd F; exact rfl; exact rfl; exact rfl; (· repeat (first | exact Has.head | apply Has.tail))) | (apply hpBox F; exact rfl; exact rfl; exact rfl; (· with_reducible first | exact pad_length _ | exact zeros64_length | exact tab_length _ _ | assumption)) | (apply hpAlloc F; exact rfl; exact rfl) | (apply hpSt F; exact rfl; exact rfl; exact rfl; exact rfl; (· repeat (first | exact Upd.head | apply Upd.tail)); (· with_reducible first | exact pad_length _ | exact zeros64_length | exact tab_length _ _ | assumption))))
  clear F
  intro g w1 F
  go_wp2_with (first | ((with_reducible show wpList _ _ _ _ _ _); first | (apply hpLd F; exact rfl; exact rfl; exact rfl; (· repeat (first | exact Has.head | apply Has.tail))) | (apply hpBox F; exact rfl; exact rfl; exact rfl; (· with_reducible first | exact pad_length _ | exact zeros64_length | exact tab_length _ _ | assumption)) | (apply hpAlloc F; exact rfl; exact rfl) | (apply hpSt F; exact rfl; exact rfl; exact rfl; exact rfl; (· repeat (first | exact Upd.head | apply Upd.tail)); (· with_reducible first | exact pad_length _ | exact zeros64_length | exact tab_length _ _ | assumption))))
  have E1 := F.ext
  clear F hl
  go_loopg [3, 7] 64 (fun f out i wr => RowOfRel l w f out i wr)
  case atStart => exact ⟨0, none, 0, rfl, rfl, rfl, Own.nil E1⟩
  case round =>
    clear E1
    obtain ⟨k, A, cap, hf, rfl, rfl, O⟩ := hrel
    by_cases hk : k < 64
    · have t1 : decide ((k : Int) < 64) = true := decide_eq_true (by omega)
      have gx := run_index_arr wr l k HL.out hk
      have b1 := HB.out k
      have TK : Hid (l.take k ++ [at0 l k] = l.take (k + 1)) := Lib.hid (by
        rw [List.take_add_one, List.getElem?_eq_getElem (by rw [HL.out]; exact hk)]
        simp [at0, HL.out, hk])
      have LK : Hid ((l.take k).length = k) := Lib.hid (by rw [List.length_take, HL.out]; omega)
      go_wp2_with (first | ((with_reducible show wpList _ _ _ _ _ _); apply wplApp; exact rfl; exact rfl; exact Tryz.underlying52; exact O.next ((Ext.refl _).alloc _); exact LK.out; exact rfl; exact rfl; exact cell_new _ _ _; omega))
      clear O
      intro A' cap' w' O
      rw [TK.out] at O
      go_wp2
      go_roundg (gk - 1)
      case measure => omega
      case rel => exact ⟨k + 1, A', cap', by omega, by go_num, by go_num, O⟩
    · have t1 : decide ((k : Int) < 64) = false := decide_eq_false (by omega)
      have k64 : k = 64 := by omega
      subst k64
      have TK : Hid (l.take 64 = l) := Lib.hid (List.take_of_length_le (by rw [HL.out]; omega))
      rw [TK.out] at O
      have R := Lib.hid (row_of_own O).1
      have C := cap_of_own O
      have LE : Hid (64 = l.length) := Lib.hid HL.out.symm
      have TR := trimmed_any A cap l wr R.out (by rw [HL.out]; exact C)
      rw [HL.out] at TR
      have TRM := Lib.hid TR
      have E := O.ext
      clear TR
      go_wp2_with (first | (go_at_call 88; refine TRM.out.mono ?_; rintro e w2 ⟨⟨A2, c2, rfl, R2, E2⟩, rfl⟩))
      go_ret
      exact ⟨A2, c2, rfl, R2, E⟩

/-- A row laid into an array, so far. -/
def padTo (L : List Int) (n : Nat) : List Int := tab 64 fun j => if j < n then at0 L j else 0
theorem padTo_zero (L : List Int) : padTo L 0 = zeros64 := by rw [zeros64_tab]; exact tab_congr fun j _ => if_neg (by omega)
theorem padTo_step (L : List Int) (n : Nat) (h : n < 64) : (padTo L n).set n (at0 L n) = padTo L (n + 1) := by
  unfold padTo
  rw [tab_set 64 _ _ _ h]
  refine tab_congr fun j _ => ?_
  by_cases e : j = n
  · subst e; rw [if_pos rfl, if_pos (by omega)]
  · rw [if_neg e]
    by_cases h2 : j < n
    · rw [if_pos h2, if_pos (by omega)]
    · rw [if_neg h2, if_neg (by omega)]
theorem padTo_end (L : List Int) : padTo L L.length = pad L := tab_congr fun j _ => by
  split
  · rfl
  · rw [at0_out L j (by omega)]
def PolyRel (L : List Int) (w : World) (g0 g f : Nat) (i : Value) (wr : World) : Prop :=
  ∃ k : Nat, f + k = L.length ∧ i = .int .i64 k ∧ Hp w wr [(g, padTo L k), (g0, zeros64)]

set_option maxRecDepth 100000 in
set_option maxHeartbeats 400000 in
theorem poly_any (A : Option Addr) (cap : Nat) (L : List Int) (w : World) (h : RowAt w A L) (hb : IsB L) (h64 : L.length ≤ 64) :
    Calls Tryz.prog 57 #[.slice A L.length cap] w fun e w' => e = .returned (.agg (u8s (pad L))) ∧ Ext w w' := by
  have H := Lib.hid h
  have HB := Lib.hid hb
  have hz := zlit
  have F := Hp.start w
  clear h hb
  go_enter Tryz.func57, Tryz.ntmps57
  go_wp2_with (first | ((with_reducible show wpList _ _ _ _ _ _); first | (apply hpLd F; exact rfl; exact rfl; exact rfl; (· repeat (first | exact Has.head | apply Has.tail))) | (apply hpBox F; exact rfl; exact rfl; exact rfl; (· with_reducible first | exact pad_length _ | exact zeros64_length | exact tab_length _ _ | assumption)) | (apply hpAlloc F; exact rfl; exact rfl) | (apply hpSt F; exact rfl; exact rfl; exact rfl; exact rfl; (· repeat (first | exact Upd.head | apply Upd.tail)); (· with_reducible first | exact pad_length _ | exact zeros64_length | exact tab_length _ _ | assumption))))
  clear F
  intro g0 w1 F
  go_wp2_with (first | ((with_reducible show wpList _ _ _ _ _ _); first | (apply hpLd F; exact rfl; exact rfl; exact rfl; (· repeat (first | exact Has.head | apply Has.tail))) | (apply hpBox F; exact rfl; exact rfl; exact rfl; (· with_reducible first | exact pad_length _ | exact zeros64_length | exact tab_length _ _ | assumption)) | (apply hpAlloc F; exact rfl; exact rfl) | (apply hpSt F; exact rfl; exact rfl; exact rfl; exact rfl; (· repeat (first | exact Upd.head | apply Upd.tail)); (· with_reducible first | exact pad_length _ | exact zeros64_length | exact tab_length _ _ | assumption))))
  clear F
  intro g w2 F
  go_wp2_with (first | ((with_reducible show wpList _ _ _ _ _ _); first | (apply hpLd F; exact rfl; exact rfl; exact rfl; (· repeat (first | exact Has.head | apply Has.tail))) | (apply hpBox F; exact rfl; exact rfl; exact rfl; (· with_reducible first | exact pad_length _ | exact zeros64_length | exact tab_length _ _ | assumption)) | (apply hpAlloc F; exact rfl; exact rfl) | (apply hpSt F; exact rfl; exact rfl; exact rfl; exact rfl; (· repeat (first | exact Upd.head | apply Upd.tail)); (· with_reducible first | exact pad_length _ | exact zeros64_length | exact tab_length _ _ | assumption))))
  go_loopg [8] L.length (fun f i wr => PolyRel L w g0 g f i wr)
  case atStart => exact ⟨0, rfl, rfl, by rw [padTo_zero]; exact F⟩
  case round =>
    clear F
    obtain ⟨k, hf, rfl, F⟩ := hrel
    by_cases hk : k < L.length
    · have t1 : decide ((k : Int) < (L.length : Int)) = true := decide_eq_true (by omega)
      have HW := Lib.hid (H.out.below F.ext)
      obtain ⟨b, o, rfl, hb, hc⟩ := HW.out.place (by omega)
      have c1 := hc k hk
      have b1 := HB.out k
      have f1 := F.free 0 rfl k
      have c2 := F.cell 0 rfl k (by omega)
      have ST := Lib.hid (padTo_step L k (by omega))
      clear hc
      go_wp2
      go_roundg (gk - 1)
      case measure => omega
      case rel => exact ⟨k + 1, by omega, by go_num, by rw [← ST.out]; exact F.setCell 0 rfl k _⟩
    · have t1 : decide ((k : Int) < (L.length : Int)) = false := decide_eq_false (by omega)
      have G : Hid (padTo L k = pad L) := Lib.hid (by rw [show k = L.length by omega, padTo_end])
      rw [G.out] at F
      go_wp2_with (first | ((with_reducible show wpList _ _ _ _ _ _); first | (apply hpLd F; exact rfl; exact rfl; exact rfl; (· repeat (first | exact Has.head | apply Has.tail))) | (apply hpBox F; exact rfl; exact rfl; exact rfl; (· with_reducible first | exact pad_length _ | exact zeros64_length | exact tab_length _ _ | assumption)) | (apply hpAlloc F; exact rfl; exact rfl) | (apply hpSt F; exact rfl; exact rfl; exact rfl; exact rfl; (· repeat (first | exact Upd.head | apply Upd.tail)); (· with_reducible first | exact pad_length _ | exact zeros64_length | exact tab_length _ _ | assumption))))
      clear F
      intro w4 F
      try simp only [List.set_cons_zero, List.set_cons_succ] at F
      go_wp2_with (first | ((with_reducible show wpList _ _ _ _ _ _); first | (apply hpLd F; exact rfl; exact rfl; exact rfl; (· repeat (first | exact Has.head | apply Has.tail))) | (apply hpBox F; exact rfl; exact rfl; exact rfl; (· with_reducible first | exact pad_length _ | exact zeros64_length | exact tab_length _ _ | assumption)) | (apply hpAlloc F; exact rfl; exact rfl) | (apply hpSt F; exact rfl; exact rfl; exact rfl; exact rfl; (· repeat (first | exact Upd.head | apply Upd.tail)); (· with_reducible first | exact pad_length _ | exact zeros64_length | exact tab_length _ _ | assumption))))
      exact bodyPost_ret (res_c rfl rfl (F.at_ 1 rfl) (pad_length _) Tryz.underlying25 infoPoly) rfl ⟨rfl, F.ext⟩

end Go.Proofs.YtaemiknaiccijaaGreat

/- Memory that holds rows of whole numbers of the call's own, told as a list of blocks with what they hold. -/
namespace Go.Proofs.YtaemiknaiccijaaGreat
open Go.RowKit

/-- Block g is a row of whole numbers that begins with l. -/
def Blk (w : World) (g : Nat) (l : List Int) : Prop := ∃ x : List Value, w.heap[g]? = some (.cells (l.map (Value.int .i64) ++ x).toArray 2 (0, 0))
section
variable {w w' : World} {g B : Nat} {l : List Int}
theorem Blk.lt (h : Blk w g l) : g < w.heap.size := by obtain ⟨x, h⟩ := h; exact (Array.getElem?_eq_some_iff.1 h).1
theorem Blk.cell (h : Blk w g l) (j : Nat) (hj : j < l.length) : w.cell? ⟨g, j, none⟩ = some (.int .i64 (at0 l j)) := by
  obtain ⟨x, h⟩ := h
  rw [cell_of_row _ _ _ _ _ _ h, List.getElem?_toArray, List.getElem?_append_left (by simpa using hj), List.getElem?_map, List.getElem?_eq_getElem hj]
  simp [hj, at0]
theorem Blk.free (h : Blk w g l) (j : Nat) : w.frozen? ⟨g, j, none⟩ = false := by obtain ⟨x, h⟩ := h; exact frozen_of_row _ _ _ _ _ h
theorem Blk.ext (h : Blk w g l) (hb : Ext w w') : Blk w' g l := by have hl := h.lt; obtain ⟨x, h⟩ := h; exact ⟨x, (hb.block g hl).trans h⟩
theorem Blk.grown {k : Nat} (h : Blk w g l) (hg : w.grownBy w' (some k)) (hne : g ≠ k) : Blk w' g l := by
  have hl := h.lt; obtain ⟨x, h⟩ := h
  exact ⟨x, (hg.block g hl (fun e => hne (Option.some.inj e))).trans h⟩
theorem Blk.set (h : Blk w g l) (i : Nat) (y : Int) : Blk (w.setCell ⟨g, i, none⟩ (.int .i64 y)) g (l.set i y) := by
  obtain ⟨x, h⟩ := h
  rcases Nat.lt_or_ge i l.length with hi | hi
  · refine ⟨x, ?_⟩
    rw [heap_setCell_same w g i _ _ _ h]
    congr 1; congr 1
    apply Array.ext'
    simp [List.set_append, hi]
  · refine ⟨x.set (i - l.length) (.int .i64 y), ?_⟩
    rw [heap_setCell_same w g i _ _ _ h]
    congr 1; congr 1
    apply Array.ext'
    simp [List.set_append, hi, List.set_eq_of_length_le]
theorem Blk.new (w : World) (l : List Int) : Blk (w.alloc (.cells (i64s l) 2)) w.heap.size l := ⟨[], by rw [heap_alloc_new]; simp [i64s]⟩
theorem Blk.row (h : Blk w g l) (hm : l.length ≤ 1000000) : RowAt w (some ⟨g, 0, none⟩) l :=
  ⟨hm, fun _ => ⟨g, 0, rfl, fun j hj => by rw [Nat.zero_add]; exact h.cell j hj⟩, fun a ha _ => by cases ha; obtain ⟨x, h⟩ := h; exact ⟨_, _, h⟩⟩
end

/-- Since w0 nothing old has turned; these blocks are new, they are apart, and each holds its numbers. -/
structure Ri (w0 w : World) (L : List (Nat × List Int)) : Prop where
  ext : Ext w0 w
  arr : ∀ x ∈ L, Blk w x.1 x.2
  len : ∀ x ∈ L, x.2.length ≤ 1000000
  low : ∀ x ∈ L, w0.heap.size ≤ x.1
  nd : (L.map (·.1)).Nodup

section
variable {w0 w w' : World} {L : List (Nat × List Int)}
theorem Ri.start (w : World) : Ri w w [] := ⟨Ext.refl w, by simp, by simp, by simp, by simp⟩
theorem Ri.next (h : Ri w0 w L) (hE : Ext w w') : Ri w0 w' L := ⟨h.ext.tr hE, fun x hx => (h.arr x hx).ext hE, h.len, h.low, h.nd⟩
theorem Ri.at_ (h : Ri w0 w L) (i : Nat) {g : Nat} {l : List Int} (hi : L[i]? = some (g, l)) : Blk w g l := h.arr (g, l) (List.mem_of_getElem? hi)
theorem Ri.len_ (h : Ri w0 w L) (i : Nat) {g : Nat} {l : List Int} (hi : L[i]? = some (g, l)) : l.length ≤ 1000000 := h.len (g, l) (List.mem_of_getElem? hi)
theorem Ri.low_ (h : Ri w0 w L) (i : Nat) {g : Nat} {l : List Int} (hi : L[i]? = some (g, l)) : w0.heap.size ≤ g := h.low (g, l) (List.mem_of_getElem? hi)
theorem Ri.lt_ (h : Ri w0 w L) {x : Nat × List Int} (hx : x ∈ L) : x.1 < w.heap.size := (h.arr x hx).lt
theorem Ri.cell (h : Ri w0 w L) (i : Nat) {g : Nat} {l : List Int} (hi : L[i]? = some (g, l)) (j : Nat) (hj : j < l.length) : w.cell? ⟨g, j, none⟩ = some (.int .i64 (at0 l j)) := (h.at_ i hi).cell j hj
theorem Ri.free (h : Ri w0 w L) (i : Nat) {g : Nat} {l : List Int} (hi : L[i]? = some (g, l)) (j : Nat) : w.frozen? ⟨g, j, none⟩ = false := (h.at_ i hi).free j
/-- One more block. -/
theorem Ri.add (h : Ri w0 w L) {g : Nat} {l : List Int} (ha : Blk w g l) (hl : l.length ≤ 1000000) (hlow : w0.heap.size ≤ g) (hn : ∀ x ∈ L, x.1 ≠ g) : Ri w0 w ((g, l) :: L) := by
  refine ⟨h.ext, fun x hx => ?_, fun x hx => ?_, fun x hx => ?_, ?_⟩
  · rcases List.mem_cons.1 hx with rfl | hx
    · exact ha
    · exact h.arr x hx
  · rcases List.mem_cons.1 hx with rfl | hx
    · exact hl
    · exact h.len x hx
  · rcases List.mem_cons.1 hx with rfl | hx
    · exact hlow
    · exact h.low x hx
  · rw [List.map_cons, List.nodup_cons]
    refine ⟨fun hm => ?_, h.nd⟩
    obtain ⟨x, hx, he⟩ := List.mem_map.1 hm
    exact hn x hx he
/-- A block that lies behind all that there was at w. -/
theorem Ri.addNew (h : Ri w0 w L) (hE : Ext w w') {g : Nat} {l : List Int} (ha : Blk w' g l) (hl : l.length ≤ 1000000) (hg : w.heap.size ≤ g) : Ri w0 w' ((g, l) :: L) :=
  (h.next hE).add ha hl (Nat.le_trans h.ext.size hg) fun x hx => by have := h.lt_ hx; omega
theorem Ri.addNew2 (h : Ri w0 w L) (hE : Ext w w') {g g' : Nat} {l l' : List Int} (ha : Blk w' g l) (hl : l.length ≤ 1000000) (hg : w.heap.size ≤ g) (ha' : Blk w' g' l') (hl' : l'.length ≤ 1000000) (hg' : w.heap.size ≤ g') (hne : g ≠ g') : Ri w0 w' ((g', l') :: (g, l) :: L) :=
  (h.addNew hE ha hl hg).add ha' hl' (Nat.le_trans h.ext.size hg') fun x hx => by
    rcases List.mem_cons.1 hx with rfl | hx
    · exact hne
    · have := h.lt_ hx; omega
theorem Ri.tail {x : Nat × List Int} (h : Ri w0 w (x :: L)) : Ri w0 w L :=
  ⟨h.ext, fun y hy => h.arr y (List.mem_cons_of_mem _ hy), fun y hy => h.len y (List.mem_cons_of_mem _ hy), fun y hy => h.low y (List.mem_cons_of_mem _ hy), (List.nodup_cons.1 h.nd).2⟩
theorem Ri.drop : ∀ (n : Nat) {L : List (Nat × List Int)}, Ri w0 w L → Ri w0 w (L.drop n)
  | 0, _, h => h
  | n + 1, [], h => h
  | n + 1, x :: L, h => Ri.drop n h.tail
theorem Ri.alloc (h : Ri w0 w L) {l : List Int} (hl : l.length ≤ 1000000) : Ri w0 (w.alloc (.cells (i64s l) 2)) ((w.heap.size, l) :: L) :=
  h.addNew ((Ext.refl w).alloc _) (Blk.new _ _) hl (Nat.le_refl _)
/-- What one block holds has turned. -/
theorem Ri.put (h : Ri w0 w L) (i : Nat) {g : Nat} {old l : List Int} (hi : L[i]? = some (g, old)) (hl : l.length ≤ 1000000) (hg : w.grownBy w' (some g)) (ha : Blk w' g l) : Ri w0 w' (L.set i (g, l)) := by
  have hil := (List.getElem?_eq_some_iff.1 hi).1
  have key : ∀ x ∈ L.set i (g, l), x = (g, l) ∨ (x ∈ L ∧ x.1 ≠ g) := fun x hx => by
    obtain ⟨j, hj, rfl⟩ := List.mem_iff_getElem.1 hx
    rw [List.getElem_set]
    by_cases e : i = j
    · rw [if_pos e]; exact .inl rfl
    · rw [if_neg e]
      have hj' : j < L.length := by simpa using hj
      exact .inr ⟨List.getElem_mem _, nodup_apart h.nd (List.getElem?_eq_getElem hj') hi (Ne.symm e)⟩
  refine ⟨h.ext.grown hg (h.low_ i hi), fun x hx => ?_, fun x hx => ?_, fun x hx => ?_, ?_⟩
  · rcases key x hx with rfl | ⟨h1, h2⟩
    · exact ha
    · exact (h.arr x h1).grown hg h2
  · rcases key x hx with rfl | ⟨h1, _⟩
    · exact hl
    · exact h.len x h1
  · rcases key x hx with rfl | ⟨h1, _⟩
    · exact h.low_ i hi
    · exact h.low x h1
  · have : (L.set i (g, l)).map (·.1) = L.map (·.1) := by
      rw [List.map_set]
      apply List.ext_getElem?
      intro j
      rw [List.getElem?_set]
      split
      · rename_i e
        subst e
        have h2 := (List.getElem?_eq_some_iff.1 hi).2
        simp [hil, h2]
      · rfl
    rw [this]; exact h.nd
theorem Ri.setCell (h : Ri w0 w L) (i : Nat) {g : Nat} {l : List Int} (hi : L[i]? = some (g, l)) (j : Nat) (x : Int) : Ri w0 (w.setCell ⟨g, j, none⟩ (.int .i64 x)) (L.set i (g, l.set j x)) :=
  h.put i hi (by rw [List.length_set]; exact h.len_ i hi) ⟨rfl, rfl, rfl, by simp [World.setCell], fun k _ hk => heap_setCell_other w _ k _ (fun e => hk (by rw [e]))⟩ ((h.at_ i hi).set j x)
theorem Ri.drew (h : Ri w0 w L) : Ri w0 w.drew L := h.next (Ext.refl w).drew
end
theorem Ri.row {w0 w : World} {L : List (Nat × List Int)} (h : Ri w0 w L) (i : Nat) {g : Nat} {l : List Int} (hi : L[i]? = some (g, l)) : RowAt w (some ⟨g, 0, none⟩) l := (h.at_ i hi).row (h.len_ i hi)
def zerosN (n : Nat) : List Int := List.replicate n 0
theorem zerosN_length (n : Nat) : (zerosN n).length = n := List.length_replicate
section
variable {ops : Array Oper} {rest : List Oper} {o : Oper} {a : Act} {w0 w : World} {Q : Exit → Act → World → Prop} {L : List (Nat × List Int)}
theorem riMake {ty : TypeId} {x y : Operand} {n : Nat} (F : Ri w0 w L) (ho : o.op = .makeSlice ty x y) (hgd : o.guard = none) (ht : Tryz.prog.underlying ty = some (.slice 2)) {v u : Int} (hx : a.eval x = .int .i64 v) (hy : a.eval y = .int .i64 u) (hv : v = (n : Int)) (hu : u = (n : Int)) (hn : n ≤ 1000000)
    (h : ∀ g w', Ri w0 w' ((g, zerosN n) :: L) → wpList Tryz.prog ops Q rest (a.put o.dst (.slice (some ⟨g, 0, none⟩) n n)) w') : wpList Tryz.prog ops Q (o :: rest) a w :=
  wpList_plain hgd fun K hK => by
    unfold Oper.wp execOp
    subst hv hu
    simp only [ho, hx, hy, Sem.run_bind, run_make_ints ht infoInt64 n hn, Result.andThen_ok]
    exact hK _ _ (h _ _ (F.alloc (l := zerosN n) (by rw [zerosN_length]; exact hn)))
end

end Go.Proofs.YtaemiknaiccijaaGreat

/- The program's sums with multiples. -/
namespace Go.Proofs.YtaemiknaiccijaaGreat
open Go.RowKit

def combTo (p : Int) (a b : List Int) (t : Int) (n : Nat) : List Int := tab (max a.length b.length) fun j => if j < n then (at0 a j + t * at0 b j) % p else 0
theorem combTo_zero (p : Int) (a b : List Int) (t : Int) : combTo p a b t 0 = zerosN (max a.length b.length) := by
  refine list_ext0 (by simp [combTo, tab_length, zerosN_length]) fun j hj => ?_
  simp [combTo, at0_tab, zerosN, at0_replicate]
theorem combTo_length (p : Int) (a b : List Int) (t : Int) (n : Nat) : (combTo p a b t n).length = max a.length b.length := tab_length _ _
theorem combTo_step (p : Int) (a b : List Int) (t : Int) (n : Nat) (h : n < max a.length b.length) : (combTo p a b t n).set n ((at0 a n + t * at0 b n) % p) = combTo p a b t (n + 1) := by
  unfold combTo
  rw [tab_set _ _ _ _ h]
  refine tab_congr fun j _ => ?_
  by_cases e : j = n
  · subst e; rw [if_pos rfl, if_pos (by omega)]
  · rw [if_neg e]
    by_cases h2 : j < n
    · rw [if_pos h2, if_pos (by omega)]
    · rw [if_neg h2, if_neg (by omega)]
theorem combTo_end (p : Int) (a b : List Int) (t : Int) : trim (combTo p a b t (max a.length b.length)) = comb p a b t := by
  refine nz_ext (trim_nz _) (rowN_nz _ _) fun j => ?_
  rw [at0_trim, at0_comb, combTo, at0_tab]
  split
  · rfl
  · rw [at0_out a j (by omega), at0_out b j (by omega)]; simp

def CombRel (p : Int) (a b : List Int) (t : Int) (w : World) (g f : Nat) (i : Value) (wr : World) : Prop :=
  ∃ n : Nat, f + n = max a.length b.length ∧ i = .int .i64 n ∧ Ri w wr [(g, combTo p a b t n)]

set_option maxRecDepth 100000 in
set_option maxHeartbeats 1000000 in
theorem combine_any (p t : Int) (A B : Option Addr) (ca cb : Nat) (a b : List Int) (lo : 2 ≤ p) (hi : p ≤ 7) (ht : -1000 ≤ t) (ht2 : t ≤ 1000) (ba : IsB a) (bb : IsB b) (w : World) (ha : RowAt w A a) (hb : RowAt w B b) :
    Calls Tryz.prog 59 #[.int .i64 p, .slice A a.length ca, .slice B b.length cb, .int .i64 t] w (Row (comb p a b t) w) := by
  have HA := Lib.hid ha
  have HB := Lib.hid hb
  have BA := Lib.hid ba
  have BB := Lib.hid bb
  have la := ha.1
  have lb := hb.1
  have mx : Hid (max (a.length : Int) (b.length : Int) = ((max a.length b.length : Nat) : Int)) := Lib.hid (by omega)
  have F := Ri.start w
  clear ha hb ba bb
  go_enter Tryz.func59, Tryz.ntmps59
  go_wp2_with (first | ((with_reducible show wpList _ _ _ _ _ _); apply riMake (n := max a.length b.length) F; exact rfl; exact rfl; exact Tryz.underlying52; exact rfl; exact rfl; omega; omega; omega))
  all_goals
    clear F h
    intro g w1 F
    rw [← combTo_zero p a b t] at F
    go_wp2
    generalize hN : max a.length b.length = N at *
    go_loopg [19] N (fun f i wr => CombRel p a b t w g f i wr)
    case atStart => exact ⟨0, by rw [hN]; rfl, rfl, F⟩
    case round =>
      clear F
      obtain ⟨n, hf, rfl, F⟩ := hrel
      rw [hN] at hf
      have NN := Lib.hid hN
      have NL : N ≤ 1000000 := by omega
      by_cases hk : n < N
      · have t1 : decide ((n : Int) < (N : Int)) = true := decide_eq_true (by omega)
        have b1 := BA.out n
        have b2 := BB.out n
        have m := mulB (by decide : (0:Int) ≤ 1000) ht ht2 b2.1 b2.2
        have f1 := F.free 0 rfl n
        have c2 := F.cell 0 rfl n (by rw [combTo_length, hN]; exact hk)
        have ST := Lib.hid (combTo_step p a b t n (by omega))
        have RA := Lib.hid (HA.out.below F.ext)
        have RB := Lib.hid (HB.out.below F.ext)
        clear hN
        go_wp2_with (first | (go_at_call 92; with_reducible refine (at_any A ca a n (by omega) _ RA.out).mono ?_; rintro e w' ⟨rfl, rfl⟩) | (go_at_call 92; with_reducible refine (at_any B cb b n (by omega) _ RB.out).mono ?_; rintro e w' ⟨rfl, rfl⟩) | (go_at_call 91; with_reducible refine (reduce_any p (at0 a n + t * at0 b n) lo hi (by omega) (by omega) _).mono ?_; rintro e w' ⟨rfl, rfl⟩))
        go_roundg (gk - 1)
        case measure => omega
        case rel => exact ⟨n + 1, by rw [NN.out]; omega, by go_num, by rw [← ST.out]; exact F.setCell 0 rfl n _⟩
      · have t1 : decide ((n : Int) < (N : Int)) = false := decide_eq_false (by omega)
        have TR := trimmed_any (some ⟨g, 0, none⟩) N (combTo p a b t n) wr (F.row 0 rfl) (by rw [combTo_length]; omega)
        rw [combTo_length, hN, show n = max a.length b.length by omega, combTo_end] at TR
        have TRM := Lib.hid TR
        have E := F.ext
        clear TR hN
        go_wp2_with (first | (go_at_call 88; refine TRM.out.mono ?_; rintro e w2 ⟨⟨A2, c2, rfl, R2, E2⟩, rfl⟩))
        go_ret
        exact ⟨A2, c2, rfl, R2, E⟩

theorem scale_any (p t : Int) (A : Option Addr) (ca : Nat) (a : List Int) (lo : 2 ≤ p) (hi : p ≤ 7) (ht : -1000 ≤ t) (ht2 : t ≤ 1000) (ba : IsB a) (w : World) (ha : RowAt w A a) :
    Calls Tryz.prog 124 #[.int .i64 p, .slice A a.length ca, .int .i64 t] w (Row (scal p a t) w) := by
  have C : Hid (Calls Tryz.prog 59 #[.int .i64 p, .slice none 0 0, .slice A a.length ca, .int .i64 t] w (Row (scal p a t) w)) :=
    Lib.hid (combine_any p t none A 0 ca [] a lo hi ht ht2 (fun j => by rw [at0_nil]; omega) ba w (RowAt.nil _ _) ha)
  have la := ha.1
  clear ha ba
  go_enter Tryz.func124, Tryz.ntmps124
  go_wp2_with (first | (go_at_call 59; refine C.out.mono ?_; rintro e w2 ⟨A2, c2, rfl, R2, E2⟩))
  go_ret
  exact ⟨A2, c2, rfl, R2, E2⟩

end Go.Proofs.YtaemiknaiccijaaGreat
