/- Lemmas and contracts of functions, for the laws: The program's tests of coefficients: isPoly by closures. -/
import Derived.Test.YtaemiknaiccijaaGreatRm20
import Derived.Test.YtaemiknaiccijaaGreatRm10
import Derived.Test.YtaemiknaiccijaaGreatRm11
set_option linter.unusedVariables false
set_option linter.unusedSimpArgs false
namespace Go.Proofs.YtaemiknaiccijaaGreat
open Go.RowKit

theorem isPolyFn_any (p c : Int) (B : Nat) (h0 : 0 ≤ c) (h1 : c ≤ 255) (w : World) (hc : w.cell? ⟨B, 0, none⟩ = some (.int .i64 p)) :
    Calls Tryz.prog 123 #[.int .u8 c, .pointer (some ⟨B, 0, none⟩)] w fun e w' => e = .returned (.bool (decide (c < p))) ∧ w = w' := by
  go_enter Tryz.func123, Tryz.ntmps123
  go_wp2
  go_ret
  exact ⟨rfl, rfl⟩

theorem notPolyFn_any (p c : Int) (B C : Nat) (h0 : 0 ≤ c) (h1 : c ≤ 255) (w : World) (hc : w.cell? ⟨B, 0, none⟩ = some (.int .i64 p)) (hf : w.cell? ⟨C, 0, none⟩ = some (.func (.func 123) #[] #[.pointer (some ⟨B, 0, none⟩)])) :
    Calls Tryz.prog 135 #[.int .u8 c, .pointer (some ⟨C, 0, none⟩)] w fun e w' => e = .returned (.bool (!decide (c < p))) ∧ w = w' := by
  have K := Lib.hid (isPolyFn_any p c B h0 h1 w hc)
  clear hc
  generalize decide (c < p) = r at K
  go_enter Tryz.func135, Tryz.ntmps135
  go_wp2_with (first | (go_at_call 123; (with_reducible refine K.out.mono ?_); rintro e w' ⟨rfl, rfl⟩))
  go_ret
  exact ⟨rfl, rfl⟩

theorem BytesAt.below {w w' : World} {A : Option Addr} {L : List Int} (h : BytesAt w A L) (hb : Ext w w') : BytesAt w' A L :=
  ⟨h.1, fun hn => by
    obtain ⟨b, o, e, hc⟩ := h.2 hn
    exact ⟨b, o, e, fun j hj => (hb.cell (World.block_lt_of_cell? w _ (hc j hj))).trans (hc j hj)⟩⟩
def IxRel {α : Type} (L : List α) (pr : α → Bool) (w : World) (f : Nat) (i : Value) (wr : World) : Prop :=
  ∃ k : Nat, f + k = L.length ∧ i = .int .i64 k ∧ (L.take k).any pr = false ∧ w = wr
theorem any_take_succ {α : Type} (L : List α) (pr : α → Bool) (k : Nat) (h : k < L.length) : (L.take (k + 1)).any pr = ((L.take k).any pr || pr L[k]) := by
  rw [List.take_succ_eq_append_getElem h, List.any_append]; simp
theorem any_of_at {α : Type} (L : List α) (pr : α → Bool) (k : Nat) (h : k < L.length) (hp : pr L[k] = true) : L.any pr = true :=
  List.any_eq_true.2 ⟨L[k], List.getElem_mem h, hp⟩
/-- An index, told by its sign alone. -/
def Sgn (b : Bool) (i : Int) : Prop := (b = true → 0 ≤ i) ∧ (b = false → i = -1)
def SgnIs (b : Bool) (w : World) (e : Ending) (w' : World) : Prop := ∃ i : Int, e = .returned (.int .i64 i) ∧ Sgn b i ∧ w = w'

set_option maxRecDepth 100000 in
set_option maxHeartbeats 400000 in
theorem indexBytes_any (p : Int) (B C : Nat) (A : Option Addr) (cap : Nat) (L : List Int) (hb : IsB L) (w : World) (hL : BytesAt w A L) (hc : w.cell? ⟨B, 0, none⟩ = some (.int .i64 p)) (hf : w.cell? ⟨C, 0, none⟩ = some (.func (.func 123) #[] #[.pointer (some ⟨B, 0, none⟩)])) :
    Calls Tryz.prog 140 #[.slice A L.length cap, .func (.func 135) #[] #[.pointer (some ⟨C, 0, none⟩)]] w (SgnIs (L.any fun c => !decide (c < p)) w) := by
  have K := Lib.hid (fun c h0 h1 => notPolyFn_any p c B C h0 h1 w hc hf)
  have HL := Lib.hid hL
  have HB := Lib.hid hb
  have lm := hL.1
  clear hb hL hc hf
  go_enter Tryz.func140, Tryz.ntmps140
  go_wp2
  go_loopg [8] L.length (fun f i wr => IxRel L (fun c => !decide (c < p)) w f i wr)
  case atStart => exact ⟨0, by omega, rfl, rfl, rfl⟩
  case round =>
    obtain ⟨k, hk, rfl, ha, rfl⟩ := hrel
    have HA := Lib.hid ha
    clear ha
    by_cases h : k < L.length
    · obtain ⟨b, o, rfl, hr⟩ := HL.out.2 (by omega)
      have t1 : decide ((k : Int) < (L.length : Int)) = true := decide_eq_true (by omega)
      have c1 := hr k h
      have bb := HB.out k
      have EL : Hid (at0 L k = L[k]) := Lib.hid (by simp [at0, h])
      have KK := Lib.hid (K.out (at0 L k) bb.1 bb.2)
      clear hr
      by_cases hx : at0 L k < p
      · have q : Hid ((!decide (at0 L k < p)) = false) := Lib.hid (by simp [hx])
        clear hx
        go_wp2_with (first | (go_at_call 135; (with_reducible refine KK.out.mono ?_); rintro e w' ⟨rfl, rfl⟩; rw [q.out]))
        go_roundg (gk - 1)
        case measure => omega
        case rel => exact ⟨k + 1, by omega, by go_num, by rw [any_take_succ _ _ _ h, HA.out, ← EL.out, q.out]; rfl, rfl⟩
      · have q : Hid ((!decide (at0 L k < p)) = true) := Lib.hid (by simp [hx])
        have AN : Hid (L.any (fun c => !decide (c < p)) = true) := Lib.hid (any_of_at L _ k h (by rw [← EL.out, q.out]))
        clear hx
        go_wp2_with (first | (go_at_call 135; (with_reducible refine KK.out.mono ?_); rintro e w' ⟨rfl, rfl⟩; rw [q.out]))
        go_ret
        exact ⟨k, rfl, ⟨fun _ => by omega, fun h2 => by rw [AN.out] at h2; cases h2⟩, rfl⟩
    · have t1 : decide ((k : Int) < (L.length : Int)) = false := decide_eq_false (by omega)
      have AN : Hid (L.any (fun c => !decide (c < p)) = false) := Lib.hid (by have := HA.out; rwa [List.take_of_length_le (by omega)] at this)
      go_wp2
      go_ret
      exact ⟨-1, rfl, ⟨(fun h2 => by rw [AN.out] at h2; cases h2), fun _ => rfl⟩, rfl⟩

set_option maxHeartbeats 400000 in
theorem containsBytes_any (p : Int) (B C : Nat) (A : Option Addr) (cap : Nat) (L : List Int) (hb : IsB L) (w : World) (hL : BytesAt w A L) (hc : w.cell? ⟨B, 0, none⟩ = some (.int .i64 p)) (hf : w.cell? ⟨C, 0, none⟩ = some (.func (.func 123) #[] #[.pointer (some ⟨B, 0, none⟩)])) :
    Calls Tryz.prog 134 #[.slice A L.length cap, .func (.func 135) #[] #[.pointer (some ⟨C, 0, none⟩)]] w fun e w' => e = .returned (.bool (L.any fun c => !decide (c < p))) ∧ w = w' := by
  have K := Lib.hid (indexBytes_any p B C A cap L hb w hL hc hf)
  clear hL hc hf
  generalize (L.any fun c => !decide (c < p)) = r at K
  go_enter Tryz.func134, Tryz.ntmps134
  cases r with
  | true =>
    go_wp2_with (first | (go_at_call 140; (with_reducible refine K.out.mono ?_); rintro e w' ⟨i, rfl, ⟨h1, h2⟩, rfl⟩; replace h1 := h1 rfl; clear h2; have h3 : decide (i ≥ 0) = true := decide_eq_true h1))
    go_ret
    exact ⟨rfl, rfl⟩
  | false =>
    go_wp2_with (first | (go_at_call 140; (with_reducible refine K.out.mono ?_); rintro e w' ⟨i, rfl, ⟨h1, h2⟩, rfl⟩; obtain rfl := h2 rfl; clear h1 h2))
    go_ret
    exact ⟨rfl, rfl⟩

theorem areBytes_any (p : Int) (B : Nat) (A : Option Addr) (cap : Nat) (L : List Int) (hb : IsB L) (w : World) (hL : BytesAt w A L) (hc : w.cell? ⟨B, 0, none⟩ = some (.int .i64 p)) :
    Calls Tryz.prog 122 #[.slice A L.length cap, .func (.func 123) #[] #[.pointer (some ⟨B, 0, none⟩)]] w fun e w' => e = .returned (.bool (L.all fun c => decide (c < p))) ∧ Ext w w' := by
  have HC := Lib.hid hc
  have HL := Lib.hid hL
  have G : Hid ((L.all fun c => decide (c < p)) = !(L.any fun c => !decide (c < p))) := Lib.hid (by rw [List.all_eq_not_any_not])
  rw [G.out]
  clear hc hL G
  have CF : Hid (∀ W C, Ext w W → W.cell? ⟨C, 0, none⟩ = some (.func (.func 123) #[] #[.pointer (some ⟨B, 0, none⟩)]) → Calls Tryz.prog 134 #[.slice A L.length cap, .func (.func 135) #[] #[.pointer (some ⟨C, 0, none⟩)]] W fun e w' => e = .returned (.bool (L.any fun c => !decide (c < p))) ∧ W = w') :=
    Lib.hid fun W C hE hC => containsBytes_any p B C A cap L hb W (HL.out.below hE) (cellE HC.out hE) hC
  generalize (L.any fun c => !decide (c < p)) = r at CF
  go_enter Tryz.func122, Tryz.ntmps122
  go_wp2_with (first | (go_at_call 134; (with_reducible refine (CF.out _ _ ((Ext.refl w).alloc _) (cell_new _ _ _)).mono ?_); rintro e w' ⟨rfl, rfl⟩))
  go_ret
  exact ⟨rfl, (Ext.refl w).alloc _⟩

set_option maxRecDepth 100000 in
set_option maxHeartbeats 1000000 in
theorem isPoly_any (p : Int) (l : List Int) (hl : l.length = 64) (hb : IsB l) (w : World) :
    Calls Tryz.prog 103 #[.int .i64 p, .agg (u8s l)] w fun e w' => e = .returned (.bool (allLt p l 64)) ∧ Ext w w' := by
  have G : Hid ((l.all fun c => decide (c < p)) = allLt p l 64) := Lib.hid (by
    rw [Bool.eq_iff_iff, allLt_iff, List.all_eq_true]
    constructor
    · intro h j hj
      have e : at0 l j = l[j]'(by omega) := by simp [at0, hl, hj]
      rw [e]; exact of_decide_eq_true (h _ (List.getElem_mem _))
    · intro h x hx
      obtain ⟨j, hj, rfl⟩ := List.mem_iff_getElem.1 hx
      have e : at0 l j = l[j] := by simp [at0, hj]
      rw [← e]; exact decide_eq_true (h j (by omega)))
  have HB := Lib.hid hb
  have HL := Lib.hid hl
  have CF : Hid (∀ W B C cap, Ext w W → W.cell? ⟨B, 0, none⟩ = some (.int .i64 p) → Arr W C 25 l → Calls Tryz.prog 122 #[.slice (some ⟨C, 0, none⟩) 64 cap, .func (.func 123) #[] #[.pointer (some ⟨B, 0, none⟩)]] W fun e w' => e = .returned (.bool (allLt p l 64)) ∧ Ext W w') :=
    Lib.hid fun W B C cap hE hB hC => by
      have h2 : BytesAt W (some ⟨C, 0, none⟩) l := ⟨by omega, fun _ => ⟨C, 0, rfl, fun j hj => by rw [Nat.zero_add]; exact hC.cell j hj⟩⟩
      have h3 := areBytes_any p B (some ⟨C, 0, none⟩) cap l hb W h2 hB
      rw [G.out, hl] at h3
      exact h3
  clear hl hb G
  go_enter Tryz.func103, Tryz.ntmps103
  generalize allLt p l 64 = r at CF ⊢
  have A0 := Arr.new (w.alloc (.cells #[.int .i64 p] 2)) 25 l
  rw [show (w.alloc (.cells #[.int .i64 p] 2)).heap.size = w.heap.size + 1 by simp] at A0
  have A1 := Lib.hid A0
  clear A0
  have C1 := Lib.hid (cellE (cell_new w (.int .i64 p) 2) ((Ext.refl (w.alloc (.cells #[.int .i64 p] 2))).alloc (.cells (u8s l) 25)))
  have E2 := ((Ext.refl w).alloc (.cells #[.int .i64 p] 2)).alloc (.cells (u8s l) 25)
  go_wp2_with (first | (go_at_call 122; (with_reducible refine (CF.out _ _ _ _ E2 C1.out A1.out).mono ?_); rintro e w' ⟨rfl, hE⟩))
  go_ret
  exact ⟨rfl, E2.tr hE⟩

section
variable {ops : Array Oper} {rest : List Oper} {o : Oper} {a : Act} {w : World} {Q : Exit → Act → World → Prop}
theorem wpList_wanted (hw : Region.wanted o (yielded ops a.tmps) = true)
    (h : ∀ K : Act → World → Prop, (∀ a w, wpList Tryz.prog ops Q rest a w → K a w) → o.wp Tryz.prog a w K Q) : wpList Tryz.prog ops Q (o :: rest) a w :=
  wpList_step fun K hK => by rw [if_pos hw]; exact h K hK
/-- A whole polynomial is read out of its block, behind a test that holds. -/
theorem wplLG (x : Operand) (hw : Region.wanted o (yielded ops a.tmps) = true) (ho : o.op = .load 25 x) {g : Nat} {T : TypeId} {l : List Int} (hg : Arr w g T l) (hx : a.eval x = .pointer (some ⟨g, 0, none⟩)) (hl : l.length = 64)
    (h : wpList Tryz.prog ops Q rest (a.put o.dst (.agg (u8s l))) w) : wpList Tryz.prog ops Q (o :: rest) a w :=
  wpList_wanted hw fun _ hK => wp_load_row _ x ho g hx T _ (0, 0) _ hg Tryz.underlying25 rfl (by rw [infoPoly, u8s_size, hl]) (hK _ _ h)
end

set_option maxRecDepth 100000 in
set_option maxHeartbeats 400000 in
theorem IsPoly_any (p : Int) (l : List Int) (hl : l.length = 64) (hb : IsB l) (w : World) :
    Calls Tryz.prog 97 #[.int .i64 p, .agg (u8s l)] w fun e w' => e = .returned (.bool (isPB p l)) ∧ Ext w w' := by
  have CF := Lib.hid fun W => isPoly_any p l hl hb W
  have HL := Lib.hid hl
  by_cases hp : primeB p = true
  · have G : Hid (isPB p l = allLt p l 64) := Lib.hid (by rw [isPB, hp, Bool.and_true])
    have P := Lib.hid hp
    clear hl hb hp
    rw [G.out]
    generalize allLt p l 64 = r at CF ⊢
    clear G
    have A1 := Lib.hid (Arr.new w 25 l)
    go_enter Tryz.func97, Tryz.ntmps97
    go_wp2_with (first | ((with_reducible show wpList _ _ _ _ _ _); apply wplLG; exact rfl; exact rfl; exact A1.out; exact rfl; exact HL.out) | (go_at_call 118; (with_reducible refine (isPrime_any p _).mono ?_); rintro e w' ⟨rfl, rfl⟩; rw [P.out]) | (go_at_call 103; (with_reducible refine (CF.out _).mono ?_); rintro e w' ⟨rfl, hE⟩))
    go_ret
    exact ⟨rfl, ((Ext.refl w).alloc _).tr hE⟩
  · have hp' : primeB p = false := by simpa using hp
    have G : Hid (isPB p l = false) := Lib.hid (by rw [isPB, hp', Bool.and_false])
    have P := Lib.hid hp'
    clear hl hb hp hp'
    go_enter Tryz.func97, Tryz.ntmps97
    go_wp2_with (first | (go_at_call 118; (with_reducible refine (isPrime_any p _).mono ?_); rintro e w' ⟨rfl, rfl⟩; rw [P.out]))
    go_ret
    exact ⟨ret_bool G.out.symm, (Ext.refl w).alloc _⟩

end Go.Proofs.YtaemiknaiccijaaGreat

/- The program's tests of lists of polynomials: closures, polysCode. -/
namespace Go.Proofs.YtaemiknaiccijaaGreat
open Go.RowKit

set_option maxRecDepth 100000 in
set_option maxHeartbeats 400000 in
theorem polysFn_any (p : Int) (B : Nat) (l : List Int) (hl : l.length = 64) (hb : IsB l) (w : World) (hc : w.cell? ⟨B, 0, none⟩ = some (.int .i64 p)) :
    Calls Tryz.prog 133 #[.agg (u8s l), .pointer (some ⟨B, 0, none⟩)] w fun e w' => e = .returned (.bool (allLt p l 64)) ∧ Ext w w' := by
  have CF := Lib.hid fun W => isPoly_any p l hl hb W
  have HL := Lib.hid hl
  have A1 := Lib.hid (Arr.new w 25 l)
  have C1 := cellE hc ((Ext.refl w).alloc (.cells (u8s l) 25))
  clear hl hb hc
  generalize allLt p l 64 = r at CF ⊢
  go_enter Tryz.func133, Tryz.ntmps133
  go_wp2_with (first | ((with_reducible show wpList _ _ _ _ _ _); apply wplL; exact rfl; exact rfl; exact A1.out; exact rfl; exact HL.out) | (go_at_call 103; (with_reducible refine (CF.out _).mono ?_); rintro e w' ⟨rfl, hE⟩))
  go_ret
  exact ⟨rfl, ((Ext.refl w).alloc _).tr hE⟩

/-- A function value that is a predicate on polynomials, from the world w0 on. -/
def PredP (w0 : World) (g : Nat) (bd cb : Array Value) (L : List (List Int)) (pr : List Int → Bool) : Prop :=
  ∀ W x, x ∈ L → Ext w0 W → Calls Tryz.prog g (bd ++ #[.agg (u8s x)] ++ cb) W fun e w' => e = .returned (.bool (pr x)) ∧ Ext W w'
theorem PredP.below {w0 w : World} {g : Nat} {bd cb : Array Value} {L : List (List Int)} {pr : List Int → Bool} (h : PredP w0 g bd cb L pr) (hE : Ext w0 w) : PredP w g bd cb L pr :=
  fun W x hx hW => h W x hx (hE.tr hW)

set_option maxRecDepth 100000 in
set_option maxHeartbeats 400000 in
theorem notPolys_any (g : Nat) (bd cb : Array Value) (eg : ∀ args w, (callFunc g args).run Tryz.prog w = .ok (.enter g args) w) (C : Nat) (l : List Int) (r : Bool) (hl : l.length = 64) (w : World) (hf : w.cell? ⟨C, 0, none⟩ = some (.func (.func g) bd cb))
    (hp : ∀ W, Ext w W → Calls Tryz.prog g (bd ++ #[.agg (u8s l)] ++ cb) W fun e w' => e = .returned (.bool r) ∧ Ext W w') :
    Calls Tryz.prog 115 #[.agg (u8s l), .pointer (some ⟨C, 0, none⟩)] w fun e w' => e = .returned (.bool (!r)) ∧ Ext w w' := by
  have CF := Lib.hid hp
  have HL := Lib.hid hl
  have A1 := Lib.hid (Arr.new w 25 l)
  have E1 := (Ext.refl w).alloc (.cells (u8s l) 25)
  have C1 := cellE hf E1
  clear hl hp hf
  go_enter Tryz.func115, Tryz.ntmps115
  go_wp2_with (first | ((with_reducible show wpList _ _ _ _ _ _); apply wplL; exact rfl; exact rfl; exact A1.out; exact rfl; exact HL.out) | (go_at_fn g; (refine (CF.out _ E1).mono ?_); rintro e w' ⟨rfl, hE⟩))
  go_ret
  exact ⟨rfl, E1.tr hE⟩

def IxRelE {α : Type} (L : List α) (pr : α → Bool) (w : World) (f : Nat) (i : Value) (wr : World) : Prop :=
  ∃ k : Nat, f + k = L.length ∧ i = .int .i64 k ∧ (L.take k).any pr = false ∧ Ext w wr
def SgnE (b : Bool) (w : World) (e : Ending) (w' : World) : Prop := ∃ i : Int, e = .returned (.int .i64 i) ∧ Sgn b i ∧ Ext w w'

set_option maxRecDepth 100000 in
set_option maxHeartbeats 1000000 in
theorem indexPolys_any (g : Nat) (bd cb : Array Value) (eg : ∀ args w, (callFunc g args).run Tryz.prog w = .ok (.enter g args) w) (C : Nat) (A : Option Addr) (cap : Nat) (L : List (List Int)) (pr : List Int → Bool) (w : World) (hL : PsAt w A L) (hf : w.cell? ⟨C, 0, none⟩ = some (.func (.func g) bd cb)) (hp : PredP w g bd cb L pr) :
    Calls Tryz.prog 131 #[.slice A L.length cap, .func (.func 115) #[] #[.pointer (some ⟨C, 0, none⟩)]] w (SgnE (L.any fun x => !pr x) w) := by
  have HL := Lib.hid hL
  have HF := Lib.hid hf
  have HP := Lib.hid hp
  have EG := Lib.hid eg
  have lm := hL.1
  clear hL hf hp eg
  go_enter Tryz.func131, Tryz.ntmps131
  go_wp2
  go_loopg [8] L.length (fun f i wr => IxRelE L (fun x => !pr x) w f i wr)
  case atStart => exact ⟨0, by omega, rfl, rfl, Ext.refl w⟩
  case round =>
    obtain ⟨k, hk, rfl, ha, E⟩ := hrel
    have HA := Lib.hid ha
    clear ha
    by_cases h : k < L.length
    · have HLw := Lib.hid (HL.out.below E)
      obtain ⟨b, o, rfl, hr⟩ := HLw.out.2.2 (by omega)
      have t1 : decide ((k : Int) < (L.length : Int)) = true := decide_eq_true (by omega)
      have R := Lib.hid (hr k L[k] (List.getElem?_eq_getElem h))
      have x64 : L[k].length = 64 := HLw.out.2.1 _ (List.getElem_mem h)
      have X64 := Lib.hid x64
      have KK := Lib.hid (notPolys_any g bd cb EG.out C L[k] (pr L[k]) x64 wr (cellE HF.out E) fun W hW => HP.out W _ (List.getElem_mem h) (E.tr hW))
      have AS := Lib.hid (any_take_succ L (fun x => !pr x) k h)
      have AN := Lib.hid (any_of_at L (fun x => !pr x) k h)
      generalize L[k] = x at R X64 KK AS AN
      clear hr x64
      cases hx : pr x with
      | true =>
        have q : Hid ((!pr x) = false) := Lib.hid (by rw [hx]; rfl)
        clear hx
        go_wp2_with (first | (go_at_call 115; (with_reducible refine KK.out.mono ?_); rintro e w' ⟨rfl, E2⟩; rw [q.out]) | ((with_reducible show wpList _ _ _ _ _ _); apply wplElem; exact rfl; exact rfl; exact R.out; exact rfl; exact X64.out))
        go_roundg (gk - 1)
        case measure => omega
        case rel => exact ⟨k + 1, by omega, by go_num, by rw [AS.out, HA.out, q.out]; rfl, E.tr E2⟩
      | false =>
        have q : Hid ((!pr x) = true) := Lib.hid (by rw [hx]; rfl)
        have AN2 := Lib.hid (AN.out q.out)
        clear hx
        go_wp2_with (first | (go_at_call 115; (with_reducible refine KK.out.mono ?_); rintro e w' ⟨rfl, E2⟩; rw [q.out]) | ((with_reducible show wpList _ _ _ _ _ _); apply wplElem; exact rfl; exact rfl; exact R.out; exact rfl; exact X64.out))
        go_ret
        exact ⟨k, rfl, ⟨fun _ => by omega, fun h2 => by rw [AN2.out] at h2; cases h2⟩, E.tr E2⟩
    · have t1 : decide ((k : Int) < (L.length : Int)) = false := decide_eq_false (by omega)
      have AN : Hid (L.any (fun x => !pr x) = false) := Lib.hid (by have := HA.out; rwa [List.take_of_length_le (by omega)] at this)
      go_wp2
      go_ret
      exact ⟨-1, rfl, ⟨(fun h2 => by rw [AN.out] at h2; cases h2), fun _ => rfl⟩, E⟩

set_option maxHeartbeats 400000 in
theorem containsPolys_any (g : Nat) (bd cb : Array Value) (eg : ∀ args w, (callFunc g args).run Tryz.prog w = .ok (.enter g args) w) (C : Nat) (A : Option Addr) (cap : Nat) (L : List (List Int)) (pr : List Int → Bool) (w : World) (hL : PsAt w A L) (hf : w.cell? ⟨C, 0, none⟩ = some (.func (.func g) bd cb)) (hp : PredP w g bd cb L pr) :
    Calls Tryz.prog 114 #[.slice A L.length cap, .func (.func 115) #[] #[.pointer (some ⟨C, 0, none⟩)]] w fun e w' => e = .returned (.bool (L.any fun x => !pr x)) ∧ Ext w w' := by
  have K := Lib.hid (indexPolys_any g bd cb eg C A cap L pr w hL hf hp)
  clear hL hf hp eg
  generalize (L.any fun x => !pr x) = r at K
  go_enter Tryz.func114, Tryz.ntmps114
  cases r with
  | true =>
    go_wp2_with (first | (go_at_call 131; (with_reducible refine K.out.mono ?_); rintro e w' ⟨i, rfl, ⟨h1, h2⟩, E⟩; replace h1 := h1 rfl; clear h2; have h3 : decide (i ≥ 0) = true := decide_eq_true h1))
    go_ret
    exact ⟨rfl, E⟩
  | false =>
    go_wp2_with (first | (go_at_call 131; (with_reducible refine K.out.mono ?_); rintro e w' ⟨i, rfl, ⟨h1, h2⟩, E⟩; obtain rfl := h2 rfl; clear h1 h2))
    go_ret
    exact ⟨rfl, E⟩

set_option maxHeartbeats 400000 in
theorem arePolys_any (g : Nat) (bd cb : Array Value) (eg : ∀ args w, (callFunc g args).run Tryz.prog w = .ok (.enter g args) w) (A : Option Addr) (cap : Nat) (L : List (List Int)) (pr : List Int → Bool) (w : World) (hL : PsAt w A L) (hp : PredP w g bd cb L pr) :
    Calls Tryz.prog 86 #[.slice A L.length cap, .func (.func g) bd cb] w fun e w' => e = .returned (.bool (L.all pr)) ∧ Ext w w' := by
  have G : Hid (L.all pr = !(L.any fun c => !pr c)) := Lib.hid (by rw [List.all_eq_not_any_not])
  rw [G.out]
  have E1 := (Ext.refl w).alloc (.cells #[.func (.func g) bd cb] 108)
  have CF := Lib.hid (containsPolys_any g bd cb eg w.heap.size A cap L pr _ (hL.below E1) (cell_new w (.func (.func g) bd cb) 108) (hp.below E1))
  clear G hL hp
  generalize (L.any fun c => !pr c) = r at CF
  go_enter Tryz.func86, Tryz.ntmps86
  go_wp2_with (first | (go_at_call 114; (with_reducible refine CF.out.mono ?_); rintro e w' ⟨rfl, E2⟩))
  go_ret
  exact ⟨rfl, E1.tr E2⟩

set_option maxHeartbeats 400000 in
theorem polysCode_any (p : Int) (A : Option Addr) (cap : Nat) (L : List (List Int)) (w : World) (hL : PsAt w A L) (hb : ∀ x ∈ L, IsB x) :
    Calls Tryz.prog 119 #[.int .i64 p, .slice A L.length cap] w fun e w' => e = .returned (.int .i64 (codeP p L)) ∧ Ext w w' := by
  have E1 := (Ext.refl w).alloc (.cells #[.int .i64 p] 2)
  have C1 : Hid ((w.alloc (.cells #[.int .i64 p] 2)).cell? ⟨w.heap.size, 0, none⟩ = some (.int .i64 p)) := Lib.hid (cell_new w _ _)
  have CF := Lib.hid (arePolys_any 133 #[] #[.pointer (some ⟨w.heap.size, 0, none⟩)] (enters_of Tryz.func133 (by kernel_rfl) rfl) A cap L (fun x => allLt p x 64) _ (hL.below E1) (fun W x hx hW => polysFn_any p w.heap.size x (hL.2.1 x hx) (hb x hx) W (cellE C1.out hW)))
  by_cases hp : primeB p = true
  · have P := Lib.hid hp
    have G : Hid (codeP p L = if L.all (fun x => allLt p x 64) then 0 else 1) := Lib.hid (by
      rw [codeP, hp, Bool.true_and]
      have : (fun x => allLt p x 64) = isPB p := by funext x; rw [isPB, hp, Bool.and_true]
      rw [this])
    clear hL hb hp
    cases hr : L.all (fun x => allLt p x 64) with
    | true =>
      have R := Lib.hid hr
      clear hr
      go_enter Tryz.func119, Tryz.ntmps119
      go_wp2_with (first | (go_at_call 118; (with_reducible refine (isPrime_any p _).mono ?_); rintro e w' ⟨rfl, rfl⟩; rw [P.out]) | (go_at_call 86; (with_reducible refine CF.out.mono ?_); rintro e w' ⟨rfl, E2⟩; rw [R.out]))
      go_ret
      exact ⟨ret_int (by rw [G.out, R.out]; rfl), E1.tr E2⟩
    | false =>
      have R := Lib.hid hr
      clear hr
      go_enter Tryz.func119, Tryz.ntmps119
      go_wp2_with (first | (go_at_call 118; (with_reducible refine (isPrime_any p _).mono ?_); rintro e w' ⟨rfl, rfl⟩; rw [P.out]) | (go_at_call 86; (with_reducible refine CF.out.mono ?_); rintro e w' ⟨rfl, E2⟩; rw [R.out]))
      go_ret
      exact ⟨ret_int (by rw [G.out, R.out]; rfl), E1.tr E2⟩
  · have hp' : primeB p = false := by simpa using hp
    have P := Lib.hid hp'
    have G : Hid (codeP p L = 1) := Lib.hid (by rw [codeP, hp']; rfl)
    clear hL hb hp hp'
    go_enter Tryz.func119, Tryz.ntmps119
    go_wp2_with (first | (go_at_call 118; (with_reducible refine (isPrime_any p _).mono ?_); rintro e w' ⟨rfl, rfl⟩; rw [P.out]))
    go_ret
    exact ⟨ret_int G.out.symm, E1⟩

end Go.Proofs.YtaemiknaiccijaaGreat

/- The program's derivative, and its test for discriminants. -/
namespace Go.Proofs.YtaemiknaiccijaaGreat
open Go.RowKit

theorem polysCode_one {p : Int} {a : List Int} (hp : PrimeP p) (ha : Can p a) (la : a.length ≤ 64) (w : World) (g T : Nat) (h : Arr w g T (pad a)) :
    Calls Tryz.prog 119 #[.int .i64 p, .slice (some ⟨g, 0, none⟩) 1 1] w fun e w' => e = .returned (.int .i64 0) ∧ Ext w w' := by
  have := polysCode_any p (some ⟨g, 0, none⟩) 1 [pad a] w (one_polys h (pad_length _)) (by
    intro x hx; simp at hx; subst hx; exact fun j => by rw [at0_pad a la]; have := ha.inp j; have := hp.hi; omega)
  rw [codeP_one hp ha] at this
  exact this
/-- The program's own reckoning of a coefficient of the derivative. -/
theorem derC_impl (p : Int) (a : List Int) (i : Nat) (lo : 2 ≤ p) (hi : p ≤ 7) (ha : 0 ≤ at0 a (i + 1)) :
    (((i : Int) + 1) * at0 a (i + 1)) % p % 256 = derC p a i := by
  have r2 := emod_range (((i : Int) + 1) * at0 a (i + 1)) p (by omega)
  rw [Int.emod_eq_of_lt r2.1 (by omega), derC, Int.mul_emod ((i : Int) + 1) (at0 a (i + 1)), Int.mul_emod (((i : Int) + 1) % p) (at0 a (i + 1)), Int.emod_emod]

set_option maxRecDepth 100000 in
set_option maxHeartbeats 1000000 in
theorem derivative_any (p : Int) (a : List Int) (hp : PrimeP p) (ha : Can p a) (la : a.length ≤ 64) (w : World) :
    Calls Tryz.prog 98 #[.int .i64 p, .agg (u8s (pad a))] w fun e w' => e = .returned (.tuple #[.agg (u8s (pad (derr p a))), .int .i64 0]) ∧ Ext w w' := by
  have hz := zlit
  have lo := hp.lo
  have hi := hp.hi
  have HA := Lib.hid ha
  have CD := Lib.hid (fun w g T => polysCode_one hp ha la w g T)
  have BA : Hid (IsB (pad a)) := Lib.hid (fun j => by rw [at0_pad a la]; have := ha.inp j; omega)
  clear hp ha
  have F := Hp.start w
  go_enter Tryz.func98, Tryz.ntmps98
  go_wp2_with (first | ((with_reducible show wpList _ _ _ _ _ _); first | (apply hpLd F; exact rfl; exact rfl; exact rfl; (· repeat (first | exact Has.head | apply Has.tail))) | (apply hpBox F; exact rfl; exact rfl; exact rfl; (· with_reducible first | exact pad_length _ | exact zeros64_length | exact tab_length _ _ | assumption)) | (apply hpAlloc F; exact rfl; exact rfl) | (apply hpSt F; exact rfl; exact rfl; exact rfl; exact rfl; (· repeat (first | exact Upd.head | apply Upd.tail)); (· with_reducible first | exact pad_length _ | exact zeros64_length | exact tab_length _ _ | assumption))))
  clear F
  intro ga w1 F
  go_wp2_with (first | ((with_reducible show wpList _ _ _ _ _ _); first | (apply hpLd F; exact rfl; exact rfl; exact rfl; (· repeat (first | exact Has.head | apply Has.tail))) | (apply hpBox F; exact rfl; exact rfl; exact rfl; (· with_reducible first | exact pad_length _ | exact zeros64_length | exact tab_length _ _ | assumption)) | (apply hpAlloc F; exact rfl; exact rfl) | (apply hpSt F; exact rfl; exact rfl; exact rfl; exact rfl; (· repeat (first | exact Upd.head | apply Upd.tail)); (· with_reducible first | exact pad_length _ | exact zeros64_length | exact tab_length _ _ | assumption))))
  clear F
  intro g1 w2 F
  go_wp2_with (first | ((with_reducible show wpList _ _ _ _ _ _); apply wplOne; exact rfl; exact rfl; exact rfl; exact pad_length _; intro w3 g3 E3 A3 B3; replace F := F.next E3) | (go_at_call 119; refine (CD.out _ _ _ A3).mono ?_; rintro e w4 ⟨rfl, E4⟩; replace F := F.next E4) | ((with_reducible show wpList _ _ _ _ _ _); first | (apply hpLd F; exact rfl; exact rfl; exact rfl; (· repeat (first | exact Has.head | apply Has.tail))) | (apply hpBox F; exact rfl; exact rfl; exact rfl; (· with_reducible first | exact pad_length _ | exact zeros64_length | exact tab_length _ _ | assumption)) | (apply hpAlloc F; exact rfl; exact rfl) | (apply hpSt F; exact rfl; exact rfl; exact rfl; exact rfl; (· repeat (first | exact Upd.head | apply Upd.tail)); (· with_reducible first | exact pad_length _ | exact zeros64_length | exact tab_length _ _ | assumption))))
  clear F
  intro g2 w6 F
  go_wp2_with (first | ((with_reducible show wpList _ _ _ _ _ _); first | (apply hpLd F; exact rfl; exact rfl; exact rfl; (· repeat (first | exact Has.head | apply Has.tail))) | (apply hpBox F; exact rfl; exact rfl; exact rfl; (· with_reducible first | exact pad_length _ | exact zeros64_length | exact tab_length _ _ | assumption)) | (apply hpAlloc F; exact rfl; exact rfl) | (apply hpSt F; exact rfl; exact rfl; exact rfl; exact rfl; (· repeat (first | exact Upd.head | apply Upd.tail)); (· with_reducible first | exact pad_length _ | exact zeros64_length | exact tab_length _ _ | assumption))))
  go_loopg [8] 63 (fun f i wr => DerRel p a w ga g1 g2 f i wr)
  case atStart => exact ⟨0, rfl, rfl, by rw [derTo_zero]; exact F⟩
  case round =>
    clear F
    obtain ⟨n, hf, rfl, F⟩ := hrel
    by_cases hn : n < 63
    · have t1 : decide ((n : Int) + 1 < 64) = true := decide_eq_true (by omega)
      have c1 := F.cell 2 rfl (n + 1) (by omega)
      rw [at0_pad a la] at c1
      have f1 := F.free 0 rfl n
      have c2 := F.cell 0 rfl n (by omega)
      have b1 := BA.out (n + 1)
      rw [at0_pad a la] at b1
      have hp0 : p ≠ 0 := by omega
      have q2 := mulB (by decide : (0:Int) ≤ 64) (show -64 ≤ (n : Int) + 1 by omega) (show (n : Int) + 1 ≤ 64 by omega) b1.1 b1.2
      have q2' : 0 ≤ ((n : Int) + 1) * at0 a (n + 1) := Int.mul_nonneg (by omega) b1.1
      have q3 := tmodB (((n : Int) + 1) * at0 a (n + 1)) p lo hi
      have i1 : (0 : Int) ≤ (n : Int) + 1 := by omega
      have i2 : (n : Int) + 1 < 64 := by omega
      have i3 : ((n : Int) + 1).toNat = n + 1 := by omega
      have i4 : ((n : Int) + 1 - 1).toNat = n := by omega
      have i5 : (n : Int) + 1 - 1 = n := by omega
      have i6 : (n : Int) < 64 := by omega
      have i7 : (0 : Int) ≤ (n : Int) := by omega
      go_wp2
      have V := Lib.hid (derC_impl p a n lo hi b1.1)
      have ST := Lib.hid (derTo_step p a n (by omega))
      go_roundg (gk - 1)
      case measure => omega
      case rel =>
        refine ⟨n + 1, by omega, by go_num, ?_⟩
        rw [← ST.out, ← V.out]
        exact F.setCell 0 rfl n _
    · have t1 : decide ((n : Int) + 1 < 64) = false := decide_eq_false (by omega)
      have G : Hid (derTo p a n = pad (derr p a)) := Lib.hid (by rw [show n = 63 by omega, derTo_end])
      rw [G.out] at F
      go_wp2_with (first | ((with_reducible show wpList _ _ _ _ _ _); first | (apply hpLd F; exact rfl; exact rfl; exact rfl; (· repeat (first | exact Has.head | apply Has.tail))) | (apply hpBox F; exact rfl; exact rfl; exact rfl; (· with_reducible first | exact pad_length _ | exact zeros64_length | exact tab_length _ _ | assumption)) | (apply hpAlloc F; exact rfl; exact rfl) | (apply hpSt F; exact rfl; exact rfl; exact rfl; exact rfl; (· repeat (first | exact Upd.head | apply Upd.tail)); (· with_reducible first | exact pad_length _ | exact zeros64_length | exact tab_length _ _ | assumption))))
      clear F
      intro w7 F
      try simp only [List.set_cons_zero, List.set_cons_succ] at F
      go_wp2_with (first | ((with_reducible show wpList _ _ _ _ _ _); first | (apply hpLd F; exact rfl; exact rfl; exact rfl; (· repeat (first | exact Has.head | apply Has.tail))) | (apply hpBox F; exact rfl; exact rfl; exact rfl; (· with_reducible first | exact pad_length _ | exact zeros64_length | exact tab_length _ _ | assumption)) | (apply hpAlloc F; exact rfl; exact rfl) | (apply hpSt F; exact rfl; exact rfl; exact rfl; exact rfl; (· repeat (first | exact Upd.head | apply Upd.tail)); (· with_reducible first | exact pad_length _ | exact zeros64_length | exact tab_length _ _ | assumption))))
      exact bodyPost_ret (res_ct rfl rfl rfl (F.at_ 1 rfl) (pad_length _) Tryz.underlying25 infoPoly) rfl ⟨rfl, F.ext⟩

theorem scal_len {p : Int} (hp : PrimeP p) {a : List Int} (ha : Can p a) {c : Int} (h1 : 1 ≤ c) (h2 : c < p) : (scal p a c).length = a.length := by
  have l := scal_le p a c
  rcases Nat.lt_or_ge (scal p a c).length a.length with h | h
  · have A := ha.last (by omega)
    have := at0_scal p a c (a.length - 1)
    rw [at0_out _ _ (by omega)] at this
    exact absurd this.symm (mul_ne hp h1 h2 A.1 A.2)
  · omega
/-- A greatest common divisor of length 1 is 1. -/
theorem bezD_one {p : Int} (hp : PrimeP p) {a b : List Int} (ha : Can p a) (hb : Can p b) (la : a.length ≤ 64) (lb : b.length ≤ 64) (hne : a.length ≠ 0) :
    isOneB (bezD p a b) = ((gcdr p a b).length == 1) := by
  obtain ⟨c1, _, _, _, _, _, c7⟩ := bez0_inv hp ha hb la lb (.inl hne)
  have A := c1.last c7
  have i1 := invP_pos hp A.1 A.2
  have i2 := (invP_range (x := lc (bez0 p a b).1) hp).2
  have L := scal_len hp c1 i1 i2
  have e : gcdr p a b = bezD p a b := if_neg (by omega)
  rw [e, isOneB, Bool.eq_iff_iff, beq_iff_eq, beq_iff_eq]
  constructor
  · intro h; rw [h]; rfl
  · intro h
    have h1 : (bez0 p a b).1.length = 1 := by rw [← L]; exact h
    have m := invP_mul hp A.1 A.2
    refine list_ext0 h fun j hj => ?_
    have j0 : j = 0 := by omega
    subst j0
    unfold bezD
    rw [at0_scal]
    have e0 : lc (bez0 p a b).1 = at0 (bez0 p a b).1 0 := by unfold lc; rw [h1]
    have e1 : at0 (bez0 p a b).1 ((bez0 p a b).1.length - 1) = at0 (bez0 p a b).1 0 := e0
    rw [e1] at m
    rw [e0, m]; rfl
/-- The program's test. -/
theorem isDS_impl {p : Int} (hp : PrimeP p) {a : List Int} (ha : Can p a) (la : a.length ≤ 64) (hd : a.length = 2 ∨ a.length = 4 ∨ a.length = 6) : isDS p a = isOneB (bezD p a (derr p a)) := by
  rw [bezD_one hp ha (derr_can (by have := hp.lo; omega) a) la (derr_le p a) (by omega), isDS]
  rcases hd with h | h | h <;> simp [h]

end Go.Proofs.YtaemiknaiccijaaGreat
