/- Lemmas and contracts of functions, for the laws: Slices of slices that a call owns. -/
import Derived.Test.YtaemiknaiccijaaGreatRm27
import Derived.Test.YtaemiknaiccijaaGreatRm20
set_option linter.unusedVariables false
set_option linter.unusedSimpArgs false
namespace Go.Proofs.YtaemiknaiccijaaGreat
open Go.RowKit

/-- Each block of these types that w had stands in w' as it was. -/
def Same (ts : List TypeId) (w w' : World) : Prop := ∀ (b : Nat) (cs : Array Value) (T : TypeId) (fr : Nat × Nat), w.heap[b]? = some (.cells cs T fr) → T ∈ ts → w'.heap[b]? = w.heap[b]?
theorem Same.ext {ts : List TypeId} {w w' : World} (h : Ext w w') : Same ts w w' := fun b _ _ _ hb _ => h.block b (Array.getElem?_eq_some_iff.1 hb).1
theorem Same.own {ts : List TypeId} {e : TypeId} {s n : Nat} {w0 w w' : World} {vo : Value} {V : List Value} (hO : OwV e s w0 w vo n V) (he : e ∉ ts) (hg : w.grownBy w' vo.ownBlock) : Same ts w w' := fun b cs T fr hb hT => by
  refine hg.block b (Array.getElem?_eq_some_iff.1 hb).1 fun h => ?_
  rcases hO.2.1.2 with ⟨rfl, _⟩ | ⟨g, cap', cur, rfl, _, h2, _⟩
  · cases h
  · have : b = g := Option.some.inj h
    rw [this, h2] at hb
    simp only [Option.some.injEq, Obj.cells.injEq] at hb
    exact he (hb.2.1 ▸ hT)
/-- This reading stands where the blocks of these types do. -/
def Keep {α : Type} (ts : List TypeId) (R : World → Value → α → Prop) : Prop := ∀ w w' v x, R w v x → Same ts w w' → R w' v x
theorem same_cell {ts : List TypeId} {w w' : World} (h : Same ts w w') {b j : Nat} {cs : Array Value} {T : TypeId} {fr : Nat × Nat} (hb : w.heap[b]? = some (.cells cs T fr)) (hT : T ∈ ts) : w'.cell? ⟨b, j, none⟩ = w.cell? ⟨b, j, none⟩ := World.cell?_of_block (a := ⟨b, j, none⟩) (h b cs T fr hb hT)

theorem keepRv : Keep [2] Rv := by
  intro w w' v L ⟨A, cap, e, hr⟩ hs
  by_cases h0 : L.length = 0
  · rw [List.eq_nil_of_length_eq_zero h0] at e ⊢
    exact ⟨A, cap, e, RowAt.nil _ _⟩
  · obtain ⟨b, o, rfl, hc⟩ := hr.at1 (by omega)
    obtain ⟨cs, fr, h1⟩ := hr.ib _ rfl (by omega)
    have h1' : w.heap[b]? = some (.cells cs 2 fr) := h1
    refine ⟨_, cap, e, hr.le1, fun _ => ⟨b, o, rfl, fun j hj => (same_cell hs h1' (by simp)).trans (hc j hj)⟩, fun a ha _ => ?_⟩
    cases ha
    exact ⟨cs, fr, (hs b cs _ fr h1' (by simp)).trans h1'⟩
/-- A slice of polynomials in a block of its own. -/
def Pv (w : World) (v : Value) (x : Nat × List (List Int)) : Prop := ∃ cap, v = .slice (some ⟨x.1, 0, none⟩) x.2.length cap ∧ x.2.length ≤ 1000000 ∧ PB w x.1 x.2
theorem keepPv : Keep [25] Pv := by
  intro w w' v x ⟨cap, e, hm, hb⟩ hs
  obtain ⟨C, hC, _⟩ := hb.blk
  exact ⟨cap, e, hm, hb.same (hs _ _ _ _ hC (by simp))⟩
/-- A slice of these things. -/
def RS {α : Type} (e : TypeId) (R : World → Value → α → Prop) (w : World) (v : Value) (L : List α) : Prop :=
  ∃ A cap, v = .slice A L.length cap ∧ L.length ≤ 1000000 ∧ (0 < L.length → ∃ b, A = some ⟨b, 0, none⟩ ∧ (∃ cs fr, w.heap[b]? = some (.cells cs e fr)) ∧ ∀ (i : Nat) (x : α), L[i]? = some x → ∃ u, w.cell? ⟨b, i, none⟩ = some u ∧ R w u x)
theorem keepRS {α : Type} {e : TypeId} {ts : List TypeId} {R : World → Value → α → Prop} (h : Keep ts R) : Keep (e :: ts) (RS e R) := by
  intro w w' v L ⟨A, cap, hv, hm, hc⟩ hs
  refine ⟨A, cap, hv, hm, fun hn => ?_⟩
  obtain ⟨b, e1, ⟨cs, fr, h1⟩, h2⟩ := hc hn
  refine ⟨b, e1, ⟨cs, fr, (hs b cs _ fr h1 (by simp)).trans h1⟩, fun i x hx => ?_⟩
  obtain ⟨u, h3, h4⟩ := h2 i x hx
  exact ⟨u, (same_cell hs h1 (by simp)).trans h3, h w w' u x h4 fun b cs T fr hb hT => hs b cs T fr hb (List.mem_cons_of_mem _ hT)⟩
/-- A slice of these things that the call owns. -/
def LS {α : Type} (e : TypeId) (R : World → Value → α → Prop) (w0 w : World) (v : Value) (L : List α) : Prop :=
  ∃ V, OwV e 1 w0 w v L.length V ∧ V.length = L.length ∧ ∀ (j : Nat) u x, V[j]? = some u → L[j]? = some x → R w u x
section
variable {α : Type} {e : TypeId} {ts : List TypeId} {R : World → Value → α → Prop} {w0 w w' : World} {v : Value} {L : List α}
theorem LS.nil (h : Ext w0 w) : LS e R w0 w (.slice none 0 0) ([] : List α) := ⟨[], OwV.nil h, rfl, fun j u x h => by simp at h⟩
theorem LS.ext (h : LS e R w0 w v L) : Ext w0 w := by obtain ⟨V, h, _⟩ := h; exact h.ext
theorem LS.next (h : LS e R w0 w v L) (hk : Keep ts R) (hE : Ext w w') : LS e R w0 w' v L := by
  obtain ⟨V, h1, h2, h3⟩ := h
  exact ⟨V, h1.next hE, h2, fun j u x hu hx => hk w w' u x (h3 j u x hu hx) (Same.ext hE)⟩
theorem LS.weak {w1 : World} (h : LS e R w1 w v L) (hE : Ext w0 w1) : LS e R w0 w v L := by
  obtain ⟨V, h1, h2, h3⟩ := h
  refine ⟨V, ⟨hE.tr h1.1, ⟨h1.2.1.1, ?_⟩, h1.2.2⟩, h2, h3⟩
  rcases h1.2.1.2 with a | ⟨g, cap, cur, a, b, c⟩
  · exact .inl a
  · exact .inr ⟨g, cap, cur, a, Nat.le_trans hE.size b, c⟩
theorem LS.rs (h : LS e R w0 w v L) : RS e R w v L := by
  obtain ⟨V, h1, h2, h3⟩ := h
  have hm : L.length ≤ 1000000 := h1.2.2
  rcases h1.2.1.2 with ⟨rfl, hn⟩ | ⟨g, cap, cur, rfl, hb, hg, k1, k2, k3, k4⟩
  · exact ⟨none, 0, by rw [hn], hm, fun h => by omega⟩
  · refine ⟨_, cap, rfl, hm, fun _ => ⟨g, rfl, ⟨_, _, hg⟩, fun i x hx => ?_⟩⟩
    have hi : i < V.length := by rw [h2]; exact (List.getElem?_eq_some_iff.1 hx).1
    have c := h1.2.1.cells (g := g) rfl i V[i] (List.getElem?_eq_getElem hi)
    rw [Addr.add_lit, Nat.zero_add] at c
    exact ⟨V[i], c, h3 i _ x (List.getElem?_eq_getElem hi) hx⟩
end
section
variable {α : Type} {e ty : TypeId} {ts : List TypeId} {R : World → Value → α → Prop} {ops : Array Oper} {rest : List Oper} {o : Oper} {a : Act} {w w0 : World} {Q : Exit → Act → World → Prop}
theorem wplAppS (s x : Operand) (ho : o.op = .call { callee := .builtin .append, args := #[s, x], argTypes := #[ty, ty] }) (hgd : o.guard = none) (ht : Tryz.prog.underlying ty = some (.slice e))
    (hi : (Tryz.prog.info? e).map (fun i => (i.zero, i.size, i.bytes)) = some (some (.slice none 0 0), 1, 24))
    {v u : Value} {L : List α} {n : Nat} {y : α} {ad : Addr} {c : Nat} (hk : Keep ts R) (he : e ∉ ts) (hO : LS e R w0 w v L) (hn : L.length = n) (hs : a.eval s = v) (hx : a.eval x = .slice (some ad) 1 c) (hy : w.cell? ad = some u) (hu : u.oneCell' = true) (hR : R w u y) (hm : n < 1000000)
    (h : ∀ A cap w', LS e R w0 w' (.slice A (n + 1) cap) (L ++ [y]) → w.grownBy w' v.ownBlock → Same ts w w' → wpList Tryz.prog ops Q rest (a.put o.dst (.slice A (n + 1) cap)) w') : wpList Tryz.prog ops Q (o :: rest) a w := by
  subst hn
  obtain ⟨V, h1, h2, h3⟩ := hO
  refine wplAppV s x ho hgd ht hi rfl (by decide) (by decide) [u] h1 hs hx rfl (by
    intro j u hj
    cases j with
    | zero =>
      simp only [List.getElem?_cons_zero, Option.some.injEq] at hj
      subst hj
      rw [show ad.add 0 = ad by cases ad; unfold Addr.add; split <;> simp_all]
      exact hy
    | succ j => simp at hj) (by intro u' hu'; simp at hu'; subst hu'; exact hu) hm fun A cap w' i1 _ i3 => ?_
  have hS : Same ts w w' := Same.own h1 he i3
  refine h A cap w' ⟨V ++ [u], by rw [List.length_append]; exact i1, by simp [h2], fun j u' x' hu' hx' => ?_⟩ i3 hS
  rcases Nat.lt_or_ge j V.length with hj | hj
  · rw [List.getElem?_append_left hj] at hu'
    rw [List.getElem?_append_left (by omega)] at hx'
    exact hk w w' _ _ (h3 j _ _ hu' hx') hS
  · rw [List.getElem?_append_right hj] at hu'
    rw [List.getElem?_append_right (by omega)] at hx'
    have : j = V.length := by
      have := (List.getElem?_eq_some_iff.1 hu').1
      simp at this; omega
    subst this
    rw [Nat.sub_self, List.getElem?_cons_zero] at hu'
    rw [h2, Nat.sub_self, List.getElem?_cons_zero] at hx'
    cases hu'; cases hx'
    exact hk w w' _ _ hR hS
end
theorem infoRows : (Tryz.prog.info? 60).map (fun i => (i.zero, i.size, i.bytes)) = some (some (.slice none 0 0), 1, 24) := by kernel_rfl
theorem infoPolys : (Tryz.prog.info? 29).map (fun i => (i.zero, i.size, i.bytes)) = some (some (.slice none 0 0), 1, 24) := by kernel_rfl

end Go.Proofs.YtaemiknaiccijaaGreat

/- The program's rows of polynomials and polynomials of rows. -/
namespace Go.Proofs.YtaemiknaiccijaaGreat
open Go.RowKit

def RwsRel (L : List (List Int)) (w : World) (f : Nat) (vo i : Value) (wr : World) : Prop :=
  ∃ (k : Nat) (A : Option Addr) (cap : Nat), f + k = L.length ∧ i = .int .i64 k ∧ vo = .slice A k cap ∧ LS 52 Rv w wr vo ((L.take k).map trim)
set_option maxRecDepth 100000 in
set_option maxHeartbeats 1000000 in
theorem rows_any (A : Option Addr) (cap : Nat) (L : List (List Int)) (w : World) (hL : PsAt w A L) (hB : ∀ x ∈ L, IsB x) (hm : L.length ≤ 1000) :
    Calls Tryz.prog 36 #[.slice A L.length cap] w fun e w' => ∃ v, e = .returned v ∧ RS 52 Rv w' v (L.map trim) ∧ Ext w w' := by
  have HL := Lib.hid hL
  have HB := Lib.hid hB
  clear hL hB
  go_enter Tryz.func36, Tryz.ntmps36
  go_wp2
  go_loopg [3, 8] L.length (fun f vo i wr => RwsRel L w f vo i wr)
  case atStart => exact ⟨0, none, 0, rfl, rfl, rfl, by rw [List.take_zero]; exact LS.nil (Ext.refl w)⟩
  case round =>
    obtain ⟨k, A1, c1, hf, rfl, rfl, hO⟩ := hrel
    have O := Lib.hid hO
    clear hO
    by_cases hk : k < L.length
    · have t1 : decide ((k : Int) < (L.length : Int)) = true := decide_eq_true (by omega)
      have HLw := Lib.hid (HL.out.below O.out.ext)
      obtain ⟨b, o, rfl, hr⟩ := HLw.out.2.2 (by omega)
      obtain ⟨x, hx⟩ : ∃ x, L[k]? = some x := ⟨L[k], List.getElem?_eq_getElem hk⟩
      have R := Lib.hid (hr k x hx)
      have x64 : x.length = 64 := HLw.out.2.1 x (List.mem_of_getElem? hx)
      have RO := Lib.hid fun W => rowOf_any x x64 (HB.out x (List.mem_of_getElem? hx)) W
      have TK : Hid ((L.take (k + 1)).map trim = (L.take k).map trim ++ [trim x]) := Lib.hid (by rw [List.take_add_one, hx, List.map_append]; rfl)
      have LN : Hid (((L.take k).map trim).length = k) := Lib.hid (by rw [List.length_map, List.length_take]; omega)
      have F := Hp.start wr
      clear hr hx
      go_wp2_with (first | ((with_reducible show wpList _ _ _ _ _ _); apply wplElem; exact rfl; exact rfl; exact R.out; exact rfl; exact x64) | ((with_reducible show wpList _ _ _ _ _ _); first | (apply hpLd F; exact rfl; exact rfl; exact rfl; (· repeat (first | exact Has.head | apply Has.tail))) | (apply hpBox F; exact rfl; exact rfl; exact rfl; (· with_reducible first | exact pad_length _ | exact zeros64_length | exact tab_length _ _ | assumption)) | (apply hpAlloc F; exact rfl; exact rfl) | (apply hpSt F; exact rfl; exact rfl; exact rfl; exact rfl; (· repeat (first | exact Upd.head | apply Upd.tail)); (· with_reducible first | exact pad_length _ | exact zeros64_length | exact tab_length _ _ | assumption))))
      clear F
      intro g5 w5 F
      go_wp2_with (first | ((with_reducible show wpList _ _ _ _ _ _); first | (apply hpLd F; exact rfl; exact rfl; exact rfl; (· repeat (first | exact Has.head | apply Has.tail))) | (apply hpBox F; exact rfl; exact rfl; exact rfl; (· with_reducible first | exact pad_length _ | exact zeros64_length | exact tab_length _ _ | assumption)) | (apply hpAlloc F; exact rfl; exact rfl) | (apply hpSt F; exact rfl; exact rfl; exact rfl; exact rfl; (· repeat (first | exact Upd.head | apply Upd.tail)); (· with_reducible first | exact pad_length _ | exact zeros64_length | exact tab_length _ _ | assumption))))
      clear F
      intro w6 F
      try simp only [List.set_cons_zero, List.set_cons_succ] at F
      go_wp2_with (first | (go_at_call 55; (with_reducible refine (RO.out _).mono ?_); rintro e w2 ⟨A2, c2, rfl, R2, E2⟩; replace F := F.next E2) | ((with_reducible show wpList _ _ _ _ _ _); apply wplAppS; exact rfl; exact rfl; exact Tryz.underlying60; exact infoRow; exact keepRv; decide; exact (O.out.next keepRv F.ext).next keepRv ((Ext.refl _).alloc _); exact LN.out; exact rfl; exact rfl; exact cell_new _ _ _; exact rfl; exact Rv.below ⟨A2, c2, rfl, R2⟩ ((Ext.refl _).alloc _); omega) | ((with_reducible show wpList _ _ _ _ _ _); first | (apply hpLd F; exact rfl; exact rfl; exact rfl; (· repeat (first | exact Has.head | apply Has.tail))) | (apply hpBox F; exact rfl; exact rfl; exact rfl; (· with_reducible first | exact pad_length _ | exact zeros64_length | exact tab_length _ _ | assumption)) | (apply hpAlloc F; exact rfl; exact rfl) | (apply hpSt F; exact rfl; exact rfl; exact rfl; exact rfl; (· repeat (first | exact Upd.head | apply Upd.tail)); (· with_reducible first | exact pad_length _ | exact zeros64_length | exact tab_length _ _ | assumption))))
      intro A3 c3 w3 O3 G3 S3
      clear F
      have O4 := Lib.hid O3
      clear O3 G3 S3
      go_wp2
      go_roundg (gk - 1)
      case measure => omega
      case rel => exact ⟨k + 1, A3, c3, by omega, by go_num, rfl, by rw [TK.out]; simpa only [List.map_take] using O4.out⟩
    · have t1 : decide ((k : Int) < (L.length : Int)) = false := decide_eq_false (by omega)
      have G : Hid (L.take k = L) := Lib.hid (List.take_of_length_le (by omega))
      go_wp2
      go_ret
      refine ⟨_, rfl, ?_, O.out.ext⟩
      have := O.out.rs
      rwa [G.out] at this

def PlsRel (L : List (List Int)) (w : World) (f : Nat) (vo i : Value) (wr : World) : Prop :=
  ∃ (k : Nat) (A : Option Addr) (cap : Nat), f + k = L.length ∧ i = .int .i64 k ∧ vo = .slice A k cap ∧ OwP w wr vo ((L.take k).map pad)
set_option maxRecDepth 100000 in
set_option maxHeartbeats 1000000 in
theorem polys_any (v : Value) (L : List (List Int)) (w : World) (hL : RS 52 Rv w v L) (hB : ∀ x ∈ L, IsB x ∧ x.length ≤ 64) (hm : L.length ≤ 1000) :
    Calls Tryz.prog 37 #[v] w fun e w' => ∃ A cap, e = .returned (.slice A L.length cap) ∧ OwP w w' (.slice A L.length cap) (L.map pad) := by
  obtain ⟨A, cap, rfl, _, hc⟩ := hL
  have HC := Lib.hid hc
  have HB := Lib.hid hB
  clear hc hB
  go_enter Tryz.func37, Tryz.ntmps37
  go_wp2
  go_loopg [3, 8] L.length (fun f vo i wr => PlsRel L w f vo i wr)
  case atStart => exact ⟨0, none, 0, rfl, rfl, rfl, by rw [List.take_zero]; exact OwP.nil (Ext.refl w)⟩
  case round =>
    obtain ⟨k, A1, c1, hf, rfl, rfl, hO⟩ := hrel
    have O := Lib.hid hO
    clear hO
    by_cases hk : k < L.length
    · have t1 : decide ((k : Int) < (L.length : Int)) = true := decide_eq_true (by omega)
      obtain ⟨b, rfl, _, hr⟩ := HC.out (by omega)
      obtain ⟨x, hx⟩ : ∃ x, L[k]? = some x := ⟨L[k], List.getElem?_eq_getElem hk⟩
      obtain ⟨u, hu, A5, c5, rfl, R5⟩ := hr k x hx
      have c1 := cellE hu O.out.ext
      have PO := Lib.hid (poly_any A5 c5 x wr (R5.below O.out.ext) (HB.out x (List.mem_of_getElem? hx)).1 (HB.out x (List.mem_of_getElem? hx)).2)
      have TK : Hid ((L.take (k + 1)).map pad = (L.take k).map pad ++ [pad x]) := Lib.hid (by rw [List.take_add_one, hx, List.map_append]; rfl)
      have LN : Hid (((L.take k).map pad).length = k) := Lib.hid (by rw [List.length_map, List.length_take]; omega)
      clear hr hx hu R5
      go_wp2_with (first | (go_at_call 57; (with_reducible refine PO.out.mono ?_); rintro e w2 ⟨rfl, E2⟩) | ((with_reducible show wpList _ _ _ _ _ _); apply wplOne; exact rfl; exact rfl; exact rfl; exact pad_length _; intro w3 g3 E3 A3 B3) | ((with_reducible show wpList _ _ _ _ _ _); apply wplAppP; exact rfl; exact rfl; exact (O.out.next E2).next E3; exact LN.out; exact rfl; exact rfl; exact A3; exact pad_length _; omega))
      intro A6 c6 w6 O6 G6
      have O7 := Lib.hid O6
      clear O6 G6
      go_wp2
      go_roundg (gk - 1)
      case measure => omega
      case rel => exact ⟨k + 1, A6, c6, by omega, by go_num, rfl, by rw [TK.out]; simpa only [List.map_take] using O7.out⟩
    · have t1 : decide ((k : Int) < (L.length : Int)) = false := decide_eq_false (by omega)
      have G : Hid (k = L.length) := Lib.hid (by omega)
      have O2 := O.out
      have ke := G.out
      subst ke
      go_wp2
      go_ret
      refine ⟨_, _, rfl, ?_⟩
      rwa [List.take_of_length_le (Nat.le_refl _)] at O2

end Go.Proofs.YtaemiknaiccijaaGreat

/- The program's matrix of Frobenius images. -/
namespace Go.Proofs.YtaemiknaiccijaaGreat
open Go.RowKit

def mooreM (p : Int) (m : List Int) (L : List (List Int)) : List (List (List Int)) := (List.range L.length).map fun i => L.map fun a => frobY p m a i
theorem mooreM_length (p : Int) (m : List Int) (L : List (List Int)) : (mooreM p m L).length = L.length := by simp [mooreM]
theorem mooreM_step (p : Int) (m : List Int) (L : List (List Int)) (k : Nat) (h : k < L.length) : (mooreM p m L).take (k + 1) = (mooreM p m L).take k ++ [L.map fun a => frobY p m a k] := by
  rw [List.take_add_one, mooreM, List.getElem?_map, List.getElem?_range h]; rfl
section
variable {ops : Array Oper} {rest : List Oper} {o : Oper} {a : Act} {w : World} {Q : Exit → Act → World → Prop}
theorem wplFld (x : Operand) (ho : o.op = .load 54 x) (hgd : o.guard = none) {g : Nat} {p : Int} {v : Value} (hg : w.heap[g]? = some (.cells #[.int .i64 p, v] 54 (0, 0))) (hx : a.eval x = .pointer (some ⟨g, 0, none⟩))
    (h : wpList Tryz.prog ops Q rest (a.put o.dst (.agg #[.int .i64 p, v])) w) : wpList Tryz.prog ops Q (o :: rest) a w :=
  wpList_load_row hgd _ x ho g hx 54 _ (0, 0) _ hg Tryz.underlying54 rfl (by kernel_rfl) h
end
abbrev RowsV := RS 52 Rv
theorem keepRows : Keep [52, 2] RowsV := keepRS keepRv
def MoRelO (p : Int) (m : List Int) (L : List (List Int)) (w : World) (f : Nat) (vo i : Value) (wr : World) : Prop :=
  ∃ (k : Nat) (A : Option Addr) (cap : Nat), f + k = L.length ∧ i = .int .i64 k ∧ vo = .slice A k cap ∧ LS 60 RowsV w wr vo ((mooreM p m L).take k)
def MoRelI (p : Int) (m : List Int) (L : List (List Int)) (j : Nat) (w : World) (f : Nat) (vo i : Value) (wr : World) : Prop :=
  ∃ (k : Nat) (A : Option Addr) (cap : Nat), f + k = L.length ∧ i = .int .i64 k ∧ vo = .slice A k cap ∧ LS 52 Rv w wr vo ((L.take k).map fun a => frobY p m a j)
set_option maxRecDepth 100000 in
set_option maxHeartbeats 1000000 in
theorem moore_any (p : Int) (M : Option Addr) (cm : Nat) (m : List Int) (v : Value) (L : List (List Int)) (hp : PrimeP p) (hm : Can p m) (m2 : 2 ≤ m.length) (lm : m.length ≤ 64) (w : World) (rm : RowAt w M m) (hL : RowsV w v L) (hC : ∀ a ∈ L, Can p a ∧ a.length < m.length) (hn : L.length ≤ 1000) :
    Calls Tryz.prog 35 #[.agg #[.int .i64 p, .slice M m.length cm], v] w fun e w' => ∃ v', e = .returned v' ∧ RS 60 RowsV w' v' (mooreM p m L) ∧ Ext w w' := by
  obtain ⟨A, cap, rfl, _, hc⟩ := hL
  have HC := Lib.hid hc
  have HN := Lib.hid hC
  have E0 := Lib.hid ((Ext.refl w).alloc (.cells #[.int .i64 p, .slice M m.length cm] 54))
  have H0 := Lib.hid (heap_alloc_new w (.cells #[.int .i64 p, .slice M m.length cm] 54))
  have L0 := Lib.hid (show w.heap.size < (w.alloc (.cells #[.int .i64 p, .slice M m.length cm] 54)).heap.size by simp)
  have FR := Lib.hid fun A a c k h1 h2 h3 W h4 h5 => frobenius_any p M A cm c m a k hp h1 hm m2 lm h2 h3 W h4 h5
  have RM := Lib.hid rm
  have Z0 : Hid ((mooreM p m L).take 0 = []) := Lib.hid (List.take_zero)
  clear hc hC rm
  go_enter Tryz.func35, Tryz.ntmps35
  go_wp2
  go_loopg [5, 12] L.length (fun f vo i wr => MoRelO p m L (w.alloc (.cells #[.int .i64 p, .slice M m.length cm] 54)) f vo i wr)
  case atStart => exact ⟨0, none, 0, rfl, rfl, rfl, by rw [Z0.out]; exact LS.nil (Ext.refl _)⟩
  case round =>
    obtain ⟨k, A1, c1, hf, rfl, rfl, hO⟩ := hrel
    have O := Lib.hid hO
    clear hO
    by_cases hk : k < L.length
    · have t1 : decide ((k : Int) < (L.length : Int)) = true := decide_eq_true (by omega)
      go_wp2
      go_loopg [7, 17] L.length (fun f vo i wr2 => MoRelI p m L k wr f vo i wr2)
      case atStart => exact ⟨0, none, 0, rfl, rfl, rfl, by rw [List.take_zero]; exact LS.nil (Ext.refl _)⟩
      case round =>
        obtain ⟨j, A2, c2, hf2, rfl, rfl, hI⟩ := hrel
        have I := Lib.hid hI
        clear hI
        by_cases hj : j < L.length
        · have t2 : decide ((j : Int) < (L.length : Int)) = true := decide_eq_true (by omega)
          have E := Lib.hid (O.out.ext.tr I.out.ext)
          obtain ⟨b, rfl, _, hr⟩ := HC.out (by omega)
          obtain ⟨x, hx⟩ : ∃ x, L[j]? = some x := ⟨L[j], List.getElem?_eq_getElem hj⟩
          obtain ⟨u, hu, A5, c5, rfl, R5⟩ := hr j x hx
          have c8 := cellE hu (E0.out.tr E.out)
          have FA := Lib.hid (FR.out A5 x c5 k (HN.out x (List.mem_of_getElem? hx)).1 (HN.out x (List.mem_of_getElem? hx)).2 (by omega) wr (RM.out.below (E0.out.tr E.out)) (R5.below (E0.out.tr E.out)))
          have H5 := (E.out.block _ L0.out).trans H0.out
          have TK : Hid ((L.take (j + 1)).map (fun a => frobY p m a k) = (L.take j).map (fun a => frobY p m a k) ++ [frobY p m x k]) := Lib.hid (by rw [List.take_add_one, hx, List.map_append]; rfl)
          have LN : Hid (((L.take j).map (fun a => frobY p m a k)).length = j) := Lib.hid (by rw [List.length_map, List.length_take]; omega)
          have H5' := Lib.hid H5
          clear hr hx hu R5 H5
          go_wp2_with (first | ((with_reducible show wpList _ _ _ _ _ _); apply wplFld; exact rfl; exact rfl; exact H5'.out; exact rfl) | (go_at_call 60; (with_reducible refine FA.out.mono ?_); rintro e w6 ⟨A6, k6, rfl, R6, E6⟩) | ((with_reducible show wpList _ _ _ _ _ _); apply wplAppS; exact rfl; exact rfl; exact Tryz.underlying60; exact infoRow; exact keepRv; decide; exact (I.out.next keepRv E6).next keepRv ((Ext.refl _).alloc _); exact LN.out; exact rfl; exact rfl; exact cell_new _ _ _; exact rfl; exact Rv.below ⟨A6, k6, rfl, R6⟩ ((Ext.refl _).alloc _); omega))
          intro A3 c3 w3 O3 G3 S3
          have O4 := Lib.hid O3
          clear O3 G3 S3
          go_wp2
          go_roundg (gk - 1)
          case measure => omega
          case rel => exact ⟨j + 1, A3, c3, by omega, by go_num, rfl, by rw [TK.out]; simpa only [List.map_take] using O4.out⟩
        · have t2 : decide ((j : Int) < (L.length : Int)) = false := decide_eq_false (by omega)
          have G : Hid (RowsV wr (.slice A2 j c2) (L.map fun a => frobY p m a k)) := Lib.hid (by
            have := I.out.rs
            rwa [List.take_of_length_le (show L.length ≤ j by omega)] at this)
          have EI := I.out.ext
          have ST := Lib.hid (mooreM_step p m L k hk)
          have LN : Hid (((mooreM p m L).take k).length = k) := Lib.hid (by rw [List.length_take, mooreM_length]; omega)
          go_wp2_with (first | ((with_reducible show wpList _ _ _ _ _ _); apply wplAppS; exact rfl; exact rfl; exact Tryz.underlying58; exact infoRows; exact keepRows; decide; exact (O.out.next keepRows EI).next keepRows ((Ext.refl _).alloc _); exact LN.out; exact rfl; exact rfl; exact cell_new _ _ _; exact rfl; exact keepRows _ _ _ _ G.out (Same.ext ((Ext.refl _).alloc _)); omega))
          intro A3 c3 w3 O3 G3 S3
          have O4 := Lib.hid O3
          clear O3 G3 S3
          go_wp2
          go_roundg (L.length - (k + 1))
          case measure => omega
          case rel => exact ⟨k + 1, A3, c3, by omega, by go_num, rfl, by rw [ST.out]; exact O4.out⟩
    · have t1 : decide ((k : Int) < (L.length : Int)) = false := decide_eq_false (by omega)
      have G : Hid ((mooreM p m L).take k = mooreM p m L) := Lib.hid (List.take_of_length_le (by rw [mooreM_length]; omega))
      go_wp2
      go_ret
      refine ⟨_, rfl, ?_, E0.out.tr O.out.ext⟩
      have := O.out.rs
      rwa [G.out] at this

end Go.Proofs.YtaemiknaiccijaaGreat

/- The program's Moore matrix. -/
namespace Go.Proofs.YtaemiknaiccijaaGreat
open Go.RowKit

def matS (p : Int) (l : List Int) (L : List (List Int)) : List (List (List Int)) := if lstC p l L 4 = 0 then (mooreM p (trim l) (L.map trim)).map (·.map pad) else []
theorem lstC_good {p high : Int} {l : List Int} {L : List (List Int)} (hl : l.length = 64) (hb : IsB l) (hL : ∀ x ∈ L, x.length = 64) (hB : ∀ x ∈ L, IsB x) (h : lstC p l L high = 0) :
    PrimeP p ∧ Can p (trim l) ∧ 2 ≤ (trim l).length ∧ (trim l).length ≤ 5 ∧ pad (trim l) = l ∧ (L.length : Int) ≤ high ∧ (∀ a ∈ L.map trim, Can p a ∧ a.length < (trim l).length) ∧ ∀ x ∈ L, pad (trim x) = x := by
  unfold lstC at h
  split at h
  · rename_i h1
    split at h
    · omega
    · rename_i h2
      unfold resC at h1
      split at h1
      · rename_i h3
        rw [Bool.and_eq_true, List.all_eq_true] at h3
        obtain ⟨hp, hc, m2, m5, _, he, _⟩ := fldB_row hl hb h3.1
        have key : ∀ x ∈ L, Can p (trim x) ∧ (trim x).length < (trim l).length ∧ pad (trim x) = x := fun x hx => by
          have := h3.2 x hx
          rw [resB, Bool.and_eq_true, decide_eq_true_eq] at this
          have k := isPB_row (hL x hx) (hB x hx) this.1
          exact ⟨k.2.1, this.2, k.2.2.2⟩
        refine ⟨hp, hc, m2, m5, he, by omega, fun a ha => ?_, fun x hx => (key x hx).2.2⟩
        obtain ⟨x, hx, rfl⟩ := List.mem_map.1 ha
        exact ⟨(key x hx).1, (key x hx).2.1⟩
      · omega
  · omega
/-- A matrix of polynomials that a call has made: each row in a block of its own. -/
def MatO (w0 w : World) (v : Value) (gs : List Nat) (Mx : List (List (List Int))) : Prop :=
  LS 29 Pv w0 w v (gs.zip Mx) ∧ gs.length = Mx.length ∧ gs.Nodup ∧ ∀ g ∈ gs, w0.heap.size ≤ g ∧ g < w.heap.size
def GivesMat (Mx : List (List (List Int))) (c : Int) (w : World) (e : Ending) (w' : World) : Prop :=
  ∃ v gs, e = .returned (.tuple #[v, .int .i64 c]) ∧ MatO w w' v gs Mx
theorem MatO.nil {w0 w : World} (h : Ext w0 w) : MatO w0 w (.slice none 0 0) [] [] := ⟨LS.nil h, rfl, by simp, by simp⟩
def MxRel (Mx : List (List (List Int))) (w : World) (f : Nat) (vo i : Value) (wr : World) : Prop :=
  ∃ (k : Nat) (A : Option Addr) (cap : Nat) (gs : List Nat), f + k = Mx.length ∧ i = .int .i64 k ∧ vo = .slice A k cap ∧ MatO w wr vo gs (Mx.take k)
set_option maxRecDepth 100000 in
set_option maxHeartbeats 1000000 in
theorem mooreMatrix_any (p : Int) (l : List Int) (A : Option Addr) (cap : Nat) (L : List (List Int)) (hl : l.length = 64) (hb : IsB l) (w : World) (hL : PsAt w A L) (hB : ∀ x ∈ L, IsB x) :
    Calls Tryz.prog 15 #[.int .i64 p, .agg (u8s l), .slice A L.length cap] w (GivesMat (matS p l L) (lstC p l L 4) w) := by
  have LC := Lib.hid fun W h => listCode_any p 4 l A cap L hl hb W h hB
  have HL := Lib.hid hL
  have F := Hp.start w
  by_cases h0 : lstC p l L 4 = 0
  · obtain ⟨hp, hc, m2, m5, he, n4, hC, _⟩ := lstC_good hl hb hL.2.1 hB h0
    have FO := Lib.hid fun W => fieldOf_any p l hl hb W
    have RW := Lib.hid fun W h => rows_any A cap L W h hB (by omega)
    have MO := Lib.hid fun M cm v W h1 h2 => moore_any p M cm (trim l) v (L.map trim) hp hc m2 (by omega) W h1 h2 hC (by rw [List.length_map]; omega)
    obtain ⟨Ms, hMs⟩ : ∃ Ms, Ms = mooreM p (trim l) (L.map trim) := ⟨_, rfl⟩
    have ML : Hid (Ms.length = L.length) := Lib.hid (by rw [hMs, mooreM_length, List.length_map])
    have M4 : Ms.length ≤ 4 := by have := ML.out; omega
    have MR : Hid (∀ r ∈ Ms, r.length = L.length ∧ ∀ x ∈ r, IsB x ∧ x.length ≤ 64) := Lib.hid fun r hr => by
      rw [hMs, mooreM] at hr
      obtain ⟨i, _, rfl⟩ := List.mem_map.1 hr
      refine ⟨by simp, fun x hx => ?_⟩
      obtain ⟨a, ha, rfl⟩ := List.mem_map.1 hx
      have := frobX_spec hp hc (by omega) (i % ((trim l).length - 1)) a (hC a ha).1 (hC a ha).2
      exact ⟨this.1.inp.b (by have := hp.hi; omega), by have := this.2; unfold frobY; omega⟩
    have G : Hid (matS p l L = Ms.map (·.map pad)) := Lib.hid (by rw [matS, if_pos h0, hMs])
    rw [← hMs] at MO
    rw [h0] at LC ⊢
    rw [G.out]
    clear hb hB hL h0 hC he hc hMs hp
    go_enter Tryz.func15, Tryz.ntmps15
    go_wp2_with (first | ((with_reducible show wpList _ _ _ _ _ _); first | (apply hpLd F; exact rfl; exact rfl; exact rfl; (· repeat (first | exact Has.head | apply Has.tail))) | (apply hpBox F; exact rfl; exact rfl; exact rfl; (· with_reducible first | exact pad_length _ | exact zeros64_length | exact tab_length _ _ | assumption)) | (apply hpAlloc F; exact rfl; exact rfl) | (apply hpSt F; exact rfl; exact rfl; exact rfl; exact rfl; (· repeat (first | exact Upd.head | apply Upd.tail)); (· with_reducible first | exact pad_length _ | exact zeros64_length | exact tab_length _ _ | assumption))))
    clear F
    intro ga w1 F
    go_wp2_with (first | (go_at_call 31; (with_reducible refine (LC.out _ (HL.out.below F.ext)).mono ?_); rintro e w2 ⟨rfl, E2⟩; replace F := F.next E2) | (go_at_call 32; (with_reducible refine (FO.out _).mono ?_); rintro e w3 ⟨M3, c3, rfl, R3, E3⟩; replace F := F.next E3) | (go_at_call 36; (with_reducible refine (RW.out _ (HL.out.below F.ext)).mono ?_); rintro e w4 ⟨v4, rfl, R4, E4⟩; replace F := F.next E4) | (go_at_call 35; (with_reducible refine (MO.out _ _ _ _ (R3.below E4) R4).mono ?_); rintro e w5 ⟨v5, rfl, ⟨A5, c5, rfl, m5, R5⟩, E5⟩; replace F := F.next E5) | ((with_reducible show wpList _ _ _ _ _ _); first | (apply hpLd F; exact rfl; exact rfl; exact rfl; (· repeat (first | exact Has.head | apply Has.tail))) | (apply hpBox F; exact rfl; exact rfl; exact rfl; (· with_reducible first | exact pad_length _ | exact zeros64_length | exact tab_length _ _ | assumption)) | (apply hpAlloc F; exact rfl; exact rfl) | (apply hpSt F; exact rfl; exact rfl; exact rfl; exact rfl; (· repeat (first | exact Upd.head | apply Upd.tail)); (· with_reducible first | exact pad_length _ | exact zeros64_length | exact tab_length _ _ | assumption))))
    have EF := Lib.hid F.ext
    have HC := Lib.hid R5
    clear F R3 R4 R5 E2 E3 E4 E5
    go_loopg [9, 26] Ms.length (fun f vo i wr => MxRel (Ms.map (·.map pad)) w5 f vo i wr)
    case atStart => exact ⟨0, none, 0, [], by rw [List.length_map]; rfl, rfl, rfl, by rw [List.take_zero]; exact MatO.nil (Ext.refl _)⟩
    case round =>
      obtain ⟨k, A1, c1, gs, hf, rfl, rfl, hO⟩ := hrel
      rw [List.length_map] at hf
      have O := Lib.hid hO
      have E := Lib.hid hO.1.ext
      clear hO
      by_cases hk : k < Ms.length
      · have t1 : decide ((k : Int) < (Ms.length : Int)) = true := decide_eq_true (by omega)
        obtain ⟨b, rfl, _, hr⟩ := HC.out (by omega)
        obtain ⟨x, hx⟩ : ∃ x, Ms[k]? = some x := ⟨Ms[k], List.getElem?_eq_getElem hk⟩
        obtain ⟨u, hu, Rx⟩ := hr k x hx
        have XR := MR.out x (List.mem_of_getElem? hx)
        have RX := keepRows _ _ _ _ Rx (Same.ext E.out)
        have PO := Lib.hid (polys_any u x wr RX XR.2 (by omega))
        have c8 := cellE hu E.out
        have TK : Hid ((Ms.map (·.map pad)).take (k + 1) = (Ms.map (·.map pad)).take k ++ [x.map pad]) := Lib.hid (by rw [List.take_add_one, List.getElem?_map, hx]; rfl)
        have LG : Hid (gs.length = k) := Lib.hid (by rw [O.out.2.1, List.length_take, List.length_map]; omega)
        have LN : Hid ((gs.zip ((Ms.map (·.map pad)).take k)).length = k) := Lib.hid (by rw [List.length_zip, LG.out, List.length_take, List.length_map]; omega)
        have x4 : x.length ≤ 4 := by have := XR.1; omega
        have x0 : 0 < x.length := by have := XR.1; have := ML.out; omega
        have RX' := Lib.hid RX
        obtain ⟨A9, c9, rfl, _⟩ := RX
        clear hr hx hu Rx XR
        go_wp2_with (first | (go_at_call 37; (with_reducible refine PO.out.mono ?_); rintro e w6 ⟨A6, c6, rfl, O6⟩; have E6 := O6.ext; obtain ⟨A7, c7, e7, _, B7⟩ := O6.out; simp only [List.length_map, Value.slice.injEq, true_and] at e7; obtain ⟨rfl, rfl⟩ := e7; obtain ⟨g, rfl, hg, B⟩ := B7 (by rw [List.length_map]; omega); have PV : Pv w6 (.slice (some ⟨g, 0, none⟩) x.length c6) (g, x.map pad) := ⟨c6, by simp only [List.length_map], by simp only [List.length_map]; omega, B⟩) | ((with_reducible show wpList _ _ _ _ _ _); apply wplAppS; exact rfl; exact rfl; exact Tryz.underlying34; exact infoPolys; exact keepPv; decide; exact (O.out.1.next keepPv E6).next keepPv ((Ext.refl _).alloc _); exact LN.out; exact rfl; exact rfl; exact cell_new _ _ _; exact rfl; exact keepPv _ _ _ _ PV (Same.ext ((Ext.refl _).alloc _)); omega))
        intro A3 c3 w3 O3 G3 S3
        have O4 := Lib.hid O3
        clear O3 S3
        go_wp2
        go_roundg (gk - 1)
        case measure => omega
        case rel =>
          refine ⟨k + 1, A3, c3, gs ++ [g], by rw [List.length_map]; omega, by go_num, rfl, ?_, ?_, ?_, ?_⟩
          · rw [TK.out, List.zip_append (by rw [LG.out, List.length_take, List.length_map]; omega)]
            exact O4.out
          · rw [TK.out, List.length_append, List.length_append, O.out.2.1]; rfl
          · rw [List.nodup_append]
            refine ⟨O.out.2.2.1, by simp, fun a ha b hb => ?_⟩
            rw [List.mem_singleton.1 hb]
            have := (O.out.2.2.2 a ha).2
            omega
          · intro a ha
            have gl := B.lt
            have sz := G3.size
            have s6 := E6.size
            have sa := ((Ext.refl w6).alloc (.cells #[.slice (some ⟨g, 0, none⟩) x.length c6] 29)).size
            rcases List.mem_append.1 ha with ha | ha
            · have := O.out.2.2.2 a ha
              omega
            · rw [List.mem_singleton.1 ha]
              have := O.out.1.ext.size
              omega
      · have t1 : decide ((k : Int) < (Ms.length : Int)) = false := decide_eq_false (by omega)
        have G : Hid ((Ms.map (·.map pad)).take k = Ms.map (·.map pad)) := Lib.hid (List.take_of_length_le (by rw [List.length_map]; omega))
        have O2 := O.out
        rw [G.out] at O2
        go_wp2
        go_ret2
        exact ⟨_, gs, rfl, O2.1.weak EF.out, O2.2.1, O2.2.2.1, fun g hg => ⟨Nat.le_trans EF.out.size (O2.2.2.2 g hg).1, (O2.2.2.2 g hg).2⟩⟩
  · have t1 : decide (lstC p l L 4 = 0) = false := decide_eq_false h0
    have G : Hid (matS p l L = []) := Lib.hid (by rw [matS, if_neg h0])
    rw [G.out]
    clear hb hB hL
    generalize lstC p l L 4 = c at *
    go_enter Tryz.func15, Tryz.ntmps15
    go_wp2_with (first | ((with_reducible show wpList _ _ _ _ _ _); first | (apply hpLd F; exact rfl; exact rfl; exact rfl; (· repeat (first | exact Has.head | apply Has.tail))) | (apply hpBox F; exact rfl; exact rfl; exact rfl; (· with_reducible first | exact pad_length _ | exact zeros64_length | exact tab_length _ _ | assumption)) | (apply hpAlloc F; exact rfl; exact rfl) | (apply hpSt F; exact rfl; exact rfl; exact rfl; exact rfl; (· repeat (first | exact Upd.head | apply Upd.tail)); (· with_reducible first | exact pad_length _ | exact zeros64_length | exact tab_length _ _ | assumption))))
    clear F
    intro ga w1 F
    go_wp2_with (first | (go_at_call 31; (with_reducible refine (LC.out _ (HL.out.below F.ext)).mono ?_); rintro e w2 ⟨rfl, E2⟩; replace F := F.next E2) | ((with_reducible show wpList _ _ _ _ _ _); first | (apply hpLd F; exact rfl; exact rfl; exact rfl; (· repeat (first | exact Has.head | apply Has.tail))) | (apply hpBox F; exact rfl; exact rfl; exact rfl; (· with_reducible first | exact pad_length _ | exact zeros64_length | exact tab_length _ _ | assumption)) | (apply hpAlloc F; exact rfl; exact rfl) | (apply hpSt F; exact rfl; exact rfl; exact rfl; exact rfl; (· repeat (first | exact Upd.head | apply Upd.tail)); (· with_reducible first | exact pad_length _ | exact zeros64_length | exact tab_length _ _ | assumption))))
    go_ret2
    exact ⟨_, [], rfl, MatO.nil F.ext⟩

end Go.Proofs.YtaemiknaiccijaaGreat
