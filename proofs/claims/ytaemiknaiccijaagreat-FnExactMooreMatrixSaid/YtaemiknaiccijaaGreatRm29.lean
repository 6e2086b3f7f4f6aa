/- Lemmas and contracts of functions, for the laws: The reference's Moore matrix. -/
import Derived.Test.YtaemiknaiccijaaGreatRm28
set_option linter.unusedVariables false
set_option linter.unusedSimpArgs false
namespace Go.Proofs.YtaemiknaiccijaaGreat
open Go.RowKit

theorem run_buildSlice0 {P : Program} (w : World) (t e : TypeId) (hu : P.underlying t = some (.slice e)) (ie : TypeInfo) (hie : P.info? e = some ie) :
    (Instr.buildSlice t 0 #[]).run P w = .ok (.slice (some ⟨w.heap.size, 0, none⟩) 0 0) (w.alloc (.cells #[] e)) := by
  simp [Instr.buildSlice, run_underlying hu, sizeOf, typeInfo, hie, Instr.fill, newRow]
  rw [show Array.range 0 = #[] by decide]; simp
theorem OwV.made {e : TypeId} {s : Nat} {w0 w : World} (h : Ext w0 w) : OwV e s w0 (w.alloc (.cells #[] e)) (.slice (some ⟨w.heap.size, 0, none⟩) 0 0) 0 [] :=
  ⟨h.alloc _, ⟨by simp, .inr ⟨_, 0, #[], rfl, h.size, heap_alloc_new w _, Nat.le_refl _, by simp [maxLen], by simp, by simp⟩⟩, by simp⟩
theorem LS.made {α : Type} {e : TypeId} {R : World → Value → α → Prop} {w0 w : World} (h : Ext w0 w) : LS e R w0 (w.alloc (.cells #[] e)) (.slice (some ⟨w.heap.size, 0, none⟩) 0 0) ([] : List α) := ⟨[], OwV.made h, rfl, fun j u x h => by simp at h⟩
theorem OwP.made {w0 w : World} (h : Ext w0 w) : OwP w0 (w.alloc (.cells #[] 25)) (.slice (some ⟨w.heap.size, 0, none⟩) 0 0) [] := ⟨OwV.made h, by simp⟩
section
variable {ops : Array Oper} {rest : List Oper} {o : Oper} {a : Act} {w : World} {Q : Exit → Act → World → Prop}
theorem wplNone {ty e : TypeId} {sz by_ : Nat} {z : Value} (ho : o.op = .buildSlice ty 0 #[]) (hgd : o.guard = none) (ht : Tryz.prog.underlying ty = some (.slice e)) (hi : (Tryz.prog.info? e).map (fun i => (i.zero, i.size, i.bytes)) = some (some z, sz, by_))
    (h : wpList Tryz.prog ops Q rest (a.put o.dst (.slice (some ⟨w.heap.size, 0, none⟩) 0 0)) (w.alloc (.cells #[] e))) : wpList Tryz.prog ops Q (o :: rest) a w :=
  wpList_plain hgd fun K hK => by
    obtain ⟨i, h1, h2, h3, h4⟩ := info_parts hi
    unfold Oper.wp execOp
    simp only [ho, Sem.run_bind, List.map_toArray, List.map_nil, run_buildSlice0 w ty e ht i h1, Result.andThen_ok]
    exact hK _ _ h
theorem wp_one {K : Act → World → Prop} (x : Operand) (ho : o.op = .buildSlice 29 1 #[(0, x)]) {l : List Int} (hx : a.eval x = .agg (u8s l)) (hl : l.length = 64)
    (h : K (a.put o.dst (.slice (some ⟨w.heap.size, 0, none⟩) 1 1)) (w.alloc (.cells (u8s l) 25))) : o.wp Tryz.prog a w K Q := by
  have hf : Tryz.prog.builtSlice 25 1 ((#[(0, x)] : Array (Nat × Operand)).map fun (i, x) => (i, a.eval x)).toList = some (u8s l) := by
    have e : ((#[(0, x)] : Array (Nat × Operand)).map fun (i, x) => (i, a.eval x)).toList = [(0, .agg (u8s l))] := by simp [hx]
    rw [e]; exact built_one l hl
  unfold Program.builtSlice at hf
  cases hie : Tryz.prog.info? 25 with
  | none => simp [hie] at hf
  | some ie =>
    simp only [hie] at hf
    cases hz : ie.zero with
    | none => simp [hz] at hf
    | some z =>
      simp only [hz] at hf
      by_cases hc : 1 * ie.size > 2 ^ 24 ∨ 1 * ie.size = 0
      · rw [if_pos hc] at hf; cases hf
      · rw [if_neg hc] at hf
        exact wp_buildSlice 29 25 1 _ ho (u8s l) ie z Tryz.underlying29 hie hz (fun h' => hc (Or.inl h')) (fun h' => hc (Or.inr h')) hf h
end
def isOneP (l : List Int) : Value → World → Prop := fun v w => ∃ g, v = .slice (some ⟨g, 0, none⟩) 1 1 ∧ Arr w g 25 l
theorem mono_OneP (l : List Int) : Mono (isOneP l) := fun _ _ _ ⟨g, h1, h2⟩ hE => ⟨g, h1, h2.ext hE⟩
/-- Some block holds this row. -/
def Pe (w : World) (v : Value) (x : List (List Int)) : Prop := ∃ g, Pv w v (g, x)
theorem keepPe : Keep [25] Pe := fun w w' v _ ⟨g, h⟩ hs => ⟨g, keepPv w w' v _ h hs⟩
abbrev PolysV := RS 29 Pe


def RmRelO (p : Int) (m : List Int) (As : List (List Int)) (w : World) (f : Nat) (vo i : Value) (wr : World) : Prop :=
  ∃ (k : Nat) (A : Option Addr) (cap : Nat), f + k = As.length ∧ i = .int .i64 k ∧ vo = .slice A k cap ∧ LS 29 Pe w wr vo (((mooreM p m As).map (·.map pad)).take k)
def RmRelI (p : Int) (m : List Int) (As : List (List Int)) (j : Nat) (w : World) (f : Nat) (vo i : Value) (wr : World) : Prop :=
  ∃ (k : Nat) (A : Option Addr) (cap : Nat), f + k = As.length ∧ i = .int .i64 k ∧ vo = .slice A k cap ∧ OwP w wr vo ((As.take k).map fun a => pad (frobY p m a j))
theorem OwP.pe {w0 w : World} {A : Option Addr} {cap n : Nat} {L : List (List Int)} (h : OwP w0 w (.slice A n cap) L) (hn : 0 < L.length) (e : n = L.length) : Pe w (.slice A n cap) L := by
  obtain ⟨A', c', e1, hm, hg⟩ := h.out
  obtain ⟨g, rfl, _, hB⟩ := hg hn
  subst e
  simp only [Value.slice.injEq, true_and] at e1
  obtain ⟨rfl, rfl⟩ := e1
  exact ⟨g, cap, rfl, hm, hB⟩
set_option maxRecDepth 100000 in
set_option maxHeartbeats 1000000 in
theorem l09Moore_any (p : Int) (m : List Int) (A : Option Addr) (cap : Nat) (As : List (List Int)) (hp : PrimeP p) (hm : Can p m) (m2 : 2 ≤ m.length) (lm : m.length ≤ 64) (w : World) (hL : PsAt w A (As.map pad)) (hC : ∀ a ∈ As, Can p a ∧ a.length < m.length) (hn : As.length ≤ 1000) :
    Calls Tryz.prog 30 #[.int .i64 p, .agg (u8s (pad m)), .slice A As.length cap] w fun e w' => ∃ v', e = .returned v' ∧ PolysV w' v' ((mooreM p m As).map (·.map pad)) ∧ Ext w w' := by
  have HL := Lib.hid hL
  have HN := Lib.hid hC
  have FR := Lib.hid fun a k h1 h2 h3 W => l03Frobenius_any p a m k hp h1 hm m2 lm h2 h3 W
  have Z0 : Hid (((mooreM p m As).map (·.map pad)).take 0 = []) := Lib.hid (List.take_zero)
  have F := Hp.start w
  clear hL hC
  go_enter Tryz.func30, Tryz.ntmps30
  go_wp2_with (first | ((with_reducible show wpList _ _ _ _ _ _); first | (apply hpLd F; exact rfl; exact rfl; exact rfl; (· repeat (first | exact Has.head | apply Has.tail))) | (apply hpBox F; exact rfl; exact rfl; exact rfl; (· with_reducible first | exact pad_length _ | exact zeros64_length | exact tab_length _ _ | assumption)) | (apply hpAlloc F; exact rfl; exact rfl) | (apply hpSt F; exact rfl; exact rfl; exact rfl; exact rfl; (· repeat (first | exact Upd.head | apply Upd.tail)); (· with_reducible first | exact pad_length _ | exact zeros64_length | exact tab_length _ _ | assumption))))
  clear F
  intro ga w1 F
  have E0 := Lib.hid F.ext
  have FA := Lib.hid (F.at_ 0 rfl)
  clear F
  go_wp2_with (first | ((with_reducible show wpList _ _ _ _ _ _); apply wplNone; exact rfl; exact rfl; exact Tryz.underlying34; exact infoPolys))
  go_loopg [7, 8] As.length (fun f vo i wr => RmRelO p m As w1 f vo i wr)
  case atStart => exact ⟨0, _, 0, rfl, rfl, rfl, by rw [Z0.out]; exact LS.made (Ext.refl _)⟩
  case round =>
    obtain ⟨k, A1, c1, hf, rfl, rfl, hO⟩ := hrel
    have O := Lib.hid hO
    clear hO
    by_cases hk : k < As.length
    · have t1 : decide ((k : Int) < (As.length : Int)) = true := decide_eq_true (by omega)
      go_wp2_with (first | ((with_reducible show wpList _ _ _ _ _ _); apply wplNone; exact rfl; exact rfl; exact Tryz.underlying29; exact infoPolyA))
      go_loopg [9, 10] As.length (fun f vo i wr2 => RmRelI p m As k wr f vo i wr2)
      case atStart => exact ⟨0, _, 0, rfl, rfl, rfl, by rw [List.take_zero]; exact OwP.made (Ext.refl _)⟩
      case round =>
        obtain ⟨j, A2, c2, hf2, rfl, rfl, hI⟩ := hrel
        have I := Lib.hid hI
        clear hI
        have E := Lib.hid (O.out.ext.tr I.out.ext)
        by_cases hj : j < As.length
        · have t2 : decide ((j : Int) < (As.length : Int)) = true := decide_eq_true (by omega)
          have i1 : j < As.length := hj
          have i2 : (j : Int) < (As.length : Int) := by omega
          obtain ⟨b, o, rfl, hr⟩ := HL.out.2.2 (by rw [List.length_map]; omega)
          obtain ⟨x, hx⟩ : ∃ x, As[j]? = some x := ⟨As[j], List.getElem?_eq_getElem hj⟩
          have R := Lib.hid (range_below (hr j (pad x) (by rw [List.getElem?_map, hx]; rfl)) (E0.out.tr E.out))
          have FX := Lib.hid (FR.out x k (HN.out x (List.mem_of_getElem? hx)).1 (HN.out x (List.mem_of_getElem? hx)).2 (by omega))
          have TK : Hid ((As.take (j + 1)).map (fun a => pad (frobY p m a k)) = (As.take j).map (fun a => pad (frobY p m a k)) ++ [pad (frobY p m x k)]) := Lib.hid (by rw [List.take_add_one, hx, List.map_append]; rfl)
          have LN : Hid (((As.take j).map (fun a => pad (frobY p m a k))).length = j) := Lib.hid (by rw [List.length_map, List.length_take]; omega)
          have LX : Hid ((u8s (pad x)).toList.length = 64) := Lib.hid (by rw [u8s_toList, List.length_map, pad_length])
          clear hr hx
          go_wp2
          refine region_ext 10 (by kernel_rfl) (by kernel_rfl) (by kernel_rfl) [] [eqv (.slice A2 j c2), eqv (.int .i64 p), eqv (.slice (some ⟨b, o, none⟩) As.length cap), eqv (.int .i64 (j : Int)), eqv (.pointer (some ⟨b, o + j * 64, none⟩)), eqv (.agg (u8s (pad x))), eqv (.int .i64 (k : Int)), eqv (.agg (u8s (pad m))), eqv (.agg (u8s (pad (frobY p m x k)))), isOneP (pad (frobY p m x k))]
            ⟨mono_eqv _, mono_eqv _, mono_eqv _, mono_eqv _, mono_eqv _, mono_eqv _, mono_eqv _, mono_eqv _, mono_eqv _, mono_OneP _, trivial⟩ (fun vals => ?_) (fun vals w9 hE9 hS9 hN9 => ?_)
          · simp only [List.take_succ_cons, List.take_zero]
            refine ⟨fun w8 hE8 hk => doesK_plain rfl fun K hK => ?_, ?_⟩
            · go_simp
              (try go_bits)
              exact hK _ _ rfl (Ext.refl _) rfl
            simp only [Act.put, List.setIfInBounds_toArray, List.set_cons_zero, List.set_cons_succ]
            refine ⟨fun w8 hE8 hk => doesK_plain rfl fun K hK => ?_, ?_⟩
            · go_simp
              (try go_bits)
              exact hK _ _ rfl (Ext.refl _) rfl
            simp only [Act.put, List.setIfInBounds_toArray, List.set_cons_zero, List.set_cons_succ]
            refine ⟨fun w8 hE8 hk => doesK_plain rfl fun K hK => ?_, ?_⟩
            · go_simp
              (try go_bits)
              exact hK _ _ rfl (Ext.refl _) rfl
            simp only [Act.put, List.setIfInBounds_toArray, List.set_cons_zero, List.set_cons_succ]
            refine ⟨fun w8 hE8 hk => doesK_plain rfl fun K hK => ?_, ?_⟩
            · go_simp
              (try go_bits)
              exact hK _ _ rfl (Ext.refl _) rfl
            simp only [Act.put, List.setIfInBounds_toArray, List.set_cons_zero, List.set_cons_succ]
            refine ⟨fun w8 hE8 hk => doesK_plain rfl fun K hK => ?_, ?_⟩
            · have k2 : vals 2 = .slice (some ⟨b, o, none⟩) As.length cap := hk 2 (by decide) (by kernel_rfl)
              have k3 : vals 3 = .int .i64 (j : Int) := hk 3 (by decide) (by kernel_rfl)
              go_simp
              (try go_bits)
              exact hK _ _ rfl (Ext.refl _) rfl
            simp only [Act.put, List.setIfInBounds_toArray, List.set_cons_zero, List.set_cons_succ]
            refine ⟨fun w8 hE8 hk => doesK_plain rfl fun K hK => ?_, ?_⟩
            · have k4 : vals 4 = .pointer (some ⟨b, o + j * 64, none⟩) := hk 4 (by decide) (by kernel_rfl)
              exact wp_load_mid _ _ rfl b (o + j * 64) k4 _ _ (range_below R.out hE8) Tryz.underlying25 rfl (by rw [infoPoly, LX.out]) (hK _ _ rfl (Ext.refl _) rfl)
            simp only [Act.put, List.setIfInBounds_toArray, List.set_cons_zero, List.set_cons_succ]
            refine ⟨fun w8 hE8 hk => doesK_plain rfl fun K hK => ?_, ?_⟩
            · go_simp
              (try go_bits)
              exact hK _ _ rfl (Ext.refl _) rfl
            simp only [Act.put, List.setIfInBounds_toArray, List.set_cons_zero, List.set_cons_succ]
            refine ⟨fun w8 hE8 hk => doesK_plain rfl fun K hK => ?_, ?_⟩
            · exact wp_load_row _ _ rfl _ (by first | rfl | simp [*]) _ _ (0, 0) _ ((FA.out.ext E.out).ext hE8) Tryz.underlying25 rfl (by rw [infoPoly, u8s_size, pad_length _]) (hK _ _ rfl (Ext.refl _) rfl)
            simp only [Act.put, List.setIfInBounds_toArray, List.set_cons_zero, List.set_cons_succ]
            refine ⟨fun w8 hE8 hk => doesK_plain rfl fun K hK => ?_, ?_⟩
            · have k1 : vals 1 = .int .i64 p := hk 1 (by decide) (by kernel_rfl)
              have k5 : vals 5 = .agg (u8s (pad x)) := hk 5 (by decide) (by kernel_rfl)
              have k6 : vals 6 = .int .i64 (k : Int) := hk 6 (by decide) (by kernel_rfl)
              have k7 : vals 7 = .agg (u8s (pad m)) := hk 7 (by decide) (by kernel_rfl)
              go_simp
              refine (FX.out _).mono ?_
              rintro e7 w7 ⟨rfl, hE7⟩
              exact hK _ _ rfl hE7 rfl
            simp only [Act.put, List.setIfInBounds_toArray, List.set_cons_zero, List.set_cons_succ]
            refine ⟨fun w8 hE8 hk => doesK_plain rfl fun K hK => ?_, ?_⟩
            · have k8 : vals 8 = .agg (u8s (pad (frobY p m x k))) := hk 8 (by decide) (by kernel_rfl)
              exact wp_one _ rfl k8 (pad_length _) (hK _ _ ⟨_, rfl, Arr.new _ _ _⟩ ((Ext.refl _).alloc _) rfl)
            exact trivial
          simp only [List.take_succ_cons, List.take_zero, List.drop_succ_cons, List.drop_zero, preAct, Nat.reduceAdd, Act.put, List.setIfInBounds_toArray, List.set_cons_zero, List.set_cons_succ]
          have k0 : vals 0 = .slice A2 j c2 := hS9 0 (by decide) 
          have k1 : vals 1 = .int .i64 p := hS9 1 (by decide) 
          have k2 : vals 2 = .slice (some ⟨b, o, none⟩) As.length cap := hS9 2 (by decide) 
          have k3 : vals 3 = .int .i64 (j : Int) := hS9 3 (by decide) 
          have k4 : vals 4 = .pointer (some ⟨b, o + j * 64, none⟩) := hS9 4 (by decide) 
          have k5 : vals 5 = .agg (u8s (pad x)) := hS9 5 (by decide) 
          have k6 : vals 6 = .int .i64 (k : Int) := hS9 6 (by decide) 
          have k7 : vals 7 = .agg (u8s (pad m)) := hS9 7 (by decide) 
          have k8 : vals 8 = .agg (u8s (pad (frobY p m x k))) := hS9 8 (by decide) 
          have k9 : (isOneP (pad (frobY p m x k))) (vals 9) _ := hS9 9 (by decide) 
          simp only [k0, k1, k2, k3, k4, k5, k6, k7, k8]
          clear hN9 hS9 k0 k1 k2 k3 k4 k5 k6 k7 k8
          obtain ⟨g9, q9, a9⟩ := k9
          simp only [q9]
          have A9 := Lib.hid a9
          clear q9 a9
          go_wp2_with (first | ((with_reducible show wpList _ _ _ _ _ _); apply wplAppP; exact rfl; exact rfl; exact I.out.next hE9; exact LN.out; exact rfl; exact rfl; exact A9.out; exact pad_length _; omega))
          intro A6 c6 w6 O6 G6
          have O7 := Lib.hid O6
          clear O6 G6
          go_wp2
          go_roundg (gk - 1)
          case measure => omega
          case rel => exact ⟨j + 1, A6, c6, by omega, by go_num, rfl, by rw [TK.out]; simpa only [List.map_take] using O7.out⟩
        · have t2 : decide ((j : Int) < (As.length : Int)) = false := decide_eq_false (by omega)
          have G : Hid ((As.take j).map (fun a => pad (frobY p m a k)) = As.map fun a => pad (frobY p m a k)) := Lib.hid (by rw [List.take_of_length_le (by omega)])
          have PE : Hid (Pe wr (.slice A2 j c2) (As.map fun a => pad (frobY p m a k))) := Lib.hid (by
            have := I.out
            rw [G.out] at this
            exact this.pe (by rw [List.length_map]; omega) (by rw [List.length_map]; omega))
          have EI := I.out.ext
          have ST : Hid (((mooreM p m As).map (·.map pad)).take (k + 1) = ((mooreM p m As).map (·.map pad)).take k ++ [As.map fun a => pad (frobY p m a k)]) := Lib.hid (by
            rw [← List.map_take, mooreM_step p m As k hk, List.map_append, List.map_take]; simp)
          have LN : Hid ((((mooreM p m As).map (·.map pad)).take k).length = k) := Lib.hid (by rw [List.length_take, List.length_map, mooreM_length]; omega)
          go_wp2_with (first | ((with_reducible show wpList _ _ _ _ _ _); apply wplAppS; exact rfl; exact rfl; exact Tryz.underlying34; exact infoPolys; exact keepPe; decide; exact (O.out.next keepPe EI).next keepPe ((Ext.refl _).alloc _); exact LN.out; exact rfl; exact rfl; exact cell_new _ _ _; exact rfl; exact keepPe _ _ _ _ PE.out (Same.ext ((Ext.refl _).alloc _)); omega))
          intro A3 c3 w3 O3 G3 S3
          have O4 := Lib.hid O3
          clear O3 G3 S3
          go_wp2
          go_roundg (As.length - (k + 1))
          case measure => omega
          case rel => exact ⟨k + 1, A3, c3, by omega, by go_num, rfl, by rw [ST.out]; exact O4.out⟩
    · have t1 : decide ((k : Int) < (As.length : Int)) = false := decide_eq_false (by omega)
      have G : Hid (((mooreM p m As).map (·.map pad)).take k = (mooreM p m As).map (·.map pad)) := Lib.hid (List.take_of_length_le (by rw [List.length_map, mooreM_length]; omega))
      go_wp2
      go_ret
      refine ⟨_, rfl, ?_, E0.out.tr O.out.ext⟩
      have := O.out.rs
      rwa [G.out] at this

end Go.Proofs.YtaemiknaiccijaaGreat

/- The reference's Moore matrix, with its check. -/
namespace Go.Proofs.YtaemiknaiccijaaGreat
open Go.RowKit

def GivesPolys (Mx : List (List (List Int))) (c : Int) (w : World) (e : Ending) (w' : World) : Prop :=
  ∃ v, e = .returned (.tuple #[v, .int .i64 c]) ∧ PolysV w' v Mx ∧ Ext w w'
set_option maxRecDepth 100000 in
set_option maxHeartbeats 1000000 in
theorem MooreMatrix_any (p : Int) (l : List Int) (A : Option Addr) (cap : Nat) (L : List (List Int)) (hl : l.length = 64) (hb : IsB l) (w : World) (hL : PsAt w A L) (hB : ∀ x ∈ L, IsB x) :
    Calls Tryz.prog 14 #[.int .i64 p, .agg (u8s l), .slice A L.length cap] w (GivesPolys (matS p l L) (lstC p l L 4) w) := by
  have LC := Lib.hid fun W h => l09Listed_any p 4 l A cap L hl hb W h hB
  have HL := Lib.hid hL
  have F := Hp.start w
  by_cases h0 : lstC p l L 4 = 0
  · obtain ⟨hp, hc, m2, m5, he, n4, hC, hP⟩ := lstC_good hl hb hL.2.1 hB h0
    have eL : (L.map trim).map pad = L := by
      rw [List.map_map]
      conv => rhs; rw [← List.map_id L]
      exact List.map_congr_left fun x hx => hP x hx
    have MO' := fun W h => l09Moore_any p (trim l) A cap (L.map trim) hp hc m2 (by omega) W h hC (by rw [List.length_map]; omega)
    rw [he, eL, List.length_map] at MO'
    have MO := Lib.hid MO'
    have G : Hid (matS p l L = (mooreM p (trim l) (L.map trim)).map (·.map pad)) := Lib.hid (by rw [matS, if_pos h0])
    rw [h0] at LC ⊢
    rw [G.out]
    clear hb hB hL h0 hC he hc hp hP eL MO'
    go_enter Tryz.func14, Tryz.ntmps14
    go_wp2_with (first | ((with_reducible show wpList _ _ _ _ _ _); first | (apply hpLd F; exact rfl; exact rfl; exact rfl; (· repeat (first | exact Has.head | apply Has.tail))) | (apply hpBox F; exact rfl; exact rfl; exact rfl; (· with_reducible first | exact pad_length _ | exact zeros64_length | exact tab_length _ _ | assumption)) | (apply hpAlloc F; exact rfl; exact rfl) | (apply hpSt F; exact rfl; exact rfl; exact rfl; exact rfl; (· repeat (first | exact Upd.head | apply Upd.tail)); (· with_reducible first | exact pad_length _ | exact zeros64_length | exact tab_length _ _ | assumption))))
    clear F
    intro ga w1 F
    go_wp2_with (first | (go_at_call 27; (with_reducible refine (LC.out _ (HL.out.below F.ext)).mono ?_); rintro e w2 ⟨rfl, E2⟩; replace F := F.next E2) | (go_at_call 30; (with_reducible refine (MO.out _ (HL.out.below F.ext)).mono ?_); rintro e w5 ⟨v5, rfl, R5, E5⟩; replace F := F.next E5) | ((with_reducible show wpList _ _ _ _ _ _); first | (apply hpLd F; exact rfl; exact rfl; exact rfl; (· repeat (first | exact Has.head | apply Has.tail))) | (apply hpBox F; exact rfl; exact rfl; exact rfl; (· with_reducible first | exact pad_length _ | exact zeros64_length | exact tab_length _ _ | assumption)) | (apply hpAlloc F; exact rfl; exact rfl) | (apply hpSt F; exact rfl; exact rfl; exact rfl; exact rfl; (· repeat (first | exact Upd.head | apply Upd.tail)); (· with_reducible first | exact pad_length _ | exact zeros64_length | exact tab_length _ _ | assumption))))
    go_ret2
    exact ⟨_, rfl, R5, F.ext⟩
  · have t1 : decide (lstC p l L 4 = 0) = false := decide_eq_false h0
    have G : Hid (matS p l L = []) := Lib.hid (by rw [matS, if_neg h0])
    rw [G.out]
    clear hb hB hL
    generalize lstC p l L 4 = c at *
    go_enter Tryz.func14, Tryz.ntmps14
    go_wp2_with (first | ((with_reducible show wpList _ _ _ _ _ _); first | (apply hpLd F; exact rfl; exact rfl; exact rfl; (· repeat (first | exact Has.head | apply Has.tail))) | (apply hpBox F; exact rfl; exact rfl; exact rfl; (· with_reducible first | exact pad_length _ | exact zeros64_length | exact tab_length _ _ | assumption)) | (apply hpAlloc F; exact rfl; exact rfl) | (apply hpSt F; exact rfl; exact rfl; exact rfl; exact rfl; (· repeat (first | exact Upd.head | apply Upd.tail)); (· with_reducible first | exact pad_length _ | exact zeros64_length | exact tab_length _ _ | assumption))))
    clear F
    intro ga w1 F
    go_wp2_with (first | (go_at_call 27; (with_reducible refine (LC.out _ (HL.out.below F.ext)).mono ?_); rintro e w2 ⟨rfl, E2⟩; replace F := F.next E2) | ((with_reducible show wpList _ _ _ _ _ _); first | (apply hpLd F; exact rfl; exact rfl; exact rfl; (· repeat (first | exact Has.head | apply Has.tail))) | (apply hpBox F; exact rfl; exact rfl; exact rfl; (· with_reducible first | exact pad_length _ | exact zeros64_length | exact tab_length _ _ | assumption)) | (apply hpAlloc F; exact rfl; exact rfl) | (apply hpSt F; exact rfl; exact rfl; exact rfl; exact rfl; (· repeat (first | exact Upd.head | apply Upd.tail)); (· with_reducible first | exact pad_length _ | exact zeros64_length | exact tab_length _ _ | assumption))))
    go_ret2
    exact ⟨_, rfl, (LS.nil (Ext.refl _)).rs, F.ext⟩

end Go.Proofs.YtaemiknaiccijaaGreat

/- The laws' comparisons of polynomials, of slices of them and of matrices. -/
namespace Go.Proofs.YtaemiknaiccijaaGreat
open Go.RowKit

set_option maxHeartbeats 400000 in
theorem szPolyS_any (A : Option Addr) (n cap : Nat) (hn : n ≤ 9223372036854775807) (w : World) :
    Calls Tryz.prog 7 #[.slice A n cap, .int .i64 1048576] w fun e w' => e = .returned (.int .i64 (if 1048576 < (n : Int) then -1 else 1048576 - (n : Int))) ∧ w = w' := by
  have b : (n : Int) ≤ 9223372036854775807 := by omega
  by_cases h : 1048576 < (n : Int)
  · have G : Hid ((if 1048576 < (n : Int) then (-1 : Int) else 1048576 - (n : Int)) = -1) := Lib.hid (if_pos h)
    have t1 : decide ((1048576 : Int) - (n : Int) < 0) = true := decide_eq_true (by omega)
    go_enter Tryz.func7, Tryz.ntmps7
    go_wp2
    go_ret
    exact ⟨rfl, rfl⟩
  · have G : Hid ((if 1048576 < (n : Int) then (-1 : Int) else 1048576 - (n : Int)) = 1048576 - (n : Int)) := Lib.hid (if_neg h)
    have t1 : decide ((1048576 : Int) - (n : Int) < 0) = false := decide_eq_false (by omega)
    go_enter Tryz.func7, Tryz.ntmps7
    go_wp2
    go_ret
    exact ⟨rfl, rfl⟩

def EpRel (x : List Int) (w : World) (ga gb f : Nat) (i : Value) (wr : World) : Prop := ∃ n : Nat, f + n = 64 ∧ i = .int .i64 n ∧ Hp w wr [(gb, x), (ga, x)]
set_option maxRecDepth 100000 in
set_option maxHeartbeats 1000000 in
theorem eqPoly_same (x : List Int) (hx : x.length = 64) (w : World) :
    Calls Tryz.prog 12 #[.agg (u8s x), .agg (u8s x)] w fun e w' => e = .returned (.bool true) ∧ Ext w w' := by
  have F := Hp.start w
  go_enter Tryz.func12, Tryz.ntmps12
  go_wp2_with (first | ((with_reducible show wpList _ _ _ _ _ _); first | (apply hpLd F; exact rfl; exact rfl; exact rfl; (· repeat (first | exact Has.head | apply Has.tail))) | (apply hpBox F; exact rfl; exact rfl; exact rfl; (· with_reducible first | exact pad_length _ | exact zeros64_length | exact tab_length _ _ | assumption)) | (apply hpAlloc F; exact rfl; exact rfl) | (apply hpSt F; exact rfl; exact rfl; exact rfl; exact rfl; (· repeat (first | exact Upd.head | apply Upd.tail)); (· with_reducible first | exact pad_length _ | exact zeros64_length | exact tab_length _ _ | assumption))))
  clear F
  intro ga w1 F
  go_wp2_with (first | ((with_reducible show wpList _ _ _ _ _ _); first | (apply hpLd F; exact rfl; exact rfl; exact rfl; (· repeat (first | exact Has.head | apply Has.tail))) | (apply hpBox F; exact rfl; exact rfl; exact rfl; (· with_reducible first | exact pad_length _ | exact zeros64_length | exact tab_length _ _ | assumption)) | (apply hpAlloc F; exact rfl; exact rfl) | (apply hpSt F; exact rfl; exact rfl; exact rfl; exact rfl; (· repeat (first | exact Upd.head | apply Upd.tail)); (· with_reducible first | exact pad_length _ | exact zeros64_length | exact tab_length _ _ | assumption))))
  clear F
  intro gb w2 F
  go_wp2
  go_loopg [5] 64 (fun f i wr => EpRel x w ga gb f i wr)
  case atStart => exact ⟨0, rfl, rfl, F⟩
  case round =>
    clear F
    obtain ⟨n, hf, rfl, F⟩ := hrel
    by_cases hn : n < 64
    · have t1 : decide ((n : Int) < 64) = true := decide_eq_true (by omega)
      have c1 := F.cell 0 rfl n hn
      have c2 := F.cell 1 rfl n hn
      have i1 : (n : Int) < 64 := by omega
      go_wp2
      go_quiet (fail)
      go_wp2
      go_roundg (gk - 1)
      case measure => omega
      case rel => exact ⟨n + 1, by omega, by go_num, F.next (Ext.drewN (Ext.refl _) _)⟩
    · have t1 : decide ((n : Int) < 64) = false := decide_eq_false (by omega)
      go_wp2
      go_ret
      exact ⟨rfl, F.ext⟩

def EsRel (n0 : Nat) (w : World) (f : Nat) (i : Value) (wr : World) : Prop :=
  ∃ n : Nat, f + n = n0 ∧ i = .int .i64 n ∧ Ext w wr
set_option maxRecDepth 100000 in
set_option maxHeartbeats 1000000 in
theorem eqPolyS_same (A B : Option Addr) (ca cb : Nat) (L : List (List Int)) (w : World) (ra : PsAt w A L) (rb : PsAt w B L) :
    Calls Tryz.prog 13 #[.slice A L.length ca, .slice B L.length cb] w fun e w' => e = .returned (.bool true) ∧ Ext w w' := by
  have RA := Lib.hid ra
  have RB := Lib.hid rb
  have lm := ra.1
  clear ra rb
  go_enter Tryz.func13, Tryz.ntmps13
  go_wp2
  go_loopg [5] L.length (fun f i wr => EsRel L.length w f i wr)
  case atStart => exact ⟨0, by omega, rfl, Ext.refl _⟩
  case round =>
    obtain ⟨n, hf, rfl, E⟩ := hrel
    by_cases hn : n < L.length
    · have t1 : decide ((n : Int) < (L.length : Int)) = true := decide_eq_true (by omega)
      obtain ⟨b1, o1, rfl, h1⟩ := (RA.out.below E).2.2 (by omega)
      obtain ⟨b2, o2, rfl, h2⟩ := (RB.out.below E).2.2 (by omega)
      obtain ⟨x, hx⟩ : ∃ x, L[n]? = some x := ⟨L[n], List.getElem?_eq_getElem hn⟩
      have R1 := Lib.hid (h1 n x hx)
      have R2 := Lib.hid (h2 n x hx)
      have X64 : x.length = 64 := RA.out.2.1 x (List.mem_of_getElem? hx)
      have EQ := Lib.hid (eqPoly_same x X64)
      have LN : Hid ((u8s x).toList.length = 64) := Lib.hid (by rw [u8s_toList, List.length_map, X64])
      have i1 : (n : Int) < (L.length : Int) := by omega
      have i2 : n < L.length := hn
      clear h1 h2 hx
      go_wp2
      refine region_ext 9 (by kernel_rfl) (by kernel_rfl) (by kernel_rfl) [] [eqv (.slice (some ⟨b1, o1, none⟩) L.length ca), eqv (.int .i64 (n : Int)), eqv (.pointer (some ⟨b1, o1 + n * 64, none⟩)), eqv (.agg (u8s x)), eqv (.slice (some ⟨b2, o2, none⟩) L.length cb), eqv (.int .i64 (n : Int)), eqv (.pointer (some ⟨b2, o2 + n * 64, none⟩)), eqv (.agg (u8s x)), eqv (.bool true)]
        ⟨mono_eqv _, mono_eqv _, mono_eqv _, mono_eqv _, mono_eqv _, mono_eqv _, mono_eqv _, mono_eqv _, mono_eqv _, trivial⟩ (fun vals => ?_) (fun vals w9 hE9 hS9 hN9 => ?_)
      · simp only [List.take_succ_cons, List.take_zero]
        refine ⟨fun w8 hE8 hk => doesK_plain rfl fun K hK => ?_, ?_⟩
        · go_simp
          (try go_bits)
          exact hK _ _ rfl (Ext.refl _) rfl
        simp only [Act.put, List.setIfInBounds_toArray, List.set_cons_zero, List.set_cons_succ]
        refine ⟨fun w8 hE8 hk => doesK_plain rfl fun K hK => ?_, ?_⟩
        · go_simp
          (try go_bits)
          exact hK _ _ rfl (Ext.refl _) rfl
        simp only [Act.put, List.setIfInBounds_toArray, List.set_cons_zero, List.set_cons_succ]
        refine ⟨fun w8 hE8 hk => doesK_plain rfl fun K hK => ?_, ?_⟩
        · have k0 : vals 0 = .slice (some ⟨b1, o1, none⟩) L.length ca := hk 0 (by decide) (by kernel_rfl)
          have k1 : vals 1 = .int .i64 (n : Int) := hk 1 (by decide) (by kernel_rfl)
          go_simp
          (try go_bits)
          exact hK _ _ rfl (Ext.refl _) rfl
        simp only [Act.put, List.setIfInBounds_toArray, List.set_cons_zero, List.set_cons_succ]
        refine ⟨fun w8 hE8 hk => doesK_plain rfl fun K hK => ?_, ?_⟩
        · have k2 : vals 2 = .pointer (some ⟨b1, o1 + n * 64, none⟩) := hk 2 (by decide) (by kernel_rfl)
          exact wp_load_mid _ _ rfl b1 (o1 + n * 64) k2 _ _ (range_below R1.out hE8) Tryz.underlying25 rfl (by rw [infoPoly, LN.out]) (hK _ _ rfl (Ext.refl _) rfl)
        simp only [Act.put, List.setIfInBounds_toArray, List.set_cons_zero, List.set_cons_succ]
        refine ⟨fun w8 hE8 hk => doesK_plain rfl fun K hK => ?_, ?_⟩
        · go_simp
          (try go_bits)
          exact hK _ _ rfl (Ext.refl _) rfl
        simp only [Act.put, List.setIfInBounds_toArray, List.set_cons_zero, List.set_cons_succ]
        refine ⟨fun w8 hE8 hk => doesK_plain rfl fun K hK => ?_, ?_⟩
        · go_simp
          (try go_bits)
          exact hK _ _ rfl (Ext.refl _) rfl
        simp only [Act.put, List.setIfInBounds_toArray, List.set_cons_zero, List.set_cons_succ]
        refine ⟨fun w8 hE8 hk => doesK_plain rfl fun K hK => ?_, ?_⟩
        · have k4 : vals 4 = .slice (some ⟨b2, o2, none⟩) L.length cb := hk 4 (by decide) (by kernel_rfl)
          have k5 : vals 5 = .int .i64 (n : Int) := hk 5 (by decide) (by kernel_rfl)
          go_simp
          (try go_bits)
          exact hK _ _ rfl (Ext.refl _) rfl
        simp only [Act.put, List.setIfInBounds_toArray, List.set_cons_zero, List.set_cons_succ]
        refine ⟨fun w8 hE8 hk => doesK_plain rfl fun K hK => ?_, ?_⟩
        · have k6 : vals 6 = .pointer (some ⟨b2, o2 + n * 64, none⟩) := hk 6 (by decide) (by kernel_rfl)
          exact wp_load_mid _ _ rfl b2 (o2 + n * 64) k6 _ _ (range_below R2.out hE8) Tryz.underlying25 rfl (by rw [infoPoly, LN.out]) (hK _ _ rfl (Ext.refl _) rfl)
        simp only [Act.put, List.setIfInBounds_toArray, List.set_cons_zero, List.set_cons_succ]
        refine ⟨fun w8 hE8 hk => doesK_plain rfl fun K hK => ?_, ?_⟩
        · have k3 : vals 3 = .agg (u8s x) := hk 3 (by decide) (by kernel_rfl)
          have k7 : vals 7 = .agg (u8s x) := hk 7 (by decide) (by kernel_rfl)
          go_simp
          refine (EQ.out _).mono ?_
          rintro e7 w7 ⟨rfl, hE7⟩
          exact hK _ _ rfl hE7 rfl
        exact trivial
      simp only [List.take_succ_cons, List.take_zero, List.drop_succ_cons, List.drop_zero, preAct, Nat.reduceAdd, Act.put, List.setIfInBounds_toArray, List.set_cons_zero, List.set_cons_succ]
      have k0 : vals 0 = .slice (some ⟨b1, o1, none⟩) L.length ca := hS9 0 (by decide) 
      have k1 : vals 1 = .int .i64 (n : Int) := hS9 1 (by decide) 
      have k2 : vals 2 = .pointer (some ⟨b1, o1 + n * 64, none⟩) := hS9 2 (by decide) 
      have k3 : vals 3 = .agg (u8s x) := hS9 3 (by decide) 
      have k4 : vals 4 = .slice (some ⟨b2, o2, none⟩) L.length cb := hS9 4 (by decide) 
      have k5 : vals 5 = .int .i64 (n : Int) := hS9 5 (by decide) 
      have k6 : vals 6 = .pointer (some ⟨b2, o2 + n * 64, none⟩) := hS9 6 (by decide) 
      have k7 : vals 7 = .agg (u8s x) := hS9 7 (by decide) 
      have k8 : vals 8 = .bool true := hS9 8 (by decide) 
      simp only [k0, k1, k2, k3, k4, k5, k6, k7, k8]
      clear hN9 hS9 k0 k1 k2 k3 k4 k5 k6 k7 k8
      go_wp2
      go_roundg (gk - 1)
      case measure => omega
      case rel => exact ⟨n + 1, by omega, by go_num, E.tr hE9⟩
    · have t1 : decide ((n : Int) < (L.length : Int)) = false := decide_eq_false (by omega)
      go_wp2
      go_ret
      exact ⟨rfl, E⟩

set_option maxRecDepth 100000 in
set_option maxHeartbeats 1000000 in
theorem eqPolySS_same (u v : Value) (M : List (List (List Int))) (w : World) (ra : PolysV w u M) (rb : PolysV w v M) :
    Calls Tryz.prog 16 #[u, v] w fun e w' => e = .returned (.bool true) ∧ Ext w w' := by
  obtain ⟨A, ca, rfl, lm, ha⟩ := ra
  obtain ⟨B, cb, rfl, _, hb⟩ := rb
  have HA := Lib.hid ha
  have HB := Lib.hid hb
  clear ha hb
  go_enter Tryz.func16, Tryz.ntmps16
  go_wp2
  go_loopg [5] M.length (fun f i wr => EsRel M.length w f i wr)
  case atStart => exact ⟨0, by omega, rfl, Ext.refl _⟩
  case round =>
    obtain ⟨n, hf, rfl, E⟩ := hrel
    by_cases hn : n < M.length
    · have t1 : decide ((n : Int) < (M.length : Int)) = true := decide_eq_true (by omega)
      obtain ⟨b1, rfl, _, h1⟩ := HA.out (by omega)
      obtain ⟨b2, rfl, _, h2⟩ := HB.out (by omega)
      obtain ⟨x, hx⟩ : ∃ x, M[n]? = some x := ⟨M[n], List.getElem?_eq_getElem hn⟩
      obtain ⟨u1, c1, g1, d1, rfl, n1, B1⟩ := h1 n x hx
      obtain ⟨u2, c2, g2, d2, rfl, n2, B2⟩ := h2 n x hx
      have C1 := Lib.hid (cellE c1 E)
      have C2 := Lib.hid (cellE c2 E)
      have EQ := Lib.hid fun W hW => eqPolyS_same (some ⟨g1, 0, none⟩) (some ⟨g2, 0, none⟩) d1 d2 x W (((B1.ext E).ext hW).ps (by have := n1; dsimp only at this; omega)) (((B2.ext E).ext hW).ps (by have := n1; dsimp only at this; omega))
      have i1 : (n : Int) < (M.length : Int) := by omega
      have i2 : n < M.length := hn
      clear h1 h2 hx B1 B2 c1 c2 n1 n2
      go_wp2
      refine region_ext 9 (by kernel_rfl) (by kernel_rfl) (by kernel_rfl) [] [eqv (.slice (some ⟨b1, 0, none⟩) M.length ca), eqv (.int .i64 (n : Int)), eqv (.pointer (some ⟨b1, n, none⟩)), eqv (.slice (some ⟨g1, 0, none⟩) x.length d1), eqv (.slice (some ⟨b2, 0, none⟩) M.length cb), eqv (.int .i64 (n : Int)), eqv (.pointer (some ⟨b2, n, none⟩)), eqv (.slice (some ⟨g2, 0, none⟩) x.length d2), eqv (.bool true)]
        ⟨mono_eqv _, mono_eqv _, mono_eqv _, mono_eqv _, mono_eqv _, mono_eqv _, mono_eqv _, mono_eqv _, mono_eqv _, trivial⟩ (fun vals => ?_) (fun vals w9 hE9 hS9 hN9 => ?_)
      · simp only [List.take_succ_cons, List.take_zero]
        refine ⟨fun w8 hE8 hk => doesK_plain rfl fun K hK => ?_, ?_⟩
        · go_simp
          (try go_bits)
          exact hK _ _ rfl (Ext.refl _) rfl
        simp only [Act.put, List.setIfInBounds_toArray, List.set_cons_zero, List.set_cons_succ]
        refine ⟨fun w8 hE8 hk => doesK_plain rfl fun K hK => ?_, ?_⟩
        · go_simp
          (try go_bits)
          exact hK _ _ rfl (Ext.refl _) rfl
        simp only [Act.put, List.setIfInBounds_toArray, List.set_cons_zero, List.set_cons_succ]
        refine ⟨fun w8 hE8 hk => doesK_plain rfl fun K hK => ?_, ?_⟩
        · have k0 : vals 0 = .slice (some ⟨b1, 0, none⟩) M.length ca := hk 0 (by decide) (by kernel_rfl)
          have k1 : vals 1 = .int .i64 (n : Int) := hk 1 (by decide) (by kernel_rfl)
          go_simp
          (try go_bits)
          exact hK _ _ rfl (Ext.refl _) rfl
        simp only [Act.put, List.setIfInBounds_toArray, List.set_cons_zero, List.set_cons_succ]
        refine ⟨fun w8 hE8 hk => doesK_plain rfl fun K hK => ?_, ?_⟩
        · have k2 : vals 2 = .pointer (some ⟨b1, n, none⟩) := hk 2 (by decide) (by kernel_rfl)
          have c8 := cellE C1.out hE8
          go_simp
          (try go_bits)
          exact hK _ _ rfl (Ext.refl _) rfl
        simp only [Act.put, List.setIfInBounds_toArray, List.set_cons_zero, List.set_cons_succ]
        refine ⟨fun w8 hE8 hk => doesK_plain rfl fun K hK => ?_, ?_⟩
        · go_simp
          (try go_bits)
          exact hK _ _ rfl (Ext.refl _) rfl
        simp only [Act.put, List.setIfInBounds_toArray, List.set_cons_zero, List.set_cons_succ]
        refine ⟨fun w8 hE8 hk => doesK_plain rfl fun K hK => ?_, ?_⟩
        · go_simp
          (try go_bits)
          exact hK _ _ rfl (Ext.refl _) rfl
        simp only [Act.put, List.setIfInBounds_toArray, List.set_cons_zero, List.set_cons_succ]
        refine ⟨fun w8 hE8 hk => doesK_plain rfl fun K hK => ?_, ?_⟩
        · have k4 : vals 4 = .slice (some ⟨b2, 0, none⟩) M.length cb := hk 4 (by decide) (by kernel_rfl)
          have k5 : vals 5 = .int .i64 (n : Int) := hk 5 (by decide) (by kernel_rfl)
          go_simp
          (try go_bits)
          exact hK _ _ rfl (Ext.refl _) rfl
        simp only [Act.put, List.setIfInBounds_toArray, List.set_cons_zero, List.set_cons_succ]
        refine ⟨fun w8 hE8 hk => doesK_plain rfl fun K hK => ?_, ?_⟩
        · have k6 : vals 6 = .pointer (some ⟨b2, n, none⟩) := hk 6 (by decide) (by kernel_rfl)
          have c8 := cellE C2.out hE8
          go_simp
          (try go_bits)
          exact hK _ _ rfl (Ext.refl _) rfl
        simp only [Act.put, List.setIfInBounds_toArray, List.set_cons_zero, List.set_cons_succ]
        refine ⟨fun w8 hE8 hk => doesK_plain rfl fun K hK => ?_, ?_⟩
        · have k3 : vals 3 = .slice (some ⟨g1, 0, none⟩) x.length d1 := hk 3 (by decide) (by kernel_rfl)
          have k7 : vals 7 = .slice (some ⟨g2, 0, none⟩) x.length d2 := hk 7 (by decide) (by kernel_rfl)
          go_simp
          refine (EQ.out _ hE8).mono ?_
          rintro e7 w7 ⟨rfl, hE7⟩
          exact hK _ _ rfl hE7 rfl
        exact trivial
      simp only [List.take_succ_cons, List.take_zero, List.drop_succ_cons, List.drop_zero, preAct, Nat.reduceAdd, Act.put, List.setIfInBounds_toArray, List.set_cons_zero, List.set_cons_succ]
      have k0 : vals 0 = .slice (some ⟨b1, 0, none⟩) M.length ca := hS9 0 (by decide) 
      have k1 : vals 1 = .int .i64 (n : Int) := hS9 1 (by decide) 
      have k2 : vals 2 = .pointer (some ⟨b1, n, none⟩) := hS9 2 (by decide) 
      have k3 : vals 3 = .slice (some ⟨g1, 0, none⟩) x.length d1 := hS9 3 (by decide) 
      have k4 : vals 4 = .slice (some ⟨b2, 0, none⟩) M.length cb := hS9 4 (by decide) 
      have k5 : vals 5 = .int .i64 (n : Int) := hS9 5 (by decide) 
      have k6 : vals 6 = .pointer (some ⟨b2, n, none⟩) := hS9 6 (by decide) 
      have k7 : vals 7 = .slice (some ⟨g2, 0, none⟩) x.length d2 := hS9 7 (by decide) 
      have k8 : vals 8 = .bool true := hS9 8 (by decide) 
      simp only [k0, k1, k2, k3, k4, k5, k6, k7, k8]
      clear hN9 hS9 k0 k1 k2 k3 k4 k5 k6 k7 k8
      go_wp2
      go_roundg (gk - 1)
      case measure => omega
      case rel => exact ⟨n + 1, by omega, by go_num, E.tr hE9⟩
    · have t1 : decide ((n : Int) < (M.length : Int)) = false := decide_eq_false (by omega)
      go_wp2
      go_ret
      exact ⟨rfl, E⟩

end Go.Proofs.YtaemiknaiccijaaGreat

/- The laws' marks on slices of polynomials. -/
namespace Go.Proofs.YtaemiknaiccijaaGreat
open Go.RowKit

def mkPoly (k : Int) : List Int := tab 64 fun j => (k + j) % 256
def mkPolys (k : Int) (n : Nat) : List (List Int) := (List.range n).map fun i : Nat => mkPoly (k + 64 * (i : Int))
theorem mkPoly_length (k : Int) : (mkPoly k).length = 64 := tab_length _ _
theorem mkPolys_length (k : Int) (n : Nat) : (mkPolys k n).length = n := by simp [mkPolys]
theorem mkPolys_succ (k : Int) (n : Nat) : mkPolys k (n + 1) = mkPolys k n ++ [mkPoly (k + 64 * n)] := by simp [mkPolys, List.range_succ]
def mkTo (x : List Int) (k : Int) (n : Nat) : List Int := tab 64 fun j => if j < n then (k + j) % 256 else at0 x j
theorem mkTo_zero {x : List Int} (hx : x.length = 64) (k : Int) : mkTo x k 0 = x := by
  have := (tab_congr (n := 64) (f := fun j => if j < 0 then (k + j) % 256 else at0 x j) (g := fun j => at0 x j) fun j _ => if_neg (by omega))
  unfold mkTo
  rw [this, ← hx]; exact tab_self x
theorem mkTo_end (x : List Int) (k : Int) : mkTo x k 64 = mkPoly k := tab_congr fun j hj => if_pos hj
theorem mkTo_step (x : List Int) (k : Int) (n : Nat) (h : n < 64) : (mkTo x k n).set n ((k + n) % 256) = mkTo x k (n + 1) := by
  refine list_ext0 (by simp [mkTo, tab_length]) fun j hj => ?_
  rw [List.length_set, mkTo, tab_length] at hj
  rw [at0_set, mkTo, mkTo, at0_tab, at0_tab, tab_length]
  by_cases e : n = j
  · subst e
    rw [if_pos ⟨rfl, h⟩, if_pos hj, if_pos (by omega)]
  · rw [if_neg (fun h' => e h'.1), if_pos hj, if_pos hj]
    by_cases h2 : j < n
    · rw [if_pos h2, if_pos (by omega)]
    · rw [if_neg h2, if_neg (by omega)]
def MpRelO (L : List (List Int)) (k : Int) (g : Nat) (w : World) (f : Nat) (vk i : Value) (wr : World) : Prop :=
  ∃ n : Nat, f + n = L.length ∧ i = .int .i64 n ∧ vk = .int .i64 (k + 64 * n) ∧ PB wr g (mkPolys k n ++ L.drop n) ∧ w.grownBy wr (some g)
def MpRelI (L : List (List Int)) (x : List Int) (k : Int) (n : Nat) (g : Nat) (w : World) (f : Nat) (vk j : Value) (wr : World) : Prop :=
  ∃ m : Nat, f + m = 64 ∧ j = .int .i64 m ∧ vk = .int .i64 (k + 64 * n + m) ∧ PB wr g ((mkPolys k n ++ L.drop n).set n (mkTo x (k + 64 * n) m)) ∧ w.grownBy wr (some g)
set_option maxRecDepth 100000 in
set_option maxHeartbeats 1000000 in
theorem markPolyS_any (g cap : Nat) (L : List (List Int)) (k : Int) (hk : 0 ≤ k) (hk2 : k ≤ 1000000) (hl : L.length ≤ 2000000) (w : World) (h : PB w g L) :
    Calls Tryz.prog 17 #[.slice (some ⟨g, 0, none⟩) L.length cap, .int .i64 k] w fun e w' => e = .returned (.int .i64 (k + 64 * L.length)) ∧ PB w' g (mkPolys k L.length) ∧ w.grownBy w' (some g) := by
  have H := Lib.hid h
  clear h
  go_enter Tryz.func17, Tryz.ntmps17
  go_wp2
  go_loopg [1, 5] L.length (fun f vk i wr => MpRelO L k g w f vk i wr)
  case atStart => exact ⟨0, rfl, rfl, by simp, by simpa [mkPolys] using H.out, grownBy_self _ _⟩
  case round =>
    obtain ⟨n, hf, rfl, rfl, hP, hG⟩ := hrel
    have P := Lib.hid hP
    have GB := Lib.hid hG
    clear hP hG
    by_cases hn : n < L.length
    · have t1 : decide ((n : Int) < (L.length : Int)) = true := decide_eq_true (by omega)
      obtain ⟨x, hx⟩ : ∃ x, L[n]? = some x := ⟨L[n], List.getElem?_eq_getElem hn⟩
      have X64 : x.length = 64 := H.out.len x (List.mem_of_getElem? hx)
      have DR : L.drop n = x :: L.drop (n + 1) := by rw [List.drop_eq_getElem_cons hn]; rw [List.getElem?_eq_getElem hn] at hx; rw [Option.some.inj hx]
      have BX : Hid ((mkPolys k n ++ L.drop n)[n]? = some x) := Lib.hid (by
        rw [List.getElem?_append_right (by rw [mkPolys_length]; omega), mkPolys_length, DR]; simp)
      have S0 : Hid ((mkPolys k n ++ L.drop n).set n (mkTo x (k + 64 * n) 0) = mkPolys k n ++ L.drop n) := Lib.hid (by
        rw [mkTo_zero X64]
        have := (List.getElem?_eq_some_iff.1 BX.out)
        obtain ⟨h1, h2⟩ := this
        rw [← h2]; exact List.set_getElem_self h1)
      have S1 : Hid ((mkPolys k n ++ L.drop n).set n (mkTo x (k + 64 * n) 64) = mkPolys k (n + 1) ++ L.drop (n + 1)) := Lib.hid (by
        rw [mkTo_end, mkPolys_succ, DR, List.set_append_right _ _ (by rw [mkPolys_length]; omega), mkPolys_length, Nat.sub_self, List.set_cons_zero, List.append_assoc]; rfl)
      have SL : Hid (n < (mkPolys k n ++ L.drop n).length) := Lib.hid (List.getElem?_eq_some_iff.1 BX.out).1
      clear hx DR
      go_wp2
      go_loopg [1, 6] 64 (fun f vk j wr => MpRelI L x k n g w f vk j wr)
      case atStart => exact ⟨0, rfl, rfl, by go_num, by rw [S0.out]; exact P.out, GB.out⟩
      case round =>
        obtain ⟨m, hf2, rfl, rfl, hP2, hG2⟩ := hrel
        have P2 := Lib.hid hP2
        have GB2 := Lib.hid hG2
        clear hP2 hG2
        by_cases hm : m < 64
        · have t2 : decide ((m : Int) < 64) = true := decide_eq_true (by omega)
          have i1 : (m : Int) < 64 := by omega
          have i2 : (n : Int) < (L.length : Int) := by omega
          have HX : ((mkPolys k n ++ L.drop n).set n (mkTo x (k + 64 * n) m))[n]? = some (mkTo x (k + 64 * n) m) := by rw [List.getElem?_set_self SL.out]
          have c1 := P2.out.cell HX m hm
          have f1 := P2.out.free (n * 64 + m)
          have ST := Lib.hid (P2.out.setByte HX m hm ((k + 64 * n + m) % 256))
          have SS := Lib.hid (mkTo_step x (k + 64 * n) m hm)
          clear HX
          go_wp2
          go_roundg (gk - 1)
          case measure => omega
          case rel => exact ⟨m + 1, by omega, by go_num, by go_num, by have := ST.out; rw [List.set_set, SS.out] at this; exact this, grownBy_set GB2.out _ _⟩
        · have t2 : decide ((m : Int) < 64) = false := decide_eq_false (by omega)
          have m64 : m = 64 := by omega
          subst m64
          have P3 := P2.out
          rw [S1.out] at P3
          have P4 := Lib.hid P3
          clear P3
          go_wp2
          go_roundg (L.length - (n + 1))
          case measure => omega
          case rel => exact ⟨n + 1, by omega, by go_num, by go_num, P4.out, GB2.out⟩
    · have t1 : decide ((n : Int) < (L.length : Int)) = false := decide_eq_false (by omega)
      have e : n = L.length := by omega
      subst e
      have P3 := P.out
      rw [List.drop_of_length_le (Nat.le_refl _), List.append_nil] at P3
      go_wp2
      go_ret
      exact ⟨rfl, P3, GB.out⟩

end Go.Proofs.YtaemiknaiccijaaGreat
