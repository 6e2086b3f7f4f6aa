/- Lemmas and contracts of functions, for the laws: A region that draws its order and calls functions that only make memory: whatever order is drawn, each operation of its head has told what it has to tell, and the forced tail goes on from there. -/
import Derived.Test.YtaemiknaiccijaaGreatRm1
import Derived.StillTail
set_option linter.unusedVariables false
set_option linter.unusedSimpArgs false
namespace Go.Proofs.YtaemiknaiccijaaGreat
open Go.RowKit

section
variable {P : Program} {ops : Array Oper}

/-- What an operation does, told of its value and of the world behind it. -/
def DoesR (P : Program) (w : World) (S : Value → World → Prop) : Result Next → Prop
  | .ok (.value v) w' => S v w' ∧ Ext w w'
  | .ok .skip w' => S undef w' ∧ Ext w w'
  | .ok (.enter f args) w' => Calls P f args w' fun e w'' => ∃ v, e = .returned v ∧ S v w'' ∧ Ext w w''
  | .ok (.row r args) w' => Rows P r args w' fun v w'' => S v w'' ∧ Ext w w''
  | _ => False
def Does (P : Program) (ops : Array Oper) (o : Oper) (a : Act) (w : World) (S : Value → World → Prop) : Prop :=
  if Region.wanted o (yielded ops a.tmps) = true then DoesR P w S ((execOp a.eval o).run P w) else S undef w

theorem does_intro {o : Oper} {a : Act} {w : World} {S : Value → World → Prop} {d : Nat} (hd : o.dst = some d) (hsz : d < a.tmps.size)
    (h : ∀ K : Act → World → Prop, (∀ a' w', S (a'.tmps.getD d undef) w' → Ext w w' → a'.defers = a.defers → K a' w') →
      if Region.wanted o (yielded ops a.tmps) then o.wp P a w K (fun _ _ _ => False) else K (a.put o.dst undef) w) : Does P ops o a w S := by
  have hput : ∀ v, (a.put o.dst v).tmps.getD d undef = v := fun v => by
    simp [hd, Act.put, hsz]
  have h1 := h (fun a' w' => S (a'.tmps.getD d undef) w' ∧ Ext w w' ∧ a'.defers = a.defers) fun a' w' x y z => ⟨x, y, z⟩
  unfold Does
  split at h1
  · rename_i hw
    rw [if_pos hw]
    unfold Oper.wp at *
    generalize (execOp a.eval o).run P w = r at *
    cases r with
    | ok x w' =>
      cases x with
      | value v => exact ⟨by have := h1.1; rwa [hput] at this, h1.2.1⟩
      | skip => exact ⟨by have := h1.1; rwa [hput] at this, h1.2.1⟩
      | «defer» df =>
        have h2 := h1.2.2
        have : ∀ (b : Act) (x : Option Tmp) (v : Value), (b.put x v).defers = b.defers := fun b x v => by cases x <;> rfl
        rw [this] at h2
        have h3 := congrArg List.length h2
        simp at h3
      | enter f args =>
        refine Calls.mono h1 fun e w' he => ?_
        cases e with
        | returned v => exact ⟨v, rfl, by have := he.1; rwa [hput] at this, he.2.1⟩
        | panicked c => exact he.elim
        | outgrown => obtain ⟨_, _, he⟩ := he; exact he.elim
      | row r args => exact Rows.mono h1 fun v w' he => ⟨by have := he.1; rwa [hput] at this, he.2.1⟩
      | _ => exact h1.elim
    | halt x w' =>
      cases x with
      | panic v => exact h1.elim
      | _ => exact h1.elim
  · rename_i hw
    rw [if_neg hw]
    have := h1.1
    rwa [hput] at this

def preAct (a : Act) (vals : Nat → Value) : Nat → List Oper → Act
  | _, [] => a
  | i, o :: os => preAct (a.put o.dst (vals i)) vals (i + 1) os

def dstOf (ops : Array Oper) (i : Nat) : Option Tmp := (ops[i]?).bind (·.dst)

/-- Each operation of the head writes a slot of its own, and looks only at slots that no operation of the head writes, or one that it waits for. -/
def headB (ops : Array Oper) (n size : Nat) : Bool :=
  (List.range n).all fun i => match ops[i]? with
    | none => false
    | some o =>
      (match o.dst with
        | none => false
        | some d => decide (d < size) && (List.range n).all fun j => j == i || dstOf ops j != some d) &&
      ((o.looksAt ops).all fun t => (List.range n).all fun j => dstOf ops j != some t || (decide (j < i) && Region.waitsFor .any ops i j)) &&
      o.after.toList.all fun e => !Region.binds .any e || decide (e.on < i)
def tailB (ops : Array Oper) (n : Nat) : Bool :=
  Region.noSelect ops && decide (n < ops.size) && Region.sinkB .any ops n && Region.chainB .any ops n &&
    Region.seqB .any ops (ops.size - n) n ((List.range n).foldl (fun l i => l.setIfInBounds i true) (Array.replicate ops.size false))

structure HeadOk (ops : Array Oper) (n size : Nat) (i : Nat) : Prop where
  ex : ∃ o d, ops[i]? = some o ∧ o.dst = some d ∧ d < size
  own : ∀ j d, j < n → j ≠ i → dstOf ops i = some d → dstOf ops j ≠ some d
  looks : ∀ o t, ops[i]? = some o → t ∈ o.looksAt ops → ∀ j, j < n → dstOf ops j = some t → j < i ∧ Region.waitsFor .any ops i j = true
  lex : ∀ o e, ops[i]? = some o → e ∈ o.after → Region.binds .any e = true → e.on < i

theorem headB_spec {n size : Nat} (h : headB ops n size = true) : ∀ i, i < n → HeadOk ops n size i := by
  intro i hi
  unfold headB at h
  have h1 := List.all_eq_true.1 h i (List.mem_range.2 hi)
  cases ho : ops[i]? with
  | none => simp [ho] at h1
  | some o =>
    simp only [ho] at h1
    cases hd : o.dst with
    | none => simp [hd] at h1
    | some d =>
      simp only [hd, Bool.and_eq_true, decide_eq_true_eq] at h1
      obtain ⟨⟨⟨h2, h3⟩, h4⟩, h6⟩ := h1
      have hdi : dstOf ops i = some d := by simp [dstOf, ho, hd]
      refine ⟨⟨o, d, ho, hd, h2⟩, fun j d' hj hne hd' => ?_, fun o' t ho' ht j hj hjt => ?_, fun o' e ho' he hb => ?_⟩
      · have : d' = d := by rw [hdi] at hd'; exact (Option.some.inj hd').symm
        subst this
        have h5 := List.all_eq_true.1 h3 j (List.mem_range.2 hj)
        simp only [Bool.or_eq_true, beq_iff_eq, bne_iff_ne] at h5
        rcases h5 with h5 | h5
        · exact absurd h5 hne
        · exact h5
      · have : o' = o := Option.some.inj (ho'.symm.trans ho)
        subst this
        have h5 := List.all_eq_true.1 (List.all_eq_true.1 h4 t ht) j (List.mem_range.2 hj)
        simp only [Bool.or_eq_true, bne_iff_ne, Bool.and_eq_true, decide_eq_true_eq] at h5
        rcases h5 with h5 | h5
        · exact absurd hjt h5
        · exact h5
      · have : o' = o := Option.some.inj (ho'.symm.trans ho)
        subst this
        have h5 := List.all_eq_true.1 h6 e (by simpa using he)
        simp only [Bool.or_eq_true, Bool.not_eq_true', decide_eq_true_eq] at h5
        rcases h5 with h5 | h5
        · rw [hb] at h5; cases h5
        · exact h5

/-- The frame when the operations of which L tells have run. -/
structure St (ops : Array Oper) (n : Nat) (a0 : Act) (vals : Nat → Value) (L : Nat → Prop) (a : Act) : Prop where
  defers : a.defers = a0.defers
  size : a.tmps.size = a0.tmps.size
  done : ∀ j, j < n → L j → ∀ d, dstOf ops j = some d → a.tmps[d]? = some (vals j)
  rest : ∀ t, (∀ j, j < n → L j → dstOf ops j ≠ some t) → a.tmps[t]? = a0.tmps[t]?

theorem St.put {n : Nat} {a0 a : Act} {vals : Nat → Value} {L : Nat → Prop} (h : St ops n a0 vals L a) {i : Nat} (hi : i < n) (hok : HeadOk ops n a0.tmps.size i) {o : Oper} (ho : ops[i]? = some o) (hL : ¬ L i) (v : Value) :
    St ops n a0 (fun j => if j = i then v else vals j) (fun j => L j ∨ j = i) (a.put o.dst v) := by
  obtain ⟨o', d, ho', hd, hsz⟩ := hok.ex
  have : o' = o := Option.some.inj (ho'.symm.trans ho)
  subst this
  have hdi : dstOf ops i = some d := by simp [dstOf, ho, hd]
  rw [hd]
  refine ⟨h.defers, by simp [Act.put, h.size], fun j hj hl d' hd' => ?_, fun t ht => ?_⟩
  · by_cases e : j = i
    · subst e
      have : d' = d := by rw [hdi] at hd'; exact (Option.some.inj hd').symm
      subst this
      simp [Act.put, h.size, hsz]
    · have hne : d' ≠ d := fun e' => hok.own j d hj e hdi (by rw [hd', e'])
      rw [if_neg e]
      simp only [Act.put]
      rw [Array.getElem?_setIfInBounds_ne (Ne.symm hne)]
      exact h.done j hj (hl.resolve_right e) d' hd'
  · have hne : t ≠ d := fun e => ht i hi (.inr rfl) (by rw [hdi, e])
    simp only [Act.put]
    rw [Array.getElem?_setIfInBounds_ne (Ne.symm hne)]
    exact h.rest t fun j hj hl => ht j hj (.inl hl)

theorem St.congr {n : Nat} {a0 a : Act} {vals vals' : Nat → Value} {L L' : Nat → Prop} (h : St ops n a0 vals L a) (hL : ∀ j, j < n → (L j ↔ L' j)) (hv : ∀ j, j < n → L j → vals j = vals' j) : St ops n a0 vals' L' a :=
  ⟨h.defers, h.size, fun j hj hl d hd => by rw [← hv j hj ((hL j hj).2 hl)]; exact h.done j hj ((hL j hj).2 hl) d hd, fun t ht => h.rest t fun j hj hl => ht j hj ((hL j hj).1 hl)⟩

theorem St.uniq {n : Nat} {a0 a a' : Act} {vals : Nat → Value} {L : Nat → Prop} (h : St ops n a0 vals L a) (h' : St ops n a0 vals L a') : a = a' := by
  have ht : a.tmps = a'.tmps := by
    apply Array.ext_getElem?
    intro t
    by_cases hx : ∃ j, j < n ∧ L j ∧ dstOf ops j = some t
    · obtain ⟨j, hj, hl, hd⟩ := hx
      rw [h.done j hj hl t hd, h'.done j hj hl t hd]
    · have hy : ∀ j, j < n → L j → dstOf ops j ≠ some t := fun j hj hl hd => hx ⟨j, hj, hl, hd⟩
      rw [h.rest t hy, h'.rest t hy]
  have hd : a.defers = a'.defers := h.defers.trans h'.defers.symm
  cases a; cases a'; simp_all

/-- Two frames that agree at what an operation looks at serve it alike. -/
theorem slot_agree {n : Nat} {a0 a a' : Act} {vals vals' : Nat → Value} {L L' : Nat → Prop} (h : St ops n a0 vals L a) (h' : St ops n a0 vals' L' a') {i : Nat} (hok : HeadOk ops n a0.tmps.size i) {o : Oper} (ho : ops[i]? = some o)
    (hdep : ∀ j, j < i → j < n → Region.waitsFor .any ops i j = true → L j ∧ L' j ∧ vals j = vals' j) : ∀ t, t ∈ o.looksAt ops → a.tmps[t]? = a'.tmps[t]? := by
  intro t ht
  by_cases hx : ∃ j, j < n ∧ dstOf ops j = some t
  · obtain ⟨j, hj, hd⟩ := hx
    obtain ⟨h1, h2⟩ := hok.looks o t ho ht j hj hd
    obtain ⟨l1, l2, l3⟩ := hdep j h1 hj h2
    rw [h.done j hj l1 t hd, h'.done j hj l2 t hd, l3]
  · have hy : ∀ j, j < n → dstOf ops j ≠ some t := fun j hj hd => hx ⟨j, hj, hd⟩
    rw [h.rest t fun j hj _ => hy j hj, h'.rest t fun j hj _ => hy j hj]

theorem execOp_agree {a a' : Act} {o : Oper} (hs : ∀ cs b, o.op ≠ .select cs b) (h : ∀ t, t ∈ o.looksAt ops → a.tmps[t]? = a'.tmps[t]?) : execOp a.eval o = execOp a'.eval o := by
  refine execOp_congr o hs fun x hx => ?_
  cases x with
  | tmp t =>
    have := h t (List.mem_append_left _ (List.mem_filterMap.2 ⟨.tmp t, by simpa using hx, rfl⟩))
    simp [Act.eval, this]
  | _ => rfl
theorem wanted_agree {a a' : Act} {o : Oper} (h : ∀ t, t ∈ o.looksAt ops → a.tmps[t]? = a'.tmps[t]?) : Region.wanted o (yielded ops a.tmps) = Region.wanted o (yielded ops a'.tmps) := by
  unfold Region.wanted
  cases hg : o.guard with
  | none => rfl
  | some gw =>
    obtain ⟨g, want⟩ := gw
    have : yielded ops a.tmps g = yielded ops a'.tmps g := by
      unfold yielded
      cases ht : (ops[g]?).bind (·.dst) with
      | none => rfl
      | some t =>
        have := h t (by simp [Oper.looksAt, hg, ht])
        simp [this]
    simp only [this]

/-- The operation does in one frame what it does in the other. -/
theorem Does.agree {a a' : Act} {o : Oper} {w : World} {S : Value → World → Prop} (hs : ∀ cs b, o.op ≠ .select cs b) (h : ∀ t, t ∈ o.looksAt ops → a.tmps[t]? = a'.tmps[t]?) (hd : Does P ops o a w S) : Does P ops o a' w S := by
  unfold Does at *
  rw [← wanted_agree h, ← execOp_agree hs h]
  exact hd

/-- What an operation does serves any walk that goes on from its value. -/
theorem Does.wpOp {i : Nat} {o : Oper} {a : Act} {w : World} {S : Value → World → Prop} {K : Act → World → Prop} {Q : Exit → Act → World → Prop} (ho : ops[i]? = some o) (hd : Does P ops o a w S)
    (hK : ∀ v w', S v w' → Ext w w' → K (a.put o.dst v) w') : wpOp P ops Q i K a w := by
  unfold Go.wpOp
  simp only [ho]
  unfold Does at hd
  split
  · rename_i hw
    rw [if_pos hw] at hd
    left
    unfold Oper.wp
    generalize (execOp a.eval o).run P w = r at *
    cases r with
    | ok x w' =>
      cases x with
      | value v => exact hK _ _ hd.1 hd.2
      | skip => exact hK _ _ hd.1 hd.2
      | enter f args =>
        refine Calls.mono hd fun e w' he => ?_
        obtain ⟨v, rfl, h1, h2⟩ := he
        exact hK _ _ h1 h2
      | row r args => exact Rows.mono hd fun v w' he => hK _ _ he.1 he.2
      | _ => exact hd.elim
    | halt x w' => exact hd.elim
  · rename_i hw
    rw [if_neg hw] at hd
    exact hK _ _ hd (Ext.refl _)

/-- The same, as it is walked: whatever goes on from the value. -/
def DoesK (P : Program) (ops : Array Oper) (o : Oper) (a : Act) (w : World) (S : Value → World → Prop) : Prop :=
  ∀ K : Act → World → Prop, (∀ a' w', S (a'.tmps.getD (o.dst.getD 0) undef) w' → Ext w w' → a'.defers = a.defers → K a' w') →
    if Region.wanted o (yielded ops a.tmps) then o.wp P a w K (fun _ _ _ => False) else K (a.put o.dst undef) w
theorem DoesK.does {o : Oper} {a : Act} {w : World} {S : Value → World → Prop} {d : Nat} (hd : o.dst = some d) (hsz : d < a.tmps.size) (h : DoesK P ops o a w S) : Does P ops o a w S :=
  does_intro hd hsz (by have := h; unfold DoesK at this; simpa [hd] using this)
theorem doesK_plain {o : Oper} {a : Act} {w : World} {S : Value → World → Prop} (hg : o.guard = none)
    (h : ∀ K : Act → World → Prop, (∀ a' w', S (a'.tmps.getD (o.dst.getD 0) undef) w' → Ext w w' → a'.defers = a.defers → K a' w') → o.wp P a w K (fun _ _ _ => False)) : DoesK P ops o a w S := fun K hK => by
  rw [if_pos (by simp [Region.wanted, hg])]
  exact h K hK
theorem size_put (a : Act) (x : Option Tmp) (v : Value) : (a.put x v).tmps.size = a.tmps.size := by cases x <;> simp [Act.put]

/-- An operation of which F tells makes a block, and hands back its address. -/
def Fresh (F : List Nat) (i : Nat) (w1 : World) (s : Value → World → Prop) : Value → World → Prop :=
  if F.contains i then fun v w' => s v w' ∧ v = .pointer (some ⟨w1.heap.size, 0, none⟩) ∧ w1.heap.size < w'.heap.size else s
theorem Fresh.out {F : List Nat} {i : Nat} {w1 : World} {s : Value → World → Prop} {v : Value} {w' : World} (h : Fresh F i w1 s v w') : s v w' := by
  unfold Fresh at h; split at h
  · exact h.1
  · exact h
theorem Fresh.ptr {F : List Nat} {i : Nat} {w1 : World} {s : Value → World → Prop} {v : Value} {w' : World} (h : Fresh F i w1 s v w') (hF : F.contains i = true) : v = .pointer (some ⟨w1.heap.size, 0, none⟩) ∧ w1.heap.size < w'.heap.size := by
  unfold Fresh at h; rw [if_pos hF] at h; exact h.2
/-- The steps of a head, in the order of the text. -/
def Steps (P : Program) (ops : Array Oper) (w : World) (F : List Nat) (S : List (Value → World → Prop)) (vals : Nat → Value) : Nat → List Oper → Act → Prop
  | _, [], _ => True
  | i, o :: os, a =>
    (∀ w1, Ext w w1 → (∀ j, j < i → Region.waitsFor .any ops i j = true → (S.getD j fun _ _ => True) (vals j) w1) → DoesK P ops o a w1 (Fresh F i w1 (S.getD i fun _ _ => True))) ∧
      Steps P ops w F S vals (i + 1) os (a.put o.dst (vals i))

theorem Steps.at_ {w : World} {F : List Nat} {S : List (Value → World → Prop)} {vals : Nat → Value} : ∀ (os : List Oper) (k : Nat) (a : Act), Steps P ops w F S vals k os a → (∀ o, o ∈ os → ∃ d, o.dst = some d ∧ d < a.tmps.size) → ∀ i o, os[i]? = some o →
    ∀ w1, Ext w w1 → (∀ j, j < k + i → Region.waitsFor .any ops (k + i) j = true → (S.getD j fun _ _ => True) (vals j) w1) → Does P ops o (preAct a vals k (os.take i)) w1 (Fresh F (k + i) w1 (S.getD (k + i) fun _ _ => True))
  | [], _, _, _, _, i, o, h => by simp at h
  | x :: os, k, a, hs, hz, 0, o, h => by
    simp only [List.getElem?_cons_zero, Option.some.injEq] at h
    subst h
    obtain ⟨d, hd, hlt⟩ := hz x (by simp)
    exact fun w1 hE hk => (hs.1 w1 hE hk).does hd hlt
  | x :: os, k, a, hs, hz, i + 1, o, h => by
    have := Steps.at_ os (k + 1) _ hs.2 (fun o ho => by rw [size_put]; exact hz o (by simp [ho])) i o (by simpa using h)
    simpa [preAct, Nat.add_assoc, Nat.add_comm 1 i] using this

theorem preAct_St {n : Nat} {a0 : Act} {vals : Nat → Value} (hok : ∀ i, i < n → HeadOk ops n a0.tmps.size i) : ∀ (os : List Oper) (k : Nat) (a : Act), (∀ i, i < os.length → os[i]? = ops[k + i]?) → k + os.length ≤ n →
    St ops n a0 vals (fun j => j < k) a → St ops n a0 vals (fun j => j < k + os.length) (preAct a vals k os)
  | [], k, a, _, _, h => by simpa [preAct] using h
  | o :: os, k, a, hl, hn, h => by
    have ho : ops[k]? = some o := by have := hl 0 (by simp); simpa using this.symm
    simp only [List.length_cons] at hn
    have h1 := (h.put (i := k) (by omega) (hok k (by omega)) ho (by omega) (vals k)).congr (vals' := vals) (L' := fun j => j < k + 1) (fun j _ => by omega) (fun j _ _ => by
      split
      · rename_i e; rw [e]
      · rfl)
    have := preAct_St hok os (k + 1) _ (fun i hi => by have := hl (i + 1) (by simp; omega); simpa [Nat.add_assoc, Nat.add_comm 1 i] using this) (by omega) h1
    simpa [preAct, Nat.add_assoc, Nat.add_comm 1 os.length] using this

theorem tailB_spec {n : Nat} (h : tailB ops n = true) : Region.noSelect ops = true ∧ n < ops.size ∧ Region.sinkB .any ops n = true ∧ Region.chainB .any ops n = true ∧
    Region.seqB .any ops (ops.size - n) n ((List.range n).foldl (fun l i => l.setIfInBounds i true) (Array.replicate ops.size false)) = true := by
  unfold tailB at h
  simp only [Bool.and_eq_true, decide_eq_true_eq] at h
  exact ⟨h.1.1.1.1, h.1.1.1.2, h.1.1.2, h.1.2, h.2⟩

theorem fold_size (size : Nat) : ∀ (l : List Nat) (A : Array Bool), A.size = size → (l.foldl (fun l i => l.setIfInBounds i true) A).size = size
  | [], A, h => h
  | i :: l, A, h => fold_size size l _ (by simp [h])
theorem fold_get (size : Nat) : ∀ (l : List Nat) (A : Array Bool), A.size = size → ∀ t, t < size → (l.foldl (fun l i => l.setIfInBounds i true) A).getD t false = (A.getD t false || decide (t ∈ l))
  | [], A, h, t, ht => by simp
  | i :: l, A, h, t, ht => by
    rw [List.foldl_cons, fold_get size l _ (by simp [h]) t ht]
    by_cases e : t = i
    · subst e; simp [h, ht]
    · have : (A.setIfInBounds i true).getD t false = A.getD t false := by
        simp only [Array.getD_eq_getD_getElem?]
        rw [Array.getElem?_setIfInBounds_ne (Ne.symm e)]
      rw [this]
      simp [e]

theorem count_less {p : Nat → Bool} (i : Nat) : ∀ l : List Nat, l.Nodup → i ∈ l → p i = true → (l.filter fun j => p j && decide (j ≠ i)).length + 1 = (l.filter p).length
  | [], _, h, _ => by simp at h
  | x :: l, hnd, hm, hp => by
    rw [List.nodup_cons] at hnd
    by_cases e : x = i
    · subst e
      have h0 : (l.filter fun j => p j && decide (j ≠ x)) = l.filter p := List.filter_congr fun j hj => by
        have : j ≠ x := fun e => hnd.1 (e ▸ hj)
        simp [this]
      simp only [List.filter_cons, hp, ne_eq, not_true_eq_false, decide_false, Bool.and_false, Bool.false_eq_true, if_false, if_true, List.length_cons]
      simp only [ne_eq] at h0
      rw [h0]
    · have hm' : i ∈ l := by simpa [Ne.symm e] using hm
      have := count_less i l hnd.2 hm' hp
      simp only [List.filter_cons, ne_eq, e, not_false_eq_true, decide_true, Bool.and_true]
      split <;> simp_all

/-- When the whole head is listed, and nothing of the tail, the list is this one. -/
theorem listed_all {n : Nat} (hn : n < ops.size) {listed : Array Bool} (inv : HeadInv .any ops n listed) (hall : ∀ j, j < n → listed.getD j false = true) :
    listed = (List.range n).foldl (fun l i => l.setIfInBounds i true) (Array.replicate ops.size false) := by
  have hs := fold_size ops.size (List.range n) (Array.replicate ops.size false) (by simp)
  apply Array.ext
  · rw [inv.size, hs]
  · intro t h1 h2
    have ht : t < ops.size := by rw [← inv.size]; exact h1
    have e1 : listed[t] = listed.getD t false := by simp [h1]
    have e2 : ((List.range n).foldl (fun l i => l.setIfInBounds i true) (Array.replicate ops.size false))[t] = ((List.range n).foldl (fun l i => l.setIfInBounds i true) (Array.replicate ops.size false)).getD t false := by simp [h2]
    rw [e1, e2, fold_get ops.size _ _ (by simp) t ht, getD_replicate_false]
    by_cases htn : t < n
    · rw [hall t htn]; simp [htn]
    · rw [getD_both (inv.tail t (by omega) ht)]; simp; omega

section
variable {w : World} {a0 : Act} {n : Nat} {F : List Nat} {S : List (Value → World → Prop)} {Q : Exit → Act → World → Prop}
theorem region_steps (hT : tailB ops n = true) (hok : ∀ i, i < n → HeadOk ops n a0.tmps.size i)
    (hmono : ∀ j, j < n → ∀ v w1 w2, (S.getD j fun _ _ => True) v w1 → Ext w1 w2 → (S.getD j fun _ _ => True) v w2)
    (hstep : ∀ vals, Steps P ops w F S vals 0 (ops.toList.take n) a0)
    (htail : ∀ vals w', Ext w w' → (∀ j, j < n → (S.getD j fun _ _ => True) (vals j) w') → (∀ i j, i < n → j < n → F.contains i = true → F.contains j = true → i ≠ j → vals i ≠ vals j) → wpAny P .any ops Q (ops.size - n) ((List.range n).foldl (fun l i => l.setIfInBounds i true) (Array.replicate ops.size false)) (preAct a0 vals 0 (ops.toList.take n)) w') :
    ∀ (f : Nat) (listed : Array Bool) (a : Act) (vals : Nat → Value) (w1 : World), HeadInv .any ops n listed → St ops n a0 vals (fun j => listed.getD j false = true) a → Ext w w1 →
      (∀ j, j < n → listed.getD j false = true → (S.getD j fun _ _ => True) (vals j) w1) →
      (∀ j, j < n → listed.getD j false = true → F.contains j = true → ∃ g, vals j = .pointer (some ⟨g, 0, none⟩) ∧ g < w1.heap.size) →
      (∀ i j, i < n → j < n → listed.getD i false = true → listed.getD j false = true → F.contains i = true → F.contains j = true → i ≠ j → vals i ≠ vals j) → ((List.range n).filter fun j => !listed.getD j false).length = f →
      wpAny P .any ops Q (f + (ops.size - n)) listed a w1 := by
  obtain ⟨hsel, hn, hs, hc, hq⟩ := tailB_spec hT
  have htl : (ops.toList.take n).length = n := by simp; omega
  have hget : ∀ i, i < n → (ops.toList.take n)[i]? = ops[i]? := fun i hi => by simp [hi]
  have pre : ∀ (vals : Nat → Value) i, i ≤ n → St ops n a0 vals (fun j => j < i) (preAct a0 vals 0 ((ops.toList.take n).take i)) := fun vals i hi => by
    have := preAct_St (n := n) (a0 := a0) (vals := vals) hok ((ops.toList.take n).take i) 0 a0 (fun j hj => by
      simp only [List.length_take] at hj
      rw [List.getElem?_take, if_pos (by omega), Nat.zero_add, hget j (by omega)]) (by simp; omega) ⟨rfl, rfl, fun j _ hl => absurd hl (by omega), fun t _ => rfl⟩
    refine this.congr (fun j hj => ?_) fun _ _ _ => rfl
    simp only [List.length_take]
    rw [Array.length_toList]
    omega
  intro f
  induction f with
  | zero =>
    intro listed a vals w1 inv st hE hS hF hN hf
    have hall : ∀ j, j < n → listed.getD j false = true := fun j hj => by
      have h0 := List.eq_nil_of_length_eq_zero hf
      have h1 := List.filter_eq_nil_iff.1 h0 j (List.mem_range.2 hj)
      simpa using h1
    rw [Nat.zero_add, listed_all hn inv hall]
    have e : a = preAct a0 vals 0 (ops.toList.take n) := by
      have h2 := (pre vals n (Nat.le_refl _))
      rw [List.take_take, Nat.min_self] at h2
      exact St.uniq (st.congr (L' := fun _ => True) (fun j hj => by simp [hall j hj]) fun _ _ _ => rfl) (h2.congr (L' := fun _ => True) (fun j hj => by simp [hj]) fun _ _ _ => rfl)
    rw [e]
    exact htail vals w1 hE (fun j hj => hS j hj (hall j hj)) fun i j hi hj => hN i j hi hj (hall i hi) (hall j hj)
  | succ f ih =>
    intro listed a vals w1 inv st hE hS hF hN hf
    obtain ⟨i0, hi0⟩ : ∃ i, i ∈ (List.range n).filter fun j => !listed.getD j false := by
      cases hl : (List.range n).filter fun j => !listed.getD j false with
      | nil => rw [hl] at hf; simp at hf
      | cons x l => exact ⟨x, by simp⟩
    have hi0n : i0 < n := by have := (List.mem_filter.1 hi0).1; simpa using this
    have hi0l : listed.getD i0 false = false := by have := (List.mem_filter.1 hi0).2; simpa using this
    have hi0t : listed.getD i0 true = false := getD_in (by rw [inv.size]; omega) hi0l
    have hnotail := tail_waits hs hc hn inv _ i0 rfl hi0n hi0t
    have hne : Region.ready .any ops listed ≠ [] := by
      -- the least unlisted operation of the head is ready
      have key : ∀ d i, i = d → i < n → listed.getD i false = false → (∃ j, j ∈ Region.ready .any ops listed) := by
        intro d
        induction d using Nat.strongRecOn with
        | _ d ihd =>
          intro i hid hin hil
          subst hid
          by_cases hx : ∃ j, j < i ∧ listed.getD j false = false
          · obtain ⟨j, hj, hjl⟩ := hx
            exact ihd j hj j rfl (by omega) hjl
          · obtain ⟨o, dd, ho, hdd, _⟩ := (hok i hin).ex
            refine ⟨i, mem_ready.2 ⟨getD_in (by rw [inv.size]; omega) hil, o, ho, fun e he hb => ?_⟩⟩
            have hlt := (hok i hin).lex o e ho he hb
            cases hl : listed.getD e.on false with
            | true => rfl
            | false => exact absurd ⟨e.on, hlt, hl⟩ hx
      obtain ⟨j, hj⟩ := key i0 i0 rfl hi0n hi0l
      exact fun h => by rw [h] at hj; cases hj
    rw [show f + 1 + (ops.size - n) = (f + (ops.size - n)) + 1 by omega]
    refine ⟨fun h => absurd h hne, fun i hi => ?_⟩
    have hin : i < n := by
      rcases Nat.lt_or_ge i n with h | h
      · exact h
      · exact absurd hi (hnotail i h)
    obtain ⟨hun, o, ho, hall⟩ := mem_ready.1 hi
    have hunf : listed.getD i false = false := getD_both hun
    have hwait : ∀ j, Region.waitsFor .any ops i j = true → listed.getD j false = true := fun j hj => by
      obtain ⟨o', ho', e, he, hb, hon⟩ := Region.waitsFor_spec hj
      have : o' = o := Option.some.inj (ho'.symm.trans ho)
      subst this
      rw [← hon]
      exact hall e he hb
    have hselo := Region.noSelect_spec hsel i o
    have hdo := Steps.at_ (ops.toList.take n) 0 a0 (hstep vals) (fun o' ho' => by
      obtain ⟨j, hj, hjo⟩ := List.mem_iff_getElem.1 ho'
      have hjn : j < n := by rw [htl] at hj; exact hj
      obtain ⟨o'', d, h1, h2, h3⟩ := (hok j hjn).ex
      have h4 : (ops.toList.take n)[j]? = some o' := by rw [List.getElem?_eq_getElem hj, hjo]
      rw [hget j hjn, h1] at h4
      obtain rfl := Option.some.inj h4
      exact ⟨d, h2, h3⟩) i o (by rw [hget i hin, ho]) w1 hE (by
      intro j hj hw
      rw [Nat.zero_add] at hj hw
      exact hS j (by omega) (hwait j hw))
    rw [Nat.zero_add] at hdo
    have hdo' := hdo.agree (a' := a) (fun cs b => hselo cs b ho) (slot_agree (pre vals i (by omega)) st (hok i hin) ho fun j hj hjn hw => ⟨hj, hwait j hw, rfl⟩)
    refine hdo'.wpOp ho fun v w' hv hE' => ?_
    refine ih (listed.setIfInBounds i true) _ (fun j => if j = i then v else vals j) w' (inv.set hi hin) ?_ (hE.tr hE') ?_ ?_ ?_ ?_
    · refine (st.put hin (hok i hin) ho (by simp [hunf]) v).congr (fun j hj => ?_) fun _ _ _ => rfl
      by_cases e : j = i
      · subst e
        have hlt : j < listed.size := by rw [inv.size]; omega
        simp [hlt]
      · rw [getD_set_ne false (Ne.symm e)]
        simp [e]
    · intro j hj hl
      by_cases e : j = i
      · subst e; rw [if_pos rfl]; exact hv.out
      · rw [if_neg e]
        rw [getD_set_ne false (Ne.symm e)] at hl
        exact hmono j hj _ _ _ (hS j hj hl) hE'
    · intro j hj hl hc'
      by_cases e : j = i
      · subst e; rw [if_pos rfl]
        have := hv.ptr hc'
        exact ⟨_, this.1, this.2⟩
      · rw [if_neg e]
        rw [getD_set_ne false (Ne.symm e)] at hl
        obtain ⟨g, h1, h2⟩ := hF j hj hl hc'
        exact ⟨g, h1, Nat.lt_of_lt_of_le h2 hE'.size⟩
    · intro j k hj hk lj lk cj ck hne
      by_cases e1 : j = i
      · subst e1
        rw [if_pos rfl, if_neg (Ne.symm hne)]
        rw [getD_set_ne false hne] at lk
        obtain ⟨g, h1, h2⟩ := hF k hk lk ck
        rw [h1, (hv.ptr cj).1]
        intro e
        injection e with e; injection e with e; injection e with e
        omega
      · rw [if_neg e1]
        rw [getD_set_ne false (Ne.symm e1)] at lj
        by_cases e2 : k = i
        · subst e2
          rw [if_pos rfl]
          obtain ⟨g, h1, h2⟩ := hF j hj lj cj
          rw [h1, (hv.ptr ck).1]
          intro e
          injection e with e; injection e with e; injection e with e
          omega
        · rw [if_neg e2]
          rw [getD_set_ne false (Ne.symm e2)] at lk
          exact hN j k hj hk lj lk cj ck hne
    · have h1 := count_less (p := fun j => !listed.getD j false) i (List.range n) List.nodup_range (List.mem_range.2 hin) (by simp [hunf])
      have h2 : ((List.range n).filter fun j => !(listed.setIfInBounds i true).getD j false) = (List.range n).filter fun j => !listed.getD j false && decide (j ≠ i) := by
        refine List.filter_congr fun j hj => ?_
        by_cases e : j = i
        · subst e
          have hlt : j < listed.size := by rw [inv.size]; omega
          simp [hlt]
        · rw [getD_set_ne false (Ne.symm e)]
          simp [e]
      rw [h2]
      omega

def Mono (s : Value → World → Prop) : Prop := ∀ v w1 w2, s v w1 → Ext w1 w2 → s v w2
def AllMono : List (Value → World → Prop) → Prop
  | [] => True
  | s :: ss => Mono s ∧ AllMono ss
theorem AllMono.at_ : ∀ {S : List (Value → World → Prop)}, AllMono S → ∀ j, Mono (S.getD j fun _ _ => True)
  | [], _, j => fun _ _ _ _ _ => by simp
  | s :: ss, h, 0 => h.1
  | s :: ss, h, j + 1 => by simpa using AllMono.at_ h.2 j
def eqv (x : Value) : Value → World → Prop := fun v _ => v = x
theorem mono_eqv (x : Value) : Mono (eqv x) := fun _ _ _ h _ => h
def isArr (B : Nat) (T : TypeId) (l : List Int) : Value → World → Prop := fun v w => ∃ g, v = .pointer (some ⟨g, 0, none⟩) ∧ B ≤ g ∧ Arr w g T l
theorem mono_arr (B : Nat) (T : TypeId) (l : List Int) : Mono (isArr B T l) := fun _ _ _ ⟨g, h1, h2, h3⟩ hE => ⟨g, h1, h2, h3.ext hE⟩
def isRow (L : List Int) : Value → World → Prop := fun v w => ∃ A c, v = .slice A L.length c ∧ RowAt w A L
theorem mono_row (L : List Int) : Mono (isRow L) := fun _ _ _ ⟨A, c, h1, h2⟩ hE => ⟨A, c, h1, h2.below hE⟩

/-- THE LAW. -/
theorem region_ext {id : Nat} {l : List Oper} (n : Nat) (hm : P.follows .mixedOrders = true) (hT : tailB l.toArray n = true) (hH : headB l.toArray n a0.tmps.size = true) (F : List Nat) (S : List (Value → World → Prop))
    (hmono : AllMono S)
    (hstep : ∀ vals, Steps P l.toArray w F S vals 0 (l.take n) a0)
    (htail : ∀ vals w', Ext w w' → (∀ j, j < n → (S.getD j fun _ _ => True) (vals j) w') → (∀ i j, i < n → j < n → F.contains i = true → F.contains j = true → i ≠ j → vals i ≠ vals j) →
      wpList P l.toArray Q (l.drop n) (preAct a0 vals 0 (l.take n)) w') :
    (Code.region id l.toArray true).wp P Q a0 w := by
  obtain ⟨hsel, hn, hs, hc, hq⟩ := tailB_spec hT
  refine wp_region_any hm ?_
  have hE : Ext w { w with drawn := w.drawn + 1 } := ⟨rfl, rfl, rfl, Nat.le_refl _, fun _ _ => rfl⟩
  have inv0 : HeadInv .any l.toArray n (Array.replicate l.toArray.size false) :=
    ⟨by simp, fun j oj _ hl => (by rw [getD_replicate_false] at hl; cases hl), fun t _ ht => getD_in (by simpa using ht) (getD_replicate_false _ _)⟩
  have hcount : ((List.range n).filter fun j => !(Array.replicate l.toArray.size false).getD j false).length = n := by
    rw [List.filter_eq_self.2 (fun j _ => by rw [getD_replicate_false]; rfl)]
    simp
  have hn' : n < l.length := by simpa using hn
  have := region_steps (P := P) (ops := l.toArray) (w := w) (a0 := a0) (n := n) (F := F) (S := S) (Q := Q) hT (headB_spec hH) (fun j _ => hmono.at_ j) (by simpa using hstep) (fun vals w' hE' hS hN => by
    have h1 := htail vals w' hE' hS hN
    have h2 := wpAny_of_seq (md := .any) (Q' := Q) (l.drop n) n _ _ w' (fun j => by simp [List.getElem?_drop]) (by simpa using hq) h1
    simpa using h2) n _ a0 (fun _ => undef) _ inv0 ⟨rfl, rfl, fun j _ hl => (by rw [getD_replicate_false] at hl; cases hl), fun _ _ => rfl⟩ hE (fun j _ hl => by rw [getD_replicate_false] at hl; cases hl)
    (fun j _ hl => by rw [getD_replicate_false] at hl; cases hl) (fun j _ _ _ hl => by rw [getD_replicate_false] at hl; cases hl) hcount
  rwa [show n + (l.toArray.size - n) = l.toArray.size by omega] at this
end
end
end Go.Proofs.YtaemiknaiccijaaGreat

/- The reference's check of a polynomial, its sums with multiples, and its inverse of a number. -/
namespace Go.Proofs.YtaemiknaiccijaaGreat
open Go.RowKit

/-- All of the first n coefficients are less than p. -/
def allLt (p : Int) (l : List Int) : Nat → Bool
  | 0 => true
  | n + 1 => allLt p l n && decide (at0 l n < p)
def isPB (p : Int) (l : List Int) : Bool := allLt p l 64 && primeB p
theorem allLt_iff (p : Int) (l : List Int) : ∀ n, allLt p l n = true ↔ ∀ j, j < n → at0 l j < p
  | 0 => by simp [allLt]
  | n + 1 => by
    rw [allLt, Bool.and_eq_true, allLt_iff p l n, decide_eq_true_eq]
    constructor
    · intro h j hj
      by_cases e : j = n
      · rw [e]; exact h.2
      · exact h.1 j (by omega)
    · intro h
      exact ⟨fun j hj => h j (by omega), h n (by omega)⟩
theorem allLt_false (p : Int) (l : List Int) (n m : Nat) (h : n < m) (hn : ¬ at0 l n < p) : allLt p l m = false := by
  cases e : allLt p l m with
  | false => rfl
  | true => exact absurd ((allLt_iff p l m).1 e n h) hn

set_option maxHeartbeats 400000 in
theorem l01Is_any (p : Int) (l : List Int) (hl : l.length = 64) (hb : IsB l) (w : World) :
    Calls Tryz.prog 61 #[.int .i64 p, .agg (u8s l)] w fun e w' => e = .returned (.bool (isPB p l)) ∧ Ext w w' := by
  have HL := Lib.hid hl
  clear hl
  have HB := Lib.hid hb
  clear hb
  have HC : Arr (w.alloc (.cells (u8s l) 25)) w.heap.size 25 l := Arr.new w _ l
  go_enter Tryz.func61, Tryz.ntmps61
  go_wp2
  go_loop [5] (fun i => ∃ k : Nat, k ≤ 64 ∧ i = .int .i64 k ∧ allLt p l k = true) (fun i => 64 - (intOf i).toNat)
  case atStart => exact ⟨0, by omega, rfl, rfl⟩
  case round =>
    obtain ⟨k, hk, rfl, hd⟩ := hrel
    have HD := Lib.hid hd
    clear hd
    by_cases hk0 : k < 64
    · have hc := HC.cell k (by rw [HL.out]; omega)
      have b := HB.out k
      by_cases hz : at0 l k < p
      · go_wp2
        go_round
        case rel => exact ⟨k + 1, by omega, by go_num, by rw [allLt, HD.out]; simpa using hz⟩
        case measure => simp [intOf]; omega
      · have hf : allLt p l 64 = false := allLt_false p l k 64 hk0 hz
        have F := Lib.hid hf
        clear hf
        go_wp2
        go_ret
        exact ⟨ret_bool (by rw [isPB, F.out]; rfl), (Ext.refl w).alloc _⟩
    · have hk1 : k = 64 := by omega
      subst hk1
      go_wp2_with (first | (go_at_call 94; refine (l01Prime_any _ _).mono ?_; rintro e w' ⟨rfl, rfl⟩))
      go_ret
      exact ⟨ret_bool (by rw [isPB, HD.out]; rfl), (Ext.refl w).alloc _⟩

/-- The array behind n rounds of a sum with a multiple. -/
def addTo (p : Int) (a b : List Int) (k : Int) (n : Nat) : List Int := tab 64 fun j => if j < n then (at0 a j + k * at0 b j) % p else at0 a j
def sAdd (p : Int) (a b : List Int) (k : Int) : List Int := tab 64 fun j => (at0 a j + k * at0 b j) % p
def AddRel (p : Int) (a b : List Int) (k : Int) (w : World) (i : Value) (wr : World) : Prop :=
  ∃ n : Nat, n ≤ 64 ∧ i = .int .i64 n ∧ Arr wr w.heap.size 25 (addTo p a b k n) ∧ Arr wr (w.heap.size + 1) 25 b ∧ Arr wr (w.heap.size + 2) 25 zeros64 ∧ Ext w wr

theorem addTo_step (p : Int) (a b : List Int) (k : Int) (n : Nat) (hn : n < 64) {x : Int} (hx : x = (at0 a n + k * at0 b n) % p) : (addTo p a b k n).set n x = addTo p a b k (n + 1) := by
  unfold addTo
  rw [tab_set 64 n _ _ hn]
  refine tab_congr fun j _ => ?_
  by_cases e : j = n
  · subst e; rw [if_pos rfl, if_pos (by omega), hx]
  · rw [if_neg e]
    by_cases h : j < n
    · rw [if_pos h, if_pos (by omega)]
    · rw [if_neg h, if_neg (by omega)]
theorem at0_addTo (p : Int) (a b : List Int) (k : Int) (n : Nat) (hn : n < 64) : at0 (addTo p a b k n) n = at0 a n := by
  unfold addTo; rw [at0_tab_lt _ hn, if_neg (by omega)]
theorem addTo_length (p : Int) (a b : List Int) (k : Int) (n : Nat) : (addTo p a b k n).length = 64 := tab_length _ _
theorem addTo_zero (p : Int) (a b : List Int) (k : Int) (ha : a.length = 64) : addTo p a b k 0 = a :=
  (tab_congr fun j _ => if_neg (by omega)).trans (tab_self' ha)
theorem addTo_end (p : Int) (a b : List Int) (k : Int) : addTo p a b k 64 = sAdd p a b k := tab_congr fun j hj => if_pos hj
theorem alloc3 (w : World) (A B C : Obj) : ((w.alloc A).alloc B).heap.size = w.heap.size + 2 := by simp

set_option maxRecDepth 100000 in
set_option maxHeartbeats 400000 in
theorem l01Add_any (p k : Int) (a b : List Int) (ha : a.length = 64) (hb : b.length = 64) (hp : 2 ≤ p) (hp2 : p ≤ 7) (hk : -1000 ≤ k) (hk2 : k ≤ 1000) (ba : IsB a) (bb : IsB b) (w : World) :
    Calls Tryz.prog 50 #[.int .i64 p, .agg (u8s a), .agg (u8s b), .int .i64 k] w fun e w' => e = .returned (.agg (u8s (sAdd p a b k))) ∧ Ext w w' := by
  have HA := Lib.hid ha
  have HB := Lib.hid hb
  have BA := Lib.hid ba
  have BB := Lib.hid bb
  clear ha hb ba bb
  have hz := zlit
  go_enter Tryz.func50, Tryz.ntmps50
  go_wp2
  go_loopw [9] (fun i wr => AddRel p a b k w i wr) (fun i _ => 64 - (intOf i).toNat)
  case atStart =>
    refine ⟨0, by omega, rfl, ?_, ?_, ?_, ((Ext.refl w).alloc _).alloc _ |>.alloc _⟩
    · rw [addTo_zero p a b k HA.out]; exact ((Arr.new w _ a).alloc _).alloc _
    · have := (Arr.new (w.alloc (.cells (u8s a) 25)) 25 b).alloc (.cells (u8s zeros64) 25)
      simpa using this
    · have := Arr.new ((w.alloc (.cells (u8s a) 25)).alloc (.cells (u8s b) 25)) 25 zeros64
      simpa using this
  case round =>
    obtain ⟨n, hn, rfl, A1, A2, A3, hE⟩ := hrel
    by_cases hlt : n < 64
    · have c1 := A1.cell n (by rw [addTo_length]; omega)
      rw [at0_addTo p a b k n hlt] at c1
      have c2 := A2.cell n (by rw [HB.out]; omega)
      have f1 := A1.free n
      have b1 := BA.out n
      have b2 := BB.out n
      have b3 := mulB (by decide : (0:Int) ≤ 1000) hk hk2 b2.1 b2.2
      have b4 := tmodB (at0 a n + k * at0 b n) p hp hp2
      have hp0 : p ≠ 0 := by omega
      have hfin := go_mod (at0 a n + k * at0 b n) p (by omega)
      have FIN := Lib.hid hfin
      clear hfin
      go_wp2
      refine wp_region_still_tail 19 (by kernel_rfl) (by kernel_rfl) ?_
      simp only [List.take_succ_cons, List.take_zero, List.drop_succ_cons, List.drop_zero]
      repeat (refine wpStill_step (fun K hK => ?_); go_simp; (try go_bits); refine hK _ ?_; clear hK K)
      refine wpStill_nil ?_
      change wpList _ _ _ _ _ wr.drew
      go_wp2
      have hx : (at0 a n + k * at0 b n) % p % 256 = (at0 a n + k * at0 b n) % p := by
        have := emod_range (at0 a n + k * at0 b n) p (by omega)
        rw [Int.emod_eq_of_lt this.1 (by omega)]
      go_roundw
      case rel =>
        refine ⟨n + 1, by omega, by go_num, ?_, ?_, ?_, (hE.set (Nat.le_refl _) _).drew⟩
        · rw [← addTo_step p a b k n hlt rfl]
          have := (A1.set n ((at0 a n + k * at0 b n) % p)).drew
          rw [FIN.out, hx]
          exact this
        · exact (A2.other (by simp)).drew
        · exact (A3.other (by simp)).drew
      case measure => simp [intOf]; omega
    · have hk1 : n = 64 := by omega
      subst hk1
      rw [addTo_end] at A1
      have hl64 : (sAdd p a b k).length = 64 := tab_length _ _
      have HL := Lib.hid hl64
      clear hl64
      go_wp2_with (first | (refine wplL _ rfl rfl A1 rfl HL.out ?_) | (refine wplS _ _ rfl rfl A3 rfl rfl zeros64_length HL.out ?_))
      have A4 := A3.setRow (l := sAdd p a b k)
      refine bodyPost_ret (res_c rfl rfl A4 HL.out Tryz.underlying25 infoPoly) rfl ⟨rfl, hE.setRow (by omega) _⟩

end Go.Proofs.YtaemiknaiccijaaGreat
