/- Lemmas and contracts of functions, for the laws: The program's products and powers by a modulus: functions on rows. No program in sight. -/
import Derived.Test.YtaemiknaiccijaaGreatRm4
set_option linter.unusedVariables false
set_option linter.unusedSimpArgs false
namespace Go.Proofs.YtaemiknaiccijaaGreat

def mulI (p : Int) (a b m : List Int) : List Int := dr p (mulr p a b) m
def pwG (p : Int) (m : List Int) : Nat → Nat → List Int → List Int → List Int
  | 0, _, out, _ => out
  | f + 1, k, out, sq => if k = 0 then out else pwG p m f (k / 2) (if k % 2 = 1 then mulI p out sq m else out) (mulI p sq sq m)
def powI (p : Int) (a : List Int) (k : Nat) (m : List Int) : List Int := pwG p m k k (dr p [1] m) (dr p a m)
theorem mulI_spec {p : Int} (hp : PrimeP p) (a b : List Int) {m : List Int} (hm : Can p m) (hne : 0 < m.length) : Can p (mulI p a b m) ∧ (mulI p a b m).length < m.length :=
  ⟨dr_can (by have := hp.lo; omega) (mulr_can (by have := hp.lo; omega) a b).inp, dr_lt hp hm hne⟩
theorem pwG_zero (p : Int) (m : List Int) (f : Nat) (out sq : List Int) : pwG p m f 0 out sq = out := by
  cases f with
  | zero => rfl
  | succ f => rw [pwG, if_pos rfl]
theorem pwG_step (p : Int) (m : List Int) (f k : Nat) (out sq : List Int) (hk : k ≠ 0) : pwG p m (f + 1) k out sq = pwG p m f (k / 2) (if k % 2 = 1 then mulI p out sq m else out) (mulI p sq sq m) := by
  rw [pwG, if_neg hk]
theorem pwG_spec {p : Int} (hp : PrimeP p) {m : List Int} (hm : Can p m) (hne : 0 < m.length) : ∀ f k out sq, Can p out → out.length < m.length → Can p sq → sq.length < m.length → Can p (pwG p m f k out sq) ∧ (pwG p m f k out sq).length < m.length
  | 0, _, out, _, h1, h2, _, _ => ⟨h1, h2⟩
  | f + 1, k, out, sq, h1, h2, h3, h4 => by
    by_cases hk : k = 0
    · rw [hk, pwG_zero]; exact ⟨h1, h2⟩
    · rw [pwG_step _ _ _ _ _ _ hk]
      have a := mulI_spec hp sq sq hm hne
      have b := mulI_spec hp out sq hm hne
      refine pwG_spec hp hm hne f _ _ _ ?_ ?_ a.1 a.2
      · split
        · exact b.1
        · exact h1
      · split
        · exact b.2
        · exact h2
theorem powI_spec {p : Int} (hp : PrimeP p) {a m : List Int} (ha : Can p a) (hm : Can p m) (hne : 0 < m.length) (k : Nat) : Can p (powI p a k m) ∧ (powI p a k m).length < m.length := by
  have lo := hp.lo
  exact pwG_spec hp hm hne k k _ _ (dr_can (by omega) (can_one (by omega)).inp) (dr_lt hp hm hne) (dr_can (by omega) ha.inp) (dr_lt hp hm hne)
/-- A power of p, at most a bit more than a limit. -/
def normF (p most : Int) : Nat → Int → Int
  | 0, out => out
  | n + 1, out => if most < out then out else normF p most n (out * p)
def normI (p : Int) (n : Nat) (most : Int) : Int := normF p most n 1

/-- A number that is not 0 by p times one that is not is not 0 by p. -/
theorem mul_ne_table : ∀ p ∈ [(2 : Int), 3, 5, 7], ∀ x ∈ [(1 : Int), 2, 3, 4, 5, 6], x < p → ∀ y ∈ [(1 : Int), 2, 3, 4, 5, 6], y < p → x * y % p ≠ 0 := by decide
theorem mul_ne {p x y : Int} (hp : PrimeP p) (h1 : 1 ≤ x) (h2 : x < p) (h3 : 1 ≤ y) (h4 : y < p) : x * y % p ≠ 0 :=
  mul_ne_table p (prime_mem hp) x (small_cases hp h1 h2) h2 y (small_cases hp h3 h4) h4
/-- The quotient's length. -/
theorem dq_len {p : Int} (hp : PrimeP p) {a b : List Int} (ha : Can p a) (hb : Can p b) (hne : 0 < b.length) (hl : b.length ≤ a.length) : (dq p a b).length = a.length + 1 - b.length := by
  have h1 := dq_le p a b
  have hA := ha.last (by omega)
  have hB := hb.last hne
  have hI1 := invP_pos hp hB.1 hB.2
  have hI2 := (invP_range (x := at0 b (b.length - 1)) hp).2
  have top : at0 (dq p a b) (a.length - b.length) ≠ 0 := by
    obtain ⟨k, hk⟩ : ∃ k, dn a b = k + 1 := ⟨a.length - b.length, by unfold dn; omega⟩
    have e : a.length - b.length = k := by unfold dn at hk; omega
    rw [at0_dq, hk, e, dQ_same]
    unfold qd
    rw [show k + (b.length - 1) = a.length - 1 by omega]
    exact mul_ne hp hA.1 hA.2 hI1 hI2
  rcases Nat.lt_or_ge (a.length - b.length) (dq p a b).length with h | h
  · omega
  · exact absurd (at0_out _ _ h) top
/-- Divided as often as it goes. -/
def stripF (p : Int) (b : List Int) : Nat → List Int → Nat → List Int × Nat
  | 0, a, k => (a, k)
  | f + 1, a, k => if (dr p a b).length = 0 then stripF p b f (dq p a b) (k + 1) else (a, k)
def stripI (p : Int) (a b : List Int) : List Int × Nat := stripF p b a.length a 0

theorem dig_some {p : Int} (hp : 2 ≤ p) {n : Nat} (hn : n ≠ 0) : ∀ i, n / p.toNat ^ i = 0 → ∃ j, j < i ∧ dig p n j ≠ 0
  | 0, h => absurd (by simpa using h) hn
  | i + 1, h => by
    by_cases h2 : n / p.toNat ^ i = 0
    · obtain ⟨j, h3, h4⟩ := dig_some hp hn i h2
      exact ⟨j, by omega, h4⟩
    · refine ⟨i, by omega, ?_⟩
      rw [Nat.pow_succ, ← Nat.div_div_eq_div_mul] at h
      have h3 := (Nat.div_eq_zero_iff_lt (by omega)).1 h
      unfold dig
      rw [Nat.mod_eq_of_lt h3]
      omega
theorem numr_pos {p : Int} (hp : 2 ≤ p) {n : Nat} (hn : n ≠ 0) (h60 : n < 2 ^ 60) : 0 < (numr p n).length := by
  have h : n / p.toNat ^ 60 = 0 := Nat.div_eq_of_lt (Nat.lt_of_lt_of_le h60 (Nat.pow_le_pow_left (by omega) 60))
  obtain ⟨j, h1, h2⟩ := dig_some hp hn 60 h
  rcases Nat.eq_zero_or_pos (numr p n).length with h3 | h3
  · have h4 : at0 (numr p n) j = dig p n j := by rw [numr, at0_rowN, if_pos (by omega)]
    rw [List.eq_nil_of_length_eq_zero h3, at0_nil] at h4
    exact absurd h4.symm h2
  · exact h3
/-- A divisor of the degree n: the first one that divides, from the monic polynomials' numbers. -/
def wdF (p : Int) (a : List Int) (N : Nat) : Nat → Nat → List Int
  | 0, _ => a
  | f + 1, j => if (dr p a (numr p (N + j))).length = 0 then numr p (N + j) else wdF p a N f (j + 1)
def withDegI (p : Int) (a : List Int) (n : Nat) : List Int :=
  if a.length = n + 1 then scal p a (invP p (lc a)) else wdF p a (normI p n 1099511627776).toNat (normI p n 1099511627776).toNat 0

end Go.Proofs.YtaemiknaiccijaaGreat

/- The program's factors of a polynomial: functions on rows. No program in sight. -/
namespace Go.Proofs.YtaemiknaiccijaaGreat

/-- A polynomial divided by itself times a number leaves nothing. -/
theorem dr_scaled {p : Int} (hp : PrimeP p) {a b : List Int} (ha : Can p a) (hb : Can p b) (na : 0 < a.length) (hl : b.length = a.length) {c : Int} (hc : ∀ j, at0 b j = c * at0 a j % p) : (dr p a b).length = 0 := by
  have lo := hp.lo
  have B := hb.last (by omega)
  have hm := invP_mul hp B.1 B.2
  obtain ⟨m, em⟩ : ∃ m, a.length = m + 1 := ⟨a.length - 1, by omega⟩
  have lb : b.length - 1 = m := by omega
  rw [lb] at hm B
  have e : dr p a b = [] := by
    refine nz_ext (rowN_nz _ _) (fun n h => by simp at h) fun t => ?_
    rw [at0_nil, at0_dr p a b (by omega), show dn a b = 1 by unfold dn; omega, lb]
    show dstep p (invP p (lc b)) (at0 b) m (at0 a) 0 t = 0
    unfold dstep
    by_cases ht : t ≤ m
    · rw [if_pos ⟨Nat.zero_le _, by omega⟩]
      unfold qd lc
      rw [lb, Nat.zero_add, Nat.sub_zero]
      generalize invP p (at0 b m) = i at hm
      rw [hc m] at hm
      rw [hc t, Int.sub_emod, Int.mul_emod, Int.emod_emod, Int.emod_emod, ← Int.mul_emod]
      rw [show at0 a m * i * (c * at0 a t) = i * (c * at0 a m) * at0 a t by ac_rfl, Int.mul_emod (i * (c * at0 a m))]
      rw [Int.mul_emod, Int.emod_emod] at hm
      rw [Int.mul_emod i, hm, Int.one_mul, Int.emod_emod, Int.sub_self, Int.zero_emod]
    · rw [if_neg (by omega), at0_out a t (by omega)]
  rw [e]; rfl
theorem dr_self {p : Int} (hp : PrimeP p) {a : List Int} (ha : Can p a) (na : 0 < a.length) : (dr p a a).length = 0 :=
  dr_scaled hp ha ha na rfl (c := 1) fun j => by
    have := ha.inp j
    rw [Int.one_mul, Int.emod_eq_of_lt this.1 this.2]

theorem normF_ge {p most : Int} (lo : 2 ≤ p) : ∀ n out, 1 ≤ out → out ≤ normF p most n out
  | 0, out, _ => Int.le_refl _
  | n + 1, out, h => by
    rw [normF]; split
    · exact Int.le_refl _
    · have a1 : out * 1 ≤ out * p := Int.mul_le_mul_of_nonneg_left (by omega) (by omega)
      have := normF_ge (most := most) lo n (out * p) (by omega)
      omega
theorem normI_ge {p : Int} (lo : 2 ≤ p) {n : Nat} (hn : 1 ≤ n) : p ≤ normI p n 1099511627776 := by
  obtain ⟨m, rfl⟩ : ∃ m, n = m + 1 := ⟨n - 1, by omega⟩
  unfold normI
  rw [normF, if_neg (by decide), Int.one_mul]
  exact normF_ge lo m p (by omega)
theorem numr_two {p : Int} (hp : 2 ≤ p) {n : Nat} (hn : p.toNat ≤ n) (h60 : n < 2 ^ 60) : 2 ≤ (numr p n).length := by
  have hq : n / p.toNat ≠ 0 := Nat.ne_of_gt (Nat.div_pos hn (by omega))
  have h : n / p.toNat / p.toNat ^ 60 = 0 := Nat.div_eq_of_lt (Nat.lt_of_le_of_lt (Nat.div_le_self _ _) (Nat.lt_of_lt_of_le h60 (Nat.pow_le_pow_left (by omega) 60)))
  obtain ⟨j, h1, h2⟩ := dig_some hp hq 60 h
  have e : dig p (n / p.toNat) j = dig p n (j + 1) := by
    unfold dig
    rw [Nat.div_div_eq_div_mul, Nat.pow_succ, Nat.mul_comm]
  rw [e] at h2
  rcases Nat.lt_or_ge (numr p n).length 2 with h3 | h3
  · have h4 : at0 (numr p n) (j + 1) = dig p n (j + 1) := by rw [numr, at0_rowN, if_pos (by omega)]
    rw [at0_out _ _ (by omega)] at h4
    exact absurd h4.symm h2
  · exact h3
theorem scal_len5 {p : Int} (hp : PrimeP p) {a : List Int} (ha : Can p a) {c : Int} (h1 : 1 ≤ c) (h2 : c < p) : (scal p a c).length = a.length := by
  have l := scal_le p a c
  rcases Nat.lt_or_ge (scal p a c).length a.length with h | h
  · have A := ha.last (by omega)
    have := at0_scal p a c (a.length - 1)
    rw [at0_out _ _ (by omega)] at this
    exact absurd this.symm (mul_ne hp h1 h2 A.1 A.2)
  · omega
theorem wdF_spec {p : Int} (hp : PrimeP p) {a : List Int} (ha : Can p a) (na : 2 ≤ a.length) {N : Nat} (hN : p.toNat ≤ N) (hN2 : N ≤ 8000000000000) : ∀ f j, f + j ≤ N →
    Can p (wdF p a N f j) ∧ 2 ≤ (wdF p a N f j).length ∧ (wdF p a N f j).length ≤ max 64 a.length ∧ (dr p a (wdF p a N f j)).length = 0
  | 0, j, _ => ⟨ha, na, Nat.le_max_right _ _, dr_self hp ha (by omega)⟩
  | f + 1, j, h => by
    have lo := hp.lo
    rw [wdF]
    split
    · rename_i h0
      exact ⟨numr_can (by omega) _, numr_two lo (by omega) (Nat.lt_of_le_of_lt (show N + j ≤ 16000000000000 by omega) (by decide)), Nat.le_trans (numr_le _ _) (Nat.le_max_left _ _), h0⟩
    · exact wdF_spec hp ha na hN hN2 f (j + 1) (by omega)
theorem normF_most {p most : Int} (lo : 2 ≤ p) (hi : p ≤ 7) (hm : 0 ≤ most) : ∀ n out, 1 ≤ out → out ≤ 7 * most + 7 → normF p most n out ≤ 7 * most + 7
  | 0, out, h1, h2 => h2
  | n + 1, out, h1, h2 => by
    rw [normF]
    split
    · exact h2
    · have a1 : 1 * 1 ≤ out * p := Int.mul_le_mul h1 (by omega) (by decide) (by omega)
      have a2 : out * p ≤ most * 7 := Int.mul_le_mul (by omega) hi (by omega) hm
      exact normF_most lo hi hm n _ (by omega) (by omega)
theorem withDeg_spec {p : Int} (hp : PrimeP p) {a : List Int} (ha : Can p a) (na : 2 ≤ a.length) {n : Nat} (hn : 1 ≤ n) :
    Can p (withDegI p a n) ∧ 2 ≤ (withDegI p a n).length ∧ (withDegI p a n).length ≤ max 64 a.length ∧ (dr p a (withDegI p a n)).length = 0 := by
  have lo := hp.lo
  have hi := hp.hi
  unfold withDegI
  split
  · have A := ha.last (by omega)
    have i1 := invP_pos hp A.1 A.2
    have i2 := (invP_range (x := lc a) hp).2
    have L : (scal p a (invP p (lc a))).length = a.length := scal_len5 hp ha i1 i2
    have C := scal_can (show 0 < p by omega) a (invP p (lc a))
    exact ⟨C, by omega, by omega, dr_scaled hp ha C (by omega) L (at0_scal p a _)⟩
  · have g := normI_ge lo hn
    have u := normF_most lo hi (most := 1099511627776) (by decide) n 1 (by decide) (by decide)
    have u2 : normI p n 1099511627776 = normF p 1099511627776 n 1 := rfl
    exact wdF_spec hp ha na (by omega) (by omega) _ 0 (by omega)
/-- A quotient without rest. -/
theorem dq_some {p : Int} (hp : PrimeP p) {a b : List Int} (ha : Can p a) (hb : Can p b) (na : 0 < a.length) (nb : 0 < b.length) (hr : (dr p a b).length = 0) : b.length ≤ a.length ∧ (dq p a b).length = a.length + 1 - b.length := by
  have hab : b.length ≤ a.length := by
    rcases Nat.lt_or_ge a.length b.length with h | h
    · have dz : dn a b = 0 := by unfold dn; omega
      have : dr p a b = a := by
        refine nz_ext (rowN_nz _ _) ha.nz fun j => ?_
        rw [at0_dr p a b (by omega), dz]; rfl
      rw [this] at hr; omega
    · exact h
  exact ⟨hab, dq_len hp ha hb nb hab⟩
theorem stripF_spec {p : Int} (hp : PrimeP p) {b : List Int} (hb : Can p b) (nb : 2 ≤ b.length) : ∀ f a k, Can p a → 0 < a.length → Can p (stripF p b f a k).1 ∧ 0 < (stripF p b f a k).1.length ∧ (stripF p b f a k).1.length ≤ a.length
  | 0, a, k, ha, na => ⟨ha, na, Nat.le_refl _⟩
  | f + 1, a, k, ha, na => by
    rw [stripF]
    split
    · rename_i h
      have q := dq_some hp ha hb na (by omega) h
      have s := stripF_spec hp hb nb f (dq p a b) (k + 1) (dq_can (by have := hp.lo; omega) a b) (by omega)
      exact ⟨s.1, s.2.1, by omega⟩
    · exact ⟨ha, na, Nat.le_refl _⟩
theorem strip_spec {p : Int} (hp : PrimeP p) {a b : List Int} (ha : Can p a) (hb : Can p b) (na : 0 < a.length) (nb : 2 ≤ b.length) : Can p (stripI p a b).1 ∧ 0 < (stripI p a b).1.length ∧ (stripI p a b).1.length ≤ a.length :=
  stripF_spec hp hb nb _ a 0 ha na
theorem strip_less {p : Int} (hp : PrimeP p) {a b : List Int} (ha : Can p a) (hb : Can p b) (na : 0 < a.length) (nb : 2 ≤ b.length) (hr : (dr p a b).length = 0) : (stripI p a b).1.length < a.length := by
  unfold stripI
  obtain ⟨m, em⟩ : ∃ m, a.length = m + 1 := ⟨a.length - 1, by omega⟩
  rw [em, stripF, if_pos hr]
  have q := dq_some hp ha hb na (by omega) hr
  have s := stripF_spec hp hb nb m (dq p a b) (0 + 1) (dq_can (by have := hp.lo; omega) a b) (by omega)
  omega

/-- The factors of one degree: what is left of a, and the list. -/
def facB (p : Int) (n : Nat) : Nat → List Int → List Int → List (List Int × Nat) → List Int × List (List Int × Nat)
  | 0, a, _, out => (a, out)
  | f + 1, a, all, out =>
    if all.length ≤ 1 then (a, out)
    else facB p n f (stripI p a (withDegI p all n)).1 (stripI p all (withDegI p all n)).1 (out ++ [(withDegI p all n, (stripI p a (withDegI p all n)).2)])
/-- The n-th power of the Frobenius map, of T. -/
def frobI (p : Int) (a : List Int) : Nat → List Int
  | 0 => [0, 1]
  | k + 1 => powI p (frobI p a k) p.toNat a
def allI (p : Int) (a : List Int) (n : Nat) : List Int := bezD p (comb p (frobI p a n) [0, 1] (-1)) a
def facA (p : Int) : Nat → List Int → Nat → List (List Int × Nat) → List (List Int × Nat)
  | 0, _, _, out => out
  | f + 1, a, n, out =>
    if a.length ≤ 1 then out
    else if a.length - 1 < 2 * n then out ++ [(scal p a (invP p (lc a)), 1)]
    else facA p f (facB p n (allI p a n).length a (allI p a n) out).1 (n + 1) (facB p n (allI p a n).length a (allI p a n) out).2
/-- The factors, in the order in which they are found. -/
def facI (p : Int) (a : List Int) : List (List Int × Nat) := facA p (a.length + 1) a 1 []

theorem frobI_spec {p : Int} (hp : PrimeP p) {a : List Int} (ha : Can p a) (na : 0 < a.length) : ∀ k, Can p (frobI p a k) ∧ (frobI p a k).length ≤ max 2 a.length
  | 0 => ⟨can_tee (by have := hp.lo; omega), Nat.le_max_left _ _⟩
  | k + 1 => by
    have s := powI_spec hp (frobI_spec hp ha na k).1 ha na p.toNat
    exact ⟨s.1, by have : (frobI p a (k + 1)).length < a.length := s.2; omega⟩
theorem allI_spec {p : Int} (hp : PrimeP p) {a : List Int} (ha : Can p a) (na : 0 < a.length) (la : a.length ≤ 64) (n : Nat) : Can p (allI p a n) ∧ (allI p a n).length ≤ 64 ∧ 0 < (allI p a n).length := by
  have lo := hp.lo
  have F := frobI_spec hp ha na n
  have C := comb_can (show 0 < p by omega) (frobI p a n) [0, 1] (-1)
  have L := comb_le p (frobI p a n) [0, 1] (-1)
  simp only [List.length_cons, List.length_nil] at L
  obtain ⟨c1, _, _, c4, _, _, c7⟩ := bez0_inv hp C ha (by omega) la (.inr (by omega))
  have A := c1.last c7
  have i1 := invP_pos hp A.1 A.2
  have i2 := (invP_range (x := lc (bez0 p (comb p (frobI p a n) [0, 1] (-1)) a).1) hp).2
  have L2 : (allI p a n).length = (bez0 p (comb p (frobI p a n) [0, 1] (-1)) a).1.length := scal_len5 hp c1 i1 i2
  exact ⟨scal_can (by omega) _ _, by omega, by omega⟩

end Go.Proofs.YtaemiknaiccijaaGreat

/- Polynomials as functions of their coefficients: products, remainders by p, and congruences by a modulus. No program in sight. -/
namespace Go.Proofs.YtaemiknaiccijaaGreat

/-! ### products -/
def pmul (f g : Nat → Int) : Nat → Int
  | 0 => f 0 * g 0
  | n + 1 => f 0 * g (n + 1) + pmul (fun i => f (i + 1)) g n
theorem pmul_congr {f f' g g' : Nat → Int} (hf : ∀ i, f i = f' i) (hg : ∀ i, g i = g' i) (n : Nat) : pmul f g n = pmul f' g' n := by
  rw [show f = f' from funext hf, show g = g' from funext hg]
theorem pmul_add_left (g : Nat → Int) : ∀ (n : Nat) (f f' : Nat → Int), pmul (fun i => f i + f' i) g n = pmul f g n + pmul f' g n
  | 0, f, f' => by simp only [pmul]; rw [Int.add_mul]
  | n + 1, f, f' => by
    simp only [pmul]
    rw [pmul_add_left g n (fun i => f (i + 1)) (fun i => f' (i + 1)), Int.add_mul]; omega
theorem pmul_smul_left (c : Int) (g : Nat → Int) : ∀ (n : Nat) (f : Nat → Int), pmul (fun i => c * f i) g n = c * pmul f g n
  | 0, f => by simp only [pmul]; rw [Int.mul_assoc]
  | n + 1, f => by
    simp only [pmul]
    rw [pmul_smul_left c g n (fun i => f (i + 1)), Int.mul_add, Int.mul_assoc]
theorem pmul_succ_right : ∀ (n : Nat) (f g : Nat → Int), pmul f g (n + 1) = f (n + 1) * g 0 + pmul f (fun i => g (i + 1)) n
  | 0, f, g => by simp only [pmul]; omega
  | n + 1, f, g => by
    have ih := pmul_succ_right n (fun i => f (i + 1)) g
    rw [pmul, ih, pmul]; omega
theorem pmul_comm : ∀ (n : Nat) (f g : Nat → Int), pmul f g n = pmul g f n
  | 0, f, g => by simp only [pmul]; rw [Int.mul_comm]
  | n + 1, f, g => by rw [pmul, pmul_succ_right n g f, pmul_comm n (fun i => f (i + 1)) g, Int.mul_comm]
theorem pmul_add_right (f : Nat → Int) (n : Nat) (g g' : Nat → Int) : pmul f (fun i => g i + g' i) n = pmul f g n + pmul f g' n := by
  rw [pmul_comm, pmul_add_left, pmul_comm n g, pmul_comm n g']
theorem pmul_smul_right (c : Int) (f : Nat → Int) (n : Nat) (g : Nat → Int) : pmul f (fun i => c * g i) n = c * pmul f g n := by
  rw [pmul_comm, pmul_smul_left, pmul_comm n g]
theorem pmul_assoc (g h : Nat → Int) : ∀ (n : Nat) (f : Nat → Int), pmul (pmul f g) h n = pmul f (pmul g h) n
  | 0, f => by simp only [pmul]; rw [Int.mul_assoc]
  | n + 1, f => by
    have e : (fun i => pmul f g (i + 1)) = fun i => f 0 * g (i + 1) + pmul (fun i => f (i + 1)) g i := rfl
    rw [pmul, e, pmul_add_left h n, pmul_smul_left (f 0) h n (fun i => g (i + 1)), pmul_assoc g h n, pmul, pmul]
    rw [pmul, Int.mul_add, Int.mul_assoc]; omega
theorem pmul_zero_left (g : Nat → Int) : ∀ (n : Nat) (f : Nat → Int), (∀ i, i ≤ n → f i = 0) → pmul f g n = 0
  | 0, f, h => by simp only [pmul]; rw [h 0 (Nat.le_refl _), Int.zero_mul]
  | n + 1, f, h => by rw [pmul, h 0 (by omega), Int.zero_mul, pmul_zero_left g n _ fun i hi => h (i + 1) (by omega)]; rfl
/-- The power T to the k, times c. -/
def mono (k : Nat) (c : Int) : Nat → Int := fun i => if i = k then c else 0
theorem pmul_mono : ∀ (k n : Nat) (c : Int) (g : Nat → Int), pmul (mono k c) g n = if k ≤ n then c * g (n - k) else 0
  | 0, 0, c, g => by simp [pmul, mono]
  | 0, n + 1, c, g => by
    rw [pmul, pmul_zero_left g n (fun i => mono 0 c (i + 1)) fun i _ => if_neg (by omega)]
    simp [mono]
  | k + 1, 0, c, g => by simp [pmul, mono]
  | k + 1, n + 1, c, g => by
    have e : (fun i => mono (k + 1) c (i + 1)) = mono k c := by
      funext i; unfold mono
      by_cases h : i = k
      · rw [if_pos (by omega), if_pos h]
      · rw [if_neg (by omega), if_neg h]
    rw [pmul, e, pmul_mono k n c g, show mono (k + 1) c 0 = 0 from if_neg (by omega), Int.zero_mul, Int.zero_add]
    by_cases h : k ≤ n
    · rw [if_pos h, if_pos (by omega), show n + 1 - (k + 1) = n - k by omega]
    · rw [if_neg h, if_neg (by omega)]

/-! ### the products of rows -/
theorem sumN_front (f : Nat → Int) : ∀ n, sumN (n + 1) f = f 0 + sumN n fun i => f (i + 1)
  | 0 => by simp [sumN]
  | n + 1 => by rw [sumN, sumN_front f n, sumN]; omega
theorem cpart_full (g : Nat → Int) : ∀ (t : Nat) (f : Nat → Int), cpart f g (t + 1) t = pmul f g t
  | 0, f => by simp [cpart, sumN, pmul]
  | t + 1, f => by
    have e : sumN (t + 1) (fun i => if i + 1 ≤ t + 1 then f (i + 1) * g (t + 1 - (i + 1)) else 0) = cpart (fun i => f (i + 1)) g (t + 1) t := by
      refine sumN_congr _ fun j hj => ?_
      rw [if_pos (by omega), if_pos (by omega), show t + 1 - (j + 1) = t - j by omega]
    rw [cpart, sumN_front, e, cpart_full g t, pmul, if_pos (by omega)]; rfl
theorem cv_pmul (a b : List Int) (t : Nat) : cv a b t = pmul (at0 a) (at0 b) t := by
  rw [← cpart_full]
  unfold cv cpart
  rcases Nat.le_total a.length (t + 1) with h | h
  · refine (sumN_more _ _ h fun j h1 h2 => ?_).symm
    rw [at0_out a j h1]; simp
  · refine sumN_more _ _ h fun j h1 h2 => if_neg (by omega)
theorem at0_mulr_pmul {p : Int} (a b : List Int) (t : Nat) : at0 (mulr p a b) t = pmul (at0 a) (at0 b) t % p := by rw [at0_mulr, cv_pmul]

/-! ### remainders by p -/
theorem emod_mul {p a a' b b' : Int} (h : a % p = a' % p) (k : b % p = b' % p) : a * b % p = a' * b' % p := by rw [Int.mul_emod, h, k, ← Int.mul_emod]
theorem emod_add {p a a' b b' : Int} (h : a % p = a' % p) (k : b % p = b' % p) : (a + b) % p = (a' + b') % p := by rw [Int.add_emod, h, k, ← Int.add_emod]
theorem emod_sub {p a a' b b' : Int} (h : a % p = a' % p) (k : b % p = b' % p) : (a - b) % p = (a' - b') % p := by rw [Int.sub_emod, h, k, ← Int.sub_emod]
theorem pmul_emod {p : Int} {g g' : Nat → Int} (hg : ∀ i, g i % p = g' i % p) : ∀ (n : Nat) (f f' : Nat → Int), (∀ i, f i % p = f' i % p) → pmul f g n % p = pmul f' g' n % p
  | 0, f, f', h => emod_mul (h 0) (hg 0)
  | n + 1, f, f', h => by rw [pmul, pmul]; exact emod_add (emod_mul (h 0) (hg _)) (pmul_emod hg n _ _ fun i => h (i + 1))

/-! ### congruences by a modulus -/
/-- f and g differ by a multiple of m, by p. -/
def Cg (p : Int) (m : List Int) (f g : Nat → Int) : Prop := ∃ q : List Int, ∀ n, f n % p = (g n + pmul (at0 q) (at0 m) n) % p
section
variable {p : Int} {m : List Int} {f g h f' g' : Nat → Int}
theorem Cg.of_emod (h : ∀ n, f n % p = g n % p) : Cg p m f g := ⟨[], fun n => by rw [pmul_zero_left _ n _ fun i _ => at0_nil i, Int.add_zero, h n]⟩
theorem Cg.refl (f : Nat → Int) : Cg p m f f := .of_emod fun _ => rfl
def addl (a b : List Int) : List Int := tab (max a.length b.length) fun j => at0 a j + at0 b j
theorem at0_addl (a b : List Int) (j : Nat) : at0 (addl a b) j = at0 a j + at0 b j := by
  unfold addl; rw [at0_tab]; split
  · rfl
  · rw [at0_out a j (by omega), at0_out b j (by omega)]; rfl
def smull (c : Int) (a : List Int) : List Int := tab a.length fun j => c * at0 a j
theorem at0_smull (c : Int) (a : List Int) (j : Nat) : at0 (smull c a) j = c * at0 a j := by
  unfold smull; rw [at0_tab]; split
  · rfl
  · rw [at0_out a j (by omega), Int.mul_zero]
def pmull (a b : List Int) : List Int := tab (a.length + b.length) (pmul (at0 a) (at0 b))
theorem pmul_out (a b : List Int) (t : Nat) (h : a.length + b.length - 1 ≤ t) : pmul (at0 a) (at0 b) t = 0 := by rw [← cv_pmul]; exact cv_out a b t h
theorem at0_pmull (a b : List Int) (j : Nat) : at0 (pmull a b) j = pmul (at0 a) (at0 b) j := by
  unfold pmull; rw [at0_tab]; split
  · rfl
  · rw [pmul_out a b j (by omega)]
theorem Cg.trans (h1 : Cg p m f g) (h2 : Cg p m g h) : Cg p m f h := by
  obtain ⟨q, hq⟩ := h1
  obtain ⟨r, hr⟩ := h2
  refine ⟨addl q r, fun n => ?_⟩
  rw [hq n, pmul_congr (at0_addl q r) (fun _ => rfl), pmul_add_left, Int.add_comm (pmul (at0 q) (at0 m) n), ← Int.add_assoc]
  exact emod_add (hr n) rfl
theorem Cg.symm (h1 : Cg p m f g) : Cg p m g f := by
  obtain ⟨q, hq⟩ := h1
  refine ⟨smull (-1) q, fun n => ?_⟩
  rw [pmul_congr (at0_smull (-1) q) (fun _ => rfl), pmul_smul_left]
  have e : g n = (g n + pmul (at0 q) (at0 m) n) - pmul (at0 q) (at0 m) n := by omega
  rw [e, emod_sub (hq n).symm rfl]
  congr 1; omega
theorem Cg.add (h1 : Cg p m f g) (h2 : Cg p m f' g') : Cg p m (fun n => f n + f' n) (fun n => g n + g' n) := by
  obtain ⟨q, hq⟩ := h1
  obtain ⟨r, hr⟩ := h2
  refine ⟨addl q r, fun n => ?_⟩
  show (f n + f' n) % p = (g n + g' n + pmul (at0 (addl q r)) (at0 m) n) % p
  rw [pmul_congr (at0_addl q r) (fun _ => rfl), pmul_add_left, emod_add (hq n) (hr n)]
  congr 1; omega
theorem Cg.smul (c : Int) (h1 : Cg p m f g) : Cg p m (fun n => c * f n) (fun n => c * g n) := by
  obtain ⟨q, hq⟩ := h1
  refine ⟨smull c q, fun n => ?_⟩
  rw [pmul_congr (at0_smull c q) (fun _ => rfl), pmul_smul_left, emod_mul (rfl : c % p = c % p) (hq n), Int.mul_add]
theorem Cg.mul_right (b : List Int) (h1 : Cg p m f g) : Cg p m (pmul f (at0 b)) (pmul g (at0 b)) := by
  obtain ⟨q, hq⟩ := h1
  refine ⟨pmull q b, fun n => ?_⟩
  rw [pmul_emod (fun _ => rfl) n _ _ hq, pmul_add_left, pmul_congr (at0_pmull q b) (fun _ => rfl)]
  congr 2
  rw [pmul_assoc, pmul_assoc]
  exact pmul_congr (fun _ => rfl) (fun i => pmul_comm i _ _) n
theorem Cg.mul_left (b : List Int) (h1 : Cg p m f g) : Cg p m (pmul (at0 b) f) (pmul (at0 b) g) := by
  have := h1.mul_right b
  rwa [show pmul f (at0 b) = pmul (at0 b) f from funext fun i => pmul_comm i _ _, show pmul g (at0 b) = pmul (at0 b) g from funext fun i => pmul_comm i _ _] at this
theorem Cg.zero_mul (q : List Int) : Cg p m (pmul (at0 q) (at0 m)) (fun _ => 0) := ⟨q, fun n => by rw [Int.zero_add]⟩
end

/-- Rests are unique. -/
theorem cg_unique {p : Int} (hp : PrimeP p) {m x y : List Int} (hm : Can p m) (nm : 0 < m.length) (hx : Can p x) (hy : Can p y) (lx : x.length < m.length) (ly : y.length < m.length) (h : Cg p m (at0 x) (at0 y)) : x = y := by
  have lo := hp.lo
  obtain ⟨q, hq⟩ := h
  have zero : ∀ n, ∀ i, n ≤ i → i < q.length → at0 q i % p = 0 := by
    intro n
    -- from the top down
    have key : ∀ k, ∀ i, q.length - k ≤ i → i < q.length → at0 q i % p = 0 := by
      intro k
      induction k with
      | zero => intro i h1 h2; omega
      | succ k ih =>
        intro i h1 h2
        by_cases hi : q.length - k ≤ i
        · exact ih i hi h2
        · have hi' : ∀ j, i < j → at0 q j % p = 0 := fun j hj => by
            rcases Nat.lt_or_ge j q.length with h | h
            · exact ih j (by omega) h
            · rw [at0_out q j h]; rfl
          have e := hq (i + (m.length - 1))
          rw [at0_out x _ (by omega), at0_out y _ (by omega), Int.zero_add, ← cv_pmul] at e
          have e2 : cv q m (i + (m.length - 1)) % p = (at0 q i * at0 m (m.length - 1)) % p := by
            rw [cv_pmul]
            have f1 : ∀ j, at0 q j % p = ((if j < i then at0 q j else 0) + mono i (at0 q i) j) % p := fun j => by
              unfold mono
              rcases Nat.lt_trichotomy j i with h | h | h
              · rw [if_pos h, if_neg (by omega), Int.add_zero]
              · subst h; rw [if_neg (by omega), if_pos rfl, Int.zero_add]
              · rw [if_neg (by omega), if_neg (by omega), hi' j h]; rfl
            rw [pmul_emod (fun _ => rfl) _ _ _ f1, pmul_add_left, pmul_mono, if_pos (by omega)]
            have f2 : pmul (fun j => if j < i then at0 q j else 0) (at0 m) (i + (m.length - 1)) = 0 := by
              have : pmul (at0 (tab i (at0 q))) (at0 m) (i + (m.length - 1)) = 0 := pmul_out _ _ _ (by rw [tab_length]; omega)
              refine Eq.trans ?_ this
              exact pmul_congr (fun j => (at0_tab i (at0 q) j).symm) (fun _ => rfl) _
            rw [f2, Int.zero_add, show i + (m.length - 1) - i = m.length - 1 by omega]
          rw [e2] at e
          have M := hm.last nm
          have r := emod_range (at0 q i) p (by omega)
          by_cases h0 : at0 q i % p = 0
          · exact h0
          · have := mul_ne hp (x := at0 q i % p) (y := at0 m (m.length - 1)) (by omega) r.2 M.1 M.2
            rw [Int.mul_emod, Int.emod_emod, ← Int.mul_emod, ← e] at this
            exact absurd rfl this
    intro i h1 h2
    exact key q.length i (by omega) h2
  refine nz_ext hx.nz hy.nz fun n => ?_
  have e := hq n
  have f3 : pmul (at0 q) (at0 m) n % p = 0 := by
    rw [pmul_emod (fun _ => rfl) n (at0 q) (fun _ => 0) fun i => by
      rcases Nat.lt_or_ge i q.length with h | h
      · exact zero 0 i (by omega) h
      · rw [at0_out q i h], pmul_zero_left _ n _ fun _ _ => rfl]
    rfl
  rw [Int.add_emod, f3, Int.add_zero, Int.emod_emod] at e
  have a := hx.inp n
  have b := hy.inp n
  rwa [Int.emod_eq_of_lt a.1 a.2, Int.emod_eq_of_lt b.1 b.2] at e

/-! ### division -/
theorem div_eq {p c : Int} {b : Nat → Int} {m : Nat} (hb : ∀ j, m < j → b j = 0) : ∀ (k : Nat) (a : Nat → Int) (n : Nat), a n % p = (dR p c b m k a n + pmul (dQ p c b m k a) b n) % p
  | 0, a, n => by
    have e : pmul (dQ p c b m 0 a) b n = 0 := pmul_zero_left b n _ fun i _ => rfl
    rw [e, Int.add_zero]; rfl
  | k + 1, a, n => by
    have ih := div_eq (p := p) (c := c) hb k (dstep p c b m a k) n
    have e : ∀ s, dQ p c b m (k + 1) a s = dQ p c b m k (dstep p c b m a k) s + mono k (qd p c m a k) s := fun s => by
      unfold mono
      by_cases h : s = k
      · subst h; rw [dQ_same, dQ_out s s (Nat.le_refl _), if_pos rfl, Int.zero_add]
      · rw [dQ_ne h, if_neg h, Int.add_zero]
    rw [pmul_congr e (fun _ => rfl), pmul_add_left, pmul_mono]
    show a n % p = (dR p c b m k (dstep p c b m a k) n + _) % p
    rw [← Int.add_assoc, emod_add ih.symm rfl]
    unfold dstep
    by_cases h : k ≤ n ∧ n ≤ k + m
    · rw [if_pos h, if_pos h.1, Int.add_emod, Int.emod_emod, ← Int.add_emod]
      congr 1; omega
    · rw [if_neg h]
      by_cases h2 : k ≤ n
      · rw [if_pos h2, hb (n - k) (by omega), Int.mul_zero, Int.add_zero]
      · rw [if_neg h2, Int.add_zero]
theorem dr_cg {p : Int} {a m : List Int} (nm : 0 < m.length) : Cg p m (at0 a) (at0 (dr p a m)) :=
  ⟨dq p a m, fun n => by
    rw [at0_dr p a m nm, show at0 (dq p a m) = dQ p (invP p (lc m)) (at0 m) (m.length - 1) (dn a m) (at0 a) from funext (at0_dq p a m)]
    exact div_eq (fun j hj => at0_out m j (by omega)) _ _ _⟩
/-- Congruent polynomials have one rest. -/
theorem dr_eq {p : Int} (hp : PrimeP p) {m a b : List Int} (hm : Can p m) (nm : 0 < m.length) (ha : InP p a) (hb : InP p b) (h : Cg p m (at0 a) (at0 b)) : dr p a m = dr p b m := by
  have lo := hp.lo
  exact cg_unique hp hm nm (dr_can (by omega) ha) (dr_can (by omega) hb) (dr_lt hp hm nm) (dr_lt hp hm nm) ((dr_cg nm).symm.trans (h.trans (dr_cg nm)))

end Go.Proofs.YtaemiknaiccijaaGreat

/- The reference's products and powers by a modulus are the program's. No program in sight. -/
namespace Go.Proofs.YtaemiknaiccijaaGreat

def monol (n : Nat) (c : Int) : List Int := tab (n + 1) (mono n c)
theorem at0_monol (n : Nat) (c : Int) (j : Nat) : at0 (monol n c) j = mono n c j := by
  unfold monol
  rw [at0_tab]; split
  · rfl
  · unfold mono; rw [if_neg (by omega)]
theorem comb_cg {p : Int} {m : List Int} (a b : List Int) (t : Int) : Cg p m (at0 (comb p a b t)) (fun n => at0 a n + t * at0 b n) :=
  .of_emod fun n => by rw [at0_comb, Int.emod_emod]
theorem mulr_cg {p : Int} {m : List Int} (a b : List Int) : Cg p m (at0 (mulr p a b)) (pmul (at0 a) (at0 b)) :=
  .of_emod fun n => by rw [at0_mulr_pmul, Int.emod_emod]
/-- T times a rest. -/
theorem upr_cg {p : Int} (hp : PrimeP p) {m out : List Int} (hm : Can p m) (nm : 0 < m.length) (lo : out.length < m.length) : Cg p m (at0 (upr p out m)) (pmul (mono 1 1) (at0 out)) := by
  have l2 := hp.lo
  by_cases h1 : m.length = 1
  · have e : out = [] := List.eq_nil_of_length_eq_zero (by omega)
    subst e
    refine .of_emod fun n => ?_
    rw [upr, if_pos h1, pmul_comm, pmul_zero_left _ n _ fun i _ => at0_nil i, at0_nil]
  · refine Cg.symm ⟨[at0 out (m.length - 2) * invP p (lc m) % p], fun n => ?_⟩
    have hM := hm.last nm
    have hi := invP_mul hp hM.1 hM.2
    rw [pmul_mono, Int.one_mul]
    have e : pmul (at0 [at0 out (m.length - 2) * invP p (lc m) % p]) (at0 m) n = at0 out (m.length - 2) * invP p (lc m) % p * at0 m n := by
      have := pmul_mono 0 n (at0 out (m.length - 2) * invP p (lc m) % p) (at0 m)
      rw [if_pos (Nat.zero_le _), Nat.sub_zero] at this
      rw [← this]
      refine pmul_congr (fun i => ?_) (fun _ => rfl) n
      unfold mono
      match i with
      | 0 => rfl
      | i + 1 => rfl
    rw [e, upr, if_neg h1, at0_rowN]
    generalize hf : at0 out (m.length - 2) * invP p (lc m) % p = f
    by_cases hn : n < m.length - 1
    · rw [if_pos hn, Int.add_emod, Int.emod_emod, ← Int.add_emod]
      by_cases h0 : n = 0
      · subst h0
        rw [if_neg (by omega), if_pos rfl]; congr 1; omega
      · rw [if_pos (by omega), if_neg h0]; congr 1; omega
    · rw [if_neg hn, Int.zero_add]
      by_cases he : n = m.length - 1
      · rw [if_pos (by omega), he, show m.length - 1 - 1 = m.length - 2 by omega, ← hf]
        rw [Int.mul_emod, Int.emod_emod, ← Int.mul_emod, Int.mul_assoc]
        unfold lc
        rw [Int.mul_emod, hi, Int.mul_one, Int.emod_emod]
      · rw [if_pos (by omega), at0_out m n (by omega), at0_out out _ (by omega), Int.mul_zero]
def lowF (b : List Int) (n : Nat) : Nat → Int := fun i => if i < n then at0 b i else 0
theorem mmF_cg {p : Int} (hp : PrimeP p) {a b m : List Int} (hm : Can p m) (nm : 0 < m.length) : ∀ n out, Can p out → out.length < m.length → Cg p m (at0 (mmF p a b m n out)) (fun t => pmul (mono n 1) (at0 out) t + pmul (lowF b n) (at0 a) t)
  | 0, out, _, _ => .of_emod fun t => by
    rw [pmul_mono, if_pos (Nat.zero_le _), pmul_zero_left _ t (lowF b 0) fun i _ => if_neg (by omega)]
    simp [mmF]
  | n + 1, out, ho, hl => by
    have lo := hp.lo
    have out'c : Can p (dr p (comb p (upr p out m) a (at0 b n)) m) := dr_can (by omega) (comb_can (by omega) _ _ _).inp
    have ih := mmF_cg hp hm nm (a := a) (b := b) n _ out'c (dr_lt hp hm nm)
    have c1 : Cg p m (at0 (dr p (comb p (upr p out m) a (at0 b n)) m)) (fun t => pmul (mono 1 1) (at0 out) t + at0 b n * at0 a t) :=
      (dr_cg nm).symm.trans ((comb_cg _ _ _).trans ((upr_cg hp hm nm hl).add ((Cg.refl (at0 a)).smul (at0 b n))))
    have c2 := (c1.mul_left (monol n 1)).add (Cg.refl (pmul (lowF b n) (at0 a)))
    rw [show at0 (monol n 1) = mono n 1 from funext (at0_monol n 1)] at c2
    refine ih.trans (c2.trans (.of_emod fun t => ?_))
    congr 1
    rw [pmul_add_right, pmul_smul_right]
    have e1 : pmul (mono n 1) (pmul (mono 1 1) (at0 out)) t = pmul (mono (n + 1) 1) (at0 out) t := by
      rw [pmul_mono, pmul_mono (n + 1)]
      by_cases h : n ≤ t
      · rw [if_pos h, pmul_mono]
        by_cases h2 : n + 1 ≤ t
        · rw [if_pos h2, if_pos (by omega), show t - n - 1 = t - (n + 1) by omega]; omega
        · rw [if_neg h2, if_neg (by omega)]; rfl
      · rw [if_neg h, if_neg (by omega)]
    have e2 : pmul (lowF b (n + 1)) (at0 a) t = at0 b n * pmul (mono n 1) (at0 a) t + pmul (lowF b n) (at0 a) t := by
      rw [← pmul_smul_left, ← pmul_add_left]
      refine pmul_congr (fun i => ?_) (fun _ => rfl) t
      unfold lowF mono
      rcases Nat.lt_trichotomy i n with h | h | h
      · rw [if_pos (by omega), if_neg (by omega), if_pos h]; omega
      · subst h; rw [if_pos (by omega), if_pos rfl, if_neg (by omega)]; omega
      · rw [if_neg (by omega), if_neg (by omega), if_neg (by omega)]; omega
    rw [e1, e2]; omega
theorem mulm_eq {p : Int} (hp : PrimeP p) (a b : List Int) {m : List Int} (hm : Can p m) (nm : 0 < m.length) : mulm p a b m = mulI p a b m := by
  have lo := hp.lo
  have s1 := mulm_spec hp a b hm nm
  have s2 := mulI_spec hp a b hm nm
  refine cg_unique hp hm nm s1.1 s2.1 s1.2 s2.2 ?_
  have c := mmF_cg hp hm nm (a := a) (b := b) b.length [] (can_nil (by omega)) nm
  refine c.trans (Cg.trans ?_ (dr_cg nm))
  refine Cg.trans (.of_emod fun t => ?_) (mulr_cg a b).symm
  congr 1
  rw [pmul_comm t (mono b.length 1), pmul_zero_left _ t (at0 []) fun i _ => at0_nil i, Int.zero_add, pmul_comm]
  refine pmul_congr (fun _ => rfl) (fun i => ?_) t
  unfold lowF
  by_cases h : i < b.length
  · rw [if_pos h]
  · rw [if_neg h, at0_out b i (by omega)]
theorem pwF_eq {p : Int} (hp : PrimeP p) {m : List Int} (hm : Can p m) (nm : 0 < m.length) : ∀ f k out sq, pwF p m f k out sq = pwG p m f k out sq
  | 0, _, _, _ => rfl
  | f + 1, k, out, sq => by
    rw [pwF, pwG, mulm_eq hp out sq hm nm, mulm_eq hp sq sq hm nm, pwF_eq hp hm nm f]
theorem powM_eq {p : Int} (hp : PrimeP p) {m : List Int} (hm : Can p m) (nm : 0 < m.length) (a : List Int) (k : Nat) : powM p a k m = powI p a k m := pwF_eq hp hm nm k k _ _

end Go.Proofs.YtaemiknaiccijaaGreat

/- What the kernel is asked of polynomials of low degrees. No program in sight. -/
namespace Go.Proofs.YtaemiknaiccijaaGreat

/-- A polynomial that divides T to the p (or to the p p) less T has a divisor of degree 1 (or 2) that is found. -/
def chkFB (p : Int) (m : List Int) : Bool :=
  ((allI p m 1).length != m.length || decide ((withDegI p (allI p m 1) 1).length < m.length)) &&
    (m.length != 5 || ((allI p m 1).length != 1 || ((allI p m 2).length != m.length || decide ((withDegI p (allI p m 2) 2).length < m.length))))
def chkR (p : Int) (n lo hi : Nat) : Bool := (List.range (hi - lo)).all fun j => chkFB p (numr p (p.toNat ^ n + (lo + j)))
theorem chkR_at {p : Int} {n lo hi i : Nat} (h : chkR p n lo hi = true) (h1 : lo ≤ i) (h2 : i < hi) : chkFB p (numr p (p.toNat ^ n + i)) = true := by
  rw [chkR, List.all_eq_true] at h
  have := h (i - lo) (List.mem_range.2 (by omega))
  rwa [show lo + (i - lo) = i by omega] at this

end Go.Proofs.YtaemiknaiccijaaGreat
