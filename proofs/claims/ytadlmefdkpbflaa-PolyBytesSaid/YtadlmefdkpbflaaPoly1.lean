/- Polynomials modulo 2 as natural numbers: bit i is the coefficient of x^i. Plain laws, no program. -/
import Derived.Test.YtadlmefdkpbflaaBase
namespace Go.Proofs.Ytadlmefdkpbflaa
open Go.RowKit

/-- the polynomial of coefficients -/
def toN : List Int → Nat
  | [] => 0
  | z :: zs => (z % 2).toNat + 2 * toN zs
theorem mod2 (z : Int) : z % 2 = 0 ∨ z % 2 = 1 := by omega
theorem testBit_toN : ∀ (zs : List Int) (i : Nat), (toN zs).testBit i = decide (nth zs i % 2 = 1)
  | [], i => by simp [toN, nth]
  | z :: zs, 0 => by
    rw [nth_cons_zero, Nat.testBit_zero]
    apply decide_eq_decide.2
    show ((z % 2).toNat + 2 * toN zs) % 2 = 1 ↔ z % 2 = 1
    omega
  | z :: zs, i + 1 => by
    rw [nth_cons_succ, ← testBit_toN zs i, Nat.testBit_succ]
    congr 1
    show ((z % 2).toNat + 2 * toN zs) / 2 = toN zs
    omega
theorem toN_ext {xs ys : List Int} (h : ∀ i, nth xs i % 2 = nth ys i % 2) : toN xs = toN ys := by
  apply Nat.eq_of_testBit_eq
  intro i
  rw [testBit_toN, testBit_toN, h i]
theorem toN_lt : ∀ zs : List Int, toN zs < 2 ^ zs.length
  | [] => by simp [toN]
  | z :: zs => by
    have := toN_lt zs
    simp only [toN, List.length_cons, Nat.pow_succ]
    rcases mod2 z with h | h <;> rw [h] <;> simp <;> omega

/-- how many coefficients a polynomial has -/
def sz (x : Nat) : Nat := if x = 0 then 0 else x.log2 + 1
theorem lt_sz (x : Nat) : x < 2 ^ sz x := by
  unfold sz; split
  · rename_i h; subst h; simp
  · exact Nat.lt_log2_self
theorem sz_le {x n : Nat} (h : x < 2 ^ n) : sz x ≤ n := by
  unfold sz; split
  · omega
  · rename_i h0; have := (Nat.log2_lt h0).2 h; omega
theorem top_sz {x : Nat} (h : x ≠ 0) : x.testBit (sz x - 1) = true := by
  unfold sz; rw [if_neg h, Nat.add_sub_cancel]
  exact Nat.testBit_log2 h
theorem sz_of_top {x n : Nat} (h : x < 2 ^ (n + 1)) (ht : x.testBit n = true) : sz x = n + 1 := by
  have h1 := sz_le h
  have h2 : ¬ sz x ≤ n := fun h3 => by
    have : x < 2 ^ n := Nat.lt_of_lt_of_le (lt_sz x) (Nat.pow_le_pow_right (by omega) h3)
    rw [Nat.testBit_lt_two_pow this] at ht; cases ht
  omega
theorem sz_zero_iff {x : Nat} : sz x = 0 ↔ x = 0 := by unfold sz; split <;> simp_all
theorem testBit_ge_sz {x i : Nat} (h : sz x ≤ i) : x.testBit i = false :=
  Nat.testBit_lt_two_pow (Nat.lt_of_lt_of_le (lt_sz x) (Nat.pow_le_pow_right (by omega) h))

/-- n coefficients -/
def bitsL (x n : Nat) : List Int := (List.range n).map fun i => if x.testBit i then 1 else 0
theorem bitsL_length (x n : Nat) : (bitsL x n).length = n := by simp [bitsL]
theorem nth_bitsL {x n i : Nat} (h : i < n) : nth (bitsL x n) i = if x.testBit i then 1 else 0 := by
  rw [nth_lt (by simpa [bitsL] using h)]; simp [bitsL]
theorem nth_ge {zs : List Int} {i : Nat} (h : zs.length ≤ i) : nth zs i = 0 := by
  unfold nth; rw [List.getD_eq_getElem?_getD, List.getElem?_eq_none h]; rfl
theorem bitsL_succ (x n : Nat) : bitsL x (n + 1) = bitsL x n ++ [if x.testBit n then 1 else 0] := by simp [bitsL, List.range_succ]
theorem bitsL_byt (x n : Nat) : Byt (bitsL x n) := fun z hz => by
  obtain ⟨i, _, rfl⟩ := List.mem_map.1 hz
  split <;> omega
theorem toN_bitsL {x n : Nat} (h : x < 2 ^ n) : toN (bitsL x n) = x := by
  apply Nat.eq_of_testBit_eq
  intro i
  rw [testBit_toN]
  by_cases hi : i < n
  · rw [nth_bitsL hi]; split <;> simp_all
  · rw [nth_ge (by rw [bitsL_length]; omega)]
    rw [Nat.testBit_lt_two_pow (Nat.lt_of_lt_of_le h (Nat.pow_le_pow_right (by omega) (by omega)))]
    simp
/-- the reduced list of a polynomial -/
def ofN (x : Nat) : List Int := bitsL x (sz x)
theorem ofN_length (x : Nat) : (ofN x).length = sz x := bitsL_length _ _
theorem toN_ofN (x : Nat) : toN (ofN x) = x := toN_bitsL (lt_sz x)
theorem ofN_byt (x : Nat) : Byt (ofN x) := bitsL_byt _ _
theorem nth_ofN_mod (x i : Nat) : nth (ofN x) i % 2 = if x.testBit i then 1 else 0 := by
  by_cases hi : i < sz x
  · unfold ofN; rw [nth_bitsL hi]; split <;> rfl
  · rw [nth_ge (by rw [ofN_length]; omega), testBit_ge_sz (by omega)]; rfl
theorem sz_toN_le (zs : List Int) : sz (toN zs) ≤ zs.length := sz_le (toN_lt zs)
theorem bits_mod (zs : List Int) {n i : Nat} (h : i < n) : nth (bitsL (toN zs) n) i = nth zs i % 2 := by
  rw [nth_bitsL h, testBit_toN]
  rcases mod2 (nth zs i) with h | h <;> rw [h] <;> simp

/-- a coefficient is written -/
theorem nth_set {zs : List Int} {i j : Nat} {v : Int} (h : i < zs.length) : nth (zs.set i v) j = if j = i then v else nth zs j := by
  unfold nth
  rw [List.getD_eq_getElem?_getD, List.getD_eq_getElem?_getD, List.getElem?_set]
  by_cases e : i = j
  · subst e; simp [h]
  · rw [if_neg e, if_neg (fun h => e h.symm)]
theorem testBit_shl_bool (b : Bool) (i j : Nat) : ((b.toNat) <<< i).testBit j = (b && decide (j = i)) := by
  rw [Nat.testBit_shiftLeft]
  cases b
  · simp
  · by_cases h : j = i
    · subst h; simp
    · by_cases h2 : i ≤ j
      · have : (1 : Nat).testBit (j - i) = false := by
          rw [show j - i = (j - i - 1) + 1 by omega, Nat.testBit_succ]; simp
        simp [h, this]
      · simp [h]; omega
theorem toN_set_xor {zs : List Int} {i : Nat} {v : Int} {b : Bool} (h : i < zs.length) (hv : v % 2 = (nth zs i + b.toNat) % 2) : toN (zs.set i v) = toN zs ^^^ (b.toNat <<< i) := by
  apply Nat.eq_of_testBit_eq
  intro j
  rw [Nat.testBit_xor, testBit_toN, testBit_toN, testBit_shl_bool, nth_set h]
  by_cases e : j = i
  · subst e
    rw [if_pos rfl, hv]
    cases b <;> rcases mod2 (nth zs j) with h1 | h1 <;> simp [h1] <;> omega
  · rw [if_neg e]; simp [e]

/-- products -/
def cmul (a b : Nat) : Nat := if h : a = 0 then 0 else (if a % 2 = 1 then b else 0) ^^^ (2 * cmul (a / 2) b)
termination_by a
decreasing_by omega
theorem cmul_zero (b : Nat) : cmul 0 b = 0 := by unfold cmul; simp
theorem cmul_step (a b : Nat) : cmul a b = (if a % 2 = 1 then b else 0) ^^^ (2 * cmul (a / 2) b) := by
  by_cases h : a = 0
  · subst h; simp [cmul_zero]
  · conv => lhs; unfold cmul
    rw [dif_neg h]
theorem testBit_two (z i : Nat) : (2 * z).testBit (i + 1) = z.testBit i := by rw [Nat.testBit_succ, Nat.mul_div_cancel_left _ (by omega : 0 < 2)]
theorem two_mul_xor (x y : Nat) : 2 * (x ^^^ y) = (2 * x) ^^^ (2 * y) := by
  apply Nat.eq_of_testBit_eq
  intro i
  cases i with
  | zero => simp [Nat.testBit_zero]
  | succ i => rw [testBit_two, Nat.testBit_xor, Nat.testBit_xor, testBit_two, testBit_two]
theorem xor4 (a b c d : Nat) : (a ^^^ b) ^^^ (c ^^^ d) = (a ^^^ c) ^^^ (b ^^^ d) := by
  apply Nat.eq_of_testBit_eq
  intro i
  simp only [Nat.testBit_xor]
  cases a.testBit i <;> cases b.testBit i <;> cases c.testBit i <;> cases d.testBit i <;> rfl
theorem cmul_xor_right (a : Nat) : ∀ b c, cmul a (b ^^^ c) = cmul a b ^^^ cmul a c := by
  induction a using Nat.strongRecOn with
  | ind a ih =>
    intro b c
    by_cases h : a = 0
    · subst h; simp [cmul_zero]
    · rw [cmul_step a (b ^^^ c), cmul_step a b, cmul_step a c, ih (a / 2) (by omega) b c, two_mul_xor, xor4]
      congr 1
      split <;> simp
theorem cmul_two_right (a : Nat) : ∀ b, cmul a (2 * b) = 2 * cmul a b := by
  induction a using Nat.strongRecOn with
  | ind a ih =>
    intro b
    by_cases h : a = 0
    · subst h; simp [cmul_zero]
    · rw [cmul_step a (2 * b), cmul_step a b, ih (a / 2) (by omega) b, two_mul_xor]
      congr 1
      split <;> simp
theorem cmul_zero_right (a : Nat) : cmul a 0 = 0 := by
  have := cmul_two_right a 0
  rw [Nat.mul_zero] at this
  omega
theorem cmul_one_right (a : Nat) : cmul a 1 = a := by
  induction a using Nat.strongRecOn with
  | ind a ih =>
    by_cases h : a = 0
    · subst h; simp [cmul_zero]
    · rw [cmul_step, ih (a / 2) (by omega)]
      apply Nat.eq_of_testBit_eq
      intro i
      rw [Nat.testBit_xor]
      cases i with
      | zero => rw [Nat.testBit_zero, Nat.testBit_zero, Nat.testBit_zero]; split <;> simp_all
      | succ i => rw [Nat.testBit_succ, Nat.testBit_succ, Nat.testBit_succ, Nat.mul_div_cancel_left _ (by omega : 0 < 2)]; split <;> simp
theorem split2 (a : Nat) : a = (a % 2) ^^^ (2 * (a / 2)) := by
  apply Nat.eq_of_testBit_eq
  intro i
  rw [Nat.testBit_xor]
  cases i with
  | zero => simp [Nat.testBit_zero]
  | succ i => rw [Nat.testBit_succ, Nat.testBit_succ, Nat.testBit_succ, Nat.mul_div_cancel_left _ (by omega : 0 < 2)]; simp [show a % 2 / 2 = 0 by omega]
theorem cmul_comm (a : Nat) : ∀ b, cmul a b = cmul b a := by
  induction a using Nat.strongRecOn with
  | ind a ih =>
    intro b
    by_cases h : a = 0
    · subst h; rw [cmul_zero, cmul_zero_right]
    · rw [cmul_step a b, ih (a / 2) (by omega) b]
      conv => rhs; rw [split2 a, cmul_xor_right, cmul_two_right]
      congr 1
      split
      · rename_i h1; rw [h1, cmul_one_right]
      · rename_i h1; rw [show a % 2 = 0 by omega, cmul_zero_right]
theorem cmul_xor_left (a b c : Nat) : cmul (a ^^^ b) c = cmul a c ^^^ cmul b c := by
  rw [cmul_comm, cmul_xor_right, cmul_comm c a, cmul_comm c b]
theorem cmul_two_left (a b : Nat) : cmul (2 * a) b = 2 * cmul a b := by rw [cmul_comm, cmul_two_right, cmul_comm]
theorem cmul_shl_left (a b : Nat) : ∀ n, cmul (a <<< n) b = cmul a b <<< n := by
  intro n
  induction n with
  | zero => simp
  | succ n ih => rw [Nat.shiftLeft_succ, Nat.shiftLeft_succ, cmul_two_left, ih]
theorem cmul_one_left (a : Nat) : cmul 1 a = a := by rw [cmul_comm, cmul_one_right]
theorem cmul_lt {a b : Nat} : ∀ {m k : Nat}, a < 2 ^ m → b < 2 ^ k → cmul a b < 2 ^ (m + k) := by
  intro m
  induction m generalizing a with
  | zero => intro k ha _; obtain rfl : a = 0 := by simpa using ha
            rw [cmul_zero]; exact Nat.two_pow_pos _
  | succ m ih =>
    intro k ha hb
    rw [cmul_step]
    have h1 := ih (a := a / 2) (by rw [Nat.pow_succ] at ha; omega) hb
    have e : 2 ^ (m + 1 + k) = 2 * 2 ^ (m + k) := by rw [show m + 1 + k = (m + k) + 1 by omega, Nat.pow_succ, Nat.mul_comm]
    refine Nat.xor_lt_two_pow ?_ (by rw [e]; omega)
    split
    · exact Nat.lt_of_lt_of_le hb (Nat.pow_le_pow_right (by omega) (by omega))
    · exact Nat.two_pow_pos _
/-- the leading coefficient of a product -/
theorem cmul_top {b k : Nat} (hb : b < 2 ^ (k + 1)) (tb : b.testBit k = true) : ∀ {m a : Nat}, a < 2 ^ (m + 1) → a.testBit m = true → (cmul a b).testBit (m + k) = true := by
  intro m
  induction m with
  | zero =>
    intro a ha ta
    obtain rfl : a = 1 := by
      have : a = 0 ∨ a = 1 := by omega
      rcases this with rfl | rfl
      · simp at ta
      · rfl
    rw [cmul_one_left, Nat.zero_add]; exact tb
  | succ m ih =>
    intro a ha ta
    rw [cmul_step, Nat.testBit_xor, show m + 1 + k = (m + k) + 1 by omega, Nat.testBit_succ (2 * _), Nat.mul_div_cancel_left _ (by omega : 0 < 2)]
    rw [ih (by rw [Nat.pow_succ] at ha; omega) (by rw [← Nat.testBit_succ]; exact ta)]
    have : (if a % 2 = 1 then b else 0).testBit (m + k + 1) = false := by
      apply Nat.testBit_lt_two_pow
      split
      · exact Nat.lt_of_lt_of_le hb (Nat.pow_le_pow_right (by omega) (by omega))
      · exact Nat.two_pow_pos _
    rw [this]; rfl

/-- remainders -/
def IsMod (a g r : Nat) : Prop := sz r < sz g ∧ ∃ q, a = cmul q g ^^^ r
theorem xor_cancel {a b c : Nat} (h : a ^^^ b = a ^^^ c) : b = c := by
  have : a ^^^ (a ^^^ b) = a ^^^ (a ^^^ c) := by rw [h]
  simpa [← Nat.xor_assoc] using this
theorem IsMod.uniq {a g r s : Nat} (h : IsMod a g r) (k : IsMod a g s) : r = s := by
  obtain ⟨h1, q, h2⟩ := h
  obtain ⟨k1, p, k2⟩ := k
  have e : cmul (q ^^^ p) g = r ^^^ s := by
    rw [cmul_xor_left]
    have : cmul q g ^^^ r = cmul p g ^^^ s := by rw [← h2, ← k2]
    apply Nat.eq_of_testBit_eq
    intro i
    have hi := congrArg (fun x => x.testBit i) this
    simp only [Nat.testBit_xor] at hi ⊢
    revert hi
    cases (cmul q g).testBit i <;> cases (cmul p g).testBit i <;> cases r.testBit i <;> cases s.testBit i <;> simp
  by_cases hq : q ^^^ p = 0
  · rw [hq, cmul_zero] at e
    have h0 : r ^^^ (r ^^^ s) = r ^^^ 0 := by rw [← e]
    rw [← Nat.xor_assoc] at h0
    simpa using h0.symm
  · exfalso
    have hg : g ≠ 0 := fun h0 => by subst h0; simp [sz] at h1
    obtain ⟨m, hm⟩ : ∃ m, sz (q ^^^ p) = m + 1 := ⟨sz (q ^^^ p) - 1, by have := (not_congr sz_zero_iff).2 hq; omega⟩
    obtain ⟨k, hk⟩ : ∃ k, sz g = k + 1 := ⟨sz g - 1, by omega⟩
    have tq := top_sz hq
    have tg := top_sz hg
    rw [hm, Nat.add_sub_cancel] at tq
    rw [hk, Nat.add_sub_cancel] at tg
    have t := cmul_top (hk ▸ lt_sz g) tg (hm ▸ lt_sz (q ^^^ p)) tq
    rw [e, Nat.testBit_xor, testBit_ge_sz (by omega), testBit_ge_sz (by omega)] at t
    cases t
theorem IsMod.zero {g : Nat} (q : Nat) (hg : g ≠ 0) : IsMod (cmul q g) g 0 := ⟨by have := (not_congr (sz_zero_iff (x := g))).2 hg; simp only [sz, if_pos]; unfold sz at this; simp_all, q, by simp⟩
theorem sz_xor {x y n : Nat} (h : sz x < n) (k : sz y < n) : sz (x ^^^ y) < n := by
  have h1 : x < 2 ^ (n - 1) := Nat.lt_of_lt_of_le (lt_sz x) (Nat.pow_le_pow_right (by omega) (by omega))
  have h2 : y < 2 ^ (n - 1) := Nat.lt_of_lt_of_le (lt_sz y) (Nat.pow_le_pow_right (by omega) (by omega))
  have := sz_le (Nat.xor_lt_two_pow h1 h2)
  omega
theorem IsMod.add {a b g r s : Nat} (h : IsMod a g r) (k : IsMod b g s) : IsMod (a ^^^ b) g (r ^^^ s) := by
  obtain ⟨h1, q, h2⟩ := h
  obtain ⟨k1, p, k2⟩ := k
  exact ⟨sz_xor h1 k1, q ^^^ p, by rw [cmul_xor_left, h2, k2, xor4]⟩
theorem IsMod.self {g r : Nat} (h : sz r < sz g) : IsMod r g r := ⟨h, 0, by rw [cmul_zero]; simp⟩

end Go.Proofs.Ytadlmefdkpbflaa
