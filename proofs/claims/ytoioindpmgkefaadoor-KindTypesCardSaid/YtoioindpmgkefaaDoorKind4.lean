/- The contracts of kind.Fits and of the reference's Class, Fits, Number and Of. -/
import Derived.Test.YtoioindpmgkefaaDoorKind3
namespace Go.Proofs.YtoioindpmgkefaaDoor
open Go.RowKit

/-- whether a number of bytes fits -/
def fitB (l mo u n : Int) : Bool := decide (l ≤ n ∧ n ≤ mo ∧ (n - l) % u = 0)

theorem fits_exact (a : Int) (s : ByteArray) (m l mo u k n : Int) (w : World) (hl0 : 0 ≤ l) (hl1 : l ≤ 100000) (hu0 : 1 ≤ u) (hu1 : u ≤ 100) (hn0 : -9223372036854775808 ≤ n) (hn1 : n ≤ 9223372036854775807) :
    Calls Tryd.prog 13 #[.agg #[.int .u8 a, .string s, .int .u8 m, .int .i64 l, .int .i64 mo, .int .i64 u, .int .i64 k], .int .i64 n] w fun e w' => e = .returned (.bool (fitB l mo u n)) ∧ w.alloc (.cells #[.int .u8 a, .string s, .int .u8 m, .int .i64 l, .int .i64 mo, .int .i64 u, .int .i64 k] 33) = w' := by
  by_cases h1 : n < l
  · have hf : Hid (fitB l mo u n = false) := by simp [Hid, fitB]; omega
    go_enter Tryd.func13, Tryd.ntmps13
    go_wp2
    go_ret
    exact ⟨ret_bool hf.out.symm, rfl⟩
  · by_cases h2 : mo < n
    · have hf : Hid (fitB l mo u n = false) := by simp [Hid, fitB]; omega
      go_enter Tryd.func13, Tryd.ntmps13
      go_wp2
      go_ret
      exact ⟨ret_bool hf.out.symm, rfl⟩
    · have hf : Hid (fitB l mo u n = ((n - l) % u == 0)) := by
        have e1 : l ≤ n := by omega
        have e2 : n ≤ mo := by omega
        simp [Hid, fitB, e1, e2]
        rfl
      have d1 : decide (l ≤ n) = true := by simp; omega
      have d2 : decide (n ≤ mo) = true := by simp; omega
      cases hz : ((n - l) % u == 0)
      all_goals
        rw [hz] at hf
        go_enter Tryd.func13, Tryd.ntmps13
        go_wp2
        go_ret
        exact ⟨ret_bool hf.out.symm, rfl⟩

theorem fits_any (a : Int) (s : ByteArray) (m l mo u k n : Int) (w : World) (hl0 : 0 ≤ l) (hl1 : l ≤ 100000) (hu0 : 1 ≤ u) (hu1 : u ≤ 100) (hn0 : -9223372036854775808 ≤ n) (hn1 : n ≤ 9223372036854775807) :
    Calls Tryd.prog 13 #[.agg #[.int .u8 a, .string s, .int .u8 m, .int .i64 l, .int .i64 mo, .int .i64 u, .int .i64 k], .int .i64 n] w fun e w' => e = .returned (.bool (fitB l mo u n)) ∧ Below w.heap.size w w' :=
  (fits_exact a s m l mo u k n w hl0 hl1 hu0 hu1 hn0 hn1).mono fun _ _ ⟨h1, h2⟩ => ⟨h1, h2 ▸ (Below.refl _ w).alloc (Nat.le_refl _) _⟩

theorem ref_step {l I u x : Int} (h1 : (I - l) % u = 0) (hx : I ≤ x) (hx2 : x < I + u) (h2 : (x - l) % u = 0) : x = I := by
  have d1 := Int.dvd_of_emod_eq_zero h1
  have d2 := Int.dvd_of_emod_eq_zero h2
  have d3 : u ∣ x - I := by
    have := Int.dvd_sub d2 d1
    rwa [show x - l - (I - l) = x - I by omega] at this
  have e1 := Int.emod_eq_zero_of_dvd d3
  rw [Int.emod_eq_of_lt (by omega) (by omega)] at e1
  omega
theorem ref_next {l I u : Int} (h1 : (I - l) % u = 0) : (I + u - l) % u = 0 := by
  rw [show I + u - l = I - l + u by omega, Int.add_emod_right]; exact h1

theorem reffits_exact (a : Int) (s : ByteArray) (m l mo u k n : Int) (w : World) (hl0 : 0 ≤ l) (hl1 : l ≤ 100000) (hm0 : 0 ≤ mo) (hm1 : mo ≤ 100000) (hu0 : 1 ≤ u) (hu1 : u ≤ 100) :
    Calls Tryd.prog 14 #[.agg #[.int .u8 a, .string s, .int .u8 m, .int .i64 l, .int .i64 mo, .int .i64 u, .int .i64 k], .int .i64 n] w fun e w' => e = .returned (.bool (fitB l mo u n)) ∧ w.alloc (.cells #[.int .u8 a, .string s, .int .u8 m, .int .i64 l, .int .i64 mo, .int .i64 u, .int .i64 k] 28) = w' := by
  go_enter Tryd.func14, Tryd.ntmps14
  go_wp2
  go_loop [5] (fun i => ∃ I : Int, l ≤ I ∧ I ≤ l + mo + u ∧ i = .int .i64 I ∧ (I - l) % u = 0 ∧ (I ≤ mo + u ∨ I = l) ∧ ∀ x, l ≤ x → x < I → (x - l) % u = 0 → x ≠ n) (fun i => (mo + u + 1 - intOf i).toNat)
  case atStart => exact ⟨l, by omega, by omega, rfl, by simp, .inr rfl, fun x h1 h2 => by omega⟩
  case round =>
    obtain ⟨I, hI, hI2, rfl, hmod, hor, hall⟩ := hrel
    have HM := Lib.hid hmod
    have HA := Lib.hid hall
    have HO := Lib.hid hor
    clear hmod hall hor
    by_cases hlt : I ≤ mo
    · by_cases hn : I = n
      · have hf : Hid (fitB l mo u n = true) := by
          have := HM.out
          rw [hn] at this hI hlt
          simp [Hid, fitB, hI, hlt, this]
        have hb : (I == n) = true := by simp [hn]
        clear hn
        go_wp2
        go_ret
        exact ⟨ret_bool hf.out.symm, rfl⟩
      · have hb : (I == n) = false := by simp [hn]
        have HN := Lib.hid hn
        clear hn
        go_wp2
        go_round
        case rel =>
          refine ⟨I + u, by omega, by omega, rfl, ref_next HM.out, .inl (by omega), fun x h1 h2 h3 => ?_⟩
          by_cases hx : x < I
          · exact HA.out x h1 hx h3
          · rw [ref_step HM.out (by omega) h2 h3]; exact HN.out
        case measure => simp [intOf]; omega
    · have hf : Hid (fitB l mo u n = false) := by
        simp only [Hid, fitB, decide_eq_false_iff_not]
        intro ⟨h1, h2, h3⟩
        exact HA.out n h1 (by omega) h3 rfl
      go_wp2
      go_ret
      exact ⟨ret_bool hf.out.symm, rfl⟩

def refClass (k : Int) : Int := if k = 3 ∨ k = 4 then 2 else if 1 ≤ k ∧ k ≤ 6 then 1 else 0
theorem class_any (k : Int) (w : World) : Calls Tryd.prog 16 #[.int .i64 k] w fun e w' => e = .returned (.int .i64 (refClass k)) ∧ w = w' := by
  by_cases h3 : k = 3
  · subst h3
    go_enter Tryd.func16, Tryd.ntmps16
    go_wp2
    go_ret
    exact ⟨rfl, rfl⟩
  · by_cases h4 : k = 4
    · subst h4
      go_enter Tryd.func16, Tryd.ntmps16
      go_wp2
      go_ret
      exact ⟨rfl, rfl⟩
    · have b3 : (k == 3) = false := by simp [h3]
      have b4 : (k == 4) = false := by simp [h4]
      have HC : Hid (refClass k = if 1 ≤ k ∧ k ≤ 6 then 1 else 0) := by simp [Hid, refClass, h3, h4]
      clear h3 h4
      by_cases h1 : k < 1
      · have hc : Hid (refClass k = 0) := by rw [HC.out, if_neg (by omega)]; rfl
        go_enter Tryd.func16, Tryd.ntmps16
        go_wp2
        go_ret
        exact ⟨ret_int hc.out.symm, rfl⟩
      · by_cases h6 : 6 < k
        · have hc : Hid (refClass k = 0) := by rw [HC.out, if_neg (by omega)]; rfl
          go_enter Tryd.func16, Tryd.ntmps16
          go_wp2
          go_ret
          exact ⟨ret_int hc.out.symm, rfl⟩
        · have hc : Hid (refClass k = 1) := by rw [HC.out, if_pos (by omega)]; rfl
          go_enter Tryd.func16, Tryd.ntmps16
          go_wp2
          go_ret
          exact ⟨ret_int hc.out.symm, rfl⟩

theorem rows_all : ∀ i : Fin 23, 0 ≤ kleast i.val ∧ kleast i.val ≤ 100000 ∧ 0 ≤ kmost i.val ∧ kmost i.val ≤ 100000 ∧ 1 ≤ kunit i.val ∧ kunit i.val ≤ 100 := by decide +kernel
theorem rows_bd {i : Nat} (hi : i < 23) : 0 ≤ kleast i ∧ kleast i ≤ 100000 ∧ 0 ≤ kmost i ∧ kmost i ≤ 100000 ∧ 1 ≤ kunit i ∧ kunit i ≤ 100 := rows_all ⟨i, hi⟩

/-- the same result, of the reference's type -/
theorem res_row28 {f : Func} (hf : f.results = #[.cell 2 28, .tmp 3]) {w : World} {b : Nat} {a m l mo u k : Int} {s : ByteArray} {ok : Bool} {tmps : Array Value} (h2 : tmps.getD 2 undef = .pointer (some ⟨b, 0, none⟩)) (h3 : tmps.getD 3 undef = .bool ok)
    (hb : w.heap[b]? = some (.cells #[.int .u8 a, .string s, .int .u8 m, .int .i64 l, .int .i64 mo, .int .i64 u, .int .i64 k] 28 (0, 0))) :
    (results f tmps).run Tryd.prog w = .ok (.tuple #[.agg #[.int .u8 a, .string s, .int .u8 m, .int .i64 l, .int .i64 mo, .int .i64 u, .int .i64 k], .bool ok]) w := by
  have hl := run_loadVar_row (P := Tryd.prog) w b 28 28 _ _ _ hb Tryd.underlying28 rfl (by kernel_rfl)
  rw [results_cell_tmp hf, h2, h3]
  simp [asAddr, Result.andThen, hl]
theorem res_num28 {f : Func} (hf : f.results = #[.cell 2 28]) {w : World} {b : Nat} {a m l mo u k : Int} {s : ByteArray} {tmps : Array Value} (h2 : tmps.getD 2 undef = .pointer (some ⟨b, 0, none⟩))
    (hb : w.heap[b]? = some (.cells #[.int .u8 a, .string s, .int .u8 m, .int .i64 l, .int .i64 mo, .int .i64 u, .int .i64 k] 28 (0, 0))) :
    (results f tmps).run Tryd.prog w = .ok (.agg #[.int .u8 a, .string s, .int .u8 m, .int .i64 l, .int .i64 mo, .int .i64 u, .int .i64 k]) w :=
  results_cell_row hf tmps w b 28 _ _ _ h2 hb Tryd.underlying28 rfl (by kernel_rfl)

theorem number_any (N : Nat) (w : World) (hN : (N : Int) ≤ 9223372036854775807) :
    Calls Tryd.prog 12 #[.int .i64 N] w fun e w' => e = .returned (.agg #[.int .u8 (kty (N % 23)), .string (kname (N % 23)), .int .u8 (kmask (N % 23)), .int .i64 (kleast (N % 23)), .int .i64 (kmost (N % 23)), .int .i64 (kunit (N % 23)), .int .i64 (kkids (N % 23))]) ∧ Below w.heap.size w w' := by
  have hi : N % 23 < 23 := Nat.mod_lt _ (by decide)
  go_enter Tryd.func12, Tryd.ntmps12
  go_wp2_with fail
  refine (table_any _).mono ?_
  rintro e w1 ⟨rfl, hr, hb1⟩
  obtain ⟨s0, s1, s2, s3, s4, s5, s6, s7, s8⟩ := newRow hb1
  rw [World.size_alloc] at hr
  have hrow := hr (N % 23) hi
  have HW := Lib.hid (((Below.refl _ w).alloc (Nat.le_refl _) _).trans (hb1.mono (B' := w.heap.size) (by simp)))
  unfold RowAt at hrow
  obtain ⟨r0, r1, r2, r3, r4, r5, r6⟩ := hrow
  clear hb1 hr
  have S0 := Lib.hid s0
  clear s0
  go_wp2
  refine bodyPost_ret (v := .agg #[.int .u8 (kty (N % 23)), .string (kname (N % 23)), .int .u8 (kmask (N % 23)), .int .i64 (kleast (N % 23)), .int .i64 (kmost (N % 23)), .int .i64 (kunit (N % 23)), .int .i64 (kkids (N % 23))]) (res_num28 rfl rfl (set7 S0.out _ _ _ _ _ _ _)) rfl ⟨rfl, ?_⟩
  exact (((((((HW.out.setCell (Nat.le_refl _) _).setCell (Nat.le_refl _) _).setCell (Nat.le_refl _) _).setCell (Nat.le_refl _) _).setCell (Nat.le_refl _) _).setCell (Nat.le_refl _) _).setCell (Nat.le_refl _) _)

theorem find_all : ∀ t : Fin 256, ∀ i : Fin 23, kty i.val = (t.val : Int) → fnd (t.val : Int) = true ∧ ixt (t.val : Int) = i.val := by decide +kernel
theorem find_at {t : Int} (h0 : 0 ≤ t) (h1 : t < 256) {i : Nat} (hi : i < 23) (h : kty i = t) : fnd t = true ∧ ixt t = i := by
  obtain ⟨n, rfl⟩ := Int.eq_ofNat_of_zero_le h0
  exact find_all ⟨n, by omega⟩ ⟨i, hi⟩ h
theorem find_none {t : Int} (h : ∀ i, i < 23 → kty i ≠ t) : fnd t = false ∧ ixt t = 23 := by
  have hf : fnd t = false := by
    cases hf : fnd t with
    | false => rfl
    | true =>
      simp only [fnd, Bool.and_eq_true, decide_eq_true_eq] at hf
      exact absurd hf.2 (h _ hf.1)
  exact ⟨hf, by simp [ixt, hf]⟩

theorem refof_any (t : Int) (w : World) (ht0 : 0 ≤ t) (ht1 : t < 256) :
    Calls Tryd.prog 18 #[.int .u8 t] w fun e w' => e = .returned (.tuple #[.agg #[.int .u8 (kty (ixt t)), .string (kname (ixt t)), .int .u8 (kmask (ixt t)), .int .i64 (kleast (ixt t)), .int .i64 (kmost (ixt t)), .int .i64 (kunit (ixt t)), .int .i64 (kkids (ixt t))], .bool (fnd t)]) ∧ Below w.heap.size w w' := by
  go_enter Tryd.func18, Tryd.ntmps18
  go_wp2_with fail
  refine (table_any _).mono ?_
  rintro e w1 ⟨rfl, hr, hb1⟩
  obtain ⟨s0, s1, s2, s3, s4, s5, s6, s7, s8⟩ := newRow hb1
  rw [World.size_alloc] at hr
  have HR := Lib.hid hr
  have HW := Lib.hid (((Below.refl _ w).alloc (Nat.le_refl _) _).trans (hb1.mono (B' := w.heap.size) (by simp)))
  clear hb1 hr
  have S0 := Lib.hid s0
  clear s0
  go_wp2
  go_loop [5] (fun i => ∃ k : Nat, k ≤ 23 ∧ i = .int .i64 k ∧ ∀ j, j < k → kty j ≠ t) (fun i => 23 - (intOf i).toNat)
  case atStart => exact ⟨0, by omega, rfl, fun j hj => by omega⟩
  case round =>
    obtain ⟨k, hk, rfl, hall⟩ := hrel
    have HA := Lib.hid hall
    clear hall
    by_cases hlt : k < 23
    · have hrow := HR.out k hlt
      unfold RowAt at hrow
      obtain ⟨r0, r1, r2, r3, r4, r5, r6⟩ := hrow
      by_cases he : kty k = t
      · have hf := Lib.hid (find_at ht0 ht1 hlt he)
        have hb : (kty k == t) = true := by simp [he]
        clear he
        go_wp2
        refine bodyPost_ret (v := .tuple #[.agg #[.int .u8 (kty k), .string (kname k), .int .u8 (kmask k), .int .i64 (kleast k), .int .i64 (kmost k), .int .i64 (kunit k), .int .i64 (kkids k)], .bool true]) (res_row28 rfl rfl rfl (set7 S0.out _ _ _ _ _ _ _)) rfl ⟨by rw [hf.out.1, hf.out.2], ?_⟩
        exact (((((((HW.out.setCell (Nat.le_refl _) _).setCell (Nat.le_refl _) _).setCell (Nat.le_refl _) _).setCell (Nat.le_refl _) _).setCell (Nat.le_refl _) _).setCell (Nat.le_refl _) _).setCell (Nat.le_refl _) _)
      · have hb : (kty k == t) = false := by simp [he]
        have HE := Lib.hid he
        clear he
        go_wp2
        go_round
        case rel =>
          refine ⟨k + 1, by omega, by go_num, fun j hj => ?_⟩
          by_cases e : j = k
          · rw [e]; exact HE.out
          · exact HA.out j (by omega)
        case measure => simp [intOf]; omega
    · have hf : Hid (fnd t = false ∧ ixt t = 23) := find_none (fun i hi => HA.out i (by omega))
      go_wp2
      refine bodyPost_ret (v := .tuple #[.agg #[.int .u8 0, .string ⟨#[]⟩, .int .u8 0, .int .i64 0, .int .i64 0, .int .i64 0, .int .i64 0], .bool false]) (res_row28 rfl rfl rfl (set7 S0.out _ _ _ _ _ _ _)) rfl ⟨by rw [hf.out.1, hf.out.2]; exact ret23, ?_⟩
      exact (((((((HW.out.setCell (Nat.le_refl _) _).setCell (Nat.le_refl _) _).setCell (Nat.le_refl _) _).setCell (Nat.le_refl _) _).setCell (Nat.le_refl _) _).setCell (Nat.le_refl _) _).setCell (Nat.le_refl _) _)

end Go.Proofs.YtoioindpmgkefaaDoor
