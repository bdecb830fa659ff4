/- Plain laws of words: splitting at a byte, reading a word, writing a number. -/
import Derived.Test.YtmncmbbgdkkgaaaGreatDoorAd26
namespace Go.Proofs.YtmncmbbgdkkgaaaGreatDoor
set_option maxRecDepth 100000
set_option linter.unusedVariables false
set_option linter.unusedSimpArgs false

/-- a list of bytes, split at a byte -/
def spl (c : UInt8) : List UInt8 → List (List UInt8)
  | [] => [[]]
  | b :: l => if b = c then [] :: spl c l else match spl c l with
    | w :: ws => (b :: w) :: ws
    | [] => [[b]]
theorem spl_ne (c : UInt8) : ∀ l, ∃ w ws, spl c l = w :: ws
  | [] => ⟨_, _, rfl⟩
  | b :: l => by
    obtain ⟨w, ws, h⟩ := spl_ne c l
    rw [spl, h]
    split
    · exact ⟨_, _, rfl⟩
    · exact ⟨_, _, rfl⟩
theorem spl_none {c : UInt8} : ∀ {l : List UInt8}, c ∉ l → spl c l = [l]
  | [], _ => rfl
  | b :: l, h => by
    have h1 : b ≠ c := fun e => h (by simp [e])
    rw [spl, if_neg h1, spl_none (l := l) (fun e => h (by simp [e]))]
theorem spl_app {c : UInt8} : ∀ {p : List UInt8} (r : List UInt8), c ∉ p → spl c (p ++ c :: r) = p :: spl c r
  | [], r, _ => by rw [List.nil_append, spl, if_pos rfl]
  | b :: p, r, h => by
    have h1 : b ≠ c := fun e => h (by simp [e])
    rw [List.cons_append, spl, if_neg h1, spl_app (p := p) r (fun e => h (by simp [e]))]
theorem spl_len_le (c : UInt8) : ∀ l, (spl c l).length ≤ l.length + 1
  | [] => by simp [spl]
  | b :: l => by
    have := spl_len_le c l
    obtain ⟨w, ws, h⟩ := spl_ne c l
    rw [spl, h]
    rw [h] at this
    split
    · simp at this ⊢; omega
    · simp at this ⊢; omega
theorem spl_word_le (c : UInt8) : ∀ l, ∀ w ∈ spl c l, w.length ≤ l.length
  | [], w, hw => by simp [spl] at hw; simp [hw]
  | b :: l, w, hw => by
    have ih := spl_word_le c l
    obtain ⟨v, ws, h⟩ := spl_ne c l
    rw [spl, h] at hw
    rw [h] at ih
    split at hw
    · rcases List.mem_cons.1 hw with rfl | hw
      · simp
      · have := ih w hw; simp; omega
    · rcases List.mem_cons.1 hw with rfl | hw
      · have := ih v (by simp); simp; omega
      · have := ih w (by simp [hw]); simp; omega
theorem splitK_spl (c : UInt8) : ∀ (n : Nat) (l : List UInt8), l.length ≤ n → Lib.splitK [c] 0 (Lib.count l [c]) l = spl c l ∧ (spl c l).length = Lib.count l [c] + 1 := by
  intro n
  induction n with
  | zero =>
    intro l hl
    obtain rfl : l = [] := List.length_eq_zero_iff.1 (by omega)
    exact ⟨rfl, rfl⟩
  | succ n ih =>
    intro l hl
    have hi := Lib.index_one l c
    by_cases h : Lib.index l [c] = -1
    · have hc := Lib.count_miss h
      have hno : c ∉ l := fun hm => by
        obtain ⟨k, hk, he⟩ := List.getElem_of_mem hm
        exact Lib.indexByte_none (hi ▸ h) k (by rw [List.getElem?_eq_getElem hk, he])
      rw [hc, spl_none hno]
      exact ⟨rfl, rfl⟩
    · have hge := Lib.indexByte_ge l c
      obtain ⟨i, hie⟩ : ∃ i : Nat, Lib.index l [c] = i := ⟨(Lib.index l [c]).toNat, by omega⟩
      obtain ⟨h1, h2⟩ := Lib.indexByte_some (hi ▸ hie)
      have hlt : i < l.length := (List.getElem?_eq_some_iff.1 h1).1
      have hci : l[i] = c := (List.getElem?_eq_some_iff.1 h1).2
      have hl2 : l = l.take i ++ c :: l.drop (i + 1) := by
        rw [← hci, ← List.drop_eq_getElem_cons hlt, List.take_append_drop]
      have hno : c ∉ l.take i := fun hm => by
        obtain ⟨k, hk, he⟩ := List.getElem_of_mem hm
        rw [List.length_take] at hk
        refine h2 k (by omega) ?_
        rw [List.getElem?_eq_getElem (by omega), ← he, List.getElem_take]
      have hcount := Lib.count_hit (sub := [c]) (by simp) hie
      have hsp : spl c l = l.take i :: spl c (l.drop (i + 1)) := by
        conv => lhs; rw [hl2]
        exact spl_app _ hno
      obtain ⟨ih1, ih2⟩ := ih (l.drop (i + 1)) (by rw [List.length_drop]; omega)
      rw [hcount, hsp, show 1 + Lib.count (l.drop (i + [c].length)) [c] = Lib.count (l.drop (i + 1)) [c] + 1 from Nat.add_comm _ _]
      refine ⟨?_, by simp [ih2]⟩
      rw [Lib.splitK, if_neg (by rw [hie]; simp), hie]
      simp only [Int.toNat_natCast, Nat.add_zero, List.length_cons, List.length_nil, Nat.zero_add]
      rw [ih1]
theorem join_spl (c : UInt8) : ∀ l, Lib.join (spl c l) [c] = l
  | [] => by simp [spl, Lib.join_one]
  | b :: l => by
    have ih := join_spl c l
    obtain ⟨w, ws, h⟩ := spl_ne c l
    rw [h, Lib.join_cons] at ih
    rw [spl, h]
    split
    · rename_i hb
      rw [Lib.join_cons, hb]
      rw [← ih]
      simp [Lib.joinTail]
    · show Lib.join ((b :: w) :: ws) [c] = b :: l
      rw [Lib.join_cons, List.cons_append, ih]
theorem spl_join (c : UInt8) : ∀ (w : List UInt8) (ws : List (List UInt8)), (∀ x ∈ w :: ws, c ∉ x) → spl c (Lib.join (w :: ws) [c]) = w :: ws
  | w, [], h => by rw [Lib.join_one]; exact spl_none (h w (by simp))
  | w, v :: ws, h => by
    have ih := spl_join c v ws (fun x hx => h x (List.mem_cons_of_mem _ hx))
    rw [Lib.join_cons] at ih
    rw [Lib.join_cons]
    have e : w ++ Lib.joinTail [c] (v :: ws) = w ++ c :: (v ++ Lib.joinTail [c] ws) := by simp [Lib.joinTail]
    rw [e, spl_app _ (h w (by simp)), ih]

/-- the value of a digit as the reference reads it; 99 if it is none -/
def rdig (c : UInt8) : Nat := if 48 ≤ c.toNat ∧ c.toNat ≤ 57 then c.toNat - 48 else if 97 ≤ c.toNat ∧ c.toNat ≤ 102 then c.toNat - 87 else 99
theorem rdig_hexd {d : Nat} (h : d < 16) : rdig (hexd d) = d := by
  unfold rdig
  rw [hexd_nat h]
  by_cases h10 : d < 10
  · rw [if_pos h10, if_pos (by omega)]; omega
  · rw [if_neg h10, if_neg (by omega), if_pos (by omega)]; omega
theorem hexd_rdig {c : UInt8} (h : rdig c < 16) : hexd (rdig c) = c := by
  apply UInt8.toNat_inj.1
  rw [hexd_nat h]
  by_cases h1 : 48 ≤ c.toNat ∧ c.toNat ≤ 57
  · have e : rdig c = c.toNat - 48 := by unfold rdig; rw [if_pos h1]
    rw [e, if_pos (by omega)]; omega
  · by_cases h2 : 97 ≤ c.toNat ∧ c.toNat ≤ 102
    · have e : rdig c = c.toNat - 87 := by unfold rdig; rw [if_neg h1, if_pos h2]
      rw [e, if_neg (by omega)]; omega
    · have e : rdig c = 99 := by unfold rdig; rw [if_neg h1, if_neg h2]
      omega
theorem hxd_hexd {d : Nat} (h : d < 16) : hxd (hexd d) = d := by
  obtain rfl | rfl | rfl | rfl | rfl | rfl | rfl | rfl | rfl | rfl | rfl | rfl | rfl | rfl | rfl | rfl : d = 0 ∨ d = 1 ∨ d = 2 ∨ d = 3 ∨ d = 4 ∨ d = 5 ∨ d = 6 ∨ d = 7 ∨ d = 8 ∨ d = 9 ∨ d = 10 ∨ d = 11 ∨ d = 12 ∨ d = 13 ∨ d = 14 ∨ d = 15 := by omega
  all_goals decide +kernel
/-- the greatest number of a word -/
def mxB (b : Nat) : Nat := if b = 10 then 255 else 65535
/-- a word's reading from w on; none where the reference gives up -/
def wl (b : Nat) : Int → List UInt8 → Option Int
  | w, [] => if w < 0 then none else some w
  | w, c :: cs => if (b : Int) ≤ (rdig c : Int) ∨ w = 0 then none else if (mxB b : Int) < max w 0 * b + rdig c then none else wl b (max w 0 * b + rdig c) cs
/-- the reference's loop -/
def rl (b : Nat) (sg : UInt8) : List UInt8 → List Int → Int → Option (List Int)
  | [], l, w => if w < 0 then none else some (l ++ [w])
  | c :: cs, l, w => if c = sg then (if w < 0 then none else rl b sg cs (l ++ [w]) (-1)) else if (b : Int) ≤ (rdig c : Int) ∨ w = 0 then none else if (mxB b : Int) < max w 0 * b + rdig c then none else rl b sg cs l (max w 0 * b + rdig c)
def mapO (f : List UInt8 → Option Int) : List (List UInt8) → Option (List Int)
  | [] => some []
  | x :: xs => (f x).bind fun v => (mapO f xs).map (v :: ·)
theorem rl_spl (b : Nat) (sg : UInt8) : ∀ (s : List UInt8) (l : List Int) (w : Int) (f : List UInt8) (r : List (List UInt8)), spl sg s = f :: r →
    rl b sg s l w = (wl b w f).bind fun v => (mapO (wl b (-1)) r).map fun vs => l ++ v :: vs
  | [], l, w, f, r, h => by
    simp only [spl, List.cons.injEq] at h
    obtain ⟨rfl, rfl⟩ := h
    rw [rl, wl]
    split <;> simp [mapO]
  | c :: s, l, w, f, r, h => by
    obtain ⟨g, q, hg⟩ := spl_ne sg s
    rw [spl, hg] at h
    by_cases hc : c = sg
    · rw [if_pos hc] at h
      simp only [List.cons.injEq] at h
      obtain ⟨rfl, rfl⟩ := h
      rw [rl, if_pos hc, wl]
      split
      · rfl
      · rw [rl_spl b sg s _ _ g q hg]
        simp only [Option.bind_some, mapO]
        cases wl b (-1) g with
        | none => rfl
        | some v =>
          simp only [Option.bind_some, Option.map_map]
          congr 1
          funext vs
          simp
    · rw [if_neg hc] at h
      simp only [List.cons.injEq] at h
      obtain ⟨rfl, rfl⟩ := h
      rw [rl, if_neg hc, wl]
      split
      · rfl
      · split
        · rfl
        · exact rl_spl b sg s _ _ g q hg
theorem rl_words (b : Nat) (sg : UInt8) (s : List UInt8) : rl b sg s [] (-1) = mapO (wl b (-1)) (spl sg s) := by
  obtain ⟨f, r, h⟩ := spl_ne sg s
  rw [rl_spl b sg s [] (-1) f r h, h, mapO]
  congr 1

/-- digits behind a number -/
def foldD (b : Nat) (w : Nat) (es : List Nat) : Nat := es.foldl (fun a e => a * b + e) w
theorem foldD_ge {b : Nat} (hb : 1 ≤ b) : ∀ (es : List Nat) (w : Nat), w ≤ foldD b w es
  | [], w => Nat.le_refl _
  | e :: es, w => by
    have := foldD_ge hb es (w * b + e)
    have h2 : w ≤ w * b := Nat.le_mul_of_pos_right w hb
    exact Nat.le_trans (by omega) this
theorem foldD_pow {b : Nat} : ∀ (es : List Nat) (w : Nat), 1 ≤ w → b ^ es.length ≤ foldD b w es
  | [], w, h => by simpa [foldD] using h
  | e :: es, w, h => by
    cases b with
    | zero => simp
    | succ b =>
      have h2 : w * (b + 1) + e = w * (b + 1) + e := rfl
      have h3 := foldD_pow2 (b := b + 1) es (w * (b + 1) + e)
      have h4 : (b + 1) ^ (e :: es).length = (b + 1) * (b + 1) ^ es.length := by rw [List.length_cons, Nat.pow_succ, Nat.mul_comm]
      rw [h4]
      refine Nat.le_trans (Nat.mul_le_mul_right _ (show b + 1 ≤ w * (b + 1) + e by have := Nat.le_mul_of_pos_left (b + 1) h; omega)) h3
where foldD_pow2 {b : Nat} : ∀ (es : List Nat) (w : Nat), w * b ^ es.length ≤ foldD b w es
  | [], w => by simp [foldD]
  | e :: es, w => by
    have h := foldD_pow2 (b := b) es (w * b + e)
    rw [List.length_cons, Nat.pow_succ]
    refine Nat.le_trans ?_ h
    rw [show w * (b ^ es.length * b) = (w * b) * b ^ es.length by rw [Nat.mul_comm (b ^ es.length) b, Nat.mul_assoc]]
    exact Nat.mul_le_mul_right _ (by omega)
theorem wl_pos {b : Nat} (hb : b ≤ 16) : ∀ (cs : List UInt8) (w : Nat) (v : Int), 0 < w → w ≤ mxB b → wl b w cs = some v → ∃ es : List Nat, (∀ e ∈ es, e < b) ∧ cs = es.map hexd ∧ v = (foldD b w es : Nat) ∧ foldD b w es ≤ mxB b
  | [], w, v, h0, h1, h => by
    rw [wl, if_neg (by omega)] at h
    simp only [Option.some.injEq] at h
    exact ⟨[], by simp, rfl, h.symm, h1⟩
  | c :: cs, w, v, h0, h1, h => by
    rw [wl] at h
    split at h
    · cases h
    · rename_i hd
      split at h
      · cases h
      · rename_i hm
        have hmax : max (w : Int) 0 * b + rdig c = ((w * b + rdig c : Nat) : Int) := by
          rw [Int.max_eq_left (by omega)]; simp
        rw [hmax] at h hm
        have hbp : 0 < b := by omega
        obtain ⟨es, h2, h3, h4, h5⟩ := wl_pos hb cs (w * b + rdig c) v (by have := Nat.mul_pos h0 hbp; omega) (by omega) h
        refine ⟨rdig c :: es, fun e he => ?_, ?_, h4, h5⟩
        · rcases List.mem_cons.1 he with rfl | he
          · omega
          · exact h2 e he
        · rw [List.map_cons, hexd_rdig (by omega), h3]
theorem wl_back {b : Nat} (hb : b ≤ 16) (hb1 : 1 ≤ b) : ∀ (es : List Nat) (w : Nat), 0 < w → (∀ e ∈ es, e < b) → foldD b w es ≤ mxB b → wl b w (es.map hexd) = some ((foldD b w es : Nat) : Int)
  | [], w, h0, h1, h2 => by rw [List.map_nil, wl, if_neg (by omega)]; rfl
  | e :: es, w, h0, h1, h2 => by
    have he := h1 e (by simp)
    have hge := foldD_ge hb1 es (w * b + e)
    have h2' : foldD b (w * b + e) es ≤ mxB b := h2
    have hmax : max (w : Int) 0 * b + (e : Int) = ((w * b + e : Nat) : Int) := by
      rw [Int.max_eq_left (by omega)]; simp
    rw [List.map_cons, wl, rdig_hexd (by omega), hmax, if_neg (by omega), if_neg (by omega)]
    exact wl_back hb hb1 es (w * b + e) (by have := Nat.mul_pos h0 hb1; omega) (fun x hx => h1 x (by simp [hx])) h2'
def dgF (b : Nat) : Nat → Nat → List UInt8 → List UInt8
  | 0, q, L => hexd q :: L
  | f + 1, q, L => if q < b then hexd q :: L else dgF b f (q / b) (hexd (q % b) :: L)
/-- the digits of a number -/
def digs (b u : Nat) : List UInt8 := dgF b 3 u []
theorem hex_digs (u : Nat) : hexDigits u = digs 16 u := by
  unfold hexDigits digs
  have : ∀ f q L, hxF f q L = dgF 16 f q L := by
    intro f
    induction f with
    | zero => intro q L; rfl
    | succ f ih => intro q L; rw [hxF, dgF, ih]
  exact this _ _ _
theorem dec_digs (u : Nat) (h : u ≤ 255) : Lib.decDigits u = digs 10 u := by
  have : ∀ v : Fin 256, Lib.decDigits v.val = digs 10 v.val := by decide +kernel
  exact this ⟨u, by omega⟩
theorem foldD_snoc (b w : Nat) (es : List Nat) (e : Nat) : foldD b w (es ++ [e]) = foldD b w es * b + e := by simp [foldD]
theorem dgF_fold {b : Nat} (hb : 2 ≤ b) : ∀ (f : Nat) (es : List Nat) (d0 : Nat) (L : List UInt8), es.length ≤ f → d0 < b → (∀ e ∈ es, e < b) → (d0 = 0 → es = []) → dgF b f (foldD b d0 es) L = (d0 :: es).map hexd ++ L
  | 0, es, d0, L, hl, h0, h1, h2 => by
    obtain rfl : es = [] := List.length_eq_zero_iff.1 (by omega)
    rfl
  | f + 1, es, d0, L, hl, h0, h1, h2 => by
    rcases List.eq_nil_or_concat es with rfl | ⟨es', e, rfl⟩
    · show dgF b (f + 1) d0 L = _
      rw [dgF, if_pos h0]; rfl
    · have hd : 1 ≤ d0 := by
        rcases Nat.eq_zero_or_pos d0 with h | h
        · have := h2 h; simp at this
        · exact h
      rw [List.concat_eq_append] at *
      have he := h1 e (by simp)
      have hge := foldD_ge (b := b) (by omega) es' d0
      have hmul : b ≤ foldD b d0 es' * b := Nat.le_mul_of_pos_left b (by omega)
      rw [foldD_snoc, dgF, if_neg (by omega), Nat.add_comm, Nat.add_mul_div_right _ _ (by omega), Nat.add_mul_mod_self_right, Nat.div_eq_of_lt he, Nat.mod_eq_of_lt he, Nat.zero_add,
        dgF_fold hb f es' d0 _ (by simp at hl; omega) h0 (fun x hx => h1 x (by simp [hx])) (fun h => by omega)]
      simp
theorem canon {b : Nat} (hb : 2 ≤ b) : ∀ (n u : Nat), u ≤ n → ∃ (d0 : Nat) (es : List Nat), d0 < b ∧ (∀ e ∈ es, e < b) ∧ (d0 = 0 → es = []) ∧ foldD b d0 es = u
  | n, u, hn => by
    by_cases h : u < b
    · exact ⟨u, [], h, by simp, fun _ => rfl, rfl⟩
    · cases n with
      | zero => omega
      | succ n =>
        have hlt : u / b < u := Nat.div_lt_self (by omega) (by omega)
        obtain ⟨d0, es, h1, h2, h3, h4⟩ := canon hb n (u / b) (by omega)
        refine ⟨d0, es ++ [u % b], h1, fun e he => ?_, fun h0 => ?_, ?_⟩
        · rcases List.mem_append.1 he with he | he
          · exact h2 e he
          · rw [List.mem_singleton.1 he]; exact Nat.mod_lt _ (by omega)
        · exfalso
          have he := h3 h0
          rw [he, h0] at h4
          have : 1 ≤ u / b := (Nat.one_le_div_iff (by omega)).2 (by omega)
          have h5 : foldD b 0 [] = 0 := rfl
          omega
        · rw [foldD_snoc, h4]
          have := Nat.div_add_mod u b
          rw [Nat.mul_comm] at this
          exact this
def BaseOk (b : Nat) : Prop := b = 10 ∨ b = 16
theorem BaseOk.bd {b : Nat} (h : BaseOk b) : 2 ≤ b ∧ b ≤ 16 ∧ mxB b < b ^ 4 := by
  rcases h with rfl | rfl
  · refine ⟨by omega, by omega, by decide⟩
  · refine ⟨by omega, by omega, by decide⟩
theorem digs_canon {b : Nat} (hb : BaseOk b) {u : Nat} (hu : u ≤ mxB b) : ∃ (d0 : Nat) (es : List Nat), d0 < b ∧ (∀ e ∈ es, e < b) ∧ (d0 = 0 → es = []) ∧ foldD b d0 es = u ∧ digs b u = (d0 :: es).map hexd := by
  obtain ⟨b2, b16, bm⟩ := hb.bd
  obtain ⟨d0, es, h1, h2, h3, h4⟩ := canon b2 u u (Nat.le_refl _)
  refine ⟨d0, es, h1, h2, h3, h4, ?_⟩
  have hl : es.length ≤ 3 := by
    rcases Nat.eq_zero_or_pos d0 with h | h
    · rw [h3 h]; simp
    · have := foldD_pow (b := b) es d0 h
      rw [h4] at this
      have h5 : b ^ es.length < b ^ 4 := by omega
      have := (Nat.pow_lt_pow_iff_right (show 1 < b by omega)).1 h5
      omega
  have := dgF_fold b2 3 es d0 [] hl h1 h2 h3
  rw [h4, List.append_nil] at this
  exact this
/-- A WORD READS AS u EXACTLY IF IT IS u's DIGITS -/
theorem wl_digs {b : Nat} (hb : BaseOk b) {u : Nat} (hu : u ≤ mxB b) : wl b (-1) (digs b u) = some (u : Int) := by
  obtain ⟨b2, b16, bm⟩ := hb.bd
  obtain ⟨d0, es, h1, h2, h3, h4, h5⟩ := digs_canon hb hu
  have hge := foldD_ge (b := b) (by omega) es d0
  rw [h4] at hge
  rw [h5, List.map_cons, wl, rdig_hexd (by omega), if_neg (by omega), show max (-1 : Int) 0 * b + (d0 : Int) = d0 by rw [show max (-1 : Int) 0 = 0 by decide, Int.zero_mul, Int.zero_add], if_neg (by omega)]
  rcases Nat.eq_zero_or_pos d0 with h | h
  · have he := h3 h
    rw [he] at h4 ⊢
    have h6 : foldD b d0 [] = d0 := rfl
    rw [List.map_nil, wl, if_neg (by omega)]
    rw [h6] at h4
    rw [h4]
  · rw [wl_back b16 (by omega) es d0 h h2 (by omega), h4]
theorem wl_word {b : Nat} (hb : BaseOk b) {cs : List UInt8} {v : Int} (h : wl b (-1) cs = some v) : ∃ u : Nat, v = u ∧ u ≤ mxB b ∧ cs = digs b u := by
  obtain ⟨b2, b16, bm⟩ := hb.bd
  cases cs with
  | nil => rw [wl, if_pos (by omega)] at h; cases h
  | cons c cs =>
    rw [wl] at h
    split at h
    · cases h
    · rename_i hd
      split at h
      · cases h
      · rename_i hm
        rw [show max (-1 : Int) 0 * b + (rdig c : Int) = rdig c by rw [show max (-1 : Int) 0 = 0 by decide, Int.zero_mul, Int.zero_add]] at h hm
        have hlt : rdig c < b := by omega
        have hc := hexd_rdig (c := c) (by omega)
        rcases Nat.eq_zero_or_pos (rdig c) with h0 | h0
        · rw [h0] at h
          cases cs with
          | nil =>
            rw [wl, if_neg (by omega)] at h
            simp only [Option.some.injEq] at h
            refine ⟨0, h.symm, by omega, ?_⟩
            rw [← hc, h0]
            unfold digs
            rw [dgF, if_pos (by omega)]
          | cons x cs => rw [wl, if_pos (.inr rfl)] at h; cases h
        · obtain ⟨es, h1, h2, h3, h4⟩ := wl_pos b16 cs (rdig c) v h0 (by omega) h
          refine ⟨_, h3, h4, ?_⟩
          have hl : es.length ≤ 3 := by
            have := foldD_pow (b := b) es (rdig c) h0
            have h5 : b ^ es.length < b ^ 4 := by omega
            have := (Nat.pow_lt_pow_iff_right (show 1 < b by omega)).1 h5
            omega
          have := dgF_fold b2 3 es (rdig c) [] hl hlt h1 (fun e => by omega)
          rw [List.append_nil, List.map_cons, hc, ← h2] at this
          exact this.symm
end Go.Proofs.YtmncmbbgdkkgaaaGreatDoor
