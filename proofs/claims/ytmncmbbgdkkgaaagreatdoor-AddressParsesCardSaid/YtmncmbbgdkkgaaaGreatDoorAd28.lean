/- Plain law: a string has an address's text exactly if the reference reads it so. -/
import Derived.Test.YtmncmbbgdkkgaaaGreatDoorAd27
namespace Go.Proofs.YtmncmbbgdkkgaaaGreatDoor
set_option maxRecDepth 100000
set_option linter.unusedVariables false
set_option linter.unusedSimpArgs false

theorem num_be {m : Nat} {x : Int} (hm : m = 1 ∨ m = 2 ∨ m = 4) : num (be m x) = x % 256 ^ m := by
  rcases hm with rfl | rfl | rfl <;> simp [be, be4, num] <;> omega
theorem numsL_putL {m : Nat} (hm : m = 1 ∨ m = 2 ∨ m = 4) {xs : List Int} : numsL (putL m xs) m xs.length = xs.map (· % 256 ^ m) := by
  apply List.ext_getElem
  · simp [numsL]
  · intro j h1 h2
    simp only [List.length_map] at h2
    have hs : putL m xs = putL m (xs.take j) ++ (be m xs[j] ++ putL m (xs.drop (j + 1))) := by
      calc putL m xs = putL m (xs.take j ++ (xs[j] :: xs.drop (j + 1))) := by rw [← List.drop_eq_getElem_cons h2, List.take_append_drop]
        _ = _ := by unfold putL; rw [List.flatMap_append, List.flatMap_cons]
    have hl : (putL m (xs.take j)).length = j * m := by rw [putL_length (by omega), List.length_take, Nat.min_eq_left (by omega)]
    have hl2 := be_length (m := m) (by omega) xs[j]
    simp only [numsL, List.getElem_map, List.getElem_range, numAt]
    rw [hs, List.drop_left' hl, List.take_left' hl2, num_be hm]
theorem numsZ_putZ {k : Int} {xs : List Int} (hk : rightB k = true) : numsZ k (putZ k xs) = xs.map (· % 256 ^ k.toNat) := by
  have hk3 := right_cases hk
  unfold putZ numsZ
  have hl : (putL k.toNat xs).length = xs.length * k.toNat := putL_length (by omega) xs
  rw [if_pos hk, if_pos ⟨hk, by rw [hl]; exact Nat.mul_mod_left _ _⟩, hl, Nat.mul_div_cancel _ (by omega), numsL_putL (by omega)]
/-- the words of a string -/
def words (s : ByteArray) (c : UInt8) : List ByteArray := Lib.splitB ⟨#[c]⟩ 0 (Lib.countB s ⟨#[c]⟩) s
theorem words_data (s : ByteArray) (c : UInt8) : (words s c).map (·.data.toList) = spl c s.data.toList := by
  unfold words
  rw [Lib.splitB_data]
  exact (splitK_spl c _ s.data.toList (Nat.le_refl _)).1
theorem words_len (s : ByteArray) (c : UInt8) : (words s c).length = Lib.countB s ⟨#[c]⟩ + 1 := by
  have h := congrArg List.length (words_data s c)
  rw [List.length_map] at h
  rw [h]
  exact (splitK_spl c _ s.data.toList (Nat.le_refl _)).2
theorem words_le (s : ByteArray) (c : UInt8) : (words s c).length ≤ s.size + 1 := by
  have h := congrArg List.length (words_data s c)
  rw [List.length_map] at h
  rw [h]
  exact spl_len_le c s.data.toList
theorem word_le (s : ByteArray) (c : UInt8) (x : ByteArray) (hx : x ∈ words s c) : x.size ≤ s.size := by
  have h : x.data.toList ∈ spl c s.data.toList := by
    rw [← words_data]
    exact List.mem_map.2 ⟨x, hx, rfl⟩
  exact spl_word_le c _ _ h
theorem words_of {s : ByteArray} {c : UInt8} {us : List Nat} {f : Nat → List UInt8} (h : spl c s.data.toList = us.map f) : words s c = us.map fun u => ⟨(f u).toArray⟩ := by
  have h1 := words_data s c
  rw [h] at h1
  have h2 : (words s c).map (fun x => (⟨x.data.toList.toArray⟩ : ByteArray)) = words s c := by
    conv => rhs; rw [← List.map_id (words s c)]
    exact List.map_congr_left fun x _ => by simp
  rw [← h2]
  have h3 := congrArg (List.map fun l : List UInt8 => (⟨l.toArray⟩ : ByteArray)) h1
  rw [List.map_map, List.map_map] at h3
  exact h3
theorem bytes_ext {s : ByteArray} {l : List UInt8} (h : s.data.toList = l) : s = ⟨l.toArray⟩ := by
  apply ByteArray.ext
  rw [← Array.toList_inj, h]
/-- what address.Parse's words read as, in bytes -/
def pz (s : ByteArray) : List Int := if 58 ∈ s.data.toList then putL 2 ((words s 58).map fun w => (v16 w : Int)) else putL 1 ((words s 46).map fun w => (v10 w : Int))
/-- the text of an address's bytes -/
def textOf (zs : List Int) : ByteArray := if zs.length = 4 then joinB ((numsZ 1 zs).map dec) 46 else joinB ((numsZ 2 zs).map hexB) 58
theorem mapO_some {b : Nat} (hb : BaseOk b) : ∀ {ws : List (List UInt8)} {l : List Int}, mapO (wl b (-1)) ws = some l → ∃ us : List Nat, (∀ u ∈ us, u ≤ mxB b) ∧ l = us.map (fun u : Nat => (u : Int)) ∧ ws = us.map (digs b)
  | [], l, h => by
    simp only [mapO, Option.some.injEq] at h
    exact ⟨[], by simp, by simp [← h], rfl⟩
  | x :: ws, l, h => by
    simp only [mapO, Option.bind_eq_some_iff, Option.map_eq_some_iff] at h
    obtain ⟨v, hv, vs, hvs, rfl⟩ := h
    obtain ⟨u, rfl, hu, rfl⟩ := wl_word hb hv
    obtain ⟨us, h1, rfl, rfl⟩ := mapO_some hb hvs
    exact ⟨u :: us, fun y hy => by rcases List.mem_cons.1 hy with rfl | hy; exact hu; exact h1 y hy, rfl, rfl⟩
theorem mapO_digs {b : Nat} (hb : BaseOk b) : ∀ (us : List Nat), (∀ u ∈ us, u ≤ mxB b) → mapO (wl b (-1)) (us.map (digs b)) = some (us.map fun u : Nat => (u : Int))
  | [], _ => rfl
  | u :: us, h => by
    rw [List.map_cons, mapO, wl_digs hb (h u (by simp)), mapO_digs hb us (fun x hx => h x (by simp [hx]))]
    rfl
theorem putL_one : ∀ (xs : List Int), putL 1 xs = xs.map (· % 256)
  | [] => rfl
  | x :: xs => by
    have h : putL 1 (x :: xs) = be 1 x ++ putL 1 xs := by simp [putL]
    rw [h, putL_one xs]
    simp [be, be4]
theorem putL_mod (xs : List Int) : putL 2 (xs.map (· % 65536)) = putL 2 xs := by
  induction xs with
  | nil => rfl
  | cons x xs ih =>
    have h : ∀ y ys, putL 2 (y :: ys) = be 2 y ++ putL 2 ys := fun y ys => by simp [putL]
    rw [List.map_cons, h, h, ih]
    congr 1
    simp [be, be4]
    omega
theorem nums_one {zs : List Int} (h : Byt zs) : numsZ 1 zs = zs := by
  have hz : zs = putZ 1 zs := by
    have e : putZ 1 zs = putL 1 zs := rfl
    rw [e, putL_one]
    conv => lhs; rw [← List.map_id zs]
    refine List.map_congr_left fun z hz => ?_
    have := h z hz
    show z = z % 256
    omega
  conv => lhs; rw [hz]
  rw [numsZ_putZ rfl]
  conv => rhs; rw [← List.map_id zs]
  refine List.map_congr_left fun z hz => ?_
  have := h z hz
  show z % 256 ^ (1 : Int).toNat = z
  have e : (256 : Int) ^ (1 : Int).toNat = 256 := by decide
  rw [e]
  omega
theorem nums_two (xs : List Int) : numsZ 2 (putL 2 xs) = xs.map (· % 65536) := by
  have e : putL 2 xs = putZ 2 xs := rfl
  rw [e, numsZ_putZ rfl]
  have e2 : (256 : Int) ^ (2 : Int).toNat = 65536 := by decide
  rw [e2]
/-- numbers as naturals -/
theorem nats {zs : List Int} {M : Nat} (h : ∀ z ∈ zs, 0 ≤ z ∧ z ≤ M) : ∃ us : List Nat, (∀ u ∈ us, u ≤ M) ∧ zs = us.map fun u : Nat => (u : Int) := by
  refine ⟨zs.map Int.toNat, fun u hu => ?_, ?_⟩
  · obtain ⟨z, hz, rfl⟩ := List.mem_map.1 hu
    have := h z hz
    omega
  · rw [List.map_map]
    conv => lhs; rw [← List.map_id zs]
    refine List.map_congr_left fun z hz => ?_
    have := h z hz
    show z = ((z.toNat : Nat) : Int)
    omega
theorem join_dec {us : List Nat} (h : ∀ u ∈ us, u ≤ 255) : joinB ((us.map fun u : Nat => (u : Int)).map dec) 46 = ⟨(Lib.join (us.map (digs 10)) [46]).toArray⟩ := by
  unfold joinB
  congr 3
  rw [List.map_map, List.map_map]
  refine List.map_congr_left fun u hu => ?_
  show Lib.decDigits ((u : Int).toNat) = digs 10 u
  rw [Int.toNat_natCast]
  exact dec_digs u (h u hu)
theorem join_hex (us : List Nat) : joinB ((us.map fun u : Nat => (u : Int)).map hexB) 58 = ⟨(Lib.join (us.map (digs 16)) [58]).toArray⟩ := by
  unfold joinB
  congr 3
  rw [List.map_map, List.map_map]
  refine List.map_congr_left fun u hu => ?_
  show hexDigits ((u : Int).toNat) = digs 16 u
  rw [Int.toNat_natCast, hex_digs]
theorem hexd_ne {d : Nat} (h : d < 16) : hexd d ≠ 46 ∧ hexd d ≠ 58 := by
  obtain rfl | rfl | rfl | rfl | rfl | rfl | rfl | rfl | rfl | rfl | rfl | rfl | rfl | rfl | rfl | rfl : d = 0 ∨ d = 1 ∨ d = 2 ∨ d = 3 ∨ d = 4 ∨ d = 5 ∨ d = 6 ∨ d = 7 ∨ d = 8 ∨ d = 9 ∨ d = 10 ∨ d = 11 ∨ d = 12 ∨ d = 13 ∨ d = 14 ∨ d = 15 := by omega
  all_goals decide +kernel
theorem digs_ne {b : Nat} (hb : BaseOk b) {u : Nat} (hu : u ≤ mxB b) : (46 : UInt8) ∉ digs b u ∧ (58 : UInt8) ∉ digs b u := by
  obtain ⟨d0, es, h1, h2, h3, h4, h5⟩ := digs_canon hb hu
  have hb16 := hb.bd.2.1
  rw [h5]
  have hlt : ∀ d ∈ d0 :: es, d < 16 := fun d hd => by
    rcases List.mem_cons.1 hd with rfl | hd
    · omega
    · have := h2 d hd; omega
  refine ⟨fun hm => ?_, fun hm => ?_⟩
  · obtain ⟨d, hd, he⟩ := List.mem_map.1 hm
    exact (hexd_ne (hlt d hd)).1 he
  · obtain ⟨d, hd, he⟩ := List.mem_map.1 hm
    exact (hexd_ne (hlt d hd)).2 he
theorem mem_join {c x : UInt8} : ∀ {ws : List (List UInt8)}, x ∈ Lib.join ws [c] → x = c ∨ ∃ w ∈ ws, x ∈ w
  | [], h => by simp [Lib.join_nil] at h
  | [w], h => by rw [Lib.join_one] at h; exact .inr ⟨w, by simp, h⟩
  | w :: v :: ws, h => by
    have e : Lib.join (w :: v :: ws) [c] = w ++ c :: Lib.join (v :: ws) [c] := by rw [Lib.join_cons, Lib.join_cons]; simp [Lib.joinTail]
    rw [e] at h
    rcases List.mem_append.1 h with h | h
    · exact .inr ⟨w, by simp, h⟩
    · rcases List.mem_cons.1 h with h | h
      · exact .inl h
      · rcases mem_join h with h | ⟨y, hy, hx⟩
        · exact .inl h
        · exact .inr ⟨y, List.mem_cons_of_mem _ hy, hx⟩
theorem sep_mem {c : UInt8} {w v : List UInt8} {ws : List (List UInt8)} : c ∈ Lib.join (w :: v :: ws) [c] := by
  have e : Lib.join (w :: v :: ws) [c] = w ++ c :: Lib.join (v :: ws) [c] := by rw [Lib.join_cons, Lib.join_cons]; simp [Lib.joinTail]
  rw [e]; simp
theorem pl16_digs : ∀ (es : List Nat) (w : Nat), (∀ e ∈ es, e < 16) → foldD 16 w es ≤ 65535 → pl16 w (es.map hexd) = .ok (foldD 16 w es)
  | [], w, _, _ => rfl
  | e :: es, w, h1, h2 => by
    have he := h1 e (by simp)
    have hge := foldD_ge (b := 16) (by omega) es (w * 16 + e)
    have h2' : foldD 16 (w * 16 + e) es ≤ 65535 := h2
    rw [List.map_cons, pl16, hxd_hexd he, if_neg (by omega), if_neg (by omega)]
    exact pl16_digs es _ (fun x hx => h1 x (by simp [hx])) h2'
theorem v16_digs {u : Nat} (hu : u ≤ 65535) : v16 ⟨(digs 16 u).toArray⟩ = u := by
  obtain ⟨d0, es, h1, h2, h3, h4, h5⟩ := digs_canon (.inr rfl) (show u ≤ mxB 16 from hu)
  have h := pl16_digs (d0 :: es) 0 (fun e he => by rcases List.mem_cons.1 he with rfl | he; exact h1; exact h2 e he) (by
    show foldD 16 (0 * 16 + d0) es ≤ 65535
    rw [Nat.zero_mul, Nat.zero_add, h4]; exact hu)
  unfold v16
  rw [show (⟨(digs 16 u).toArray⟩ : ByteArray).data.toList = (d0 :: es).map hexd by rw [← h5], h]
  show foldD 16 (0 * 16 + d0) es = u
  rw [Nat.zero_mul, Nat.zero_add, h4]
theorem v10_digs {u : Nat} (hu : u ≤ 255) : v10 ⟨(digs 10 u).toArray⟩ = u := by
  have : ∀ v : Fin 256, v10 ⟨(digs 10 v.val).toArray⟩ = v.val := by decide +kernel
  exact this ⟨u, by omega⟩
theorem v10_le (s : ByteArray) : v10 s ≤ 65535 := by
  unfold v10
  cases h : Lib.parseUintB 8 s.data.toList with
  | ok u => have := Lib.parseUintB_le h; simp at this ⊢; omega
  | «syntax» => simp
  | range => simp

/-- IN DECIMAL -/
theorem law10_to {s : ByteArray} (h58 : (58 : UInt8) ∉ s.data.toList) {l : List Int} (h : rl 10 46 s.data.toList [] (-1) = some l) (h4 : l.length = 4) : pz s = l ∧ textOf l = s ∧ Byt l := by
  rw [rl_words] at h
  obtain ⟨us, hu, rfl, hw⟩ := mapO_some (.inl rfl) h
  have hwords := words_of hw
  have hbyt : Byt (us.map fun u : Nat => (u : Int)) := fun z hz => by
    obtain ⟨u, hum, rfl⟩ := List.mem_map.1 hz
    have := hu u hum
    have e : mxB 10 = 255 := rfl
    omega
  refine ⟨?_, ?_, hbyt⟩
  · unfold pz
    rw [if_neg h58, hwords, putL_one, List.map_map, List.map_map]
    refine List.map_congr_left fun u hum => ?_
    have := hu u hum
    have e : mxB 10 = 255 := rfl
    show ((v10 ⟨(digs 10 u).toArray⟩ : Nat) : Int) % 256 = u
    rw [v10_digs (by omega)]
    omega
  · unfold textOf
    rw [if_pos h4, nums_one hbyt, join_dec (fun u hum => hu u hum), ← hw, join_spl]
theorem law10_from {s : ByteArray} (h58 : (58 : UInt8) ∉ s.data.toList) (hn : (pz s).length = 4 ∨ (pz s).length = 16) (ht : textOf (pz s) = s) : ∃ l, rl 10 46 s.data.toList [] (-1) = some l ∧ l.length = 4 := by
  obtain ⟨xs, hxs⟩ : ∃ xs, pz s = putL 1 xs := ⟨_, by unfold pz; rw [if_neg h58]⟩
  have hb : Byt (pz s) := by rw [hxs]; exact putL_byt _ _
  by_cases h4 : (pz s).length = 4
  · unfold textOf at ht
    rw [if_pos h4, nums_one hb] at ht
    obtain ⟨us, hu, hus⟩ := nats (M := 255) (zs := pz s) (fun z hz => by have := hb z hz; omega)
    rw [hus, join_dec hu] at ht
    have hlen : us.length = 4 := by rw [hus, List.length_map] at h4; exact h4
    have hd : s.data.toList = Lib.join (us.map (digs 10)) [46] := by rw [← ht]
    match us, hlen with
    | u :: us, _ =>
      have hs : spl 46 s.data.toList = (u :: us).map (digs 10) := by
        rw [hd, List.map_cons]
        refine spl_join 46 _ _ (fun x hx => ?_)
        rw [← List.map_cons] at hx
        obtain ⟨y, hy, rfl⟩ := List.mem_map.1 hx
        exact (digs_ne (.inl rfl) (hu y hy)).1
      refine ⟨(u :: us).map fun u : Nat => (u : Int), ?_, ?_⟩
      · rw [rl_words, hs]
        exact mapO_digs (.inl rfl) _ hu
      · rw [List.length_map]; assumption
  · exfalso
    have h16 := hn.resolve_left h4
    unfold textOf at ht
    rw [if_neg h4] at ht
    have hlen : (numsZ 2 (pz s)).length = 8 := by
      unfold numsZ
      rw [if_pos ⟨rfl, by rw [h16]; rfl⟩, numsL_length, h16]; rfl
    have hd : s.data.toList = Lib.join (((numsZ 2 (pz s)).map hexB).map (·.data.toList)) [58] := by conv => lhs; rw [← ht]; unfold joinB
    match hz : numsZ 2 (pz s), hlen with
    | x :: y :: zs, _ =>
      rw [hz] at hd
      refine h58 ?_
      rw [hd]
      exact sep_mem
/-- IN HEXADECIMAL -/
theorem law16_to {s : ByteArray} (h58 : (58 : UInt8) ∈ s.data.toList) {l : List Int} (h : rl 16 58 s.data.toList [] (-1) = some l) (h8 : l.length = 8) : pz s = putL 2 l ∧ textOf (putL 2 l) = s ∧ ∀ x ∈ l, 0 ≤ x ∧ x ≤ 65535 := by
  rw [rl_words] at h
  obtain ⟨us, hu, rfl, hw⟩ := mapO_some (.inr rfl) h
  have hwords := words_of hw
  have e : mxB 16 = 65535 := rfl
  have hr : ∀ x ∈ us.map (fun u : Nat => (u : Int)), 0 ≤ x ∧ x ≤ 65535 := fun z hz => by
    obtain ⟨u, hum, rfl⟩ := List.mem_map.1 hz
    have := hu u hum
    omega
  refine ⟨?_, ?_, hr⟩
  · unfold pz
    rw [if_pos h58, hwords, List.map_map]
    congr 1
    refine List.map_congr_left fun u hum => ?_
    have := hu u hum
    show ((v16 ⟨(digs 16 u).toArray⟩ : Nat) : Int) = u
    rw [v16_digs (by omega)]
  · unfold textOf
    have hl : (putL 2 (us.map fun u : Nat => (u : Int))).length = 16 := by rw [putL_length (by omega), h8]
    rw [if_neg (by omega), nums_two]
    have hm : (us.map fun u : Nat => (u : Int)).map (· % 65536) = us.map fun u : Nat => (u : Int) := by
      conv => rhs; rw [← List.map_id (us.map fun u : Nat => (u : Int))]
      refine List.map_congr_left fun z hz => ?_
      have := hr z hz
      show z % 65536 = z
      omega
    rw [hm, join_hex, ← hw, join_spl]
theorem law16_from {s : ByteArray} (h58 : (58 : UInt8) ∈ s.data.toList) (hn : (pz s).length = 4 ∨ (pz s).length = 16) (ht : textOf (pz s) = s) : ∃ l, rl 16 58 s.data.toList [] (-1) = some l ∧ l.length = 8 := by
  obtain ⟨xs, hxs⟩ : ∃ xs, pz s = putL 2 xs := ⟨_, by unfold pz; rw [if_pos h58]⟩
  have hb : Byt (pz s) := by rw [hxs]; exact putL_byt _ _
  by_cases h4 : (pz s).length = 4
  · exfalso
    unfold textOf at ht
    rw [if_pos h4, nums_one hb] at ht
    obtain ⟨us, hu, hus⟩ := nats (M := 255) (zs := pz s) (fun z hz => by have := hb z hz; omega)
    rw [hus, join_dec hu] at ht
    have hd : s.data.toList = Lib.join (us.map (digs 10)) [46] := by rw [← ht]
    rw [hd] at h58
    rcases mem_join h58 with h | ⟨w, hw, hx⟩
    · exact absurd h (by decide)
    · obtain ⟨y, hy, rfl⟩ := List.mem_map.1 hw
      exact (digs_ne (.inl rfl) (hu y hy)).2 hx
  · have h16 := hn.resolve_left h4
    unfold textOf at ht
    rw [if_neg h4, hxs, nums_two] at ht
    obtain ⟨us, hu, hus⟩ := nats (M := 65535) (zs := xs.map (· % 65536)) (fun z hz => by obtain ⟨y, _, rfl⟩ := List.mem_map.1 hz; omega)
    rw [hus, join_hex] at ht
    have hlen : us.length = 8 := by
      have := congrArg List.length hus
      rw [List.length_map, List.length_map] at this
      rw [hxs, putL_length (by omega)] at h16
      omega
    have hd : s.data.toList = Lib.join (us.map (digs 16)) [58] := by rw [← ht]
    match us, hlen with
    | u :: us, _ =>
      have hs : spl 58 s.data.toList = (u :: us).map (digs 16) := by
        rw [hd, List.map_cons]
        refine spl_join 58 _ _ (fun x hx => ?_)
        rw [← List.map_cons] at hx
        obtain ⟨y, hy, rfl⟩ := List.mem_map.1 hx
        exact (digs_ne (.inr rfl) (hu y hy)).2
      refine ⟨(u :: us).map fun u : Nat => (u : Int), ?_, ?_⟩
      · rw [rl_words, hs]
        exact mapO_digs (.inr rfl) _ hu
      · rw [List.length_map]; assumption
end Go.Proofs.YtmncmbbgdkkgaaaGreatDoor
