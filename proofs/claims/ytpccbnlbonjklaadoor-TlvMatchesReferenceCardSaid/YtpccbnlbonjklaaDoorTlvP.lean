/- Plain laws of lists of frames: what is joined splits into the same frames; what splits without an error is joined to the same bytes. -/
import Derived.Test.YtpccbnlbonjklaaDoorTlv9
namespace Go.Proofs.YtpccbnlbonjklaaDoor
set_option maxRecDepth 100000
set_option linter.unusedVariables false

def stepJ (out : List Int) (f : Int × List Int) : List Int := padB out ++ encF f
theorem joinL_fold (ms : List (Int × List Int)) : joinL ms = ms.foldl stepJ [] := rfl
/-- a frame that can be written -/
def FitM (f : Int × List Int) : Prop := 0 ≤ f.1 ∧ f.1 ≤ 65535 ∧ Byt f.2 ∧ f.2.length ≤ 65531

theorem num2 (x y : Int) : Wr.num [x, y] = x * 256 + y := by simp [Wr.num]
section
variable {out S : List Int} {f : Int × List Int}
theorem drop_pre (k : Nat) : (out ++ encF f ++ S).drop (out.length + k) = (encF f ++ S).drop k := by
  rw [List.append_assoc, List.drop_append]
  simp
theorem lenAt_pre (h : FitM f) : lenAt (out ++ encF f ++ S) out.length = 4 + f.2.length := by
  have h4 := h.2.2.2
  unfold lenAt
  rw [drop_pre]
  have e : ((encF f ++ S).drop 2).take 2 = [(4 + f.2.length : Int) / 256 % 256, (4 + f.2.length : Int) % 256] := by simp [encF]
  rw [e, num2]
  omega
theorem typAt_pre (h : FitM f) : typAt (out ++ encF f ++ S) out.length = f.1 := by
  have h1 := h.1
  have h2 := h.2.1
  unfold typAt
  have := drop_pre (out := out) (f := f) (S := S) 0
  rw [Nat.add_zero] at this
  rw [this]
  have e : ((encF f ++ S).drop 0).take 2 = [f.1 / 256 % 256, f.1 % 256] := by simp [encF]
  rw [e, num2]
  omega
theorem valAt_pre (h : FitM f) : valAt (out ++ encF f ++ S) out.length = f.2 := by
  unfold valAt
  rw [lenAt_pre h, drop_pre]
  have e : (encF f ++ S).drop 4 = f.2 ++ S := by simp [encF]
  rw [e, Nat.add_sub_cancel_left, List.take_append_of_le_length (Nat.le_refl _), List.take_length]
end
theorem pad_mod (zs : List Int) : (padB zs).length % 4 = 0 := by
  rw [padB_length]
  unfold Pd.gap
  omega
theorem zeros_replicate (n : Nat) : Pd.zeros (List.replicate n 0) = true := by
  refine Pd.nth_all (fun j hj => ?_)
  rw [nth_lt hj]
  simp
/-- the next frame begins behind the padding -/
theorem fold_pre : ∀ (post : List (Int × List Int)) (f : Int × List Int) (out : List Int), ∃ R, (f :: post).foldl stepJ out = padB out ++ encF f ++ R
  | [], f, out => ⟨[], by simp [stepJ]⟩
  | g :: post, f, out => by
    obtain ⟨R, hR⟩ := fold_pre post g (stepJ out f)
    refine ⟨List.replicate (Pd.gap (stepJ out f).length).toNat 0 ++ encF g ++ R, ?_⟩
    rw [List.foldl_cons, hR]
    simp [padB, stepJ]
theorem run_fold : ∀ (post : List (Int × List Int)) (f : Int × List Int) (out : List Int), (∀ g ∈ f :: post, FitM g) → Run ((f :: post).foldl stepJ out) (padB out).length (f :: post) none
  | [], f, out, h => by
    have hf := h f (by simp)
    have e : [f].foldl stepJ out = padB out ++ encF f ++ [] := by simp [stepJ]
    rw [e]
    have hl : (padB out ++ encF f ++ []).length = (padB out).length + (4 + f.2.length) := by simp [encF]; omega
    have h2 := Run.ok (zs := padB out ++ encF f ++ []) (p := (padB out).length) (q := (padB out ++ encF f ++ []).length) (by omega) ⟨by omega, by rw [lenAt_pre hf]; omega, .inl ⟨by rw [lenAt_pre hf, hl], rfl⟩⟩ (Run.stop (Nat.le_refl _))
    rwa [typAt_pre hf, valAt_pre hf] at h2
  | g :: post, f, out, h => by
    have hf := h f (by simp)
    obtain ⟨R, hR⟩ := fold_pre post g (stepJ out f)
    have ih := run_fold post g (stepJ out f) (fun x hx => h x (List.mem_cons_of_mem _ hx))
    rw [List.foldl_cons]
    rw [hR] at ih ⊢
    have e : padB (stepJ out f) ++ encF g ++ R = padB out ++ encF f ++ (List.replicate (Pd.gap (stepJ out f).length).toNat 0 ++ encF g ++ R) := by simp [padB, stepJ]
    have hl : (stepJ out f).length = (padB out).length + (4 + f.2.length) := by simp [stepJ, encF]; omega
    have hg := Pd.gap_bd (stepJ out f).length
    have hq : (padB (stepJ out f)).length = (padB out).length + (4 + f.2.length) + (Pd.gap (stepJ out f).length).toNat := by rw [padB_length, hl]
    have hJ : (padB (stepJ out f) ++ encF g ++ R).length = (padB (stepJ out f)).length + (g.2.length + 4) + R.length := by simp [encF]; omega
    have hlen := lenAt_pre (out := padB out) (f := f) (S := List.replicate (Pd.gap (stepJ out f).length).toNat 0 ++ encF g ++ R) hf
    have htyp := typAt_pre (out := padB out) (f := f) (S := List.replicate (Pd.gap (stepJ out f).length).toNat 0 ++ encF g ++ R) hf
    have hval := valAt_pre (out := padB out) (f := f) (S := List.replicate (Pd.gap (stepJ out f).length).toNat 0 ++ encF g ++ R) hf
    rw [← e] at hlen htyp hval
    have hcast : ((padB out).length : Int) + ((4 + f.2.length : Nat) : Int) = ((stepJ out f).length : Int) := by rw [hl]; omega
    have hnext : Pd.nextB (padB (stepJ out f) ++ encF g ++ R) ((stepJ out f).length : Int) = true := by
      have ht : (((stepJ out f).length : Int) + Pd.gap (stepJ out f).length).toNat = (padB (stepJ out f)).length := by rw [padB_length]; omega
      have hz : ((padB (stepJ out f) ++ encF g ++ R).take (((stepJ out f).length : Int) + Pd.gap (stepJ out f).length).toNat).drop (((stepJ out f).length : Int)).toNat = List.replicate (Pd.gap (stepJ out f).length).toNat 0 := by
        rw [ht, List.append_assoc, List.take_append_of_le_length (Nat.le_refl _), List.take_length, Int.toNat_natCast, padB, List.drop_append]
        simp
      simp only [Pd.nextB, hz, zeros_replicate, Bool.and_true, Bool.and_eq_true, decide_eq_true_eq]
      omega
    have h2 := Run.ok (zs := padB (stepJ out f) ++ encF g ++ R) (p := (padB out).length) (q := (padB (stepJ out f)).length) (by omega)
      ⟨by omega, by rw [hlen]; omega, .inr ⟨by rw [hlen]; omega, by rw [hlen, hcast]; exact hnext, by rw [hlen, hcast]; omega, by omega⟩⟩ ih
    rwa [htyp, hval] at h2
/-- WHAT IS JOINED SPLITS INTO THE SAME FRAMES -/
theorem run_join (ms : List (Int × List Int)) (h : ∀ f ∈ ms, FitM f) : Run (joinL ms) 0 ms none := by
  cases ms with
  | nil => exact Run.stop (Nat.le_refl _)
  | cons f ms =>
    have := run_fold ms f [] h
    rw [show (padB []).length = 0 by simp [padB, Pd.gap]] at this
    exact this

theorem fold_len : ∀ (ms : List (Int × List Int)) (out : List Int), ((ms.foldl stepJ out).length : Int) = (ms.map fun m => 4 + (m.2.length : Int)).foldl (fun s x => s + Pd.gap s + x) out.length
  | [], out => rfl
  | f :: ms, out => by
    rw [List.foldl_cons, fold_len ms, List.map_cons, List.foldl_cons]
    congr 1
    have hg := Pd.gap_bd out.length
    rw [stepJ, List.length_append, padB_length, encF_length]
    omega
theorem join_size (ms : List (Int × List Int)) : ((joinL ms).length : Int) = Pd.szs (ms.map fun m => 4 + (m.2.length : Int)) := by
  rw [joinL_fold, fold_len]
  rfl

/-! from the bytes back -/
theorem two_bytes {zs : List Int} (hb : Byt zs) {p : Nat} (h : p + 2 ≤ zs.length) : (zs.drop p).take 2 = [nth zs p, nth zs (p + 1)] := by
  rw [drop_nth (by omega), drop_nth (zs := zs) (k := p + 1) (by omega)]
  rfl
theorem enc_at {zs : List Int} (hb : Byt zs) {p : Nat} (h1 : p + 4 ≤ zs.length) (h2 : 4 ≤ lenAt zs p) (h3 : p + lenAt zs p ≤ zs.length) : encF (typAt zs p, valAt zs p) = (zs.drop p).take (lenAt zs p) := by
  have b0 := hb.nth p
  have b1 := hb.nth (p + 1)
  have b2 := hb.nth (p + 2)
  have b3 := hb.nth (p + 3)
  have ht : typAt zs p = nth zs p * 256 + nth zs (p + 1) := by rw [typAt, two_bytes hb (by omega), num2]
  have hm : (lenAt zs p : Int) = nth zs (p + 2) * 256 + nth zs (p + 3) := by
    rw [← lenAt_eq hb, two_bytes hb (by omega), num2]
  have hv : (valAt zs p).length = lenAt zs p - 4 := by rw [valAt, List.length_take, List.length_drop]; omega
  have hv2 : (4 + ((valAt zs p).length : Int)) = lenAt zs p := by rw [hv]; omega
  have e : (zs.drop p).take (lenAt zs p) = [nth zs p, nth zs (p + 1), nth zs (p + 2), nth zs (p + 3)] ++ valAt zs p := by
    rw [drop_nth (by omega), drop_nth (zs := zs) (k := p + 1) (by omega), drop_nth (zs := zs) (k := p + 1 + 1) (by omega), drop_nth (zs := zs) (k := p + 1 + 1 + 1) (by omega)]
    obtain ⟨m, hm⟩ : ∃ m, lenAt zs p = m + 4 := ⟨lenAt zs p - 4, by omega⟩
    rw [valAt, hm]
    rfl
  rw [e, encF]
  simp only [hv2]
  congr 1
  simp only [List.cons.injEq, and_true]
  omega
theorem fits_at {zs : List Int} (hb : Byt zs) {p : Nat} (h1 : p + 4 ≤ zs.length) : lenAt zs p ≤ 65535 := by
  have b2 := hb.nth (p + 2)
  have b3 := hb.nth (p + 3)
  have hm : (lenAt zs p : Int) = nth zs (p + 2) * 256 + nth zs (p + 3) := by
    rw [← lenAt_eq hb, two_bytes hb (by omega), num2]
  omega
theorem zeros_eq : ∀ (zs : List Int), Pd.zeros zs = true → zs = List.replicate zs.length 0 := by
  intro zs h
  refine ext_nth (by simp) (fun j hj => ?_)
  by_cases hz : nth zs j = 0
  · rw [hz, nth_lt (by simpa using hj)]; simp
  · rw [Pd.zeros_not hj hz] at h; cases h
theorem pad_at {zs : List Int} {e : Nat} (he : e ≤ zs.length) (h : Pd.nextB zs (e : Int) = true) : padB (zs.take e) = zs.take ((e : Int) + Pd.gap e).toNat := by
  have hg := Pd.gap_bd e
  simp only [Pd.nextB, Bool.and_eq_true, decide_eq_true_eq] at h
  obtain ⟨⟨⟨_, _⟩, h3⟩, h4⟩ := h
  have hl : (zs.take e).length = e := by rw [List.length_take]; omega
  have h5 := zeros_eq _ h4
  have hl2 : ((zs.take ((e : Int) + Pd.gap e).toNat).drop (e : Int).toNat).length = (Pd.gap e).toNat := by rw [List.length_drop, List.length_take]; omega
  rw [hl2, Int.toNat_natCast] at h5
  rw [padB, hl, ← h5]
  have h6 : zs.take e = (zs.take ((e : Int) + Pd.gap e).toNat).take e := by rw [List.take_take]; congr 1; omega
  rw [h6, List.take_append_drop]
theorem run_back {zs : List Int} (hb : Byt zs) : ∀ {p : Nat} {fs : List (Int × List Int)} {r : Option (Int × Int)}, Run zs p fs r → r = none → p ≤ zs.length → ∀ out, padB out = zs.take p → (fs = [] → out = zs) → fs.foldl stepJ out = zs ∧ ∀ f ∈ fs, f.2.length ≤ 65531 := by
  intro p fs r h
  induction h with
  | stop h => intro _ _ out _ ho; exact ⟨ho rfl, fun f hf => by cases hf⟩
  | err => intro h; cases h
  | @ok p q fs r hp hk hr ih =>
    intro hn hpl out hpo _
    obtain ⟨h1, h2, h3⟩ := hk
    have hle : p + lenAt zs p ≤ zs.length := by omega
    have he : stepJ out (typAt zs p, valAt zs p) = zs.take (p + lenAt zs p) := by
      rw [stepJ, hpo, enc_at hb h1 h2 hle, List.take_add]
    have hfit : (valAt zs p).length ≤ 65531 := by
      have := fits_at hb h1
      rw [valAt, List.length_take, List.length_drop]; omega
    rw [List.foldl_cons, he]
    rcases h3 with ⟨h3, h4⟩ | ⟨h3, h4, h5, h6⟩
    · have h7 : fs = [] := by
        cases hr with
        | stop => rfl
        | err => cases hn
        | ok h _ _ => omega
      subst h7
      refine ⟨by rw [List.foldl_nil, h3, List.take_length], fun f hf => ?_⟩
      rw [List.mem_singleton.1 hf]; exact hfit
    · have hc : (p : Int) + (lenAt zs p : Int) = ((p + lenAt zs p : Nat) : Int) := by omega
      rw [hc] at h4 h5
      have h7 := pad_at hle h4
      have h8 : (((p + lenAt zs p : Nat) : Int) + Pd.gap ((p + lenAt zs p : Nat) : Int)).toNat = q := by omega
      rw [h8] at h7
      have h9 := ih hn (by omega) (zs.take (p + lenAt zs p)) h7 (fun e => by
        subst e
        cases hr with
        | stop h => omega
        | err => cases hn)
      refine ⟨h9.1, fun f hf => ?_⟩
      rcases List.mem_cons.1 hf with rfl | hf
      · exact hfit
      · exact h9.2 f hf
/-- WHAT SPLITS WITHOUT AN ERROR IS JOINED TO THE SAME BYTES -/
theorem join_run {zs : List Int} (hb : Byt zs) {fs : List (Int × List Int)} (h : Run zs 0 fs none) : joinL fs = zs ∧ ∀ f ∈ fs, f.2.length ≤ 65531 :=
  run_back hb h rfl (Nat.zero_le _) [] (by simp [padB, Pd.gap]) (fun e => by
    subst e
    cases h with
    | stop h => exact (List.length_eq_zero_iff.1 (by omega)).symm)
end Go.Proofs.YtpccbnlbonjklaaDoor
