/-
  Sets in plain terms: what a set holds; what adding, dropping and joining make of it.
-/
import Derived.Test.YtdnfcomgdgdifaaGF
set_option linter.unusedVariables false
set_option linter.unusedSimpArgs false
namespace Go.Proofs.Ytdnfcomgdgdifaa

/-- A set that is right. -/
structure OkS (z : List (List Int)) : Prop where
  len : z.length = 1 ∨ z.length = 2 ∨ z.length = 4 ∨ z.length = 8
  three : ∀ p, p < z.length → (nthL z p).length ≤ 3
  asc : ∀ p, p < z.length → (nthL z p).Pairwise fun a b => a < b
  val : ∀ p, p < z.length → ∀ y ∈ nthL z p, isVal y = true
  place : ∀ p, p < z.length → ∀ y ∈ nthL z p, plc z.length y = p
theorem pair_step {xs : List Int} (h : ∀ i, i + 1 < xs.length → nth xs i < nth xs (i + 1)) : xs.Pairwise fun a b => a < b := by
  have mono : ∀ d i, i + d + 1 < xs.length → nth xs i < nth xs (i + d + 1) := by
    intro d
    induction d with
    | zero => intro i hi; exact h i hi
    | succ d ih =>
      intro i hi
      have h1 := ih i (by omega)
      have h2 := h (i + d + 1) (by omega)
      rw [show i + (d + 1) + 1 = i + d + 1 + 1 by omega]
      omega
  refine List.pairwise_iff_getElem.2 fun i j hi hj hij => ?_
  have := mono (j - i - 1) i (by omega)
  rw [show i + (j - i - 1) + 1 = j by omega] at this
  simp only [nth, List.getD_eq_getElem?_getD, hi, hj, List.getElem?_eq_getElem, Option.getD_some] at this
  exact this
theorem nth_mem' {xs : List Int} {i : Nat} (h : i < xs.length) : nth xs i ∈ xs := by
  simp [nth, List.getD_eq_getElem?_getD, h]
theorem plc_iff {n p : Nat} (hn : 0 < n) (y : Int) : y % (n : Int) = (p : Int) ↔ plc n y = p := by
  have := (plc_lt hn y).2
  omega
theorem setOk_OkS {z : List (List Int)} : setOk z = true ↔ OkS z := by
  constructor
  · intro h
    have hl := setOk_len h
    have hb := fun p (hp : p < z.length) => bkt_ok h hp
    simp only [bkOk, elOk, Bool.and_eq_true, decide_eq_true_eq] at hb
    refine ⟨hl, fun p hp => (hb p hp).1, fun p hp => pair_step fun i hi => ?_, fun p hp y hy => ?_, fun p hp y hy => ?_⟩
    · have := ((hb p hp).2 (i + 1) hi).2 (by omega)
      simpa using this
    · obtain ⟨i, hi, rfl⟩ := List.getElem_of_mem hy
      have := ((hb p hp).2 i hi).1.1
      simpa [nth, List.getD_eq_getElem?_getD, hi] using this
    · obtain ⟨i, hi, rfl⟩ := List.getElem_of_mem hy
      have := ((hb p hp).2 i hi).1.2
      simp only [nth, List.getD_eq_getElem?_getD, hi, List.getElem?_eq_getElem, Option.getD_some] at this
      exact (plc_iff (by omega) _).1 this
  · intro h
    unfold setOk
    rw [Bool.and_eq_true, lenOk_iff, decide_eq_true_eq]
    refine ⟨h.len, fun p hp => ?_⟩
    simp only [bkOk, elOk, Bool.and_eq_true, decide_eq_true_eq]
    refine ⟨h.three p hp, fun i hi => ⟨⟨h.val p hp _ (nth_mem' hi), (plc_iff (by omega) _).2 (h.place p hp _ (nth_mem' hi))⟩, fun h0 => ?_⟩⟩
    have := List.pairwise_iff_getElem.1 (h.asc p hp) (i - 1) i (by omega) hi (by omega)
    have h1 : i - 1 < (nthL z p).length := by omega
    simpa [nth, List.getD_eq_getElem?_getD, hi, h1] using this
theorem mem_flat {z : List (List Int)} {x : Int} : x ∈ z.flatten ↔ ∃ p, p < z.length ∧ x ∈ nthL z p := by
  rw [List.mem_flatten]
  constructor
  · rintro ⟨xs, h1, h2⟩
    obtain ⟨p, hp, rfl⟩ := List.getElem_of_mem h1
    exact ⟨p, hp, by rw [nthL_lt hp]; exact h2⟩
  · rintro ⟨p, hp, h⟩
    exact ⟨_, nthL_mem hp, h⟩
section
variable {z : List (List Int)} (h : OkS z)
include h
theorem OkS.pos : 0 < z.length := by have := h.len; omega
theorem OkS.mem {x : Int} : x ∈ z.flatten ↔ x ∈ bkt z x := by
  have hp := plc_lt h.pos x
  rw [mem_flat]
  constructor
  · rintro ⟨p, hp', hx⟩
    have := h.place p hp' x hx
    unfold bkt
    change x ∈ nthL z (plc z.length x)
    rw [this]; exact hx
  · intro hx
    exact ⟨_, hp.1, hx⟩
theorem OkS.sub {x y : Int} (hy : y ∈ bkt z x) : y ∈ z.flatten := mem_flat.2 ⟨_, (plc_lt h.pos x).1, hy⟩
theorem OkS.has {x : Int} : setHas z x = true ↔ x ∈ z.flatten := by
  rw [h.mem]; unfold setHas; exact has_mem
theorem OkS.filt {p : Nat} (hp : p < z.length) : z.flatten.filter (fun y => decide (plc z.length y = p)) = nthL z p := by
  have key : ∀ (w : List (List Int)) (o : Nat), (∀ q, q < w.length → ∀ y ∈ nthL w q, plc z.length y = o + q) → w.flatten.filter (fun y => decide (plc z.length y = p)) = if o ≤ p ∧ p < o + w.length then nthL w (p - o) else [] := by
    intro w
    induction w with
    | nil => intro o hw; rw [if_neg (by intro h; have h1 := h.1; have h2 := h.2; simp at h2; omega)]; rfl
    | cons xs r ih =>
      intro o hw
      have h1 : ∀ y ∈ xs, plc z.length y = o := fun y hy => by
        have := hw 0 (by simp) y (by simpa [nthL] using hy)
        simpa using this
      have h2 := ih (o + 1) fun q hq y hy => by
        have := hw (q + 1) (by simp; omega) y (by simpa [nthL] using hy)
        omega
      rw [List.flatten_cons, List.filter_append, h2]
      by_cases e : p = o
      · subst e
        rw [List.filter_eq_self.2 fun y hy => by simpa using h1 y hy, if_neg (by omega), if_pos (by simp), List.append_nil, Nat.sub_self]
        rfl
      · rw [List.filter_eq_nil_iff.2 fun y hy => by rw [h1 y hy]; simpa using Ne.symm e, List.nil_append]
        by_cases e2 : o ≤ p ∧ p < o + (xs :: r).length
        · rw [if_pos e2, if_pos (by simp at e2; omega)]
          rw [show p - o = (p - (o + 1)) + 1 by omega]
          rfl
        · rw [if_neg e2, if_neg (by simp at e2 ⊢; omega)]
  have := key z 0 fun q hq y hy => by rw [Nat.zero_add]; exact h.place q hq y hy
  rw [if_pos (by omega)] at this
  exact this
theorem OkS.nodup : z.flatten.Nodup := by
  rw [List.nodup_iff_count]
  intro a
  by_cases ha : a ∈ z.flatten
  · have hp := plc_lt h.pos a
    have hc : z.flatten.count a = (nthL z (plc z.length a)).count a := by
      rw [← h.filt hp.1, List.count_filter (by simp)]
    rw [hc]
    have : (nthL z (plc z.length a)).Nodup := (h.asc _ hp.1).imp fun hlt => by omega
    exact List.nodup_iff_count.1 this a
  · rw [List.count_eq_zero_of_not_mem ha]; exact Nat.zero_le _
theorem OkS.isv {x : Int} (hx : x ∈ z.flatten) : isVal x = true := by
  obtain ⟨p, hp, hx⟩ := mem_flat.1 hx
  exact h.val p hp x hx
end
theorem asc_lt {l : List Int} (h : Asc l) (hn : l.Nodup) : l.Pairwise fun a b => a < b := by
  refine (h.and hn).imp ?_
  rintro a b ⟨h1, h2⟩
  omega
theorem srt_nodup {l : List Int} (h : l.Nodup) : (srt l).Nodup := (srt_perm l).nodup_iff.2 h
theorem srt_lt {l : List Int} (h : l.Nodup) : (srt l).Pairwise fun a b => a < b := asc_lt (srt_asc l) (srt_nodup h)
theorem srt_mem {l : List Int} {x : Int} : x ∈ srt l ↔ x ∈ l := (srt_perm l).mem_iff
theorem plc_half {n : Nat} (hn : 0 < n) {y : Int} {p : Nat} (h : plc (2 * n) y = p) : plc n y = p % n := by
  have h1 := (plc_lt (n := 2 * n) (by omega) y).2
  rw [h] at h1
  refine (plc_iff hn y).1 ?_
  have h2 : y % (n : Int) = (y % ((2 * n : Nat) : Int)) % (n : Int) := by
    rw [Int.emod_emod_of_dvd]
    exact ⟨2, by push_cast; omega⟩
  rw [h2, h1]
  exact (Int.natCast_emod p n).symm
/-- Spread over twice the buckets. -/
theorem OkS.twice {z : List (List Int)} {l : List Int} (h : OkS z) (hl : z.flatten.Perm l) (h8 : z.length ≠ 8) : OkS (buck (srt l) (2 * z.length)) := by
  have hp := h.pos
  have hs : (srt l).Perm z.flatten := (srt_perm l).trans hl.symm
  have hlt := asc_lt (srt_asc l) (hs.nodup_iff.2 h.nodup)
  have hb := fun p (hp : p < (buck (srt l) (2 * z.length)).length) => buck_nth (l := srt l) (n := 2 * z.length) (by rwa [buck_len] at hp)
  refine ⟨by rw [buck_len]; have := h.len; omega, fun p hp' => ?_, fun p hp' => ?_, fun p hp' y hy => ?_, fun p hp' y hy => ?_⟩
  · rw [hb p hp']
    rw [buck_len] at hp'
    have h1 : ((srt l).filter fun y => decide (plc (2 * z.length) y = p)).length ≤ ((srt l).filter fun y => decide (plc z.length y = p % z.length)).length := by
      rw [← List.countP_eq_length_filter, ← List.countP_eq_length_filter]
      exact List.countP_mono_left fun y _ hy => decide_eq_true (plc_half hp (of_decide_eq_true hy))
    have h2 : ((srt l).filter fun y => decide (plc z.length y = p % z.length)).length = (nthL z (p % z.length)).length := by
      rw [← h.filt (Nat.mod_lt _ hp)]
      exact (hs.filter _).length_eq
    have := h.three (p % z.length) (Nat.mod_lt _ hp)
    omega
  · rw [hb p hp']; exact hlt.filter _
  · rw [hb p hp'] at hy
    exact h.isv (hs.mem_iff.1 (List.mem_filter.1 hy).1)
  · rw [hb p hp'] at hy
    rw [buck_len]
    exact of_decide_eq_true (List.mem_filter.1 hy).2
theorem settle_OkS {l : List Int} {x : Int} : ∀ (f : Nat) {z w : List (List Int)}, OkS z → z.flatten.Perm l → settle x (srt l) f z = some w → OkS w ∧ w.flatten.Perm l ∧ (bkt w x).length ≠ 3
  | 0, z, w, _, _, h => by cases h
  | f + 1, z, w, hz, hp, h => by
    unfold settle at h
    split at h
    · split at h
      · cases h
      · rename_i h8
        exact settle_OkS f (hz.twice hp h8) ((buck_perm (by have := hz.pos; omega) _).trans (srt_perm _)) h
    · rename_i h3
      injection h with h
      subst h
      exact ⟨hz, hp, h3⟩
/-- One bucket changed. -/
theorem OkS.put {z : List (List Int)} (h : OkS z) {p : Nat} (hp : p < z.length) {xs : List Int} (h1 : xs.length ≤ 3) (h2 : xs.Pairwise fun a b => a < b) (h3 : ∀ y ∈ xs, isVal y = true ∧ plc z.length y = p) : OkS (setN z p xs) := by
  have hn := setN_len z p xs
  refine ⟨by rw [hn]; exact h.len, fun j hj => ?_, fun j hj => ?_, fun j hj y hy => ?_, fun j hj y hy => ?_⟩ <;> rw [hn] at hj
  · rw [setN_nth hp]
    split
    · exact h1
    · exact h.three j hj
  · rw [setN_nth hp]
    split
    · exact h2
    · exact h.asc j hj
  · rw [setN_nth hp] at hy
    split at hy
    · exact (h3 y hy).1
    · exact h.val j hj y hy
  · rw [setN_nth hp] at hy
    rw [hn]
    split at hy
    · rename_i e; rw [e]; exact (h3 y hy).2
    · exact h.place j hj y hy
theorem setN_mem {z : List (List Int)} {p : Nat} (hp : p < z.length) {xs : List Int} {y : Int} : y ∈ (setN z p xs).flatten ↔ y ∈ xs ∨ ∃ j, j < z.length ∧ j ≠ p ∧ y ∈ nthL z j := by
  rw [mem_flat, setN_len]
  constructor
  · rintro ⟨j, hj, hy⟩
    rw [setN_nth hp] at hy
    split at hy
    · exact .inl hy
    · exact .inr ⟨j, hj, by assumption, hy⟩
  · rintro (hy | ⟨j, hj, hne, hy⟩)
    · exact ⟨p, hp, by rw [setN_nth hp, if_pos rfl]; exact hy⟩
    · exact ⟨j, hj, by rw [setN_nth hp, if_neg hne]; exact hy⟩
theorem OkS.other {z : List (List Int)} (h : OkS z) {x y : Int} : (∃ j, j < z.length ∧ j ≠ plc z.length x ∧ y ∈ nthL z j) ↔ y ∈ z.flatten ∧ y ∉ bkt z x := by
  constructor
  · rintro ⟨j, hj, hne, hy⟩
    refine ⟨mem_flat.2 ⟨j, hj, hy⟩, fun hy2 => ?_⟩
    have h1 := h.place j hj y hy
    have h2 := h.place _ (plc_lt h.pos x).1 y hy2
    exact hne (h1.symm.trans h2)
  · rintro ⟨hy, hn⟩
    obtain ⟨j, hj, hy⟩ := mem_flat.1 hy
    refine ⟨j, hj, fun e => hn ?_, hy⟩
    rw [e] at hy
    exact hy
/-- What adding says. -/
inductive AddR (z : List (List Int)) (x : Int) : List (List Int) → Int → Prop
  | bad : isVal x = false → AddR z x z 1
  | two : x ∈ z.flatten → isVal x = true → AddR z x z 2
  | full : x ∉ z.flatten → AddR z x z 3
  | new {w : List (List Int)} : x ∉ z.flatten → isVal x = true → OkS w → (∀ y, y ∈ w.flatten ↔ y = x ∨ y ∈ z.flatten) → AddR z x w 0
theorem setAdd_R {z : List (List Int)} (h : OkS z) (x : Int) : AddR z x (setAdd z x).1 (setAdd z x).2 := by
  unfold setAdd
  have ho := setOk_OkS.2 h
  by_cases hv : isVal x = true
  · rw [if_pos ⟨ho, hv⟩]
    by_cases hh : setHas z x = true
    · rw [if_pos hh]; exact .two (h.has.1 hh) hv
    · rw [if_neg hh]
      have hx : x ∉ z.flatten := fun hx => hh (h.has.2 hx)
      cases hs : settle x (srt z.flatten) 4 z with
      | none => exact .full hx
      | some w =>
        obtain ⟨hw, hp, h3⟩ := settle_OkS 4 h (List.Perm.refl _) hs
        have hpl := plc_lt hw.pos x
        have hxb : x ∉ bkt w x := fun hx' => hx (hp.mem_iff.1 (hw.mem.2 hx'))
        have hperm := insL_perm (bkt w x) x
        have hb3 := hw.three _ hpl.1
        refine .new hx hv (hw.put hpl.1 ?_ ?_ fun y hy => ?_) fun y => ?_
        · rw [insL_len]; unfold bkt at h3 ⊢; unfold plc at hb3; omega
        · refine asc_lt (insL_asc ?_) (hperm.nodup_iff.2 ?_)
          · exact (hw.asc _ hpl.1).imp fun hlt => by omega
          · exact List.nodup_cons.2 ⟨hxb, (hw.asc _ hpl.1).imp fun hlt => by omega⟩
        · rcases List.mem_cons.1 (hperm.mem_iff.1 hy) with rfl | hy
          · exact ⟨hv, rfl⟩
          · exact ⟨hw.val _ hpl.1 y hy, hw.place _ hpl.1 y hy⟩
        · have := setN_mem (y := y) hpl.1 (xs := insL (bkt w x) x)
          refine this.trans ?_
          rw [hperm.mem_iff, List.mem_cons, hw.other, hp.mem_iff, ← hp.mem_iff]
          constructor
          · rintro ((h | h) | h)
            · exact .inl h
            · exact .inr (hw.sub h)
            · exact .inr h.1
          · rintro (h | h)
            · exact .inl (.inl h)
            · by_cases e : y ∈ bkt w x
              · exact .inl (.inr e)
              · exact .inr ⟨h, e⟩
  · rw [if_neg fun hc => hv hc.2]
    exact .bad (by simpa using hv)
theorem perm_same {l k : List Int} (hl : l.Nodup) (hk : k.Nodup) (h : ∀ y, y ∈ l ↔ y ∈ k) : l.Perm k := by
  rw [List.perm_iff_count]
  intro a
  have h1 := List.nodup_iff_count.1 hl a
  have h2 := List.nodup_iff_count.1 hk a
  by_cases ha : a ∈ l
  · have h3 := List.count_pos_iff.2 ha
    have h4 := List.count_pos_iff.2 ((h a).1 ha)
    omega
  · rw [List.count_eq_zero_of_not_mem ha, List.count_eq_zero_of_not_mem fun hb => ha ((h a).2 hb)]
theorem OkS.lst {z : List (List Int)} (h : OkS z) : setL z = srt z.flatten := by
  unfold setL; rw [if_pos (setOk_OkS.2 h)]
theorem OkS.same {z w : List (List Int)} (h : OkS z) (hw : OkS w) (hm : ∀ y, y ∈ z.flatten ↔ y ∈ w.flatten) : setSame z w = true := by
  unfold setSame
  rw [setOk_OkS.2 h, setOk_OkS.2 hw, perm_srt (perm_same h.nodup hw.nodup hm)]
  simp
/-- What dropping says. -/
inductive DropR (z : List (List Int)) (x : Int) : List (List Int) → Int → Prop
  | bad : isVal x = false → DropR z x z 1
  | none : x ∉ z.flatten → DropR z x z 4
  | out {w : List (List Int)} : x ∈ z.flatten → OkS w → (∀ y, y ∈ w.flatten ↔ y ∈ z.flatten ∧ y ≠ x) → DropR z x w 0
theorem setDrop_R {z : List (List Int)} (h : OkS z) (x : Int) : DropR z x (setDrop z x).1 (setDrop z x).2 := by
  unfold setDrop
  have ho := setOk_OkS.2 h
  by_cases hv : isVal x = true
  · rw [if_pos ⟨ho, hv⟩]
    by_cases hh : setHas z x = true
    · rw [if_pos hh]
      have hpl := plc_lt h.pos x
      have hsub : (without (bkt z x) x).Sublist (bkt z x) := List.filter_sublist
      refine .out (h.has.1 hh) (h.put hpl.1 (Nat.le_trans hsub.length_le (h.three _ hpl.1)) ((h.asc _ hpl.1).sublist hsub) fun y hy => ?_) fun y => ?_
      · have hy := hsub.subset hy
        exact ⟨h.val _ hpl.1 y hy, h.place _ hpl.1 y hy⟩
      · refine (setN_mem (y := y) hpl.1 (xs := without (bkt z x) x)).trans ?_
        rw [h.other]
        have hxb := h.mem.1 (h.has.1 hh)
        unfold without
        rw [List.mem_filter]
        constructor
        · rintro (⟨h1, h2⟩ | ⟨h1, h2⟩)
          · exact ⟨h.sub h1, by simpa using h2⟩
          · exact ⟨h1, fun e => h2 (e ▸ hxb)⟩
        · rintro ⟨h1, h2⟩
          by_cases e : y ∈ bkt z x
          · exact .inl ⟨e, by simpa using h2⟩
          · exact .inr ⟨h1, e⟩
    · rw [if_neg hh]
      exact .none fun hx => hh (h.has.2 hx)
  · rw [if_neg fun hc => hv hc.2]
    exact .bad (by simpa using hv)
theorem DropR.ok {z w : List (List Int)} {x c : Int} (h : OkS z) (r : DropR z x w c) : OkS w := by
  cases r with
  | bad _ => exact h
  | none _ => exact h
  | out _ hw _ => exact hw
theorem AddR.ok {z w : List (List Int)} {x c : Int} (h : OkS z) (r : AddR z x w c) : OkS w := by
  cases r with
  | bad _ => exact h
  | two _ _ => exact h
  | full _ => exact h
  | new _ _ hw _ => exact hw
theorem OkS.len1 {z w : List (List Int)} {x : Int} (h : OkS z) (hw : OkS w) (hx : x ∈ z.flatten) (hm : ∀ y, y ∈ w.flatten ↔ y ∈ z.flatten ∧ y ≠ x) : (setL z).length = (setL w).length + 1 := by
  rw [h.lst, hw.lst, (srt_perm _).length_eq, (srt_perm _).length_eq]
  have hp : z.flatten.Perm (x :: w.flatten) := by
    refine perm_same h.nodup (List.nodup_cons.2 ⟨fun hc => ((hm x).1 hc).2 rfl, hw.nodup⟩) fun y => ?_
    rw [List.mem_cons, hm]
    constructor
    · intro hy
      by_cases e : y = x
      · exact .inl e
      · exact .inr ⟨hy, e⟩
    · rintro (rfl | hy)
      · exact hx
      · exact hy.1
  rw [hp.length_eq, List.length_cons]
theorem joinF_R : ∀ (l : List Int) {z w : List (List Int)}, OkS z → joinF z l = some w → OkS w ∧ (∀ y, y ∈ w.flatten → y ∈ z.flatten ∨ y ∈ l) ∧ ∀ y, y ∈ z.flatten → y ∈ w.flatten
  | [], z, w, h, e => by
    simp only [joinF, Option.some.injEq] at e
    subst e
    exact ⟨h, fun y hy => .inl hy, fun y hy => hy⟩
  | x :: r, z, w, h, e => by
    unfold joinF at e
    split at e
    · cases e
    · have ha := setAdd_R h x
      obtain ⟨h1, h2, h3⟩ := joinF_R r (ha.ok h) e
      generalize (setAdd z x).1 = u at ha h2 h3
      generalize (setAdd z x).2 = c at ha
      have hm : ∀ y, (y ∈ u.flatten → y ∈ z.flatten ∨ y = x) ∧ (y ∈ z.flatten → y ∈ u.flatten) := by
        intro y
        cases ha with
        | bad _ => exact ⟨.inl, id⟩
        | two _ _ => exact ⟨.inl, id⟩
        | full _ => exact ⟨.inl, id⟩
        | new _ _ _ hm => exact ⟨fun hy => ((hm y).1 hy).symm, fun hy => (hm y).2 (.inr hy)⟩
      refine ⟨h1, fun y hy => ?_, fun y hy => h3 y ((hm y).2 hy)⟩
      rcases h2 y hy with h4 | h4
      · rcases (hm y).1 h4 with h5 | h5
        · exact .inl h5
        · exact .inr (by rw [h5]; exact List.mem_cons_self)
      · exact .inr (List.mem_cons_of_mem _ h4)
inductive JoinR (z v : List (List Int)) : List (List Int) → Int → Prop
  | full : JoinR z v z 3
  | all {w : List (List Int)} : OkS w → (∀ y, y ∈ w.flatten → y ∈ z.flatten ∨ y ∈ v.flatten) → (∀ y, y ∈ z.flatten → y ∈ w.flatten) → JoinR z v w 0
theorem setJoin_R {z v : List (List Int)} (h : OkS z) (hv : OkS v) : JoinR z v (setJoin z v).1 (setJoin z v).2 := by
  unfold setJoin
  rw [if_pos ⟨setOk_OkS.2 h, setOk_OkS.2 hv⟩]
  cases e : joinF z (srt v.flatten) with
  | none => exact .full
  | some w =>
    obtain ⟨h1, h2, h3⟩ := joinF_R _ h e
    exact .all h1 (fun y hy => (h2 y hy).imp id srt_mem.1) h3
theorem OkS.new : OkS [[]] := by
  refine ⟨.inl rfl, ?_, ?_, ?_, ?_⟩ <;> intro p hp <;> (have : p = 0 := by simp at hp; omega) <;> subst this <;> simp [nthL]
theorem OkS.lt {z : List (List Int)} (h : OkS z) {i : Nat} (hi : i < (setL z).length) : setHas z (nth (setL z) i) = true ∧ (0 < i → nth (setL z) (i - 1) < nth (setL z) i) := by
  rw [h.lst] at hi ⊢
  refine ⟨h.has.2 (srt_mem.1 (nth_mem' hi)), fun h0 => ?_⟩
  have := List.pairwise_iff_getElem.1 (srt_lt h.nodup) (i - 1) i (by omega) hi (by omega)
  have h1 : i - 1 < (srt z.flatten).length := by omega
  simpa [nth, List.getD_eq_getElem?_getD, hi, h1] using this
theorem OkS.bd {z : List (List Int)} (h : OkS z) : z.length ≤ 8 ∧ (∀ xs ∈ z, xs.length ≤ 3) ∧ tot z ≤ 24 ∧ Bd z := by
  have h1 : ∀ xs ∈ z, xs.length ≤ 3 := fun xs hx => by
    obtain ⟨p, hp, rfl⟩ := List.getElem_of_mem hx
    have := h.three p hp
    rwa [nthL_lt hp] at this
  have h2 := (setOk_tot (setOk_OkS.2 h)).1
  have h3 := h.len
  exact ⟨by omega, h1, h2, ⟨by omega, fun xs hx => by have := h1 xs hx; omega, by omega⟩⟩
end Go.Proofs.Ytdnfcomgdgdifaa
