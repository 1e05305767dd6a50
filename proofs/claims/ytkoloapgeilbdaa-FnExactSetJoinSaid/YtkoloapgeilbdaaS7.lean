/-
  Sets: listed, the program's way and the reference's.
-/
import Derived.Test.YtkoloapgeilbdaaS6
set_option linter.unusedVariables false
set_option linter.unusedSimpArgs false
set_option maxHeartbeats 4000000
namespace Go.Proofs.Ytkoloapgeilbdaa
variable {X : FuncId → List V → List Blk → Option Ret} {L : Nat}

/-! Lists in order. -/
def Asc (l : List Int) : Prop := l.Pairwise fun a b => a ≤ b
theorem srt_asc (l : List Int) : Asc (srt l) := by
  have := List.pairwise_mergeSort (le := fun x y : Int => decide (x ≤ y)) (fun a b c h1 h2 => by simp at h1 h2 ⊢; omega) (fun a b => by simp; omega) l
  exact this.imp fun h => by simpa using h
theorem srt_perm (l : List Int) : (srt l).Perm l := List.mergeSort_perm _ _
theorem asc_eq {l k : List Int} (h1 : Asc l) (h2 : Asc k) (h : l.Perm k) : l = k := List.Perm.eq_of_pairwise (le := fun a b => a ≤ b) (fun a b _ _ h1 h2 => by omega) h1 h2 h
theorem srt_eq {l k : List Int} (h : l.Perm k) (hk : Asc k) : srt l = k := asc_eq (srt_asc l) hk ((srt_perm l).trans h)
theorem srt_nil : srt [] = [] := by simp [srt]
/-- How many stand ahead of a value. -/
def kI (x : Int) : List Int → Nat
  | [] => 0
  | y :: r => if y < x then kI x r + 1 else 0
theorem kI_le (x : Int) : ∀ xs, kI x xs ≤ xs.length
  | [] => Nat.le_refl _
  | y :: r => by
    unfold kI
    have := kI_le x r
    split
    · simp only [List.length_cons]; omega
    · exact Nat.zero_le _
theorem kI_lt {x : Int} : ∀ {xs : List Int} {i : Nat}, i < kI x xs → nth xs i < x
  | [], i, h => by simp [kI] at h
  | y :: r, i, h => by
    unfold kI at h
    split at h
    · rename_i hy
      cases i with
      | zero => simpa [nth] using hy
      | succ i =>
        have := kI_lt (x := x) (xs := r) (i := i) (by omega)
        simpa [nth] using this
    · omega
theorem kI_stop {x : Int} : ∀ {xs : List Int}, kI x xs < xs.length → ¬ nth xs (kI x xs) < x
  | [], h => by simp at h
  | y :: r, h => by
    unfold kI at h ⊢
    split at h
    · rename_i hy
      rw [if_pos hy]
      have := kI_stop (x := x) (xs := r) (by simp only [List.length_cons] at h; omega)
      simpa [nth] using this
    · rename_i hy
      rw [if_neg hy]
      simpa [nth] using hy
def insL (xs : List Int) (x : Int) : List Int := xs.take (kI x xs) ++ x :: xs.drop (kI x xs)
theorem insL_len (xs : List Int) (x : Int) : (insL xs x).length = xs.length + 1 := by
  have := kI_le x xs
  simp [insL]; omega
theorem insL_perm (xs : List Int) (x : Int) : (insL xs x).Perm (x :: xs) := by
  unfold insL
  have := List.perm_middle (a := x) (l₁ := xs.take (kI x xs)) (l₂ := xs.drop (kI x xs))
  rwa [List.take_append_drop] at this
theorem insL_asc {xs : List Int} {x : Int} (h : Asc xs) : Asc (insL xs x) := by
  unfold insL
  have hs : Asc (xs.take (kI x xs) ++ xs.drop (kI x xs)) := by rw [List.take_append_drop]; exact h
  obtain ⟨h1, h2, h3⟩ := List.pairwise_append.1 hs
  have hlt : ∀ a ∈ xs.take (kI x xs), a < x := by
    intro a ha
    obtain ⟨i, hi, rfl⟩ := List.getElem_of_mem ha
    rw [List.length_take] at hi
    have := kI_lt (x := x) (xs := xs) (i := i) (by omega)
    simpa [nth, List.getD_eq_getElem?_getD, show i < xs.length by omega] using this
  have hge : ∀ b ∈ xs.drop (kI x xs), x ≤ b := by
    intro b hb
    have hne : kI x xs < xs.length := by
      rcases Nat.lt_or_ge (kI x xs) xs.length with h | h
      · exact h
      · rw [List.drop_of_length_le h] at hb; cases hb
    have h0 := kI_stop hne
    rw [List.drop_eq_getElem_cons hne] at hb h2
    have h4 : nth xs (kI x xs) = xs[kI x xs] := by simp [nth, List.getD_eq_getElem?_getD, hne]
    rcases List.mem_cons.1 hb with rfl | hb
    · omega
    · have := (List.pairwise_cons.1 h2).1 b hb
      omega
  refine List.pairwise_append.2 ⟨h1, List.pairwise_cons.2 ⟨hge, h2⟩, fun a ha b hb => ?_⟩
  rcases List.mem_cons.1 hb with rfl | hb
  · have := hlt a ha; omega
  · exact h3 a ha b hb
/-- Put in one after the other. -/
def insAll (acc xs : List Int) : List Int := xs.foldl insL acc
theorem insAll_asc : ∀ (xs acc : List Int), Asc acc → Asc (insAll acc xs)
  | [], _, h => h
  | x :: r, acc, h => insAll_asc r _ (insL_asc h)
theorem insAll_perm : ∀ (xs acc : List Int), (insAll acc xs).Perm (acc ++ xs)
  | [], acc => by rw [List.append_nil]; exact List.Perm.refl _
  | x :: r, acc => (insAll_perm r (insL acc x)).trans (((insL_perm acc x).append_right r).trans (List.perm_middle.symm))
theorem insAll_len (acc xs : List Int) : (insAll acc xs).length = acc.length + xs.length := by rw [(insAll_perm xs acc).length_eq, List.length_append]
theorem insAll_srt (xs : List Int) : insAll [] xs = srt xs := (srt_eq (by simpa using (insAll_perm xs []).symm) (insAll_asc xs [] .nil)).symm
theorem insAll_snoc (acc xs : List Int) (x : Int) : insL (insAll acc xs) x = insAll acc (xs ++ [x]) := by simp [insAll]

/-! The program's list. -/
theorem outL_srt {m : List Blk} {l : List Int} : outL m (srt l) = if l = [] then ⟨.c .nils, m, 0, 0⟩ else ⟨.c (.sl m.length 0 l.length l.length), m ++ [blkI (srt l)], 0, 0⟩ := by
  unfold outL
  by_cases h : l = []
  · subst h; simp [srt_nil]
  · have : srt l ≠ [] := fun e => h (List.length_eq_zero_iff.1 (by rw [← srt_len l, e]; rfl))
    rw [if_neg h, if_neg this, srt_len]
theorem den_listed (hL : 2000000 ≤ L) (k : Nat) (m : List Blk) (v : C) (xss : List (List Int)) (hv : SSA m v xss) (hb : xss.length ≤ 1048576) (hbs : ∀ xs ∈ xss, xs.length ≤ 1048576) (ht : tot xss ≤ 1073741824) :
    den T libX L (k + 3) 97 [.c v] m = some (outL m (srt xss.flatten)) := by
  rw [den_eq T_97]
  have hc := den_Concat (L := L) hL k m v xss hv hb hbs ht
  have hfl := tot_flatten xss
  rw [outL_srt]
  unfold outL at hc
  have hs : ∀ (c : C) (M : List Blk), den T libX L (k + 2) 101 [.c c] M = sortF [.c c] M := fun c M => by rw [den_out rfl, libX_sort]
  generalize xss.flatten = l at *
  by_cases h0 : l = []
  · rw [if_pos h0] at hc ⊢
    simp (maxSteps := 1000000) (implicitDefEqProofs := false) (disch := omega) [-getElem?_pos, c_impl_listed, hc, hs, sortF]
  · rw [if_neg h0] at hc ⊢
    have hne : ¬ l.length = 0 := fun h => h0 (List.length_eq_zero_iff.1 h)
    have hlt : l.length < 4611686018427387904 := by omega
    simp (maxSteps := 1000000) (implicitDefEqProofs := false) (disch := omega) [-getElem?_pos, c_impl_listed, hc, hs, sortF, h0, hne, hlt, ints_len, unI_ints, ints_refs]
theorem den_impl_SetList (hL : 2000000 ≤ L) (k : Nat) (m : List Blk) (v : C) (xss : List (List Int)) (hv : SSA m v xss) (hb : xss.length ≤ 1048576) (hbs : ∀ xs ∈ xss, xs.length ≤ 1048576) (ht : tot xss ≤ 1073741824) :
    den T libX L (k + 4) 55 [.c v] m = some (if setOk xss = true then outL m (srt xss.flatten) else ⟨.c .nils, m, 0, 0⟩) := by
  rw [den_eq T_55]
  have h1 := den_impl_SetOk (X := libX) hL k m v xss hv.ss hb hbs
  have h2 := den_listed hL k m v xss hv hb hbs ht
  cases ho : setOk xss with
  | false => rw [ho] at h1; simp (maxSteps := 1000000) (implicitDefEqProofs := false) (disch := omega) [-getElem?_pos, c_impl_SetList, h1]
  | true =>
    rw [ho] at h1
    rw [if_pos rfl]
    unfold outL at h2 ⊢
    generalize srt xss.flatten = l at h2 ⊢
    by_cases h0 : l = []
    · rw [if_pos h0] at h2 ⊢
      simp (maxSteps := 1000000) (implicitDefEqProofs := false) (disch := omega) [-getElem?_pos, c_impl_SetList, h1, h2]
    · rw [if_neg h0] at h2 ⊢
      simp (maxSteps := 1000000) (implicitDefEqProofs := false) (disch := omega) [-getElem?_pos, c_impl_SetList, h1, h2, ints_refs]

/-! Put in by the reference. -/
theorem SlA_drop {blk : Blk} {off k : Nat} {xs : List Int} (h : (blk.cs.drop off).take xs.length = ints xs) (hk : k ≤ xs.length) : (blk.cs.drop (off + k)).take (xs.length - k) = ints (xs.drop k) := by
  have := congrArg (List.drop k) h
  rw [List.drop_take, List.drop_drop] at this
  rw [this]
  simp [ints, List.map_drop]
theorem SlA_take {blk : Blk} {off k : Nat} {xs : List Int} (h : (blk.cs.drop off).take xs.length = ints xs) (hk : k ≤ xs.length) : (blk.cs.drop off).take k = ints (xs.take k) := by
  have := congrArg (List.take k) h
  rw [List.take_take, Nat.min_eq_left hk] at this
  rw [this]
  simp [ints, List.map_take]
theorem den_l16Put (hL : 2000000 ≤ L) (k : Nat) (m : List Blk) (c : C) (xs : List Int) (x : Int) (hv : SlA m c xs) (hb : xs.length ≤ 1048576) :
    den T X L (k + 1) 98 [.c c, vi x] m = some ⟨.c (.sl m.length 0 (insL xs x).length (insL xs x).length), m ++ [blkI (insL xs x)], 0, 0⟩ := by
  rw [den_eq T_98]
  have hkl := kI_le x xs
  have hsl := hv.sl
  have hlp := iter_blk (n0 := m.length) (id := 0) (ka := some [0, 1, 5]) (f := fun s => exec (den T X L k) L m.length none c_spec_l16Put_b0 s) (tr := trim m.length (some [0, 1, 5])) (σ := Nat)
    (fun i => ⟨[(0, .c c), (1, vi x), (5, vi i)], m, 0, 0⟩) (fun i => i ≤ kI x xs) (fun i => kI x xs - i)
    (fun i => (.norm, ⟨[(0, .c c), (1, vi x), (5, vi (kI x xs))], m, 0, 0⟩)) ?w
  case w =>
    intro i hi
    by_cases he : i = kI x xs
    · by_cases hq : kI x xs = xs.length
      · refine ⟨.exit 0, _, by simp (maxSteps := 1000000) (implicitDefEqProofs := false) (disch := omega) [-getElem?_pos, c_spec_l16Put_b0, he, hq, hsl.lenV]; rfl, ?_⟩
        rw [hq]
        simp (maxSteps := 1000000) (implicitDefEqProofs := false) (disch := omega) [-getElem?_pos, c_blkx, take_mx]
      · have hst := kI_stop (x := x) (xs := xs) (by omega)
        rw [← he] at hst ⊢
        have hi' : (i : Int) < (xs.length : Int) := by omega
        have hx := hsl.ixV (i := (i : Int)) (by omega)
        rw [Int.toNat_natCast] at hx
        have hd := hsl.ldV (i := i) (by omega)
        refine ⟨.exit 0, _, by simp (maxSteps := 1000000) (implicitDefEqProofs := false) (disch := omega) [-getElem?_pos, c_spec_l16Put_b0, hi', hsl.lenV, hx, hd, hst]; rfl, ?_⟩
        simp (maxSteps := 1000000) (implicitDefEqProofs := false) (disch := omega) [-getElem?_pos, c_blkx, take_mx]
    · have hlt := kI_lt (x := x) (xs := xs) (i := i) (by omega)
      have hi' : (i : Int) < (xs.length : Int) := by omega
      have hx := hsl.ixV (i := (i : Int)) (by omega)
      rw [Int.toNat_natCast] at hx
      have hd := hsl.ldV (i := i) (by omega)
      refine ⟨.norm, _, by simp (maxSteps := 1000000) (implicitDefEqProofs := false) (disch := omega) [-getElem?_pos, c_spec_l16Put_b0, hi', hsl.lenV, hx, hd, hlt]; rfl, i + 1, ?_, by omega, by omega, rfl⟩
      simp (maxSteps := 1000000) (implicitDefEqProofs := false) (disch := omega) [-getElem?_pos, take_mx]
  have hil := insL_len xs x
  have hfin : ints (xs.take (kI x xs)) ++ C.int .i64 x :: ints (xs.drop (kI x xs)) = ints (insL xs x) := by simp [ints, insL]
  obtain ⟨j, hj⟩ : ∃ j, xs.length = kI x xs + j := ⟨xs.length - kI x xs, by omega⟩
  simp (maxSteps := 1000000) (implicitDefEqProofs := false) (disch := omega) [-getElem?_pos, c_spec_l16Put]
  rw [hlp L 0 _ (Nat.zero_le _) (by simp (maxSteps := 1000000) (implicitDefEqProofs := false) (disch := omega) [-getElem?_pos, take_mx]) (by show kI x xs - 0 < L; omega)]
  rcases hv with ⟨rfl, rfl⟩ | ⟨b, off, tt, blk, rfl, h2, h3, h4, h5⟩
  · simp (maxSteps := 1000000) (implicitDefEqProofs := false) (disch := omega) [-getElem?_pos, kI, insL, ints]
  · have e1 := SlA_drop h5 hkl
    have e2 := SlA_take h5 hkl
    have hlv := fun l => live_grow (l := l) h2
    have g1 : off + kI x xs + j ≤ blk.cs.length := by omega
    have g2 : off + kI x xs ≤ blk.cs.length := by omega
    have g3 : ((kI x xs : Int) + (j : Int) - (kI x xs : Int)).toNat = j := by omega
    have l1 : (ints (xs.take (kI x xs))).length = kI x xs := by rw [ints_len, List.length_take]; omega
    have l2 : (ints (xs.drop (kI x xs))).length = j := by rw [ints_len, List.length_drop]; omega
    have hk1 : (kI x xs : Int) ≤ (kI x xs : Int) + (j : Int) := by omega
    have hz : blk.esz = 0 ∨ 1 = blk.esz := by omega
    have hil' : (insL xs x).length = kI x xs + (1 + j) := by omega
    rw [hj] at e1
    rw [show kI x xs + j - kI x xs = j by omega] at e1
    have rA : refsL (ints (xs.take (kI x xs))) = 0 := ints_refs _
    have rB : refsL (ints (xs.drop (kI x xs))) = 0 := ints_refs _
    have rI : refsL (ints (insL xs x)) = 0 := ints_refs _
    rw [hj, hil']
    generalize hI : ints (insL xs x) = I at hfin rI
    generalize ints (xs.take (kI x xs)) = A at hfin e2 l1 rA
    generalize ints (xs.drop (kI x xs)) = B at hfin e1 l2 rB
    generalize kI x xs = q at *
    have hj1 : (1 + j = j + 1) = True := eq_true (by omega)
    have htk : List.take (1 + j) (C.int .i64 x :: B) = C.int .i64 x :: B := List.take_of_length_le (by simp [l2]; omega)
    simp (maxSteps := 1000000) (implicitDefEqProofs := false) (disch := omega) [-getElem?_pos, hlv, e1, e2, g1, g2, g3, hk1, hz, l1, l2, hfin, rA, rB, rI, hj1, htk, hI]
end Go.Proofs.Ytkoloapgeilbdaa
