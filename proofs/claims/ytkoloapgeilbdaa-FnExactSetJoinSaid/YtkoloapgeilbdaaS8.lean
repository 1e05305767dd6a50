/-
  Sets: listed by the reference; the same sets; the laws of SetList and SetSame.
-/
import Derived.Test.YtkoloapgeilbdaaS7
set_option linter.unusedVariables false
set_option linter.unusedSimpArgs false
set_option maxHeartbeats 4000000
namespace Go.Proofs.Ytkoloapgeilbdaa
variable {X : FuncId → List V → List Blk → Option Ret} {L : Nat}

theorem bk_len {xss : List (List Int)} (h : setOk xss = true) : ∀ xs ∈ xss, xs.length ≤ 3 := by
  intro xs hx
  obtain ⟨i, hi, rfl⟩ := List.getElem_of_mem hx
  simp only [setOk, Bool.and_eq_true, decide_eq_true_eq] at h
  have := h.2 i hi
  simp only [bkOk, Bool.and_eq_true, decide_eq_true_eq] at this
  rw [nthL_lt hi] at this
  exact this.1
theorem tot_b {n : Nat} : ∀ {xss : List (List Int)}, (∀ xs ∈ xss, xs.length ≤ n) → tot xss ≤ xss.length * n
  | [], _ => by simp [tot]
  | xs :: r, h => by
    have h1 := h xs (by simp)
    have h2 := tot_b (n := n) (xss := r) fun ys hy => h ys (by simp [hy])
    simp only [tot, List.length_cons, Nat.succ_mul]
    omega
theorem setOk_tot {xss : List (List Int)} (h : setOk xss = true) : tot xss ≤ 24 ∧ xss.length ≤ 8 := by
  have h1 := tot_b (bk_len h)
  have h2 := setOk_len h
  omega
theorem iter_tr {f : St → Option (Ex × St)} {tr : St → St} {st st' : St} (h : tr st = tr st') (n : Nat) : iter f tr n st = iter f tr n st' := by
  cases n with
  | zero => rfl
  | succ n => unfold iter; rw [h]
theorem get_last {m l : List Blk} {b : Blk} : (m ++ (l ++ [b]))[m.length + l.length]? = some b := by simp
theorem den_spec_SetList (hL : 2000000 ≤ L) (k : Nat) (m : List Blk) (v : C) (xss : List (List Int)) (hv : SSA m v xss) (hb : xss.length ≤ 1048576) (hbs : ∀ xs ∈ xss, xs.length ≤ 1048576) :
    den T X L (k + 4) 54 [.c v] m = some ⟨.c (.sl m.length 0 (if setOk xss = true then srt xss.flatten else []).length (if setOk xss = true then srt xss.flatten else []).length), m ++ [blkI (if setOk xss = true then srt xss.flatten else [])], 0, 0⟩ := by
  rw [den_eq T_54]
  have hr := hv.refs
  have hso := fun l => den_spec_SetOk (X := X) (L := L) hL k (m ++ l) v xss (hv.grow (l := l)).ss hb hbs
  have hlv := fun l => (hv.grow (l := l)).ss.lenV
  cases ho : setOk xss with
  | false =>
    rw [ho] at hso
    have hlp := iter_blk (n0 := m.length) (id := 0) (ka := some [3]) (f := fun s => exec (den T X L (k + 3)) L m.length none c_spec_SetList_b0 s) (tr := trim m.length (some [0, 3, 4])) (σ := Unit)
      (fun _ => ⟨[(0, .c v), (3, .c (.sl m.length 0 0 0)), (4, vi 0)], m ++ [blkI []], 0, 0⟩) (fun _ => True) (fun _ => 0)
      (fun _ => (.norm, ⟨[(3, .c (.sl m.length 0 0 0))], m ++ [blkI []], 0, 0⟩)) ?w
    case w =>
      intro _ _
      by_cases h0 : 0 < xss.length
      · refine ⟨.exit 0, _, by simp (maxSteps := 1000000) (implicitDefEqProofs := false) (disch := omega) [-getElem?_pos, c_spec_SetList_b0, hlv, h0, hso]; rfl, ?_⟩
        simp (maxSteps := 1000000) (implicitDefEqProofs := false) (disch := omega) [-getElem?_pos, c_blkx]
      · refine ⟨.exit 0, _, by simp (maxSteps := 1000000) (implicitDefEqProofs := false) (disch := omega) [-getElem?_pos, c_spec_SetList_b0, hlv, h0]; rfl, ?_⟩
        simp (maxSteps := 1000000) (implicitDefEqProofs := false) (disch := omega) [-getElem?_pos, c_blkx]
    simp (maxSteps := 1000000) (implicitDefEqProofs := false) (disch := omega) [-getElem?_pos, c_spec_SetList]
    rw [hlp L () _ trivial ?tr (by show 0 < L; omega)]
    case tr =>
      simp (maxSteps := 1000000) (implicitDefEqProofs := false) (disch := omega) [-getElem?_pos, ints]
      exact take_ge (by simp)
    simp (maxSteps := 1000000) (implicitDefEqProofs := false) (disch := omega) [-getElem?_pos, ints]
  | true =>
    rw [ho] at hso
    obtain ⟨ht, h8⟩ := setOk_tot ho
    have hb3 := bk_len ho
    have hin : ∀ (i : Nat), i < xss.length → ∀ (l : List Blk) (acc : List Int), acc.length + (nthL xss i).length ≤ 1000 →
        ∃ r, (∀ st, trim m.length (some [0, 3, 4, 5]) st = ⟨[(0, .c v), (3, .c (.sl (m.length + l.length) 0 acc.length acc.length)), (4, vi i), (5, vi 0)], m ++ (l ++ [blkI acc]), 0, 0⟩ → blkC m.length 2 (some [0, 3, 4]) (iter (fun s => exec (den T X L (k + 3)) L m.length none c_spec_SetList_b1 s) (trim m.length (some [0, 3, 4, 5])) L st) = some r) ∧
          ∃ l', r = (.norm, ⟨[(0, .c v), (3, .c (.sl (m.length + l'.length) 0 (insAll acc (nthL xss i)).length (insAll acc (nthL xss i)).length)), (4, vi i)], m ++ (l' ++ [blkI (insAll acc (nthL xss i))]), 0, 0⟩) := by
      intro i hi l acc hacc
      have hxl : (nthL xss i).length ≤ 3 := hb3 _ (nthL_mem hi)
      have hlp := iter_ex (n0 := m.length) (id := 2) (ka := some [0, 3, 4]) (f := fun s => exec (den T X L (k + 3)) L m.length none c_spec_SetList_b1 s) (tr := trim m.length (some [0, 3, 4, 5])) (σ := Nat × List Blk)
        (fun s => ⟨[(0, .c v), (3, .c (.sl (m.length + s.2.length) 0 (insAll acc ((nthL xss i).take s.1)).length (insAll acc ((nthL xss i).take s.1)).length)), (4, vi i), (5, vi s.1)], m ++ (s.2 ++ [blkI (insAll acc ((nthL xss i).take s.1))]), 0, 0⟩)
        (fun s => s.1 ≤ (nthL xss i).length) (fun s => (nthL xss i).length - s.1)
        (fun r => ∃ l', r = (.norm, ⟨[(0, .c v), (3, .c (.sl (m.length + l'.length) 0 (insAll acc (nthL xss i)).length (insAll acc (nthL xss i)).length)), (4, vi i)], m ++ (l' ++ [blkI (insAll acc (nthL xss i))]), 0, 0⟩)) ?w
      case w =>
        rintro ⟨j, g⟩ hj
        simp only at hj
        have hlen := insAll_len acc ((nthL xss i).take j)
        rw [List.length_take, Nat.min_eq_left hj] at hlen
        have hx := fun l => (hv.grow (l := l)).ss.ixV (i := (i : Int)) (by omega)
        simp only [Int.toNat_natCast] at hx
        obtain ⟨c, hc1, hc2⟩ := (hv.grow (l := g ++ [blkI (insAll acc ((nthL xss i).take j))])).ldV (i := i) hi
        have hcl := hc2.sl.lenV
        by_cases he : j = (nthL xss i).length
        · subst he
          rw [List.take_length] at hc1 hc2 hcl ⊢
          refine ⟨.exit 2, _, by simp (maxSteps := 1000000) (implicitDefEqProofs := false) (disch := omega) [-getElem?_pos, c_spec_SetList_b1, hx, hc1, hcl]; rfl, _, ?_, g, rfl⟩
          simp (maxSteps := 1000000) (implicitDefEqProofs := false) (disch := omega) [-getElem?_pos, c_blkx, ints_refs]
          exact List.take_of_length_le (by simp [mx_eq]; omega)
        · have hj' : (j : Int) < ((nthL xss i).length : Int) := by omega
          have hy := hc2.sl.ixV (i := (j : Int)) (by omega)
          rw [Int.toNat_natCast] at hy
          have hd := hc2.sl.ldV (i := j) (by omega)
          have hacc2 : SlA (m ++ (g ++ [blkI (insAll acc ((nthL xss i).take j))])) (.sl (m.length + g.length) 0 (insAll acc ((nthL xss i).take j)).length (insAll acc ((nthL xss i).take j)).length) (insAll acc ((nthL xss i).take j)) := SlA_blk get_last
          have hp := den_l16Put (X := X) hL (k + 2) _ _ _ (nth (nthL xss i) j) hacc2 (by omega)
          have hsn : insL (insAll acc ((nthL xss i).take j)) (nth (nthL xss i) j) = insAll acc ((nthL xss i).take (j + 1)) := by
            rw [insAll_snoc, List.take_succ_eq_append_getElem (show j < (nthL xss i).length by omega)]
            simp [nth, List.getD_eq_getElem?_getD, show j < (nthL xss i).length by omega]
          rw [hsn] at hp
          simp only [List.append_assoc, List.length_append, List.length_cons, List.length_nil] at hp
          refine ⟨.norm, _, by simp (maxSteps := 1000000) (implicitDefEqProofs := false) (disch := omega) [-getElem?_pos, c_spec_SetList_b1, hx, hc1, hcl, hj', hy, hd, hp]; rfl, (j + 1, g ++ [blkI (insAll acc ((nthL xss i).take j))]), ?_, by show j + 1 ≤ _; omega, by show _ - (j + 1) < _ - j; omega⟩
          simp (maxSteps := 1000000) (implicitDefEqProofs := false) (disch := omega) [-getElem?_pos, ints_refs]
          exact List.take_of_length_le (by simp [mx_eq]; omega)
      have h0 : trim m.length (some [0, 3, 4, 5]) ⟨[(0, .c v), (3, .c (.sl (m.length + l.length) 0 acc.length acc.length)), (4, vi i), (5, vi 0)], m ++ (l ++ [blkI acc]), 0, 0⟩ = ⟨[(0, .c v), (3, .c (.sl (m.length + l.length) 0 acc.length acc.length)), (4, vi i), (5, vi 0)], m ++ (l ++ [blkI acc]), 0, 0⟩ := by
        simp (maxSteps := 1000000) (implicitDefEqProofs := false) (disch := omega) [-getElem?_pos, ints_refs]
        exact List.take_of_length_le (by simp [mx_eq]; omega)
      obtain ⟨r, h1, h2⟩ := hlp L (0, l) _ (Nat.zero_le _) h0 (by show (nthL xss i).length - 0 < L; omega)
      exact ⟨r, fun st hst => by rw [iter_tr (hst.trans h0.symm)]; exact h1, h2⟩
    have hlp := iter_ex (n0 := m.length) (id := 0) (ka := some [3]) (f := fun s => exec (den T X L (k + 3)) L m.length none c_spec_SetList_b0 s) (tr := trim m.length (some [0, 3, 4])) (σ := Nat × List Blk)
      (fun s => ⟨[(0, .c v), (3, .c (.sl (m.length + s.2.length) 0 (insAll [] (xss.take s.1).flatten).length (insAll [] (xss.take s.1).flatten).length)), (4, vi s.1)], m ++ (s.2 ++ [blkI (insAll [] (xss.take s.1).flatten)]), 0, 0⟩)
      (fun s => s.1 ≤ xss.length) (fun s => xss.length - s.1)
      (fun r => ∃ l', r = (.norm, ⟨[(3, .c (.sl (m.length + l'.length) 0 (srt xss.flatten).length (srt xss.flatten).length))], m ++ (l' ++ [blkI (srt xss.flatten)]), 0, 0⟩)) ?w
    case w =>
      rintro ⟨i, g⟩ hi
      simp only at hi
      by_cases he : i = xss.length
      · subst he
        rw [List.take_length, insAll_srt]
        refine ⟨.exit 0, _, by simp (maxSteps := 1000000) (implicitDefEqProofs := false) (disch := omega) [-getElem?_pos, c_spec_SetList_b0, hlv]; rfl, _, ?_, g, rfl⟩
        simp (maxSteps := 1000000) (implicitDefEqProofs := false) (disch := omega) [-getElem?_pos, c_blkx, ints_refs]
      · have hi' : (i : Int) < (xss.length : Int) := by omega
        have hacc : (insAll [] (xss.take i).flatten).length + (nthL xss i).length ≤ 1000 := by
          rw [insAll_len, tot_flatten, List.length_nil]
          have := tot_le_all xss i
          have := hb3 _ (nthL_mem (i := i) (by omega))
          omega
        have hap : insAll (insAll [] (xss.take i).flatten) (nthL xss i) = insAll [] (xss.take (i + 1)).flatten := by
          rw [← flatten_take (show i < xss.length by omega)]
          simp [insAll]
        have hq := hin i (by omega) g (insAll [] (xss.take i).flatten)
        rw [hap] at hq
        generalize insAll [] (xss.take i).flatten = acc at hq hacc ⊢
        obtain ⟨r, hr, l', rfl⟩ := hq hacc
        refine ⟨.norm, _, by simp (maxSteps := 1000000) (implicitDefEqProofs := false) (disch := omega) [-getElem?_pos, c_spec_SetList_b0, hlv, hi', hso]; rw [hr _ (by simp (maxSteps := 1000000) (implicitDefEqProofs := false) (disch := omega) [-getElem?_pos, ints_refs]; exact List.take_of_length_le (by simp [mx_eq]; omega))]; simp (maxSteps := 1000000) (implicitDefEqProofs := false) (disch := omega) [-getElem?_pos]; rfl, (i + 1, l'), ?_, by show i + 1 ≤ _; omega, by show _ - (i + 1) < _ - i; omega⟩
        simp (maxSteps := 1000000) (implicitDefEqProofs := false) (disch := omega) [-getElem?_pos, ints_refs]
        exact List.take_of_length_le (by simp [mx_eq]; omega)
    have h0 : trim m.length (some [0, 3, 4]) ⟨[(0, .c v), (3, .c (.sl (m.length + ([] : List Blk).length) 0 (insAll [] (xss.take 0).flatten).length (insAll [] (xss.take 0).flatten).length)), (4, vi (0 : Nat))], m ++ (([] : List Blk) ++ [blkI (insAll [] (xss.take 0).flatten)]), 0, 0⟩ = ⟨[(0, .c v), (3, .c (.sl (m.length + ([] : List Blk).length) 0 (insAll [] (xss.take 0).flatten).length (insAll [] (xss.take 0).flatten).length)), (4, vi (0 : Nat))], m ++ (([] : List Blk) ++ [blkI (insAll [] (xss.take 0).flatten)]), 0, 0⟩ := by
      simp (maxSteps := 1000000) (implicitDefEqProofs := false) (disch := omega) [-getElem?_pos, insAll, ints]
      exact take_ge (by simp)
    obtain ⟨r, h1, l', rfl⟩ := hlp L (0, []) _ (Nat.zero_le _) h0 (by show xss.length - 0 < L; omega)
    rw [if_pos rfl]
    simp (maxSteps := 1000000) (implicitDefEqProofs := false) (disch := omega) [-getElem?_pos, c_spec_SetList]
    rw [iter_tr (Eq.trans ?tr h0.symm), h1]
    case tr =>
      simp (maxSteps := 1000000) (implicitDefEqProofs := false) (disch := omega) [-getElem?_pos, insAll, ints]
      exact take_ge (by simp)
    simp (maxSteps := 1000000) (implicitDefEqProofs := false) (disch := omega) [-getElem?_pos, ints_refs]
end Go.Proofs.Ytkoloapgeilbdaa
