/-
  The law of drawn chains, run.
-/
import Derived.Test.YtdnfcomgdgdifaaDm
import Derived.Test.YtdnfcomgdgdifaaDa
set_option linter.unusedVariables false
set_option linter.unusedSimpArgs false
set_option maxHeartbeats 4000000
set_option maxRecDepth 100000
namespace Go.Proofs.Ytdnfcomgdgdifaa
variable {X : FuncId → List V → List Blk → Option Ret} {L : Nat}

theorem chn_facts (f : Nat → Nd) (a : Int) : (chn f a).length = 65 ∧ (chn f a).take 65 = chn f a ∧ refsL (chn f a) = 0 ∧ (∀ g b, lay (chn g b) 0 (chn f a) = chn f a) ∧ (chn f a).all (·.hard) = true := by
  refine ⟨by simp [nds_len], List.take_of_length_le (by simp [nds_len]), by simp [refs_append, nds_refs, refsL, C.refs, ci, mx], fun g b => lay_all (by simp [nds_len]), by rw [List.all_append, nds_hard]; rfl⟩
theorem chn_eqL (f : Nat → Nd) (a : Int) : eqL [none, some .i64, some .i64, some .i64, none, some .i64, some .i64, some .i64, none, some .i64, some .i64, some .i64, none, some .i64, some .i64, some .i64, none, some .i64, some .i64, some .i64, none, some .i64, some .i64, some .i64, none, some .i64, some .i64, some .i64, none, some .i64, some .i64, some .i64, none, some .i64, some .i64, some .i64, none, some .i64, some .i64, some .i64, none, some .i64, some .i64, some .i64, none, some .i64, some .i64, some .i64, none, some .i64, some .i64, some .i64, none, some .i64, some .i64, some .i64, none, some .i64, some .i64, some .i64, none, some .i64, some .i64, some .i64, some .i64] (chn f a) (chn f a) = some true := by
  simp [chn, nds, rows, List.range, List.range.loop, nd, eqL, eqC, ci, cb]
theorem pairs_new : pairsL (fun _ => nd0) (-1) = [] := by
  unfold pairsL
  rw [if_pos (show chainOk _ _ = true from new_chain), prs_end]
/-- How many of the first keys lie between 3 and 15. -/
def mid (K : List Int) : List Int := K.filter fun x => decide (3 ≤ x) && decide (x ≤ 15)
theorem mid_step {K : List Int} {i : Nat} (h : i < K.length) : (mid (K.take (i + 1))).length = (mid (K.take i)).length + if 3 ≤ nth K i ∧ nth K i ≤ 15 then 1 else 0 := by
  rw [List.take_succ_eq_append_getElem h]
  unfold mid
  rw [List.filter_append, List.length_append]
  have : nth K i = K[i] := by simp [nth, List.getD_eq_getElem?_getD, h]
  rw [this]
  by_cases h1 : 3 ≤ K[i] ∧ K[i] ≤ 15
  · simp [h1]
  · rw [if_neg h1]
    congr 1
    rw [List.filter_cons, if_neg]
    · rfl
    · simpa [Classical.not_and_iff_not_or_not] using h1
section
variable (k : Nat) (m : List Blk) (c : C) (Cf : List C) (K : List Int)
theorem fm_loop0 (hcc : c.refs ≤ m.length) (hK : K.length ≤ 16) (hup : Up K) (ty : TypeId) (st : St) (hL : 100 ≤ L)
    (hst : trim m.length (some [0, 3, 4, 6]) st = ⟨[(0, .c c), (3, .c (.ptr m.length 0 65)), (4, .c (.sl (m.length + 1) 0 K.length K.length)), (6, vi 1)], m ++ [⟨Cf, ty, 0, true⟩, blkI K], 0, 0⟩) :
    blkC m.length 0 (some [0, 3, 4]) (iter (fun s => exec (den T X L (k + 9)) L m.length none c_laws_FnMaps_b0 s) (trim m.length (some [0, 3, 4, 6])) L st) = some (.norm, ⟨[(0, .c c), (3, .c (.ptr m.length 0 65)), (4, .c (.sl (m.length + 1) 0 K.length K.length))], m ++ [⟨Cf, ty, 0, true⟩, blkI K], 0, 0⟩) := by
  have hmx : (m ++ [⟨Cf, ty, 0, true⟩, blkI K]).take (mx m.length (mx c.refs (m.length + 2))) = m ++ [⟨Cf, ty, 0, true⟩, blkI K] := List.take_of_length_le (by simp [mx_eq]; omega)
  generalize hcr : c.refs = cr at hcc hmx
  have htr : ∀ (ks : List Nat) (i : Int) (env : List (Nat × V)), slots [0, 3, 4, 6] env = [(0, .c c), (3, .c (.ptr m.length 0 65)), (4, .c (.sl (m.length + 1) 0 K.length K.length)), (6, vi i)] →
      trim m.length (some [0, 3, 4, 6]) ⟨env, m ++ [⟨Cf, ty, 0, true⟩, blkI K], 0, 0⟩ = ⟨[(0, .c c), (3, .c (.ptr m.length 0 65)), (4, .c (.sl (m.length + 1) 0 K.length K.length)), (6, vi i)], m ++ [⟨Cf, ty, 0, true⟩, blkI K], 0, 0⟩ := by
    intro ks i env h
    rw [trim_some, h]
    have : mx m.length (mx 0 (envRefs [(0, .c c), (3, .c (.ptr m.length 0 65)), (4, .c (.sl (m.length + 1) 0 K.length K.length)), (6, vi i)])) = m.length + 2 := by
      simp only [envRefs, V.refs, hcr, mx_eq]
      show max m.length (max 0 (max cr (max (m.length + 1) (max (m.length + 1 + 1) (max 0 0))))) = _
      omega
    simp only [this]
    rw [List.take_of_length_le (by simp)]
  have htr3 : ∀ (env : List (Nat × V)), slots [0, 3, 4] env = [(0, .c c), (3, .c (.ptr m.length 0 65)), (4, .c (.sl (m.length + 1) 0 K.length K.length))] →
      trim m.length (some [0, 3, 4]) ⟨env, m ++ [⟨Cf, ty, 0, true⟩, blkI K], 0, 0⟩ = ⟨[(0, .c c), (3, .c (.ptr m.length 0 65)), (4, .c (.sl (m.length + 1) 0 K.length K.length))], m ++ [⟨Cf, ty, 0, true⟩, blkI K], 0, 0⟩ := by
    intro env h
    rw [trim_some, h]
    have : mx m.length (mx 0 (envRefs [(0, .c c), (3, .c (.ptr m.length 0 65)), (4, .c (.sl (m.length + 1) 0 K.length K.length))])) = m.length + 2 := by
      simp only [envRefs, V.refs, hcr, mx_eq]
      show max m.length (max 0 (max cr (max (m.length + 1) (max (m.length + 1 + 1) 0)))) = _
      omega
    simp only [this]
    rw [List.take_of_length_le (by simp)]
  refine iter_blk (σ := Nat) (fun i => ⟨[(0, .c c), (3, .c (.ptr m.length 0 65)), (4, .c (.sl (m.length + 1) 0 K.length K.length)), (6, vi i)], m ++ [⟨Cf, ty, 0, true⟩, blkI K], 0, 0⟩) (fun i => 1 ≤ i ∧ i ≤ 17) (fun i => 17 - i)
    (fun i => (.norm, ⟨[(0, .c c), (3, .c (.ptr m.length 0 65)), (4, .c (.sl (m.length + 1) 0 K.length K.length))], m ++ [⟨Cf, ty, 0, true⟩, blkI K], 0, 0⟩)) ?w L 1 st ⟨Nat.le_refl _, by omega⟩ hst (by show 17 - 1 < L; omega)
  rintro i ⟨i1, i2⟩
  by_cases hi : i < K.length
  · have hi' : (i : Int) < (K.length : Int) := by omega
    have g1 : (ints K)[i]? = some (ci (nth K i)) := ints_nth hi
    have g2 : (ints K)[i - 1]? = some (ci (nth K (i - 1))) := ints_nth (by omega)
    have hlt : nth K (i - 1) < nth K i := by
      have := List.pairwise_iff_getElem.1 hup (i - 1) i (by omega) hi (by omega)
      simpa [nth, List.getD_eq_getElem?_getD, hi, show i - 1 < K.length by omega] using this
    have hge : ¬ nth K i ≤ nth K (i - 1) := by omega
    have hsub : ((i : Int) - 1).toNat = i - 1 := by omega
    refine ⟨.norm, _, by simp (maxSteps := 1000000) (implicitDefEqProofs := false) (disch := omega) [-getElem?_pos, c_laws_FnMaps_b0, hi', g1, g2, hge, hsub, ints_len]; rfl, i + 1, ?_, ⟨by omega, by omega⟩, by omega, rfl⟩
    rw [htr [] ((i : Int) + 1) _ rfl]
    rfl
  · have hi' : ¬ (i : Int) < (K.length : Int) := by omega
    refine ⟨.exit 0, _, by simp (maxSteps := 1000000) (implicitDefEqProofs := false) (disch := omega) [-getElem?_pos, c_laws_FnMaps_b0, hi', ints_len]; rfl, ?_⟩
    show blkC _ _ _ (some (Ex.exit 0, _)) = _
    rw [c_blkx, htr3 _ rfl]
theorem fm_loop2 (M : List Blk) (v R : C) (rs : List Int) (x : Int) (hM : m.length ≤ M.length) (hK : Sl M v K) (hR : Sl M R rs) (hr1 : ∀ y ∈ rs, y ∈ K ∧ 3 ≤ y ∧ y ≤ 15) (hl : K.length ≤ 16) (hl2 : rs.length ≤ 16) (hL : 100 ≤ L)
    (htr : M.take (mx m.length (mx 0 (mx v.refs (mx R.refs 0)))) = M) (st : St) (hst : trim m.length (some [4, 21, 22, 23]) st = ⟨[(4, .c v), (21, .c R), (22, vi x), (23, vi 0)], M, 0, 0⟩) :
    blkC m.length 2 (some [4, 21, 22]) (iter (fun s => exec (den T X L (k + 9)) L m.length none c_laws_FnMaps_b1 s) (trim m.length (some [4, 21, 22, 23])) L st) = some (.norm, ⟨[(4, .c v), (21, .c R), (22, vi x)], M, 0, 0⟩) := by
  have t4 : ∀ (i : Int) (env : List (Nat × V)), slots [4, 21, 22, 23] env = [(4, .c v), (21, .c R), (22, vi x), (23, vi i)] → trim m.length (some [4, 21, 22, 23]) ⟨env, M, 0, 0⟩ = ⟨[(4, .c v), (21, .c R), (22, vi x), (23, vi i)], M, 0, 0⟩ := by
    intro i env h
    rw [trim_some, h]
    exact congrArg (fun z => St.mk _ z 0 0) htr
  have t3 : ∀ (env : List (Nat × V)), slots [4, 21, 22] env = [(4, .c v), (21, .c R), (22, vi x)] → trim m.length (some [4, 21, 22]) ⟨env, M, 0, 0⟩ = ⟨[(4, .c v), (21, .c R), (22, vi x)], M, 0, 0⟩ := by
    intro env h
    rw [trim_some, h]
    exact congrArg (fun z => St.mk _ z 0 0) htr
  have ew := fun y => den_within (X := X) (L := L) (k + 8) M v K y hK (by omega) (by omega)
  refine iter_blk (σ := Nat) (fun i => ⟨[(4, .c v), (21, .c R), (22, vi x), (23, vi i)], M, 0, 0⟩) (fun i => i ≤ rs.length) (fun i => rs.length - i)
    (fun i => (.norm, ⟨[(4, .c v), (21, .c R), (22, vi x)], M, 0, 0⟩)) ?w L 0 st (Nat.zero_le _) hst (by show rs.length - 0 < L; omega)
  intro i hi
  by_cases he : i = rs.length
  · refine ⟨.exit 2, _, by simp (maxSteps := 1000000) (implicitDefEqProofs := false) (disch := omega) [-getElem?_pos, c_laws_FnMaps_b1, he, hR.lenV]; rfl, ?_⟩
    show blkC _ _ _ (some (Ex.exit 2, _)) = _
    rw [c_blkx, t3 _ rfl]
  · have hi' : (i : Int) < (rs.length : Int) := by omega
    have hiv : (0 : Int) ≤ i ∧ (i : Int) < rs.length := by omega
    have hx := hR.ixV hiv
    rw [Int.toNat_natCast] at hx
    have hd := hR.ldV (show i < rs.length by omega)
    have hmem : nth rs i ∈ rs := by
      have : nth rs i = rs[i] := by simp [nth, List.getD_eq_getElem?_getD, show i < rs.length by omega]
      rw [this]; exact List.getElem_mem _
    obtain ⟨m1, m2, m3⟩ := hr1 _ hmem
    have n2 : ¬ nth rs i < 3 := by omega
    have n3 : ¬ 15 < nth rs i := by omega
    refine ⟨.norm, _, by simp (maxSteps := 1000000) (implicitDefEqProofs := false) (disch := omega) [-getElem?_pos, c_laws_FnMaps_b1, hi', hR.lenV, hx, hd, ew, m1, n2, n3]; rfl, i + 1, ?_, by omega, by omega, rfl⟩
    rw [t4 ((i : Int) + 1) _ rfl]
    rfl
theorem fm_loop4 (M M' : List Blk) (v R : C) (x : Int) (hM : m.length ≤ M.length) (hK : Sl M v K) (hl : K.length ≤ 16) (hL : 100 ≤ L)
    (htr : M.take (mx m.length (mx 0 (mx v.refs (mx R.refs 0)))) = M) (htr' : M.take (mx m.length (mx 0 (mx R.refs 0))) = M') (st : St) (hst : trim m.length (some [4, 21, 22, 24, 25]) st = ⟨[(4, .c v), (21, .c R), (22, vi x), (24, vi 0), (25, vi 0)], M, 0, 0⟩) :
    blkC m.length 4 (some [21, 22, 24]) (iter (fun s => exec (den T X L (k + 9)) L m.length none c_laws_FnMaps_b2 s) (trim m.length (some [4, 21, 22, 24, 25])) L st) = some (.norm, ⟨[(21, .c R), (22, vi x), (24, vi (mid K).length)], M', 0, 0⟩) := by
  have t5 : ∀ (n i : Int) (env : List (Nat × V)), slots [4, 21, 22, 24, 25] env = [(4, .c v), (21, .c R), (22, vi x), (24, vi n), (25, vi i)] → trim m.length (some [4, 21, 22, 24, 25]) ⟨env, M, 0, 0⟩ = ⟨[(4, .c v), (21, .c R), (22, vi x), (24, vi n), (25, vi i)], M, 0, 0⟩ := by
    intro n i env h
    rw [trim_some, h]
    exact congrArg (fun z => St.mk _ z 0 0) htr
  have t3 : ∀ (n : Int) (env : List (Nat × V)), slots [21, 22, 24] env = [(21, .c R), (22, vi x), (24, vi n)] → trim m.length (some [21, 22, 24]) ⟨env, M, 0, 0⟩ = ⟨[(21, .c R), (22, vi x), (24, vi n)], M', 0, 0⟩ := by
    intro n env h
    rw [trim_some, h]
    exact congrArg (fun z => St.mk _ z 0 0) htr'
  refine iter_blk (σ := Nat) (fun i => ⟨[(4, .c v), (21, .c R), (22, vi x), (24, vi (mid (K.take i)).length), (25, vi i)], M, 0, 0⟩) (fun i => i ≤ K.length) (fun i => K.length - i)
    (fun i => (.norm, ⟨[(21, .c R), (22, vi x), (24, vi (mid K).length)], M', 0, 0⟩)) ?w L 0 st (Nat.zero_le _) hst (by show K.length - 0 < L; omega)
  intro i hi
  have hm16 : (mid (K.take i)).length ≤ 16 := Nat.le_trans (List.length_filter_le _ _) (by rw [List.length_take]; omega)
  by_cases he : i = K.length
  · refine ⟨.exit 4, _, by simp (maxSteps := 1000000) (implicitDefEqProofs := false) (disch := omega) [-getElem?_pos, c_laws_FnMaps_b2, he, hK.lenV]; rfl, ?_⟩
    show blkC _ _ _ (some (Ex.exit 4, _)) = _
    rw [c_blkx, t3 _ _ rfl]
    try rw [he, List.take_length]
  · have hi' : (i : Int) < (K.length : Int) := by omega
    have hiv : (0 : Int) ≤ i ∧ (i : Int) < K.length := by omega
    have hx := hK.ixV hiv
    rw [Int.toNat_natCast] at hx
    have hd := hK.ldV (show i < K.length by omega)
    have hst := mid_step (show i < K.length by omega)
    by_cases h1 : 3 ≤ nth K i
    · by_cases h2 : nth K i ≤ 15
      · rw [if_pos ⟨h1, h2⟩] at hst
        refine ⟨.norm, _, by simp (maxSteps := 1000000) (implicitDefEqProofs := false) (disch := omega) [-getElem?_pos, c_laws_FnMaps_b2, hi', hK.lenV, hx, hd, h1, h2]; rfl, i + 1, ?_, by omega, by omega, rfl⟩
        rw [t5 ((mid (K.take i)).length + 1) ((i : Int) + 1) _ rfl, hst]
        rfl
      · rw [if_neg fun h => h2 h.2] at hst
        refine ⟨.norm, _, by simp (maxSteps := 1000000) (implicitDefEqProofs := false) (disch := omega) [-getElem?_pos, c_laws_FnMaps_b2, hi', hK.lenV, hx, hd, h1, h2]; rfl, i + 1, ?_, by omega, by omega, rfl⟩
        rw [t5 (mid (K.take i)).length ((i : Int) + 1) _ rfl, hst]
        rfl
    · rw [if_neg fun h => h1 h.1] at hst
      refine ⟨.norm, _, by simp (maxSteps := 1000000) (implicitDefEqProofs := false) (disch := omega) [-getElem?_pos, c_laws_FnMaps_b2, hi', hK.lenV, hx, hd, h1]; rfl, i + 1, ?_, by omega, by omega, rfl⟩
      rw [t5 (mid (K.take i)).length ((i : Int) + 1) _ rfl, hst]
      rfl
end
theorem den_FnMaps (hL : 2000000 ≤ L) (k : Nat) (m : List Blk) (c : C) (bs : List Int) (hs : SlB m c bs) : den T X L (k + 10) 5 [.c c] m = some ⟨vb true, m, 0, 0⟩ := by
  rw [den_eq T_5]
  have hbig := den_big (X := X) (L := L) (k + 8) m c bs hs
  by_cases hb : bs.length > 1048576
  · rw [decide_eq_true hb] at hbig
    simp (maxSteps := 1000000) (implicitDefEqProofs := false) (disch := omega) [-getElem?_pos, c_laws_FnMaps, hbig]
  · rw [decide_eq_false hb] at hbig
    have hb' : bs.length ≤ 1048576 := by omega
    obtain ⟨⟨f, a⟩, hok, e0⟩ := den_DrawChain (X := X) (L := L) (by omega) k m c bs hs hb'
    have hok' : chainOk f a = true := hok
    have hup := keys_up hok'
    have hlen := pairsL_len f a
    have epairs := fun m => den_impl_MapPairs (X := X) (L := L) (by omega) (k + 5) m f a
    have eok := fun m => den_impl_ChainOk (X := X) (L := L) (by omega) (k + 6) m f a
    rw [hok'] at eok
    have eat1 : ∀ l', den T X L (k + 9) 17 [.c c, vi 1] (m ++ l') = some ⟨vi (atB bs 1), m ++ l', 0, 0⟩ := fun l' => den_at (X := X) (L := L) (k + 8) (m ++ l') c bs hs.grow hb' 1 (by omega)
    have eat2 : ∀ l', den T X L (k + 9) 17 [.c c, vi 2] (m ++ l') = some ⟨vi (atB bs 2), m ++ l', 0, 0⟩ := fun l' => den_at (X := X) (L := L) (k + 8) (m ++ l') c bs hs.grow hb' 2 (by omega)
    have ha1 := atB_in hs 1
    have ha2 := atB_in hs 2
    have hcr := hs.refs
    have hcc : c = .nils ∨ ∃ b o n t, c = .sl b o n t ∧ b < m.length := by
      rcases hs.1 with ⟨h, _⟩ | ⟨b, off, tot, blk, h1, h2, _⟩
      · exact .inl h
      · exact .inr ⟨b, off, _, tot, h1, live_lt h2⟩
    clear hs
    generalize atB bs 1 = v1 at eat1 ha1
    generalize atB bs 2 = v at eat2 ha2
    obtain ⟨key, hkey, hkey2, hk0⟩ : ∃ key : Int, v1.tmod 24 = key ∧ v1 % 24 = key ∧ 0 ≤ key ∧ key ≤ 23 := ⟨v1 % 24, Int.tmod_eq_emod_of_nonneg ha1.1, rfl, by omega, by omega⟩
    have eput := fun m => den_impl_MapPut (X := X) (L := L) (by omega) (k + 5) m f a key v
    obtain ⟨o1, o2, o3, o4⟩ := mapPut_ok (key := key) (val := v) hok'
    have erng := fun m => den_impl_MapRange (X := X) (L := L) (by omega) (k + 4) m f a 3 15
    obtain ⟨c0, c1, c2, c3, _⟩ := chn_facts f a
    have c4 := chn_eqL f a
    have hP : pairsL f a = prs f 17 a := by unfold pairsL; rw [if_pos hok']
    unfold outP at epairs
    unfold outC at eput
    unfold outRI rgL at erng
    rw [← hP] at erng
    simp only [hok', if_true] at erng
    have l1 : (keysL (pairsL f a)).length ≤ 16 := by rw [keysL_len]; exact hlen
    have l2 := (keysL_len (pairsL f a)).symm
    have l3 := (valsL_len (pairsL f a)).trans l2
    generalize hK : keysL (pairsL f a) = K at *
    generalize pairsL f a = P at *
    have hl0 := fun st => fm_loop0 (X := X) (L := L) k m c (chn f a) K hcr l1 hup 57 st (by omega)
    simp (maxSteps := 1000000) (implicitDefEqProofs := false) (disch := first | omega | (simp [get_app, get_app0]; done) | rfl | (simp only [List.length_cons, List.length_append, List.length_take, List.length_drop, List.length_nil]; omega)) [-getElem?_pos, c_laws_FnMaps, hbig, e0, z65, epairs, eok, hK, c0, c1, c2, c3, l2, l3]
    rw [hl0 _ (by rcases hcc with rfl | ⟨b, o, n, t, rfl, hbm⟩ <;> simp (maxSteps := 1000000) (implicitDefEqProofs := false) (disch := omega) [-getElem?_pos, take_mx])]
    clear hl0
    -- put
    rcases hp : mapPut f a key v with ⟨f1, a1, n1, x1⟩
    rw [hp] at eput o1 o2 o3 o4
    simp only at eput o1 o2 o3 o4
    have eok1 := fun m => den_impl_ChainOk (X := X) (L := L) (by omega) (k + 6) m f1 a1
    rw [o1] at eok1
    have eget := fun m => den_impl_MapGet (X := X) (L := L) (by omega) (k + 5) m f1 a1 key
    have edrop := fun m => den_impl_MapDrop (X := X) (L := L) (by omega) (k + 5) m f1 a1 key
    obtain ⟨p1, p2⟩ := mapDrop_ok (key := key) o1
    rcases hd : mapDrop f1 a1 key with ⟨f2, a2, n2, x2⟩
    unfold outC at edrop
    rw [hd] at edrop p1 p2
    simp only at edrop p1 p2
    have eok2 := fun m => den_impl_ChainOk (X := X) (L := L) (by omega) (k + 6) m f2 a2
    rw [p1] at eok2
    have eget2 := fun m => den_impl_MapGet (X := X) (L := L) (by omega) (k + 5) m f2 a2 key
    obtain ⟨d0, d1, d2, d3, _⟩ := chn_facts f1 a1
    obtain ⟨g0, g1, g2, g3, _⟩ := chn_facts f2 a2
    rcases hg : mapGet f1 a1 key with ⟨y1, y2, y3⟩
    rcases hg2 : mapGet f2 a2 key with ⟨z1, z2, z3⟩
    rw [hg] at eget o4
    rw [hg2] at eget2 p2
    simp only at eget eget2 o4 p2
    have hn1 : (10 < n1) = False := eq_false (by omega)
    have hput : (¬ x1 = 0 ∧ f1 = f ∧ a1 = a) ∨ (x1 = 0 ∧ y3 = 0 ∧ y1 = v) ∨ (x1 = 0 ∧ y3 = 2 ∧ n1 = 10) := by
      by_cases h : x1 = 0
      · rcases (o4 h).2.2 with ⟨h1, h2⟩ | ⟨h1, h2⟩
        · exact .inr (.inl ⟨h, h1, h2⟩)
        · exact .inr (.inr ⟨h, h1, h2⟩)
      · exact .inl ⟨h, o3 h⟩
    have hdrop : (x2 = 0 ∧ z3 = 4) ∨ ¬ x2 = 0 := by
      by_cases h : x2 = 0
      · exact .inl ⟨h, p2 h⟩
      · exact .inr h
    clear o3 o4 hp hd hg hg2 p2
    have hr1 : ∀ y ∈ mid K, y ∈ K ∧ 3 ≤ y ∧ y ≤ 15 := fun y hy => by
      obtain ⟨h1, h2⟩ := List.mem_filter.1 hy
      simp only [Bool.and_eq_true, decide_eq_true_eq] at h2
      exact ⟨h1, h2.1, h2.2⟩
    have hml : (mid K).length ≤ 16 := Nat.le_trans (List.length_filter_le _ _) l1
    have epn := fun m => den_impl_MapPairs (X := X) (L := L) (by omega) (k + 5) m (fun _ => nd0) (-1)
    rw [pairs_new] at epn
    unfold outP at epn
    have enew := fun m => den_impl_NewChain (X := X) (L := L) (k + 8) m
    have hkn : keysL [] = [] := rfl
    have hvn : valsL [] = [] := rfl
    rcases hput with ⟨hx1, rfl, rfl⟩ | ⟨rfl, rfl, rfl⟩ | ⟨rfl, rfl, rfl⟩
    · simp (maxSteps := 1000000) (implicitDefEqProofs := false) (disch := first | omega | (simp [get_app, get_app0]; done) | rfl | (simp only [List.length_cons, List.length_append, List.length_take, List.length_drop, List.length_nil]; omega)) [-getElem?_pos, eat1, eat2, hkey, hkey2, eput, eget, eok1, c0, c1, c2, c3, c4, hx1, hn1, z65]
      rcases hdrop with ⟨rfl, rfl⟩ | hx2
      · simp (maxSteps := 1000000) (implicitDefEqProofs := false) (disch := first | omega | (simp [get_app, get_app0]; done) | rfl | (simp only [List.length_cons, List.length_append, List.length_take, List.length_drop, List.length_nil]; omega)) [-getElem?_pos, edrop, g0, g1, g2, g3, eget2, eok2, z65]
        by_cases hr : (rgK 3 15 10 K).2 = true
        · have hrf := rgK_filter 10 hup hr
          have hmid : (rgK 3 15 10 K).1 = mid K := hrf
          simp only [hr, if_true] at erng
          rw [hmid] at erng
          simp (maxSteps := 1000000) (implicitDefEqProofs := false) (disch := first | omega | (simp [get_app, get_app0]; done) | rfl | (simp only [List.length_cons, List.length_append, List.length_take, List.length_drop, List.length_nil]; omega)) [-getElem?_pos, erng]
          rw [fm_loop2 k m K (m ++ [⟨chn f1 a1, 57, 0, true⟩, blkI K, ⟨chn f1 a1, 57, 0, true⟩, ⟨chn f2 a2, 57, 0, true⟩, blkI (mid K)]) (.sl (m.length + 1) 0 K.length K.length) (.sl (m.length + 4) 0 (mid K).length (mid K).length) (mid K) 0 (by simp) (live_ints (ty := 3) (o := true) (by simp [get_app])) (live_ints (ty := 3) (o := true) (by simp [get_app])) hr1 l1 hml (by omega) (List.take_of_length_le (by simp [mx_eq])) _ (by simp (maxSteps := 1000000) (implicitDefEqProofs := false) (disch := omega) [-getElem?_pos])]
          simp (maxSteps := 1000000) (implicitDefEqProofs := false) (disch := omega) [-getElem?_pos]
          rw [fm_loop4 k m K (m ++ [⟨chn f1 a1, 57, 0, true⟩, blkI K, ⟨chn f1 a1, 57, 0, true⟩, ⟨chn f2 a2, 57, 0, true⟩, blkI (mid K)]) (m ++ [⟨chn f1 a1, 57, 0, true⟩, blkI K, ⟨chn f1 a1, 57, 0, true⟩, ⟨chn f2 a2, 57, 0, true⟩, blkI (mid K)]) (.sl (m.length + 1) 0 K.length K.length) (.sl (m.length + 4) 0 (mid K).length (mid K).length) 0 (by simp) (live_ints (ty := 3) (o := true) (by simp [get_app])) l1 (by omega) (List.take_of_length_le (by simp [mx_eq])) (List.take_of_length_le (by simp [mx_eq])) _ (by simp (maxSteps := 1000000) (implicitDefEqProofs := false) (disch := omega) [-getElem?_pos])]
          simp (maxSteps := 1000000) (implicitDefEqProofs := false) (disch := first | omega | (simp [get_app, get_app0]; done) | rfl | (simp only [List.length_cons, List.length_append, List.length_take, List.length_drop, List.length_nil]; omega)) [-getElem?_pos, epn, enew, hkn, hvn, z65]
        · simp only [hr, Bool.false_eq_true, if_false] at erng
          simp (maxSteps := 1000000) (implicitDefEqProofs := false) (disch := first | omega | (simp [get_app, get_app0]; done) | rfl | (simp only [List.length_cons, List.length_append, List.length_take, List.length_drop, List.length_nil]; omega)) [-getElem?_pos, erng]
          rw [fm_loop2 k m K (m ++ [⟨chn f1 a1, 57, 0, true⟩, blkI K]) (.sl (m.length + 1) 0 K.length K.length) .nils [] 2 (by simp) (live_ints (ty := 3) (o := true) (by simp [get_app])) (.inl ⟨rfl, rfl⟩) (by simp) l1 (by simp) (by omega) (List.take_of_length_le (by simp [mx_eq])) _ (by simp (maxSteps := 1000000) (implicitDefEqProofs := false) (disch := omega) [-getElem?_pos])]
          simp (maxSteps := 1000000) (implicitDefEqProofs := false) (disch := omega) [-getElem?_pos]
          rw [fm_loop4 k m K (m ++ [⟨chn f1 a1, 57, 0, true⟩, blkI K]) m (.sl (m.length + 1) 0 K.length K.length) .nils 2 (by simp) (live_ints (ty := 3) (o := true) (by simp [get_app])) l1 (by omega) (List.take_of_length_le (by simp [mx_eq])) (by simp [mx_eq]) _ (by simp (maxSteps := 1000000) (implicitDefEqProofs := false) (disch := omega) [-getElem?_pos])]
          simp (maxSteps := 1000000) (implicitDefEqProofs := false) (disch := first | omega | (simp [get_app, get_app0]; done) | rfl | (simp only [List.length_cons, List.length_append, List.length_take, List.length_drop, List.length_nil]; omega)) [-getElem?_pos, epn, enew, hkn, hvn, z65]
      · simp (maxSteps := 1000000) (implicitDefEqProofs := false) (disch := first | omega | (simp [get_app, get_app0]; done) | rfl | (simp only [List.length_cons, List.length_append, List.length_take, List.length_drop, List.length_nil]; omega)) [-getElem?_pos, edrop, g0, g1, g2, g3, eget2, eok2, z65, hx2]
        by_cases hr : (rgK 3 15 10 K).2 = true
        · have hrf := rgK_filter 10 hup hr
          have hmid : (rgK 3 15 10 K).1 = mid K := hrf
          simp only [hr, if_true] at erng
          rw [hmid] at erng
          simp (maxSteps := 1000000) (implicitDefEqProofs := false) (disch := first | omega | (simp [get_app, get_app0]; done) | rfl | (simp only [List.length_cons, List.length_append, List.length_take, List.length_drop, List.length_nil]; omega)) [-getElem?_pos, erng]
          rw [fm_loop2 k m K (m ++ [⟨chn f1 a1, 57, 0, true⟩, blkI K, ⟨chn f1 a1, 57, 0, true⟩, ⟨chn f2 a2, 57, 0, true⟩, blkI (mid K)]) (.sl (m.length + 1) 0 K.length K.length) (.sl (m.length + 4) 0 (mid K).length (mid K).length) (mid K) 0 (by simp) (live_ints (ty := 3) (o := true) (by simp [get_app])) (live_ints (ty := 3) (o := true) (by simp [get_app])) hr1 l1 hml (by omega) (List.take_of_length_le (by simp [mx_eq])) _ (by simp (maxSteps := 1000000) (implicitDefEqProofs := false) (disch := omega) [-getElem?_pos])]
          simp (maxSteps := 1000000) (implicitDefEqProofs := false) (disch := omega) [-getElem?_pos]
          rw [fm_loop4 k m K (m ++ [⟨chn f1 a1, 57, 0, true⟩, blkI K, ⟨chn f1 a1, 57, 0, true⟩, ⟨chn f2 a2, 57, 0, true⟩, blkI (mid K)]) (m ++ [⟨chn f1 a1, 57, 0, true⟩, blkI K, ⟨chn f1 a1, 57, 0, true⟩, ⟨chn f2 a2, 57, 0, true⟩, blkI (mid K)]) (.sl (m.length + 1) 0 K.length K.length) (.sl (m.length + 4) 0 (mid K).length (mid K).length) 0 (by simp) (live_ints (ty := 3) (o := true) (by simp [get_app])) l1 (by omega) (List.take_of_length_le (by simp [mx_eq])) (List.take_of_length_le (by simp [mx_eq])) _ (by simp (maxSteps := 1000000) (implicitDefEqProofs := false) (disch := omega) [-getElem?_pos])]
          simp (maxSteps := 1000000) (implicitDefEqProofs := false) (disch := first | omega | (simp [get_app, get_app0]; done) | rfl | (simp only [List.length_cons, List.length_append, List.length_take, List.length_drop, List.length_nil]; omega)) [-getElem?_pos, epn, enew, hkn, hvn, z65]
        · simp only [hr, Bool.false_eq_true, if_false] at erng
          simp (maxSteps := 1000000) (implicitDefEqProofs := false) (disch := first | omega | (simp [get_app, get_app0]; done) | rfl | (simp only [List.length_cons, List.length_append, List.length_take, List.length_drop, List.length_nil]; omega)) [-getElem?_pos, erng]
          rw [fm_loop2 k m K (m ++ [⟨chn f1 a1, 57, 0, true⟩, blkI K]) (.sl (m.length + 1) 0 K.length K.length) .nils [] 2 (by simp) (live_ints (ty := 3) (o := true) (by simp [get_app])) (.inl ⟨rfl, rfl⟩) (by simp) l1 (by simp) (by omega) (List.take_of_length_le (by simp [mx_eq])) _ (by simp (maxSteps := 1000000) (implicitDefEqProofs := false) (disch := omega) [-getElem?_pos])]
          simp (maxSteps := 1000000) (implicitDefEqProofs := false) (disch := omega) [-getElem?_pos]
          rw [fm_loop4 k m K (m ++ [⟨chn f1 a1, 57, 0, true⟩, blkI K]) m (.sl (m.length + 1) 0 K.length K.length) .nils 2 (by simp) (live_ints (ty := 3) (o := true) (by simp [get_app])) l1 (by omega) (List.take_of_length_le (by simp [mx_eq])) (by simp [mx_eq]) _ (by simp (maxSteps := 1000000) (implicitDefEqProofs := false) (disch := omega) [-getElem?_pos])]
          simp (maxSteps := 1000000) (implicitDefEqProofs := false) (disch := first | omega | (simp [get_app, get_app0]; done) | rfl | (simp only [List.length_cons, List.length_append, List.length_take, List.length_drop, List.length_nil]; omega)) [-getElem?_pos, epn, enew, hkn, hvn, z65]
    · simp (maxSteps := 1000000) (implicitDefEqProofs := false) (disch := first | omega | (simp [get_app, get_app0]; done) | rfl | (simp only [List.length_cons, List.length_append, List.length_take, List.length_drop, List.length_nil]; omega)) [-getElem?_pos, eat1, eat2, hkey, hkey2, eput, eget, eok1, c0, c1, c2, c3, c4, d0, d1, d2, d3, hn1, z65]
      rcases hdrop with ⟨rfl, rfl⟩ | hx2
      · simp (maxSteps := 1000000) (implicitDefEqProofs := false) (disch := first | omega | (simp [get_app, get_app0]; done) | rfl | (simp only [List.length_cons, List.length_append, List.length_take, List.length_drop, List.length_nil]; omega)) [-getElem?_pos, edrop, g0, g1, g2, g3, eget2, eok2, z65]
        by_cases hr : (rgK 3 15 10 K).2 = true
        · have hrf := rgK_filter 10 hup hr
          have hmid : (rgK 3 15 10 K).1 = mid K := hrf
          simp only [hr, if_true] at erng
          rw [hmid] at erng
          simp (maxSteps := 1000000) (implicitDefEqProofs := false) (disch := first | omega | (simp [get_app, get_app0]; done) | rfl | (simp only [List.length_cons, List.length_append, List.length_take, List.length_drop, List.length_nil]; omega)) [-getElem?_pos, erng]
          rw [fm_loop2 k m K (m ++ [⟨chn f a, 57, 0, true⟩, blkI K, ⟨chn f1 a1, 57, 0, true⟩, ⟨chn f2 a2, 57, 0, true⟩, blkI (mid K)]) (.sl (m.length + 1) 0 K.length K.length) (.sl (m.length + 4) 0 (mid K).length (mid K).length) (mid K) 0 (by simp) (live_ints (ty := 3) (o := true) (by simp [get_app])) (live_ints (ty := 3) (o := true) (by simp [get_app])) hr1 l1 hml (by omega) (List.take_of_length_le (by simp [mx_eq])) _ (by simp (maxSteps := 1000000) (implicitDefEqProofs := false) (disch := omega) [-getElem?_pos])]
          simp (maxSteps := 1000000) (implicitDefEqProofs := false) (disch := omega) [-getElem?_pos]
          rw [fm_loop4 k m K (m ++ [⟨chn f a, 57, 0, true⟩, blkI K, ⟨chn f1 a1, 57, 0, true⟩, ⟨chn f2 a2, 57, 0, true⟩, blkI (mid K)]) (m ++ [⟨chn f a, 57, 0, true⟩, blkI K, ⟨chn f1 a1, 57, 0, true⟩, ⟨chn f2 a2, 57, 0, true⟩, blkI (mid K)]) (.sl (m.length + 1) 0 K.length K.length) (.sl (m.length + 4) 0 (mid K).length (mid K).length) 0 (by simp) (live_ints (ty := 3) (o := true) (by simp [get_app])) l1 (by omega) (List.take_of_length_le (by simp [mx_eq])) (List.take_of_length_le (by simp [mx_eq])) _ (by simp (maxSteps := 1000000) (implicitDefEqProofs := false) (disch := omega) [-getElem?_pos])]
          simp (maxSteps := 1000000) (implicitDefEqProofs := false) (disch := first | omega | (simp [get_app, get_app0]; done) | rfl | (simp only [List.length_cons, List.length_append, List.length_take, List.length_drop, List.length_nil]; omega)) [-getElem?_pos, epn, enew, hkn, hvn, z65]
        · simp only [hr, Bool.false_eq_true, if_false] at erng
          simp (maxSteps := 1000000) (implicitDefEqProofs := false) (disch := first | omega | (simp [get_app, get_app0]; done) | rfl | (simp only [List.length_cons, List.length_append, List.length_take, List.length_drop, List.length_nil]; omega)) [-getElem?_pos, erng]
          rw [fm_loop2 k m K (m ++ [⟨chn f a, 57, 0, true⟩, blkI K]) (.sl (m.length + 1) 0 K.length K.length) .nils [] 2 (by simp) (live_ints (ty := 3) (o := true) (by simp [get_app])) (.inl ⟨rfl, rfl⟩) (by simp) l1 (by simp) (by omega) (List.take_of_length_le (by simp [mx_eq])) _ (by simp (maxSteps := 1000000) (implicitDefEqProofs := false) (disch := omega) [-getElem?_pos])]
          simp (maxSteps := 1000000) (implicitDefEqProofs := false) (disch := omega) [-getElem?_pos]
          rw [fm_loop4 k m K (m ++ [⟨chn f a, 57, 0, true⟩, blkI K]) m (.sl (m.length + 1) 0 K.length K.length) .nils 2 (by simp) (live_ints (ty := 3) (o := true) (by simp [get_app])) l1 (by omega) (List.take_of_length_le (by simp [mx_eq])) (by simp [mx_eq]) _ (by simp (maxSteps := 1000000) (implicitDefEqProofs := false) (disch := omega) [-getElem?_pos])]
          simp (maxSteps := 1000000) (implicitDefEqProofs := false) (disch := first | omega | (simp [get_app, get_app0]; done) | rfl | (simp only [List.length_cons, List.length_append, List.length_take, List.length_drop, List.length_nil]; omega)) [-getElem?_pos, epn, enew, hkn, hvn, z65]
      · simp (maxSteps := 1000000) (implicitDefEqProofs := false) (disch := first | omega | (simp [get_app, get_app0]; done) | rfl | (simp only [List.length_cons, List.length_append, List.length_take, List.length_drop, List.length_nil]; omega)) [-getElem?_pos, edrop, g0, g1, g2, g3, eget2, eok2, z65, hx2]
        by_cases hr : (rgK 3 15 10 K).2 = true
        · have hrf := rgK_filter 10 hup hr
          have hmid : (rgK 3 15 10 K).1 = mid K := hrf
          simp only [hr, if_true] at erng
          rw [hmid] at erng
          simp (maxSteps := 1000000) (implicitDefEqProofs := false) (disch := first | omega | (simp [get_app, get_app0]; done) | rfl | (simp only [List.length_cons, List.length_append, List.length_take, List.length_drop, List.length_nil]; omega)) [-getElem?_pos, erng]
          rw [fm_loop2 k m K (m ++ [⟨chn f a, 57, 0, true⟩, blkI K, ⟨chn f1 a1, 57, 0, true⟩, ⟨chn f2 a2, 57, 0, true⟩, blkI (mid K)]) (.sl (m.length + 1) 0 K.length K.length) (.sl (m.length + 4) 0 (mid K).length (mid K).length) (mid K) 0 (by simp) (live_ints (ty := 3) (o := true) (by simp [get_app])) (live_ints (ty := 3) (o := true) (by simp [get_app])) hr1 l1 hml (by omega) (List.take_of_length_le (by simp [mx_eq])) _ (by simp (maxSteps := 1000000) (implicitDefEqProofs := false) (disch := omega) [-getElem?_pos])]
          simp (maxSteps := 1000000) (implicitDefEqProofs := false) (disch := omega) [-getElem?_pos]
          rw [fm_loop4 k m K (m ++ [⟨chn f a, 57, 0, true⟩, blkI K, ⟨chn f1 a1, 57, 0, true⟩, ⟨chn f2 a2, 57, 0, true⟩, blkI (mid K)]) (m ++ [⟨chn f a, 57, 0, true⟩, blkI K, ⟨chn f1 a1, 57, 0, true⟩, ⟨chn f2 a2, 57, 0, true⟩, blkI (mid K)]) (.sl (m.length + 1) 0 K.length K.length) (.sl (m.length + 4) 0 (mid K).length (mid K).length) 0 (by simp) (live_ints (ty := 3) (o := true) (by simp [get_app])) l1 (by omega) (List.take_of_length_le (by simp [mx_eq])) (List.take_of_length_le (by simp [mx_eq])) _ (by simp (maxSteps := 1000000) (implicitDefEqProofs := false) (disch := omega) [-getElem?_pos])]
          simp (maxSteps := 1000000) (implicitDefEqProofs := false) (disch := first | omega | (simp [get_app, get_app0]; done) | rfl | (simp only [List.length_cons, List.length_append, List.length_take, List.length_drop, List.length_nil]; omega)) [-getElem?_pos, epn, enew, hkn, hvn, z65]
        · simp only [hr, Bool.false_eq_true, if_false] at erng
          simp (maxSteps := 1000000) (implicitDefEqProofs := false) (disch := first | omega | (simp [get_app, get_app0]; done) | rfl | (simp only [List.length_cons, List.length_append, List.length_take, List.length_drop, List.length_nil]; omega)) [-getElem?_pos, erng]
          rw [fm_loop2 k m K (m ++ [⟨chn f a, 57, 0, true⟩, blkI K]) (.sl (m.length + 1) 0 K.length K.length) .nils [] 2 (by simp) (live_ints (ty := 3) (o := true) (by simp [get_app])) (.inl ⟨rfl, rfl⟩) (by simp) l1 (by simp) (by omega) (List.take_of_length_le (by simp [mx_eq])) _ (by simp (maxSteps := 1000000) (implicitDefEqProofs := false) (disch := omega) [-getElem?_pos])]
          simp (maxSteps := 1000000) (implicitDefEqProofs := false) (disch := omega) [-getElem?_pos]
          rw [fm_loop4 k m K (m ++ [⟨chn f a, 57, 0, true⟩, blkI K]) m (.sl (m.length + 1) 0 K.length K.length) .nils 2 (by simp) (live_ints (ty := 3) (o := true) (by simp [get_app])) l1 (by omega) (List.take_of_length_le (by simp [mx_eq])) (by simp [mx_eq]) _ (by simp (maxSteps := 1000000) (implicitDefEqProofs := false) (disch := omega) [-getElem?_pos])]
          simp (maxSteps := 1000000) (implicitDefEqProofs := false) (disch := first | omega | (simp [get_app, get_app0]; done) | rfl | (simp only [List.length_cons, List.length_append, List.length_take, List.length_drop, List.length_nil]; omega)) [-getElem?_pos, epn, enew, hkn, hvn, z65]
    · simp (maxSteps := 1000000) (implicitDefEqProofs := false) (disch := first | omega | (simp [get_app, get_app0]; done) | rfl | (simp only [List.length_cons, List.length_append, List.length_take, List.length_drop, List.length_nil]; omega)) [-getElem?_pos, eat1, eat2, hkey, hkey2, eput, eget, eok1, c0, c1, c2, c3, c4, d0, d1, d2, d3, hn1, z65]
      rcases hdrop with ⟨rfl, rfl⟩ | hx2
      · simp (maxSteps := 1000000) (implicitDefEqProofs := false) (disch := first | omega | (simp [get_app, get_app0]; done) | rfl | (simp only [List.length_cons, List.length_append, List.length_take, List.length_drop, List.length_nil]; omega)) [-getElem?_pos, edrop, g0, g1, g2, g3, eget2, eok2, z65]
        by_cases hr : (rgK 3 15 10 K).2 = true
        · have hrf := rgK_filter 10 hup hr
          have hmid : (rgK 3 15 10 K).1 = mid K := hrf
          simp only [hr, if_true] at erng
          rw [hmid] at erng
          simp (maxSteps := 1000000) (implicitDefEqProofs := false) (disch := first | omega | (simp [get_app, get_app0]; done) | rfl | (simp only [List.length_cons, List.length_append, List.length_take, List.length_drop, List.length_nil]; omega)) [-getElem?_pos, erng]
          rw [fm_loop2 k m K (m ++ [⟨chn f a, 57, 0, true⟩, blkI K, ⟨chn f1 a1, 57, 0, true⟩, ⟨chn f2 a2, 57, 0, true⟩, blkI (mid K)]) (.sl (m.length + 1) 0 K.length K.length) (.sl (m.length + 4) 0 (mid K).length (mid K).length) (mid K) 0 (by simp) (live_ints (ty := 3) (o := true) (by simp [get_app])) (live_ints (ty := 3) (o := true) (by simp [get_app])) hr1 l1 hml (by omega) (List.take_of_length_le (by simp [mx_eq])) _ (by simp (maxSteps := 1000000) (implicitDefEqProofs := false) (disch := omega) [-getElem?_pos])]
          simp (maxSteps := 1000000) (implicitDefEqProofs := false) (disch := omega) [-getElem?_pos]
          rw [fm_loop4 k m K (m ++ [⟨chn f a, 57, 0, true⟩, blkI K, ⟨chn f1 a1, 57, 0, true⟩, ⟨chn f2 a2, 57, 0, true⟩, blkI (mid K)]) (m ++ [⟨chn f a, 57, 0, true⟩, blkI K, ⟨chn f1 a1, 57, 0, true⟩, ⟨chn f2 a2, 57, 0, true⟩, blkI (mid K)]) (.sl (m.length + 1) 0 K.length K.length) (.sl (m.length + 4) 0 (mid K).length (mid K).length) 0 (by simp) (live_ints (ty := 3) (o := true) (by simp [get_app])) l1 (by omega) (List.take_of_length_le (by simp [mx_eq])) (List.take_of_length_le (by simp [mx_eq])) _ (by simp (maxSteps := 1000000) (implicitDefEqProofs := false) (disch := omega) [-getElem?_pos])]
          simp (maxSteps := 1000000) (implicitDefEqProofs := false) (disch := first | omega | (simp [get_app, get_app0]; done) | rfl | (simp only [List.length_cons, List.length_append, List.length_take, List.length_drop, List.length_nil]; omega)) [-getElem?_pos, epn, enew, hkn, hvn, z65]
        · simp only [hr, Bool.false_eq_true, if_false] at erng
          simp (maxSteps := 1000000) (implicitDefEqProofs := false) (disch := first | omega | (simp [get_app, get_app0]; done) | rfl | (simp only [List.length_cons, List.length_append, List.length_take, List.length_drop, List.length_nil]; omega)) [-getElem?_pos, erng]
          rw [fm_loop2 k m K (m ++ [⟨chn f a, 57, 0, true⟩, blkI K]) (.sl (m.length + 1) 0 K.length K.length) .nils [] 2 (by simp) (live_ints (ty := 3) (o := true) (by simp [get_app])) (.inl ⟨rfl, rfl⟩) (by simp) l1 (by simp) (by omega) (List.take_of_length_le (by simp [mx_eq])) _ (by simp (maxSteps := 1000000) (implicitDefEqProofs := false) (disch := omega) [-getElem?_pos])]
          simp (maxSteps := 1000000) (implicitDefEqProofs := false) (disch := omega) [-getElem?_pos]
          rw [fm_loop4 k m K (m ++ [⟨chn f a, 57, 0, true⟩, blkI K]) m (.sl (m.length + 1) 0 K.length K.length) .nils 2 (by simp) (live_ints (ty := 3) (o := true) (by simp [get_app])) l1 (by omega) (List.take_of_length_le (by simp [mx_eq])) (by simp [mx_eq]) _ (by simp (maxSteps := 1000000) (implicitDefEqProofs := false) (disch := omega) [-getElem?_pos])]
          simp (maxSteps := 1000000) (implicitDefEqProofs := false) (disch := first | omega | (simp [get_app, get_app0]; done) | rfl | (simp only [List.length_cons, List.length_append, List.length_take, List.length_drop, List.length_nil]; omega)) [-getElem?_pos, epn, enew, hkn, hvn, z65]
      · simp (maxSteps := 1000000) (implicitDefEqProofs := false) (disch := first | omega | (simp [get_app, get_app0]; done) | rfl | (simp only [List.length_cons, List.length_append, List.length_take, List.length_drop, List.length_nil]; omega)) [-getElem?_pos, edrop, g0, g1, g2, g3, eget2, eok2, z65, hx2]
        by_cases hr : (rgK 3 15 10 K).2 = true
        · have hrf := rgK_filter 10 hup hr
          have hmid : (rgK 3 15 10 K).1 = mid K := hrf
          simp only [hr, if_true] at erng
          rw [hmid] at erng
          simp (maxSteps := 1000000) (implicitDefEqProofs := false) (disch := first | omega | (simp [get_app, get_app0]; done) | rfl | (simp only [List.length_cons, List.length_append, List.length_take, List.length_drop, List.length_nil]; omega)) [-getElem?_pos, erng]
          rw [fm_loop2 k m K (m ++ [⟨chn f a, 57, 0, true⟩, blkI K, ⟨chn f1 a1, 57, 0, true⟩, ⟨chn f2 a2, 57, 0, true⟩, blkI (mid K)]) (.sl (m.length + 1) 0 K.length K.length) (.sl (m.length + 4) 0 (mid K).length (mid K).length) (mid K) 0 (by simp) (live_ints (ty := 3) (o := true) (by simp [get_app])) (live_ints (ty := 3) (o := true) (by simp [get_app])) hr1 l1 hml (by omega) (List.take_of_length_le (by simp [mx_eq])) _ (by simp (maxSteps := 1000000) (implicitDefEqProofs := false) (disch := omega) [-getElem?_pos])]
          simp (maxSteps := 1000000) (implicitDefEqProofs := false) (disch := omega) [-getElem?_pos]
          rw [fm_loop4 k m K (m ++ [⟨chn f a, 57, 0, true⟩, blkI K, ⟨chn f1 a1, 57, 0, true⟩, ⟨chn f2 a2, 57, 0, true⟩, blkI (mid K)]) (m ++ [⟨chn f a, 57, 0, true⟩, blkI K, ⟨chn f1 a1, 57, 0, true⟩, ⟨chn f2 a2, 57, 0, true⟩, blkI (mid K)]) (.sl (m.length + 1) 0 K.length K.length) (.sl (m.length + 4) 0 (mid K).length (mid K).length) 0 (by simp) (live_ints (ty := 3) (o := true) (by simp [get_app])) l1 (by omega) (List.take_of_length_le (by simp [mx_eq])) (List.take_of_length_le (by simp [mx_eq])) _ (by simp (maxSteps := 1000000) (implicitDefEqProofs := false) (disch := omega) [-getElem?_pos])]
          simp (maxSteps := 1000000) (implicitDefEqProofs := false) (disch := first | omega | (simp [get_app, get_app0]; done) | rfl | (simp only [List.length_cons, List.length_append, List.length_take, List.length_drop, List.length_nil]; omega)) [-getElem?_pos, epn, enew, hkn, hvn, z65]
        · simp only [hr, Bool.false_eq_true, if_false] at erng
          simp (maxSteps := 1000000) (implicitDefEqProofs := false) (disch := first | omega | (simp [get_app, get_app0]; done) | rfl | (simp only [List.length_cons, List.length_append, List.length_take, List.length_drop, List.length_nil]; omega)) [-getElem?_pos, erng]
          rw [fm_loop2 k m K (m ++ [⟨chn f a, 57, 0, true⟩, blkI K]) (.sl (m.length + 1) 0 K.length K.length) .nils [] 2 (by simp) (live_ints (ty := 3) (o := true) (by simp [get_app])) (.inl ⟨rfl, rfl⟩) (by simp) l1 (by simp) (by omega) (List.take_of_length_le (by simp [mx_eq])) _ (by simp (maxSteps := 1000000) (implicitDefEqProofs := false) (disch := omega) [-getElem?_pos])]
          simp (maxSteps := 1000000) (implicitDefEqProofs := false) (disch := omega) [-getElem?_pos]
          rw [fm_loop4 k m K (m ++ [⟨chn f a, 57, 0, true⟩, blkI K]) m (.sl (m.length + 1) 0 K.length K.length) .nils 2 (by simp) (live_ints (ty := 3) (o := true) (by simp [get_app])) l1 (by omega) (List.take_of_length_le (by simp [mx_eq])) (by simp [mx_eq]) _ (by simp (maxSteps := 1000000) (implicitDefEqProofs := false) (disch := omega) [-getElem?_pos])]
          simp (maxSteps := 1000000) (implicitDefEqProofs := false) (disch := first | omega | (simp [get_app, get_app0]; done) | rfl | (simp only [List.length_cons, List.length_append, List.length_take, List.length_drop, List.length_nil]; omega)) [-getElem?_pos, epn, enew, hkn, hvn, z65]
end Go.Proofs.Ytdnfcomgdgdifaa
