/-
  The law of drawn trees, run.
-/
import Derived.Test.YtdnfcomgdgdifaaDt
import Derived.Test.YtdnfcomgdgdifaaPv
import Derived.Test.YtdnfcomgdgdifaaDa
set_option linter.unusedVariables false
set_option linter.unusedSimpArgs false
set_option maxHeartbeats 4000000
set_option maxRecDepth 100000
namespace Go.Proofs.Ytdnfcomgdgdifaa
variable {X : FuncId → List V → List Blk → Option Ret} {L : Nat}

theorem trn_facts (f : Nat → Nd) (a : Int) : (chn f a).length = 65 ∧ (chn f a).take 65 = chn f a ∧ refsL (chn f a) = 0 ∧ (∀ g b, lay (chn g b) 0 (chn f a) = chn f a) ∧ (chn f a).all (·.hard) = true := by
  refine ⟨by simp [nds_len], List.take_of_length_le (by simp [nds_len]), by simp [refs_append, nds_refs, refsL, C.refs, ci, mx], fun g b => lay_all (by simp [nds_len]), by rw [List.all_append, nds_hard]; rfl⟩
theorem trn_eqL (f : Nat → Nd) (a : Int) : eqL [none, some .i64, some .i64, some .i64, none, some .i64, some .i64, some .i64, none, some .i64, some .i64, some .i64, none, some .i64, some .i64, some .i64, none, some .i64, some .i64, some .i64, none, some .i64, some .i64, some .i64, none, some .i64, some .i64, some .i64, none, some .i64, some .i64, some .i64, none, some .i64, some .i64, some .i64, none, some .i64, some .i64, some .i64, none, some .i64, some .i64, some .i64, none, some .i64, some .i64, some .i64, none, some .i64, some .i64, some .i64, none, some .i64, some .i64, some .i64, none, some .i64, some .i64, some .i64, none, some .i64, some .i64, some .i64, some .i64] (chn f a) (chn f a) = some true := by
  simp [chn, nds, rows, List.range, List.range.loop, nd, eqL, eqC, ci, cb]
theorem withinB (k : Nat) (xs : List Int) (y : Int) (hx : xs.length < L) (hb : xs.length < 4611686018427387904) (m : List Blk) (b n : Nat) (h : m[b]? = some (blkI xs)) (hn : n = xs.length) :
    den T X L (k + 1) 31 [.c (.sl b 0 n n), vi y] m = some ⟨vb (decide (y ∈ xs)), m, 0, 0⟩ := by
  subst hn
  exact den_within k m _ xs y (live_ints h) hx hb
theorem buildB (hL : 100 ≤ L) (k : Nat) (xs : List Int) (hx : xs.length < L) (hb : xs.length ≤ 1048576) (m : List Blk) (b n : Nat) (h : m[b]? = some (blkI xs)) (hn : n = xs.length) :
    den T X L (k + 20) 39 [.c (.sl b 0 n n)] m = some ⟨outB (treeBuild xs), m, 0, 0⟩ := by
  subst hn
  exact den_impl_TreeBuild hL k m _ xs (live_ints h) hx hb
theorem ft_loop (hL : 100 ≤ L) (k : Nat) (m M M' : List Blk) (v : C) (b : Nat) (g : Nat → Nd) (a : Int) (h : Nat) (hb : live M b 65 = some ⟨chn g a, 47, 0, true⟩) (hh : treeHigh g a = h) (h16 : h ≤ 16)
    (htr : M.take (mx m.length (mx 0 (mx v.refs (mx (b + 1) 0)))) = M) (htr' : M.take (mx m.length (mx 0 (mx v.refs 0))) = M') (st : St) (hst : trim m.length (some [4, 13, 15, 16]) st = ⟨[(4, .c v), (13, .c (.ptr b 0 65)), (15, vi 1), (16, vi 0)], M, 0, 0⟩) :
    blkC m.length 0 (some [4, 15]) (iter (fun s => exec (den T X L (k + 23)) L m.length none c_laws_FnTrees_b0 s) (trim m.length (some [4, 13, 15, 16])) L st) = some (.norm, ⟨[(4, .c v), (15, vi ((2 ^ h : Nat) : Int))], M', 0, 0⟩) := by
  have t4 : ∀ (n i : Int) (env : List (Nat × V)), slots [4, 13, 15, 16] env = [(4, .c v), (13, .c (.ptr b 0 65)), (15, vi n), (16, vi i)] → trim m.length (some [4, 13, 15, 16]) ⟨env, M, 0, 0⟩ = ⟨[(4, .c v), (13, .c (.ptr b 0 65)), (15, vi n), (16, vi i)], M, 0, 0⟩ := by
    intro n i env h
    rw [trim_some, h]
    exact congrArg (fun z => St.mk _ z 0 0) htr
  have t2 : ∀ (n : Int) (env : List (Nat × V)), slots [4, 15] env = [(4, .c v), (15, vi n)] → trim m.length (some [4, 15]) ⟨env, M, 0, 0⟩ = ⟨[(4, .c v), (15, vi n)], M', 0, 0⟩ := by
    intro n env h
    rw [trim_some, h]
    exact congrArg (fun z => St.mk _ z 0 0) htr'
  have eh := fun m => den_impl_TreeHigh (X := X) hL (k + 2) m g a
  rw [hh] at eh
  obtain ⟨c0, c1, c2, c3, _⟩ := trn_facts g a
  refine iter_blk (σ := Nat) (fun i => ⟨[(4, .c v), (13, .c (.ptr b 0 65)), (15, vi ((2 ^ i : Nat) : Int)), (16, vi i)], M, 0, 0⟩) (fun i => i ≤ h) (fun i => h - i)
    (fun i => (.norm, ⟨[(4, .c v), (15, vi ((2 ^ h : Nat) : Int))], M', 0, 0⟩)) ?w L 0 st (Nat.zero_le _) hst (by show h - 0 < L; omega)
  intro i hi
  by_cases he : i = h
  · subst he
    generalize hN : (2 : Nat) ^ i = N
    refine ⟨.exit 0, _, by simp (maxSteps := 1000000) (implicitDefEqProofs := false) (disch := omega) [-getElem?_pos, c_laws_FnTrees_b0, hb, c0, c1, eh]; rfl, ?_⟩
    show blkC _ _ _ (some (Ex.exit 0, _)) = _
    rw [c_blkx, t2 _ _ rfl]
  · have hi' : (i : Int) < (h : Int) := by omega
    have hp : (2 : Nat) ^ i ≤ 2 ^ 16 := Nat.pow_le_pow_right (by omega) (by omega)
    have hp2 : ((2 ^ (i + 1) : Nat) : Int) = 2 * ((2 ^ i : Nat) : Int) := by rw [Nat.pow_succ]; omega
    generalize hN : (2 : Nat) ^ i = N at hp hp2
    refine ⟨.norm, _, by simp (maxSteps := 1000000) (implicitDefEqProofs := false) (disch := omega) [-getElem?_pos, c_laws_FnTrees_b0, hb, c0, c1, eh, hi']; rfl, i + 1, ?_, by omega, by omega, rfl⟩
    rw [t4 (2 * (N : Int)) ((i : Int) + 1) _ rfl]
    simp only [hp2]
    rfl
theorem den_FnTrees (hL : 2000000 ≤ L) (k : Nat) (m : List Blk) (c : C) (bs : List Int) (hs : SlB m c bs) : den T X L (k + 24) 6 [.c c] m = some ⟨vb true, m, 0, 0⟩ := by
  rw [den_eq T_6]
  have hbig := den_big (X := X) (L := L) (k + 22) m c bs hs
  by_cases hb : bs.length > 1048576
  · rw [decide_eq_true hb] at hbig
    simp (maxSteps := 1000000) (implicitDefEqProofs := false) (disch := omega) [-getElem?_pos, c_laws_FnTrees, hbig]
  · rw [decide_eq_false hb] at hbig
    have hb' : bs.length ≤ 1048576 := by omega
    obtain ⟨⟨f, a⟩, hok, e0⟩ := den_DrawTree (X := X) (L := L) (by omega) k m c bs hs hb'
    have hok : treeOk f a = true := hok
    have hL1 : 100 ≤ L := by omega
    have ekeys := fun m f a => den_impl_TreeKeys (X := X) hL1 (k + 2) m f a
    have eok := fun m f a => den_impl_TreeOk (X := X) hL1 (k + 3) m f a
    have ehigh := fun m f a => den_impl_TreeHigh (X := X) hL1 (k + 2) m f a
    simp only [treeOk_same] at eok
    unfold outK at ekeys
    have eat : ∀ l', den T X L (k + 23) 17 [.c c, vi 1] (m ++ l') = some ⟨vi (atB bs 1), m ++ l', 0, 0⟩ := fun l' => den_at (X := X) (L := L) (k + 22) (m ++ l') c bs hs.grow hb' 1 (by omega)
    have ha1 := atB_in hs 1
    clear hs
    generalize atB bs 1 = v1 at eat ha1
    obtain ⟨key, hkey, hkey2, hk0⟩ : ∃ key : Int, v1.tmod 30 = key ∧ v1 % 30 = key ∧ 0 ≤ key ∧ key ≤ 29 := ⟨v1 % 30, Int.tmod_eq_emod_of_nonneg ha1.1, rfl, by omega, by omega⟩
    have hkv : isVal key = true := inB_pos (by omega)
    have eadd := fun m => den_impl_TreeAdd (X := X) hL1 (k + 2) m f a key
    obtain ⟨o1, o2, o3⟩ := treeAdd_ok (key := key) hok
    have o2 := o2 hkv
    obtain ⟨hv1, hv2⟩ := treeKeys_vals hok
    obtain ⟨w1, w2, w3, w4, w5⟩ := treeHigh_ok hok
    have hklen := treeKeys_len f a
    have ewit := fun y => withinB (X := X) (L := L) (k + 22) (treeKeys f a) y (by omega) (by omega)
    obtain ⟨g, ga, gl, hbuild, hgt, hgk, hgh⟩ := build_tree (xs := treeKeys f a) hklen hv1 hv2
    have ebuild := buildB (X := X) hL1 (k + 3) (treeKeys f a) (by omega) (by omega)
    rw [hbuild] at ebuild
    unfold outB at ebuild
    have eokg := fun m => eok m g ga
    have ekeysg := fun m => ekeys m g ga
    have ehighg := fun m => ehigh m g ga
    have ekg : treeKeys g ga = treeKeys f a := by rw [hgt.keys, hgk]
    simp only [hgt.treeOk, ekg, if_true] at eokg ekeysg
    have esame := sameQ (X := X) (L := L) (k + 22) (treeKeys f a) (treeKeys f a) (by omega) (by omega)
    have hleast : (hbF 17 (treeKeys f a).length : Int) ≤ treeHigh f a := by
      have := hb_least (treeKeys f a).length hklen (treeHigh f a).toNat (by omega) w5
      omega
    have hlow : ((2 ^ (hbF 17 (treeKeys f a).length) : Nat) : Int) / 2 ≤ (treeKeys f a).length := by
      by_cases h : (treeKeys f a).length = 0
      · rw [h]; decide
      · have := hb_low (treeKeys f a).length hklen (by omega)
        omega
    have hb16 : hbF 17 (treeKeys f a).length ≤ 16 := by omega
    rw [hgh] at ehighg
    have ekeysf := fun m => ekeys m f a
    have eokf := fun m => eok m f a
    have ehighf := fun m => ehigh m f a
    simp only [hok, if_true] at ekeysf eokf
    have enew := fun m => den_impl_NewTree (X := X) (L := L) (k + 22) m
    obtain ⟨c0, c1, c2, c3, _⟩ := trn_facts f a
    obtain ⟨q0, q1, q2, q3, _⟩ := trn_facts g ga
    have c4 := trn_eqL f a
    have hloop := fun M M' b hb ht ht' st hst => ft_loop (X := X) hL1 k m M M' (.sl (m.length + 1) 0 (treeKeys f a).length (treeKeys f a).length) b g ga (hbF 17 (treeKeys f a).length) hb hgh hb16 ht ht' st hst
    -- added
    rcases hp : treeAdd f a key with ⟨f1, a1, x1⟩
    unfold outT at eadd
    rw [hp] at eadd o1 o2 o3
    simp only at eadd o1 o2 o3
    have efind := fun m => den_impl_TreeFind (X := X) hL1 (k + 2) m f1 a1 key
    rcases hfd : treeFind f1 a1 key with ⟨y1, y2⟩
    rw [hfd] at efind o3
    simp only at efind o3
    have ekeys1 := fun m => ekeys m f1 a1
    have eok1 := fun m => eok m f1 a1
    simp only [o1, if_true] at ekeys1 eok1
    have hl1 := treeKeys_len f1 a1
    -- dropped
    have edrop := fun m => den_impl_TreeDrop (X := X) hL1 (k + 2) m f1 a1 key
    obtain ⟨p1, p2, p3⟩ := treeDrop_ok (key := key) o1
    rcases hd : treeDrop f1 a1 key with ⟨f2, a2, x2⟩
    unfold outT at edrop
    rw [hd] at edrop p1 p2 p3
    simp only at edrop p1 p2 p3
    have ekeys2 := fun m => ekeys m f2 a2
    have eok2 := fun m => eok m f2 a2
    simp only [p1, if_true] at ekeys2 eok2
    have hl2 := treeKeys_len f2 a2
    have ewit2 := fun y => withinB (X := X) (L := L) (k + 22) (treeKeys f2 a2) y (by omega) (by omega)
    obtain ⟨d0, d1, d2, d3, _⟩ := trn_facts f1 a1
    obtain ⟨r0, r1, r2, r3, _⟩ := trn_facts f2 a2
    have d4 := trn_eqL f1 a1
    generalize treeHigh f a = H at *
    generalize hbF 17 (treeKeys f a).length = hb at *
    generalize (2 : Nat) ^ hb = N at hloop hlow
    generalize treeKeys f a = K at *
    have hdrop : (x2 = 0 ∧ key ∉ treeKeys f2 a2 ∧ (treeKeys f2 a2).length + 1 = (treeKeys f1 a1).length) ∨ (¬ x2 = 0 ∧ f2 = f1 ∧ a2 = a1) := by
      by_cases h : x2 = 0
      · exact .inl ⟨h, p3 h⟩
      · exact .inr ⟨h, p2 h⟩
    have hadd : (x1 = 0 ∧ key ∉ K ∧ y2 = 4) ∨ (x1 = 0 ∧ key ∉ K ∧ y2 = 2 ∧ y1 = 8) ∨ x1 = 2 ∨ (x1 = 4 ∧ key ∈ K) ∨ (¬ x1 = 0 ∧ ¬ x1 = 2 ∧ ¬ x1 = 4 ∧ key ∉ K) := by
      by_cases h0 : x1 = 0
      · have hn : key ∉ K := fun hm => by have := o2.2 ⟨by omega, hm⟩; omega
        rcases o3 h0 with h | ⟨h, h'⟩
        · exact .inl ⟨h0, hn, h⟩
        · exact .inr (.inl ⟨h0, hn, h, h'⟩)
      · by_cases h2 : x1 = 2
        · exact .inr (.inr (.inl h2))
        · by_cases h4 : x1 = 4
          · exact .inr (.inr (.inr (.inl ⟨h4, (o2.1 h4).2⟩)))
          · exact .inr (.inr (.inr (.inr ⟨h0, h2, h4, fun hm => h4 (o2.2 ⟨h2, hm⟩)⟩)))
    clear o3 o2 p2 p3 hp hfd hd ekeys eok ehigh
    have hHK : ((K.length : Int) < H) = False := eq_false (by omega)
    have hHb : (H < (hb : Int)) = False := eq_false (by omega)
    have hH0 : (H = 0) = (K = []) := propext (by rw [w4, List.length_eq_zero_iff])
    have hlow' : ((N : Int) / 2 ≤ (K.length : Int)) = True := eq_true hlow
    have hlow2 : (((N : Int)).tdiv 2 ≤ (K.length : Int)) = True := by rw [Int.tdiv_eq_ediv_of_nonneg (by omega)]; exact hlow'
    rcases hadd with ⟨rfl, hkn, rfl⟩ | ⟨rfl, hkn, rfl, rfl⟩ | rfl | ⟨rfl, hkn⟩ | ⟨h0, h2, h4, hkn⟩
    · simp (maxSteps := 1000000) (implicitDefEqProofs := false) (disch := first | omega | (simp [get_app, get_app0]; done) | rfl | (simp only [List.length_cons, List.length_append, List.length_take, List.length_drop, List.length_nil]; omega)) [-getElem?_pos, c_laws_FnTrees, hbig, e0, z65, ekeysf, eokf, ehighf, eat, hkey, hkey2, eadd, efind, ewit, eok1, c0, c1, c2, c3, d0, d1, d2, d3, hHK, hH0, hkn]
      rcases hdrop with ⟨rfl, hk2, hl21⟩ | ⟨hx2, rfl, rfl⟩
      · have hlen2 : ((treeKeys f1 a1).length : Int) - 1 = ((treeKeys f2 a2).length : Int) := by omega
        simp (maxSteps := 1000000) (implicitDefEqProofs := false) (disch := first | omega | (simp [get_app, get_app0]; done) | rfl | (simp only [List.length_cons, List.length_append, List.length_take, List.length_drop, List.length_nil]; omega)) [-getElem?_pos, edrop, ekeys2, eok2, ekeys1, ewit2, hk2, hlen2, d0, d1, d2, d3, r0, r1, r2, r3, ebuild, eokg, ekeysg, esame, ehighg, ehighf, c0, c1, q0, q1, q2, q3, hHb, z65]
        rw [hloop (m ++ [⟨chn f a, 47, 0, true⟩, blkI K, ⟨chn f1 a1, 47, 0, true⟩, ⟨chn f2 a2, 47, 0, true⟩, blkI (treeKeys f2 a2), blkI (treeKeys f1 a1), ⟨chn g ga, 47, 0, true⟩]) (m ++ [⟨chn f a, 47, 0, true⟩, blkI K]) (m.length + 6) (by simp [live, get_app, q0]) (List.take_of_length_le (by simp [mx_eq])) (by simp [mx_eq]) _ (by simp (maxSteps := 1000000) (implicitDefEqProofs := false) (disch := omega) [-getElem?_pos])]
        simp (maxSteps := 1000000) (implicitDefEqProofs := false) (disch := first | omega | (simp [get_app, get_app0]; done) | rfl | (simp only [List.length_cons, List.length_append, List.length_take, List.length_drop, List.length_nil]; omega)) [-getElem?_pos, enew, hlow', hlow2, z65]
      · simp (maxSteps := 1000000) (implicitDefEqProofs := false) (disch := first | omega | (simp [get_app, get_app0]; done) | rfl | (simp only [List.length_cons, List.length_append, List.length_take, List.length_drop, List.length_nil]; omega)) [-getElem?_pos, edrop, ekeys2, eok2, hx2, r0, r1, r2, r3, d4, ebuild, eokg, ekeysg, esame, ehighg, ehighf, c0, c1, q0, q1, q2, q3, hHb, z65]
        rw [hloop (m ++ [⟨chn f a, 47, 0, true⟩, blkI K, ⟨chn f2 a2, 47, 0, true⟩, ⟨chn f2 a2, 47, 0, true⟩, blkI (treeKeys f2 a2), ⟨chn g ga, 47, 0, true⟩]) (m ++ [⟨chn f a, 47, 0, true⟩, blkI K]) (m.length + 5) (by simp [live, get_app, q0]) (List.take_of_length_le (by simp [mx_eq])) (by simp [mx_eq]) _ (by simp (maxSteps := 1000000) (implicitDefEqProofs := false) (disch := omega) [-getElem?_pos])]
        simp (maxSteps := 1000000) (implicitDefEqProofs := false) (disch := first | omega | (simp [get_app, get_app0]; done) | rfl | (simp only [List.length_cons, List.length_append, List.length_take, List.length_drop, List.length_nil]; omega)) [-getElem?_pos, enew, hlow', hlow2, z65]
    · simp (maxSteps := 1000000) (implicitDefEqProofs := false) (disch := first | omega | (simp [get_app, get_app0]; done) | rfl | (simp only [List.length_cons, List.length_append, List.length_take, List.length_drop, List.length_nil]; omega)) [-getElem?_pos, c_laws_FnTrees, hbig, e0, z65, ekeysf, eokf, ehighf, eat, hkey, hkey2, eadd, efind, ewit, eok1, c0, c1, c2, c3, d0, d1, d2, d3, hHK, hH0, hkn]
      rcases hdrop with ⟨rfl, hk2, hl21⟩ | ⟨hx2, rfl, rfl⟩
      · have hlen2 : ((treeKeys f1 a1).length : Int) - 1 = ((treeKeys f2 a2).length : Int) := by omega
        simp (maxSteps := 1000000) (implicitDefEqProofs := false) (disch := first | omega | (simp [get_app, get_app0]; done) | rfl | (simp only [List.length_cons, List.length_append, List.length_take, List.length_drop, List.length_nil]; omega)) [-getElem?_pos, edrop, ekeys2, eok2, ekeys1, ewit2, hk2, hlen2, d0, d1, d2, d3, r0, r1, r2, r3, ebuild, eokg, ekeysg, esame, ehighg, ehighf, c0, c1, q0, q1, q2, q3, hHb, z65]
        rw [hloop (m ++ [⟨chn f a, 47, 0, true⟩, blkI K, ⟨chn f1 a1, 47, 0, true⟩, ⟨chn f2 a2, 47, 0, true⟩, blkI (treeKeys f2 a2), blkI (treeKeys f1 a1), ⟨chn g ga, 47, 0, true⟩]) (m ++ [⟨chn f a, 47, 0, true⟩, blkI K]) (m.length + 6) (by simp [live, get_app, q0]) (List.take_of_length_le (by simp [mx_eq])) (by simp [mx_eq]) _ (by simp (maxSteps := 1000000) (implicitDefEqProofs := false) (disch := omega) [-getElem?_pos])]
        simp (maxSteps := 1000000) (implicitDefEqProofs := false) (disch := first | omega | (simp [get_app, get_app0]; done) | rfl | (simp only [List.length_cons, List.length_append, List.length_take, List.length_drop, List.length_nil]; omega)) [-getElem?_pos, enew, hlow', hlow2, z65]
      · simp (maxSteps := 1000000) (implicitDefEqProofs := false) (disch := first | omega | (simp [get_app, get_app0]; done) | rfl | (simp only [List.length_cons, List.length_append, List.length_take, List.length_drop, List.length_nil]; omega)) [-getElem?_pos, edrop, ekeys2, eok2, hx2, r0, r1, r2, r3, d4, ebuild, eokg, ekeysg, esame, ehighg, ehighf, c0, c1, q0, q1, q2, q3, hHb, z65]
        rw [hloop (m ++ [⟨chn f a, 47, 0, true⟩, blkI K, ⟨chn f2 a2, 47, 0, true⟩, ⟨chn f2 a2, 47, 0, true⟩, blkI (treeKeys f2 a2), ⟨chn g ga, 47, 0, true⟩]) (m ++ [⟨chn f a, 47, 0, true⟩, blkI K]) (m.length + 5) (by simp [live, get_app, q0]) (List.take_of_length_le (by simp [mx_eq])) (by simp [mx_eq]) _ (by simp (maxSteps := 1000000) (implicitDefEqProofs := false) (disch := omega) [-getElem?_pos])]
        simp (maxSteps := 1000000) (implicitDefEqProofs := false) (disch := first | omega | (simp [get_app, get_app0]; done) | rfl | (simp only [List.length_cons, List.length_append, List.length_take, List.length_drop, List.length_nil]; omega)) [-getElem?_pos, enew, hlow', hlow2, z65]
    · simp (maxSteps := 1000000) (implicitDefEqProofs := false) (disch := first | omega | (simp [get_app, get_app0]; done) | rfl | (simp only [List.length_cons, List.length_append, List.length_take, List.length_drop, List.length_nil]; omega)) [-getElem?_pos, c_laws_FnTrees, hbig, e0, z65, ekeysf, eokf, ehighf, eat, hkey, hkey2, eadd, efind, ewit, eok1, c0, c1, c2, c3, d0, d1, d2, d3, hHK, hH0]
      rcases hdrop with ⟨rfl, hk2, hl21⟩ | ⟨hx2, rfl, rfl⟩
      · have hlen2 : ((treeKeys f1 a1).length : Int) - 1 = ((treeKeys f2 a2).length : Int) := by omega
        simp (maxSteps := 1000000) (implicitDefEqProofs := false) (disch := first | omega | (simp [get_app, get_app0]; done) | rfl | (simp only [List.length_cons, List.length_append, List.length_take, List.length_drop, List.length_nil]; omega)) [-getElem?_pos, edrop, ekeys2, eok2, ekeys1, ewit2, hk2, hlen2, d0, d1, d2, d3, r0, r1, r2, r3, ebuild, eokg, ekeysg, esame, ehighg, ehighf, c0, c1, q0, q1, q2, q3, hHb, z65]
        rw [hloop (m ++ [⟨chn f a, 47, 0, true⟩, blkI K, ⟨chn f1 a1, 47, 0, true⟩, ⟨chn f2 a2, 47, 0, true⟩, blkI (treeKeys f2 a2), blkI (treeKeys f1 a1), ⟨chn g ga, 47, 0, true⟩]) (m ++ [⟨chn f a, 47, 0, true⟩, blkI K]) (m.length + 6) (by simp [live, get_app, q0]) (List.take_of_length_le (by simp [mx_eq])) (by simp [mx_eq]) _ (by simp (maxSteps := 1000000) (implicitDefEqProofs := false) (disch := omega) [-getElem?_pos])]
        simp (maxSteps := 1000000) (implicitDefEqProofs := false) (disch := first | omega | (simp [get_app, get_app0]; done) | rfl | (simp only [List.length_cons, List.length_append, List.length_take, List.length_drop, List.length_nil]; omega)) [-getElem?_pos, enew, hlow', hlow2, z65]
      · simp (maxSteps := 1000000) (implicitDefEqProofs := false) (disch := first | omega | (simp [get_app, get_app0]; done) | rfl | (simp only [List.length_cons, List.length_append, List.length_take, List.length_drop, List.length_nil]; omega)) [-getElem?_pos, edrop, ekeys2, eok2, hx2, r0, r1, r2, r3, d4, ebuild, eokg, ekeysg, esame, ehighg, ehighf, c0, c1, q0, q1, q2, q3, hHb, z65]
        rw [hloop (m ++ [⟨chn f a, 47, 0, true⟩, blkI K, ⟨chn f2 a2, 47, 0, true⟩, ⟨chn f2 a2, 47, 0, true⟩, blkI (treeKeys f2 a2), ⟨chn g ga, 47, 0, true⟩]) (m ++ [⟨chn f a, 47, 0, true⟩, blkI K]) (m.length + 5) (by simp [live, get_app, q0]) (List.take_of_length_le (by simp [mx_eq])) (by simp [mx_eq]) _ (by simp (maxSteps := 1000000) (implicitDefEqProofs := false) (disch := omega) [-getElem?_pos])]
        simp (maxSteps := 1000000) (implicitDefEqProofs := false) (disch := first | omega | (simp [get_app, get_app0]; done) | rfl | (simp only [List.length_cons, List.length_append, List.length_take, List.length_drop, List.length_nil]; omega)) [-getElem?_pos, enew, hlow', hlow2, z65]
    · simp (maxSteps := 1000000) (implicitDefEqProofs := false) (disch := first | omega | (simp [get_app, get_app0]; done) | rfl | (simp only [List.length_cons, List.length_append, List.length_take, List.length_drop, List.length_nil]; omega)) [-getElem?_pos, c_laws_FnTrees, hbig, e0, z65, ekeysf, eokf, ehighf, eat, hkey, hkey2, eadd, efind, ewit, eok1, c0, c1, c2, c3, d0, d1, d2, d3, hHK, hH0, hkn]
      rcases hdrop with ⟨rfl, hk2, hl21⟩ | ⟨hx2, rfl, rfl⟩
      · have hlen2 : ((treeKeys f1 a1).length : Int) - 1 = ((treeKeys f2 a2).length : Int) := by omega
        simp (maxSteps := 1000000) (implicitDefEqProofs := false) (disch := first | omega | (simp [get_app, get_app0]; done) | rfl | (simp only [List.length_cons, List.length_append, List.length_take, List.length_drop, List.length_nil]; omega)) [-getElem?_pos, edrop, ekeys2, eok2, ekeys1, ewit2, hk2, hlen2, d0, d1, d2, d3, r0, r1, r2, r3, ebuild, eokg, ekeysg, esame, ehighg, ehighf, c0, c1, q0, q1, q2, q3, hHb, z65]
        rw [hloop (m ++ [⟨chn f a, 47, 0, true⟩, blkI K, ⟨chn f1 a1, 47, 0, true⟩, ⟨chn f2 a2, 47, 0, true⟩, blkI (treeKeys f2 a2), blkI (treeKeys f1 a1), ⟨chn g ga, 47, 0, true⟩]) (m ++ [⟨chn f a, 47, 0, true⟩, blkI K]) (m.length + 6) (by simp [live, get_app, q0]) (List.take_of_length_le (by simp [mx_eq])) (by simp [mx_eq]) _ (by simp (maxSteps := 1000000) (implicitDefEqProofs := false) (disch := omega) [-getElem?_pos])]
        simp (maxSteps := 1000000) (implicitDefEqProofs := false) (disch := first | omega | (simp [get_app, get_app0]; done) | rfl | (simp only [List.length_cons, List.length_append, List.length_take, List.length_drop, List.length_nil]; omega)) [-getElem?_pos, enew, hlow', hlow2, z65]
      · simp (maxSteps := 1000000) (implicitDefEqProofs := false) (disch := first | omega | (simp [get_app, get_app0]; done) | rfl | (simp only [List.length_cons, List.length_append, List.length_take, List.length_drop, List.length_nil]; omega)) [-getElem?_pos, edrop, ekeys2, eok2, hx2, r0, r1, r2, r3, d4, ebuild, eokg, ekeysg, esame, ehighg, ehighf, c0, c1, q0, q1, q2, q3, hHb, z65]
        rw [hloop (m ++ [⟨chn f a, 47, 0, true⟩, blkI K, ⟨chn f2 a2, 47, 0, true⟩, ⟨chn f2 a2, 47, 0, true⟩, blkI (treeKeys f2 a2), ⟨chn g ga, 47, 0, true⟩]) (m ++ [⟨chn f a, 47, 0, true⟩, blkI K]) (m.length + 5) (by simp [live, get_app, q0]) (List.take_of_length_le (by simp [mx_eq])) (by simp [mx_eq]) _ (by simp (maxSteps := 1000000) (implicitDefEqProofs := false) (disch := omega) [-getElem?_pos])]
        simp (maxSteps := 1000000) (implicitDefEqProofs := false) (disch := first | omega | (simp [get_app, get_app0]; done) | rfl | (simp only [List.length_cons, List.length_append, List.length_take, List.length_drop, List.length_nil]; omega)) [-getElem?_pos, enew, hlow', hlow2, z65]
    · simp (maxSteps := 1000000) (implicitDefEqProofs := false) (disch := first | omega | (simp [get_app, get_app0]; done) | rfl | (simp only [List.length_cons, List.length_append, List.length_take, List.length_drop, List.length_nil]; omega)) [-getElem?_pos, c_laws_FnTrees, hbig, e0, z65, ekeysf, eokf, ehighf, eat, hkey, hkey2, eadd, efind, ewit, eok1, c0, c1, c2, c3, d0, d1, d2, d3, hHK, hH0, hkn, h0, h2, h4]
      rcases hdrop with ⟨rfl, hk2, hl21⟩ | ⟨hx2, rfl, rfl⟩
      · have hlen2 : ((treeKeys f1 a1).length : Int) - 1 = ((treeKeys f2 a2).length : Int) := by omega
        simp (maxSteps := 1000000) (implicitDefEqProofs := false) (disch := first | omega | (simp [get_app, get_app0]; done) | rfl | (simp only [List.length_cons, List.length_append, List.length_take, List.length_drop, List.length_nil]; omega)) [-getElem?_pos, edrop, ekeys2, eok2, ekeys1, ewit2, hk2, hlen2, d0, d1, d2, d3, r0, r1, r2, r3, ebuild, eokg, ekeysg, esame, ehighg, ehighf, c0, c1, q0, q1, q2, q3, hHb, z65]
        rw [hloop (m ++ [⟨chn f a, 47, 0, true⟩, blkI K, ⟨chn f1 a1, 47, 0, true⟩, ⟨chn f2 a2, 47, 0, true⟩, blkI (treeKeys f2 a2), blkI (treeKeys f1 a1), ⟨chn g ga, 47, 0, true⟩]) (m ++ [⟨chn f a, 47, 0, true⟩, blkI K]) (m.length + 6) (by simp [live, get_app, q0]) (List.take_of_length_le (by simp [mx_eq])) (by simp [mx_eq]) _ (by simp (maxSteps := 1000000) (implicitDefEqProofs := false) (disch := omega) [-getElem?_pos])]
        simp (maxSteps := 1000000) (implicitDefEqProofs := false) (disch := first | omega | (simp [get_app, get_app0]; done) | rfl | (simp only [List.length_cons, List.length_append, List.length_take, List.length_drop, List.length_nil]; omega)) [-getElem?_pos, enew, hlow', hlow2, z65]
      · simp (maxSteps := 1000000) (implicitDefEqProofs := false) (disch := first | omega | (simp [get_app, get_app0]; done) | rfl | (simp only [List.length_cons, List.length_append, List.length_take, List.length_drop, List.length_nil]; omega)) [-getElem?_pos, edrop, ekeys2, eok2, hx2, r0, r1, r2, r3, d4, ebuild, eokg, ekeysg, esame, ehighg, ehighf, c0, c1, q0, q1, q2, q3, hHb, z65]
        rw [hloop (m ++ [⟨chn f a, 47, 0, true⟩, blkI K, ⟨chn f2 a2, 47, 0, true⟩, ⟨chn f2 a2, 47, 0, true⟩, blkI (treeKeys f2 a2), ⟨chn g ga, 47, 0, true⟩]) (m ++ [⟨chn f a, 47, 0, true⟩, blkI K]) (m.length + 5) (by simp [live, get_app, q0]) (List.take_of_length_le (by simp [mx_eq])) (by simp [mx_eq]) _ (by simp (maxSteps := 1000000) (implicitDefEqProofs := false) (disch := omega) [-getElem?_pos])]
        simp (maxSteps := 1000000) (implicitDefEqProofs := false) (disch := first | omega | (simp [get_app, get_app0]; done) | rfl | (simp only [List.length_cons, List.length_append, List.length_take, List.length_drop, List.length_nil]; omega)) [-getElem?_pos, enew, hlow', hlow2, z65]
end Go.Proofs.Ytdnfcomgdgdifaa
