/-
 Slices of deeds and of what is told, in the law: copied, compared, marked and held to their marks.
-/
import Derived.Test.YtfbeplbcaanimaaGreatWj
set_option linter.unusedVariables false
set_option linter.unusedSimpArgs false
set_option maxHeartbeats 4000000
set_option maxRecDepth 100000
namespace Go.Proofs.YtfbeplbcaanimaaGreat
variable {X : FuncId → List V → List Blk → Option Ret} {L : Nat}
theorem lay_flat {α : Type} {en : α → List C} {w : Nat} (hw : ∀ x, (en x).length = w) : ∀ (xs : List α) (i : Nat) (x : α), i < xs.length → lay (flat en xs) (i * w) (en x) = flat en (xs.set i x)
 | [], i, x, h => by simp at h
 | a :: r, 0, x, _ => by
  rw [Nat.zero_mul]
  show ([] : List C) ++ en x ++ (en a ++ flat en r).drop (0 + (en x).length) = en x ++ flat en r
  rw [Nat.zero_add, hw, ← hw a, List.drop_left, List.nil_append]
 | a :: r, i + 1, x, h => by
  have ih := lay_flat hw r i x (by simpa using h)
  have e : (i + 1) * w = (en a).length + i * w := by rw [hw, Nat.succ_mul, Nat.add_comm]
  show (en a ++ flat en r).take ((i + 1) * w) ++ en x ++ (en a ++ flat en r).drop ((i + 1) * w + (en x).length) = en a ++ flat en (r.set i x)
  rw [← ih, e]
  unfold lay
  rw [List.take_length_add_append, Nat.add_assoc, List.drop_length_add_append]
  simp
def mixd (ds : List Dd) (i : Nat) : List Dd := ds.take i ++ List.replicate (ds.length - i) dd0
theorem mixd_len {ds : List Dd} {i : Nat} (h : i ≤ ds.length) : (mixd ds i).length = ds.length := by simp [mixd]; omega
theorem mixd_set {ds : List Dd} {i : Nat} (h : i < ds.length) : (mixd ds i).set i (ds.getD i dd0) = mixd ds (i + 1) := by
 unfold mixd
 have : ds.length - i = (ds.length - (i + 1)) + 1 := by omega
 have h0 : i - (ds.take i).length = 0 := by simp; omega
 have hg : ds.getD i dd0 = ds[i] := by simp [List.getD_eq_getElem?_getD, h]
 rw [this, List.replicate_succ, List.set_append_right _ _ (by simp; omega), h0, List.take_succ_eq_append_getElem h, List.append_assoc, hg]
 rfl
theorem mixd_all (ds : List Dd) : mixd ds ds.length = ds := by simp [mixd]
theorem mixd_0 (ds : List Dd) : (List.replicate ds.length [C.int .i64 0, C.int .i64 0, C.int .i64 0]).flatten = flat ddE (mixd ds 0) := by
 unfold mixd flat
 rw [List.take_zero, List.nil_append, Nat.sub_zero, List.flatMap_replicate]
 rfl
theorem flat_dd_refs (ts : List Dd) : refsL (flat ddE ts) = 0 := by
 induction ts with
 | nil => rfl
 | cons t r ih => show refsL (ddE t ++ flat ddE r) = 0; rw [refs_append, ih]; simp [ddE, refsL, C.refs, ci, mx_eq]
theorem den_toDeedS (k : Nat) (m : List Blk) (v : C) (ds : List Dd) (hv : DS m v ds) (hL : ds.length < L) (hb : ds.length ≤ 1048576) :
  den T X L (k + 2) 17 [.c v] m = some ⟨.c (.sl m.length 0 ds.length (ds.length * 3)), m ++ [⟨flat ddE ds, 57, 3, true⟩], 0, 0⟩ := by
 rw [den_eq T_17]
 have hr := hv.refs
 have e9 := fun m a x y => den_toDeed (X := X) (L := L) k m a x y
 have hlp := iter_blk (n0 := m.length) (id := 0) (ka := some [3]) (f := fun s => exec (den T X L (k + 1)) L m.length none c_laws_toDeedS_b0 s) (tr := trim m.length (some [0, 3, 4])) (σ := Nat)
  (fun i => ⟨[(0, .c v), (3, .c (.sl m.length 0 ds.length (ds.length * 3))), (4, vi i)], m ++ [⟨flat ddE (mixd ds i), 57, 3, true⟩], 0, 0⟩) (fun i => i ≤ ds.length) (fun i => ds.length - i)
  (fun i => (.norm, ⟨[(3, .c (.sl m.length 0 ds.length (ds.length * 3)))], m ++ [⟨flat ddE (mixd ds ds.length), 57, 3, true⟩], 0, 0⟩)) ?w
 case w =>
  intro i hi
  have hg := fun l => (hv.grow (l := l)).lenV
  by_cases he : i = ds.length
  ·subst he
   refine ⟨.exit 0, _, by simp (maxSteps := 1000000) -implicitDefEqProofs (disch := omega) [-getElem?_pos, c_laws_toDeedS_b0, hg]; rfl, ?_⟩
   simp (maxSteps := 1000000) -implicitDefEqProofs (disch := omega) [-getElem?_pos, -C.refs, cr_sl, cr_ptr, cr_nils, cr_int, cr_bool, cr_ci, c_blkx]
  ·have hi' : (i : Int) < (ds.length : Int) := by omega
   have hlt : i < ds.length := by omega
   have hx := fun l => (hv.grow (l := l)).ixV hlt
   obtain ⟨dd, hdd⟩ : ∃ d, d = ds.getD i dd0 := ⟨_, rfl⟩
   have hd : ∀ l, ldNV (m ++ l) 3 (.c (ptrW 3 v i)) = some (.agg [ci dd.k, ci dd.x, ci dd.y]) := fun l => by rw [hdd]; exact (hv.grow (l := l)).ldV hlt
   have hml := flat_len ddE_len (mixd ds i)
   rw [mixd_len hi] at hml
   have hly : lay (flat ddE (mixd ds i)) (i * 3) [ci dd.k, ci dd.x, ci dd.y] = flat ddE (mixd ds (i + 1)) := by
    rw [← mixd_set hlt, ← hdd]
    exact lay_flat ddE_len (mixd ds i) i dd (by rw [mixd_len hi]; exact hlt)
   have hb2 : i * 3 + 3 ≤ ds.length * 3 := by omega
   refine ⟨.norm, _, by simp (maxSteps := 1000000) -implicitDefEqProofs (disch := omega) [-getElem?_pos, -s_loadN, s_loadN', c_laws_toDeedS_b0, hg, hi', hx, hd, e9, hml, hly, hb2]; rfl, i + 1, ?_, by omega, by omega, rfl⟩
   simp (maxSteps := 1000000) -implicitDefEqProofs (disch := omega) [-getElem?_pos, -C.refs, cr_sl, cr_ptr, cr_nils, cr_int, cr_bool, cr_ci]
 have hb8 : (ds.length : Int) * 24 ≤ 140737488355328 := by omega
 simp (maxSteps := 1000000) -implicitDefEqProofs (disch := omega) [-getElem?_pos, -C.refs, cr_sl, cr_ptr, cr_nils, cr_int, cr_bool, cr_ci, c_laws_toDeedS, hv.lenV, hb8, mixd_0]
 rw [hlp L 0 _ (Nat.zero_le _) ?tr (by show ds.length - 0 < L; omega)]
 case tr =>
  simp (maxSteps := 1000000) -implicitDefEqProofs (disch := omega) [-getElem?_pos, -C.refs, cr_sl, cr_ptr, cr_nils, cr_int, cr_bool, cr_ci]
 simp (maxSteps := 1000000) -implicitDefEqProofs (disch := omega) [-getElem?_pos, -C.refs, cr_sl, cr_ptr, cr_nils, cr_int, cr_bool, cr_ci, mixd_all, flat_dd_refs]
theorem den_szDeedS (k : Nat) (m : List Blk) (v : C) (ds : List Dd) (left : Int) (hv : DS m v ds) (hb : ds.length ≤ 9223372036854775807) (hl : 0 ≤ left ∧ left ≤ 1048576) :
  den T X L (k + 1) 15 [.c v, vi left] m = some ⟨vi (if left - (ds.length : Int) < 0 then -1 else left - (ds.length : Int)), m, 0, 0⟩ := by
 rw [den_eq T_15]
 by_cases h : left - (ds.length : Int) < 0
 ·simp (maxSteps := 1000000) -implicitDefEqProofs (disch := omega) [-getElem?_pos, -C.refs, cr_sl, cr_ptr, cr_nils, cr_int, cr_bool, cr_ci, c_laws_szDeedS, hv.lenV, h]
 ·simp (maxSteps := 1000000) -implicitDefEqProofs (disch := omega) [-getElem?_pos, -C.refs, cr_sl, cr_ptr, cr_nils, cr_int, cr_bool, cr_ci, c_laws_szDeedS, hv.lenV, h]
theorem den_eqDeed (k : Nat) (m : List Blk) (a x y : Int) : den T X L (k + 1) 54 [.agg [ci a, ci x, ci y], .agg [ci a, ci x, ci y]] m = some ⟨vb true, m, 0, 0⟩ := by
 rw [den_eq T_54]
 simp (maxSteps := 1000000) -implicitDefEqProofs (disch := omega) [-getElem?_pos, c_laws_eqDeed]
theorem den_eqDeedS (k : Nat) (m : List Blk) (v w : C) (ds : List Dd) (hv : DS m v ds) (hw : DS m w ds) (hL : ds.length < L) (hb : ds.length ≤ 1048576) :
  den T X L (k + 2) 20 [.c v, .c w] m = some ⟨vb true, m, 0, 0⟩ := by
 rw [den_eq T_20]
 have hr := hv.refs
 have hr2 := hw.refs
 have e9 := fun m a x y => den_eqDeed (X := X) (L := L) k m a x y
 have hlp := iter_blk (n0 := m.length) (id := 0) (ka := some []) (f := fun s => exec (den T X L (k + 1)) L m.length none c_laws_eqDeedS_b0 s) (tr := trim m.length (some [0, 1, 5])) (σ := Nat)
  (fun i => ⟨[(0, .c v), (1, .c w), (5, vi i)], m, 0, 0⟩) (fun i => i ≤ ds.length) (fun i => ds.length - i)
  (fun i => (.norm, ⟨[], m, 0, 0⟩)) ?w
 case w =>
  intro i hi
  by_cases he : i = ds.length
  ·subst he
   refine ⟨.exit 0, _, by simp (maxSteps := 1000000) -implicitDefEqProofs (disch := omega) [-getElem?_pos, c_laws_eqDeedS_b0, hv.lenV]; rfl, ?_⟩
   simp (maxSteps := 1000000) -implicitDefEqProofs (disch := omega) [-getElem?_pos, -C.refs, cr_sl, cr_ptr, cr_nils, cr_int, cr_bool, cr_ci, c_blkx]
  ·have hi' : (i : Int) < (ds.length : Int) := by omega
   have hlt : i < ds.length := by omega
   obtain ⟨dd, hdd⟩ : ∃ d, d = ds.getD i dd0 := ⟨_, rfl⟩
   have hd1 : ldNV m 3 (.c (ptrW 3 v i)) = some (.agg [ci dd.k, ci dd.x, ci dd.y]) := by rw [hdd]; exact hv.ldV hlt
   have hd2 : ldNV m 3 (.c (ptrW 3 w i)) = some (.agg [ci dd.k, ci dd.x, ci dd.y]) := by rw [hdd]; exact hw.ldV hlt
   refine ⟨.norm, _, by simp (maxSteps := 1000000) -implicitDefEqProofs (disch := omega) [-getElem?_pos, -s_loadN, s_loadN', c_laws_eqDeedS_b0, hv.lenV, hi', hv.ixV hlt, hw.ixV hlt, hd1, hd2, e9]; rfl, i + 1, ?_, by omega, by omega, rfl⟩
   simp (maxSteps := 1000000) -implicitDefEqProofs (disch := omega) [-getElem?_pos, -C.refs, cr_sl, cr_ptr, cr_nils, cr_int, cr_bool, cr_ci]
 simp (maxSteps := 1000000) -implicitDefEqProofs (disch := omega) [-getElem?_pos, -C.refs, cr_sl, cr_ptr, cr_nils, cr_int, cr_bool, cr_ci, c_laws_eqDeedS, hv.lenV, hw.lenV]
 rw [hlp L 0 _ (Nat.zero_le _) ?tr (by show ds.length - 0 < L; omega)]
 case tr => simp (maxSteps := 1000000) -implicitDefEqProofs (disch := omega) [-getElem?_pos, -C.refs, cr_sl, cr_ptr, cr_nils, cr_int, cr_bool, cr_ci]
 simp (maxSteps := 1000000) -implicitDefEqProofs (disch := omega) [-getElem?_pos, -C.refs, cr_sl, cr_ptr, cr_nils, cr_int, cr_bool, cr_ci]
theorem den_eqToldS (k : Nat) (m : List Blk) (v w : C) (ts : List Tld) (hv : TS m v ts) (hw : TS m w ts) (hL : ts.length < L) (hb : ts.length ≤ 1048576) :
  den T X L (k + 2) 19 [.c v, .c w] m = some ⟨vb true, m, 0, 0⟩ := by
 rw [den_eq T_19]
 have hr := hv.refs
 have hr2 := hw.refs
 have e9 := fun m a x => den_eqTold (X := X) (L := L) k m a x
 have hlp := iter_blk (n0 := m.length) (id := 0) (ka := some []) (f := fun s => exec (den T X L (k + 1)) L m.length none c_laws_eqToldS_b0 s) (tr := trim m.length (some [0, 1, 5])) (σ := Nat)
  (fun i => ⟨[(0, .c v), (1, .c w), (5, vi i)], m, 0, 0⟩) (fun i => i ≤ ts.length) (fun i => ts.length - i)
  (fun i => (.norm, ⟨[], m, 0, 0⟩)) ?w
 case w =>
  intro i hi
  by_cases he : i = ts.length
  ·subst he
   refine ⟨.exit 0, _, by simp (maxSteps := 1000000) -implicitDefEqProofs (disch := omega) [-getElem?_pos, c_laws_eqToldS_b0, hv.lenV]; rfl, ?_⟩
   simp (maxSteps := 1000000) -implicitDefEqProofs (disch := omega) [-getElem?_pos, -C.refs, cr_sl, cr_ptr, cr_nils, cr_int, cr_bool, cr_ci, c_blkx]
  ·have hi' : (i : Int) < (ts.length : Int) := by omega
   have hlt : i < ts.length := by omega
   obtain ⟨dd, hdd⟩ : ∃ d, d = ts.getD i td0 := ⟨_, rfl⟩
   have hd1 : ldNV m 2 (.c (ptrW 2 v i)) = some (.agg [ci dd.1, ci dd.2]) := by rw [hdd]; exact hv.ldV hlt
   have hd2 : ldNV m 2 (.c (ptrW 2 w i)) = some (.agg [ci dd.1, ci dd.2]) := by rw [hdd]; exact hw.ldV hlt
   refine ⟨.norm, _, by simp (maxSteps := 1000000) -implicitDefEqProofs (disch := omega) [-getElem?_pos, -s_loadN, s_loadN', c_laws_eqToldS_b0, hv.lenV, hi', hv.ixV hlt, hw.ixV hlt, hd1, hd2, e9]; rfl, i + 1, ?_, by omega, by omega, rfl⟩
   simp (maxSteps := 1000000) -implicitDefEqProofs (disch := omega) [-getElem?_pos, -C.refs, cr_sl, cr_ptr, cr_nils, cr_int, cr_bool, cr_ci]
 simp (maxSteps := 1000000) -implicitDefEqProofs (disch := omega) [-getElem?_pos, -C.refs, cr_sl, cr_ptr, cr_nils, cr_int, cr_bool, cr_ci, c_laws_eqToldS, hv.lenV, hw.lenV]
 rw [hlp L 0 _ (Nat.zero_le _) ?tr (by show ts.length - 0 < L; omega)]
 case tr => simp (maxSteps := 1000000) -implicitDefEqProofs (disch := omega) [-getElem?_pos, -C.refs, cr_sl, cr_ptr, cr_nils, cr_int, cr_bool, cr_ci]
 simp (maxSteps := 1000000) -implicitDefEqProofs (disch := omega) [-getElem?_pos, -C.refs, cr_sl, cr_ptr, cr_nils, cr_int, cr_bool, cr_ci]
theorem mkC_all_w {c : Int} {ty : TypeId} {m : List Blk} {b w : Nat} {cs : List C} (h : m[b]? = some ⟨cs, ty, w, true⟩) : m.set b ⟨mkC c 0 cs, ty, w, true⟩ = m := by
 rw [mkC_zero]
 have hlt := lt_of_get h
 apply List.ext_getElem?
 intro j
 by_cases hj : b = j
 ·subst hj; rw [List.getElem?_set_self hlt, h]
 ·rw [List.getElem?_set_ne hj]
theorem den_markToldS (hL : 100 ≤ L) (k : Nat) (m : List Blk) (b n : Nat) (c : Int) (cs : List C) (hm : m[b]? = some ⟨cs, 53, 2, true⟩) (hcs : cs.length = n * 2) (hn : 0 < n) (hx : n < L) (hbn : n ≤ 1048576) (hc : 0 ≤ c ∧ c ≤ 1099511627776) :
  den T X L (k + 1) 22 [.c (.sl b 0 n (n * 2)), vi c] m = some ⟨vi (c + (n : Int) * 2), m.set b ⟨mkC c (n * 2) cs, 53, 2, true⟩, 0, m.length - b⟩ := by
 rw [den_eq T_22]
 have hlt := lt_of_get hm
 have hw : ¬ m.length - b = 0 := by omega
 have hl := iter_blk (n0 := m.length) (id := 0) (ka := some [1]) (f := fun s => exec (den T X L k) L m.length none c_laws_markToldS_b0 s) (tr := trim m.length (some [0, 1, 5])) (σ := Nat)
  (fun i => ⟨[(0, .c (.sl b 0 n (n * 2))), (1, vi (c + (i : Int) * 2)), (5, vi i)], m.set b ⟨mkC c (i * 2) cs, 53, 2, true⟩, 0, if i = 0 then 0 else m.length - b⟩) (fun i => i ≤ n) (fun i => n - i)
  (fun i => (.norm, ⟨[(1, vi (c + (n : Int) * 2))], m.set b ⟨mkC c (n * 2) cs, 53, 2, true⟩, 0, m.length - b⟩)) ?w
 case w =>
  intro i hi
  have hlen := fun q (hq : q ≤ n * 2) => mkC_len (c := c) (n := q) (cs := cs) (by omega)
  have hlv : ∀ q, q ≤ n * 2 → live (m.set b ⟨mkC c q cs, 53, 2, true⟩) b (n * 2) = some ⟨mkC c q cs, 53, 2, true⟩ := fun q hq => by rw [live_set _ _ _ _ hlt]; simp [hlen q hq, hcs]
  by_cases he : i = n
  ·subst he
   refine ⟨.exit 0, _, by simp (maxSteps := 1000000) -implicitDefEqProofs (disch := omega) [-getElem?_pos, c_laws_markToldS_b0, hlv]; rfl, ?_⟩
   simp (maxSteps := 1000000) -implicitDefEqProofs (disch := omega) [-getElem?_pos, c_blkx, take_set', show ¬ i = 0 by omega]
  ·have hi' : (i : Int) < (n : Int) := by omega
   have hin : i < n := by omega
   have hq0 : i * 2 + 2 ≤ n * 2 := by omega
   have hy0 : lay (mkC c (i * 2) cs) (i * 2) [ci (c + (i : Int) * 2)] = mkC c (i * 2 + 1) cs := by
    have := mkC_lay (c := c) (n := i * 2) (cs := cs) (by omega)
    rwa [show (c + ((i * 2 : Nat) : Int)) = c + (i : Int) * 2 by omega] at this
   have hy1 : lay (mkC c (i * 2 + 1) cs) (i * 2 + 1) [ci (c + (i : Int) * 2 + 1)] = mkC c (i * 2 + 2) cs := by
    have := mkC_lay (c := c) (n := i * 2 + 1) (cs := cs) (by omega)
    rwa [show (c + ((i * 2 + 1 : Nat) : Int)) = c + (i : Int) * 2 + 1 by omega] at this
   refine ⟨.norm, _, by simp (maxSteps := 1000000) -implicitDefEqProofs (disch := omega) [-getElem?_pos, c_laws_markToldS_b0, hi', hlv, hlen, hcs, hy0, hy1, List.set_set, List.length_set]; rfl, i + 1, ?_, by omega, by omega, rfl⟩
   have e1 : (i + 1) * 2 = i * 2 + 2 := by omega
   have e2 : c + ((i : Int) + 1) * 2 = c + (i : Int) * 2 + 2 := by omega
   simp (maxSteps := 1000000) -implicitDefEqProofs (disch := omega) [-getElem?_pos, take_set', e1, e2]
   refine ⟨by omega, ?_⟩
   simp only [mx_eq]
   split <;> omega
 have h0 : m.set b ⟨mkC c (0 * 2) cs, 53, 2, true⟩ = m := by rw [Nat.zero_mul]; exact mkC_all_w hm
 rw [Nat.zero_mul] at h0
 have hlv : live m b (n * 2) = some ⟨cs, 53, 2, true⟩ := by simp [live, hm, hcs]
 simp (maxSteps := 1000000) -implicitDefEqProofs (disch := omega) [-getElem?_pos, c_laws_markToldS]
 rw [hl L 0 _ (Nat.zero_le _) ?tr (by show n - 0 < L; omega)]
 case tr => simp (maxSteps := 1000000) -implicitDefEqProofs (disch := omega) [-getElem?_pos, take_mx, h0]
 simp (maxSteps := 1000000) -implicitDefEqProofs (disch := omega) [-getElem?_pos, hw]
theorem den_markDeedS (hL : 100 ≤ L) (k : Nat) (m : List Blk) (b n : Nat) (c : Int) (cs : List C) (hm : m[b]? = some ⟨cs, 57, 3, true⟩) (hcs : cs.length = n * 3) (hn : 0 < n) (hx : n < L) (hbn : n ≤ 1048576) (hc : 0 ≤ c ∧ c ≤ 1099511627776) :
  den T X L (k + 1) 21 [.c (.sl b 0 n (n * 3)), vi c] m = some ⟨vi (c + (n : Int) * 3), m.set b ⟨mkC c (n * 3) cs, 57, 3, true⟩, 0, m.length - b⟩ := by
 rw [den_eq T_21]
 have hlt := lt_of_get hm
 have hw : ¬ m.length - b = 0 := by omega
 have hl := iter_blk (n0 := m.length) (id := 0) (ka := some [1]) (f := fun s => exec (den T X L k) L m.length none c_laws_markDeedS_b0 s) (tr := trim m.length (some [0, 1, 5])) (σ := Nat)
  (fun i => ⟨[(0, .c (.sl b 0 n (n * 3))), (1, vi (c + (i : Int) * 3)), (5, vi i)], m.set b ⟨mkC c (i * 3) cs, 57, 3, true⟩, 0, if i = 0 then 0 else m.length - b⟩) (fun i => i ≤ n) (fun i => n - i)
  (fun i => (.norm, ⟨[(1, vi (c + (n : Int) * 3))], m.set b ⟨mkC c (n * 3) cs, 57, 3, true⟩, 0, m.length - b⟩)) ?w
 case w =>
  intro i hi
  have hlen := fun q (hq : q ≤ n * 3) => mkC_len (c := c) (n := q) (cs := cs) (by omega)
  have hlv : ∀ q, q ≤ n * 3 → live (m.set b ⟨mkC c q cs, 57, 3, true⟩) b (n * 3) = some ⟨mkC c q cs, 57, 3, true⟩ := fun q hq => by rw [live_set _ _ _ _ hlt]; simp [hlen q hq, hcs]
  by_cases he : i = n
  ·subst he
   refine ⟨.exit 0, _, by simp (maxSteps := 1000000) -implicitDefEqProofs (disch := omega) [-getElem?_pos, c_laws_markDeedS_b0, hlv]; rfl, ?_⟩
   simp (maxSteps := 1000000) -implicitDefEqProofs (disch := omega) [-getElem?_pos, c_blkx, take_set', show ¬ i = 0 by omega]
  ·have hi' : (i : Int) < (n : Int) := by omega
   have hin : i < n := by omega
   have hq0 : i * 3 + 3 ≤ n * 3 := by omega
   have hy0 : lay (mkC c (i * 3) cs) (i * 3) [ci (c + (i : Int) * 3)] = mkC c (i * 3 + 1) cs := by
    have := mkC_lay (c := c) (n := i * 3) (cs := cs) (by omega)
    rwa [show (c + ((i * 3 : Nat) : Int)) = c + (i : Int) * 3 by omega] at this
   have hy1 : lay (mkC c (i * 3 + 1) cs) (i * 3 + 1) [ci (c + (i : Int) * 3 + 1)] = mkC c (i * 3 + 2) cs := by
    have := mkC_lay (c := c) (n := i * 3 + 1) (cs := cs) (by omega)
    rwa [show (c + ((i * 3 + 1 : Nat) : Int)) = c + (i : Int) * 3 + 1 by omega] at this
   have hy2 : lay (mkC c (i * 3 + 2) cs) (i * 3 + 2) [ci (c + (i : Int) * 3 + 1 + 1)] = mkC c (i * 3 + 3) cs := by
    have := mkC_lay (c := c) (n := i * 3 + 2) (cs := cs) (by omega)
    rwa [show (c + ((i * 3 + 2 : Nat) : Int)) = c + (i : Int) * 3 + 1 + 1 by omega] at this
   refine ⟨.norm, _, by simp (maxSteps := 1000000) -implicitDefEqProofs (disch := omega) [-getElem?_pos, c_laws_markDeedS_b0, hi', hlv, hlen, hcs, hy0, hy1, hy2, List.set_set, List.length_set]; rfl, i + 1, ?_, by omega, by omega, rfl⟩
   have e1 : (i + 1) * 3 = i * 3 + 3 := by omega
   have e2 : c + ((i : Int) + 1) * 3 = c + (i : Int) * 3 + 3 := by omega
   simp (maxSteps := 1000000) -implicitDefEqProofs (disch := omega) [-getElem?_pos, take_set', e1, e2]
   refine ⟨by omega, ?_⟩
   simp only [mx_eq]
   split <;> omega
 have h0 : m.set b ⟨mkC c (0 * 3) cs, 57, 3, true⟩ = m := by rw [Nat.zero_mul]; exact mkC_all_w hm
 rw [Nat.zero_mul] at h0
 have hlv : live m b (n * 3) = some ⟨cs, 57, 3, true⟩ := by simp [live, hm, hcs]
 simp (maxSteps := 1000000) -implicitDefEqProofs (disch := omega) [-getElem?_pos, c_laws_markDeedS]
 rw [hl L 0 _ (Nat.zero_le _) ?tr (by show n - 0 < L; omega)]
 case tr => simp (maxSteps := 1000000) -implicitDefEqProofs (disch := omega) [-getElem?_pos, take_mx, h0]
 simp (maxSteps := 1000000) -implicitDefEqProofs (disch := omega) [-getElem?_pos, hw]
theorem den_heldToldS (k : Nat) (m : List Blk) (b n : Nat) (c : Int) (cs : List C) (hm : m[b]? = some ⟨cs, 53, 2, true⟩) (hcs : cs.length = n * 2) (hmk : ∀ j, j < n * 2 → cs[j]? = some (ci (c + j))) (hx : n < L) (hbn : n ≤ 1048576) (hc : 0 ≤ c ∧ c ≤ 1099511627776) :
  den T X L (k + 1) 23 [.c (.sl b 0 n (n * 2)), vi c] m = some ⟨vi (c + (n : Int) * 2), m, 0, 0⟩ := by
 rw [den_eq T_23]
 have hlv : live m b (n * 2) = some ⟨cs, 53, 2, true⟩ := by simp [live, hm, hcs]
 have hl := iter_blk (n0 := m.length) (id := 0) (ka := some [1]) (f := fun s => exec (den T X L k) L m.length none c_laws_heldToldS_b0 s) (tr := trim m.length (some [0, 1, 5])) (σ := Nat)
  (fun i => ⟨[(0, .c (.sl b 0 n (n * 2))), (1, vi (c + (i : Int) * 2)), (5, vi i)], m, 0, 0⟩) (fun i => i ≤ n) (fun i => n - i)
  (fun i => (.norm, ⟨[(1, vi (c + (n : Int) * 2))], m, 0, 0⟩)) ?w
 case w =>
  intro i hi
  by_cases he : i = n
  ·subst he
   refine ⟨.exit 0, _, by simp (maxSteps := 1000000) -implicitDefEqProofs (disch := omega) [-getElem?_pos, c_laws_heldToldS_b0, hlv]; rfl, ?_⟩
   simp (maxSteps := 1000000) -implicitDefEqProofs (disch := omega) [-getElem?_pos, c_blkx, take_mx]
  ·have hi' : (i : Int) < (n : Int) := by omega
   have h1 : cs[i * 2]? = some (ci (c + (i : Int) * 2)) := by
    have := hmk (i * 2) (by omega)
    rwa [show (c + ((i * 2 : Nat) : Int)) = c + (i : Int) * 2 by omega] at this
   have h2 : cs[i * 2 + 1]? = some (ci (c + (i : Int) * 2 + 1)) := by
    have := hmk (i * 2 + 1) (by omega)
    rwa [show (c + ((i * 2 + 1 : Nat) : Int)) = c + (i : Int) * 2 + 1 by omega] at this
   refine ⟨.norm, _, by simp (maxSteps := 1000000) -implicitDefEqProofs (disch := omega) [-getElem?_pos, c_laws_heldToldS_b0, hi', hlv, h1, h2]; rfl, i + 1, ?_, by omega, by omega, rfl⟩
   simp (maxSteps := 1000000) -implicitDefEqProofs (disch := omega) [-getElem?_pos, take_mx]
   omega
 simp (maxSteps := 1000000) -implicitDefEqProofs (disch := omega) [-getElem?_pos, c_laws_heldToldS]
 rw [hl L 0 _ (Nat.zero_le _) ?tr (by show n - 0 < L; omega)]
 case tr => simp (maxSteps := 1000000) -implicitDefEqProofs (disch := omega) [-getElem?_pos, take_mx]
 simp (maxSteps := 1000000) -implicitDefEqProofs (disch := omega) [-getElem?_pos]
theorem den_heldTN (hL : 100 ≤ L) (k : Nat) (m : List Blk) (c : Int) : den T X L (k + 1) 23 [.c .nils, vi c] m = some ⟨vi c, m, 0, 0⟩ := by
 rw [den_eq T_23]
 have hl := iter_up (f := fun s => exec (den T X L k) L m.length none c_laws_heldToldS_b0 s) (tr := trim m.length (some [0, 1, 5])) (fun i => ⟨[(0, .c .nils), (1, vi c), (5, vi 0)], m, 0, 0⟩) 0 (fun i hi => by omega) ⟨0, _, by simp (maxSteps := 1000000) -implicitDefEqProofs (disch := omega) [-getElem?_pos, c_laws_heldToldS_b0]; rfl⟩
 simp (maxSteps := 1000000) -implicitDefEqProofs (disch := omega) [-getElem?_pos, c_laws_heldToldS]
 rw [hl L 0 _ ?tr (by omega) (by omega)]
 case tr => simp (maxSteps := 1000000) -implicitDefEqProofs (disch := omega) [-getElem?_pos, take_mx]
 simp (maxSteps := 1000000) -implicitDefEqProofs (disch := omega) [-getElem?_pos, c_laws_heldToldS_b0, take_mx]
theorem den_markTN (hL : 100 ≤ L) (k : Nat) (m : List Blk) (c : Int) : den T X L (k + 1) 22 [.c .nils, vi c] m = some ⟨vi c, m, 0, 0⟩ := by
 rw [den_eq T_22]
 have hl := iter_up (f := fun s => exec (den T X L k) L m.length none c_laws_markToldS_b0 s) (tr := trim m.length (some [0, 1, 5])) (fun i => ⟨[(0, .c .nils), (1, vi c), (5, vi 0)], m, 0, 0⟩) 0 (fun i hi => by omega) ⟨0, _, by simp (maxSteps := 1000000) -implicitDefEqProofs (disch := omega) [-getElem?_pos, c_laws_markToldS_b0]; rfl⟩
 simp (maxSteps := 1000000) -implicitDefEqProofs (disch := omega) [-getElem?_pos, c_laws_markToldS]
 rw [hl L 0 _ ?tr (by omega) (by omega)]
 case tr => simp (maxSteps := 1000000) -implicitDefEqProofs (disch := omega) [-getElem?_pos, take_mx]
 simp (maxSteps := 1000000) -implicitDefEqProofs (disch := omega) [-getElem?_pos, c_laws_markToldS_b0, take_mx]
theorem den_markD0 (hL : 100 ≤ L) (k : Nat) (m : List Blk) (b : Nat) (c : Int) (ty : TypeId) (hm : m[b]? = some ⟨[], ty, 3, true⟩) : den T X L (k + 1) 21 [.c (.sl b 0 0 0), vi c] m = some ⟨vi c, m, 0, 0⟩ := by
 rw [den_eq T_21]
 have hlv : live m b 0 = some ⟨[], ty, 3, true⟩ := by simp [live, hm]
 have hl := iter_up (f := fun s => exec (den T X L k) L m.length none c_laws_markDeedS_b0 s) (tr := trim m.length (some [0, 1, 5])) (fun i => ⟨[(0, .c (.sl b 0 0 0)), (1, vi c), (5, vi 0)], m, 0, 0⟩) 0 (fun i hi => by omega) ⟨0, _, by simp (maxSteps := 1000000) -implicitDefEqProofs (disch := omega) [-getElem?_pos, c_laws_markDeedS_b0, hlv]; rfl⟩
 simp (maxSteps := 1000000) -implicitDefEqProofs (disch := omega) [-getElem?_pos, c_laws_markDeedS]
 rw [hl L 0 _ ?tr (by omega) (by omega)]
 case tr => simp (maxSteps := 1000000) -implicitDefEqProofs (disch := omega) [-getElem?_pos, take_mx]
 simp (maxSteps := 1000000) -implicitDefEqProofs (disch := omega) [-getElem?_pos, c_laws_markDeedS_b0, hlv, take_mx]
theorem den_markT0 (hL : 100 ≤ L) (k : Nat) (m : List Blk) (b : Nat) (c : Int) (ty : TypeId) (hm : m[b]? = some ⟨[], ty, 2, true⟩) : den T X L (k + 1) 22 [.c (.sl b 0 0 0), vi c] m = some ⟨vi c, m, 0, 0⟩ := by
 rw [den_eq T_22]
 have hlv : live m b 0 = some ⟨[], ty, 2, true⟩ := by simp [live, hm]
 have hl := iter_up (f := fun s => exec (den T X L k) L m.length none c_laws_markToldS_b0 s) (tr := trim m.length (some [0, 1, 5])) (fun i => ⟨[(0, .c (.sl b 0 0 0)), (1, vi c), (5, vi 0)], m, 0, 0⟩) 0 (fun i hi => by omega) ⟨0, _, by simp (maxSteps := 1000000) -implicitDefEqProofs (disch := omega) [-getElem?_pos, c_laws_markToldS_b0, hlv]; rfl⟩
 simp (maxSteps := 1000000) -implicitDefEqProofs (disch := omega) [-getElem?_pos, c_laws_markToldS]
 rw [hl L 0 _ ?tr (by omega) (by omega)]
 case tr => simp (maxSteps := 1000000) -implicitDefEqProofs (disch := omega) [-getElem?_pos, take_mx]
 simp (maxSteps := 1000000) -implicitDefEqProofs (disch := omega) [-getElem?_pos, c_laws_markToldS_b0, hlv, take_mx]
end Go.Proofs.YtfbeplbcaanimaaGreat
