/-
 Batches: the reference's Batch.
-/
import Derived.Test.YtfbeplbcaanimaaGreatWk
set_option linter.unusedVariables false
set_option linter.unusedSimpArgs false
set_option maxHeartbeats 4000000
set_option maxRecDepth 100000
namespace Go.Proofs.YtfbeplbcaanimaaGreat
variable {L : Nat}
theorem spec_Batch (hL : 4000000 ≤ L) (k : Nat) (m : List Blk) (s : Spc) (v dv : C) (xss : List (List Int)) (ds : List Dd) (hv : SSA m v xss) (hd : DS m dv ds) (b1 : xss.length ≤ 1048576) (b2 : ∀ xs ∈ xss, xs.length ≤ 1048576) (bt : tot xss ≤ 1073741824) (hdl : ds.length ≤ 1048576) :
  ∃ M c tv e lo hi q, den T libX L (k + 24) 16 [.agg (spC s v), .c dv] m = some ⟨.tup [.agg (spC (batch (s, xss) ds).1.1 c), .c tv, vb (batch (s, xss) ds).2.2], M, e, 0⟩ ∧ BRes m M e c (batch (s, xss) ds).1.2 tv (batch (s, xss) ds).2.1 lo hi q := by
 rw [den_eq T_16]
 have hcr := hv.refs
 have hdr := hd.refs
 obtain ⟨m1, hm1⟩ : ∃ m1, m1 = m ++ [⟨spC s v, 51, 0, true⟩, ⟨spC spZ .nils, 51, 0, true⟩] := ⟨_, rfl⟩
 have hx0 : Ext m m1 := by rw [hm1]; exact ⟨_, rfl⟩
 have hl1 : m1.length = m.length + 2 := by rw [hm1]; simp
 have vA : live m1 m.length 141 = some ⟨spC s v, 51, 0, true⟩ := by rw [hm1]; exact lvAt0 (sp_len _ _).symm
 have vZ : live m1 (m.length + 1) 141 = some ⟨spC spZ .nils, 51, 0, true⟩ := by rw [hm1]; exact lvAt rfl (sp_len _ _).symm
 obtain ⟨M1, c1, e1, d1, x1, s1, q1⟩ := den_l17Copy (X := libX) (L := L) (by omega) (k + 20) m1 s v xss (by rw [hm1]; exact hv.grow) b1 b2
 have l1 := x1.len
 have x01 := hx0.trans x1
 rw [hm1] at d1
 obtain ⟨qc, nc, rfl⟩ := s1.form
 have wA := x1.lv vA
 have wZ := x1.lv vZ
 have lenM : ∀ l, lenV (M1 ++ l) (.c dv) = some (vi ds.length) := fun l => ((hd.ext x01).grow).lenV
 have h1 : m.length + 1 < M1.length := by omega
 have st1 : ∀ l W, (M1 ++ l).set (m.length + 1) W = M1.set (m.length + 1) W ++ l := fun l W => List.set_append_left _ _ h1
 have wZ2 : ∀ l W n, live (M1.set (m.length + 1) W ++ l) (m.length + 1) n = if n = W.cs.length then some W else none := fun l W n => live_s1 h1 l W n
 have htk : ∀ a W F T, List.take (mx m.length (mx (mx (mx (mx a e1) (qc + 1)) (qc + 1)) (M1.length + 2))) (M1.set (m.length + 1) W ++ [F, T]) = M1.set (m.length + 1) W ++ [F, T] := fun a W F T => List.take_of_length_le (by simp only [List.length_append, List.length_set, List.length_cons, List.length_nil, mx_eq]; omega)
 unfold batch
 by_cases h30 : 30 < ds.length
 ·rw [if_pos h30]
  have h30' : (30 : Int) < (ds.length : Int) := by omega
  generalize hd' : runF _ _ _ _ _ = dd
  simp (maxSteps := 1000000) -implicitDefEqProofs (disch := first | omega | (simp [get_app, get_app0]; done) | rfl | (simp only [List.length_cons, List.length_append, List.length_take, List.length_drop, List.length_nil]; omega)) [-getElem?_pos, -fin, -C.refs, cr_sl, cr_ptr, cr_nils, cr_int, cr_bool, cr_ci, c_spec_Batch, z141, sp_len, sp_refs, sp_take, sp_over, d1, wA, wZ, lenM, h30', st1, h1, wZ2, htk] at hd'
  subst hd'
  have hsz : M1.length ≤ mx (mx (mx v.refs e1) (qc + 1)) (qc + 1) := by simp only [cr_sl, mx_eq] at q1 ⊢; omega
  have := fin_bat (s := s) (ok := false) (ts := []) (env := [(4, .c (.ptr (m.length + 1) 0 141)), (5, .c (.sl (M1.length + 1) 0 0 0)), (6, vb false)]) (m := m) (M := M1.set (m.length + 1) ⟨spC s (.sl qc 0 nc nc), 51, 0, true⟩ ++ [⟨spC s (.sl qc 0 nc nc), 51, 0, true⟩, ⟨[], 53, 2, true⟩]) (e := mx (mx (mx v.refs e1) (qc + 1)) (qc + 1)) (q := M1.length + 1) ((x01.put (by omega)).trans ⟨_, rfl⟩) ((s1.set (.inl (by omega))).grow (by simp)) (by omega) (by simp) (Nat.le_trans hsz (le_mx_l _ _)) (by rw [List.getElem?_append_right (by simp)]; simp [flat]) (by omega) (.inr (by omega))
  obtain ⟨M', c', tv, e', lo', hi', q', f1, f2⟩ := this
  exact ⟨M', c', tv, e', lo', hi', q', congrArg some f1, f2⟩
 ·rw [if_neg h30]
  have h30' : ¬ (30 : Int) < (ds.length : Int) := by omega
  obtain ⟨q7, hq7⟩ : ∃ q, q = M1.length := ⟨_, rfl⟩
  obtain ⟨q8, hq8⟩ : ∃ q, q = M1.length + 1 := ⟨_, rfl⟩
  have g7 : m.length + 2 ≤ q7 := by omega
  have g8 : m.length + 2 ≤ q8 := by omega
  have g78 : q7 ≠ q8 := by omega
  have hlp := iter_ex (n0 := m.length) (id := 0) (ka := some [4, 7, 8]) (f := fun s => exec (den T libX L (k + 23)) L m.length none c_spec_Batch_b0 s) (tr := trim m.length (some [1, 2, 4, 7, 8, 9])) (σ := BSt)
   (fun t => ⟨[(1, .c dv), (2, .c (.ptr m.length 0 141)), (4, .c (.ptr (m.length + 1) 0 141)), (7, .c (.ptr q7 0 141)), (8, .c (.sl q8 0 t.ts.length (t.ts.length * 2))), (9, vi t.i)], t.M, t.e, 0⟩)
   (BI m s v xss ds q7 q8) (fun t => ds.length - t.i)
   (fun r => (∃ t : BSt, r = (.norm, ⟨[(4, .c (.ptr (m.length + 1) 0 141)), (7, .c (.ptr q7 0 141)), (8, .c (.sl q8 0 t.ts.length (t.ts.length * 2)))], t.M, t.e, 0⟩) ∧ BI m s v xss ds q7 q8 t ∧ t.i = ds.length) ∨
    (∃ M' e' c3 lo hi ts, r = (.ret, ⟨[(4, .c (.ptr (m.length + 1) 0 141)), (5, .c (.sl q8 0 ts.length (ts.length * 2))), (6, vb false)], M', e', 0⟩) ∧ batF (s, xss) ds = (ts, none) ∧ Ext m M' ∧ live M' (m.length + 1) 141 = some ⟨spC s c3, 51, 0, true⟩ ∧ M'[q8]? = some ⟨flat tdC ts, 53, 2, true⟩ ∧ SO M' lo hi c3 xss ∧ m.length + 2 ≤ lo ∧ hi ≤ M'.length ∧ hi ≤ e' ∧ (q8 < lo ∨ hi ≤ q8))) ?w
  case w =>
   intro t hI
   have hds := hd.ext hI.ext
   have hlv := hds.lenV
   have k7 := live_lt hI.S7
   have k8 := lt_of_get hI.S8
   have ktl : t.ts.length ≤ 30 := by
    have := batF_len ds (s, xss)
    rw [hI.run, List.length_append] at this
    omega
   by_cases he : t.i = ds.length
   ·have he' : ¬ (t.i : Int) < (ds.length : Int) := by omega
    refine ⟨.exit 0, _, by simp (maxSteps := 1000000) -implicitDefEqProofs (disch := first | omega | (simp [get_app, get_app0]; done) | rfl | (simp only [List.length_cons, List.length_append, List.length_take, List.length_drop, List.length_nil]; omega)) [-getElem?_pos, -C.refs, cr_sl, cr_ptr, cr_nils, cr_int, cr_bool, cr_ci, z141, sp_len, sp_refs, sp_take, sp_over, c_spec_Batch_b0, hlv, he']; rfl, ?_⟩
    refine ⟨_, by simp (maxSteps := 1000000) -implicitDefEqProofs (disch := first | omega | (simp [get_app, get_app0]; done) | rfl | (simp only [List.length_cons, List.length_append, List.length_take, List.length_drop, List.length_nil]; omega)) [-getElem?_pos, -C.refs, cr_sl, cr_ptr, cr_nils, cr_int, cr_bool, cr_ci, c_blkx]; rfl, .inl ⟨_, rfl, hI.cut ?_ ?_ ?_ ?_, he⟩⟩
    all_goals (simp only [mx_eq]; have := hI.he; have := hI.hi; omega)
   ·have hi' : t.i < ds.length := by have := hI.il; omega
    have hlt : (t.i : Int) < (ds.length : Int) := by omega
    obtain ⟨dd, hdd⟩ : ∃ d, d = ds.getD t.i dd0 := ⟨_, rfl⟩
    obtain ⟨bd, od, td, blk, rfl, hld0, hcs0⟩ : ∃ b off tot blk, dv = .sl b off ds.length tot ∧ live m b tot = some blk ∧ ((blk.cs.drop (off + t.i * 3)).take 3 = [ci dd.k, ci dd.x, ci dd.y] ∧ off + t.i * 3 + 3 ≤ blk.cs.length) := by
     rcases hd with ⟨_, h⟩ | ⟨b, off, tot, blk, h1, h2, h3⟩
     ·rw [h] at hi'; simp at hi'
     ·exact ⟨b, off, tot, blk, h1, h2, by rw [hdd]; exact (h3 t.i hi').1, (h3 t.i hi').2⟩
    obtain ⟨hcs, hle⟩ := hcs0
    have hbd := live_lt hld0
    have hld : ∀ r, live (t.M ++ r) bd td = some blk := hI.ext.lv hld0
    have hel := hI.ext.len
    obtain ⟨N, c', e', d2, ⟨l, rfl⟩, s2, q2⟩ := spec_DoDeed (L := L) (by omega) k (t.M ++ [dead, dead]) t.z.1 t.c t.z.2 ((hI.so.ssa).grow) dd hI.b1 hI.b2
    have hnx := fun (Y1 Y2 Lt : Blk) (e'' : Nat) (h1 : t.M.length + 2 + l.length ≤ e'') (h2 : (doDeed t.z.1 t.z.2 dd).2.2.1 ≤ 1) => hI.next hi' g7 g8 g78 (Y1 := Y1) (Y2 := Y2) (Lt := Lt) (by rw [← hdd]; exact s2) h1 (by rw [← hdd]; exact h2)
    have hbs := batF_step hi' hI.run
    rw [← hdd] at hnx hbs
    obtain ⟨qc', nc', rfl⟩ := s2.form
    simp only [List.append_assoc, List.cons_append, List.nil_append] at d2
    have S7 : ∀ r, live (t.M ++ r) q7 141 = some ⟨spC t.z.1 t.c, 51, 0, true⟩ := fun r => live_grow hI.S7
    have S8 : ∀ r, live (t.M ++ r) q8 (t.ts.length * 2) = some ⟨flat tdC t.ts, 53, 2, true⟩ := fun r => live_grow (by unfold live; rw [hI.S8, Option.bind_some, if_pos (flat_len tdC_len _).symm])
    have st8 : ∀ r W, (t.M ++ r).set q8 W = t.M.set q8 W ++ r := fun r W => List.set_append_left _ _ k8
    have S7' : ∀ W r, live (t.M.set q8 W ++ r) q7 141 = some ⟨spC t.z.1 t.c, 51, 0, true⟩ := fun W r => live_grow (live_put hI.S7 (Ne.symm g78))
    have st7 : ∀ W W' r, (t.M.set q8 W ++ r).set q7 W' = (t.M.set q8 W).set q7 W' ++ r := fun W W' r => List.set_append_left _ _ (by simpa using k7)
    have fs : flat tdC t.ts ++ [ci (doDeed t.z.1 t.z.2 dd).2.2.1, ci (doDeed t.z.1 t.z.2 dd).2.2.2] = flat tdC (t.ts ++ [(doDeed t.z.1 t.z.2 dd).2.2]) := flat_snoc _ _
    by_cases hc : (doDeed t.z.1 t.z.2 dd).2.2.1 ≤ 1
    ·have hnx := fun Y1 Y2 Lt e'' h1 => hnx Y1 Y2 Lt e'' h1 hc
     have hc' : ¬ 1 < (doDeed t.z.1 t.z.2 dd).2.2.1 := by omega
     generalize doDeed t.z.1 t.z.2 dd = y at d2 s2 hnx fs hc'
     refine ⟨.norm, _, by simp (maxSteps := 1000000) -implicitDefEqProofs (disch := first | omega | (simp [get_app, get_app0]; done) | rfl | (simp only [List.length_cons, List.length_append, List.length_take, List.length_drop, List.length_nil]; omega)) [-getElem?_pos, -C.refs, cr_sl, cr_ptr, cr_nils, cr_int, cr_bool, cr_ci, z141, sp_len, sp_refs, sp_take, sp_over, c_spec_Batch_b0, hlv, hlt, hld, hle, hcs, d2, S7, S8, st8, S7', st7, fs, hc']; rfl, ?_⟩
     refine ⟨⟨t.i + 1, List.take (mx m.length (mx (mx (mx (mx t.e e') (qc' + 1)) (qc' + 1)) (q8 + 1))) ((t.M.set q8 ⟨flat tdC (t.ts ++ [y.2.2]), 53, 2, true⟩).set q7 ⟨spC y.1 (.sl qc' 0 nc' nc'), 51, 0, true⟩ ++ ⟨spC y.1 (.sl qc' 0 nc' nc'), 51, 0, true⟩ :: ⟨[ci y.2.2.1, ci y.2.2.2], 53, 0, true⟩ :: (l ++ [⟨[ci y.2.2.1, ci y.2.2.2], 53, 2, true⟩])), mx (mx (mx t.e e') (qc' + 1)) (qc' + 1), (y.1, y.2.1), t.ts ++ [y.2.2], .sl qc' 0 nc' nc', t.M.length + 2, t.M.length + 2 + l.length⟩, ?h1, ?h2, by show ds.length - (t.i + 1) < ds.length - t.i; omega⟩
     case h1 =>
      simp (maxSteps := 1000000) -implicitDefEqProofs (disch := omega) [-getElem?_pos, -C.refs, cr_sl, cr_ptr, cr_nils, cr_int, cr_bool, cr_ci]
      omega
     case h2 =>
      have hE : t.M.length + 2 + l.length ≤ mx (mx (mx t.e e') (qc' + 1)) (qc' + 1) := by
       simp only [List.length_append, List.length_cons, List.length_nil, cr_sl, mx_eq] at q2 ⊢
       omega
      refine (hnx _ _ _ _ hE).cut ?_ ?_ ?_ ?_
      all_goals (simp only [mx_eq] at hE ⊢; have := hI.len; omega)
    ·have hrun := hbs.2 hc
     have hc' : 1 < (doDeed t.z.1 t.z.2 dd).2.2.1 := by omega
     generalize doDeed t.z.1 t.z.2 dd = y at d2 s2 fs hc' hrun
     have hxP : Ext m (t.M.set q8 ⟨flat tdC (t.ts ++ [y.2.2]), 53, 2, true⟩ ++ ⟨spC y.1 (.sl qc' 0 nc' nc'), 51, 0, true⟩ :: ⟨[ci y.2.2.1, ci y.2.2.2], 53, 0, true⟩ :: (l ++ [⟨[ci y.2.2.1, ci y.2.2.2], 53, 2, true⟩])) := (hI.ext.put (by omega)).trans ⟨_, rfl⟩
     obtain ⟨M3, c3, e3, d3, x3, s3, q3⟩ := den_l17Copy (X := libX) (L := L) (by omega) (k + 20) _ s v xss (hxP.ssa hv) b1 b2
     have A8 : ∀ W r, live (t.M.set q8 W ++ r) m.length 141 = some ⟨spC s v, 51, 0, true⟩ := fun W r => live_grow (live_put hI.A (by omega))
     have Z3 : live M3 (m.length + 1) 141 = some ⟨spC spZ .nils, 51, 0, true⟩ := x3.lv0 (live_grow (live_put hI.Z (by omega)))
     obtain ⟨q3', n3', rfl⟩ := s3.form
     refine ⟨.ret, _, by simp (maxSteps := 1000000) -implicitDefEqProofs (disch := first | omega | (simp [get_app, get_app0]; done) | rfl | (simp only [List.length_cons, List.length_append, List.length_take, List.length_drop, List.length_nil]; omega)) [-getElem?_pos, -C.refs, cr_sl, cr_ptr, cr_nils, cr_int, cr_bool, cr_ci, z141, sp_len, sp_refs, sp_take, sp_over, c_spec_Batch_b0, hlv, hlt, hld, hle, hcs, d2, S7, S8, st8, S7', st7, fs, hc', d3, A8, Z3]; rfl, ?_⟩
     obtain ⟨A, hA⟩ : ∃ A, A = mx m.length (mx (mx (mx (mx (mx t.e e') (qc' + 1)) e3) (q3' + 1)) (q8 + 1)) := ⟨_, rfl⟩
     have x3l := x3.len
     simp only [List.length_append, List.length_cons, List.length_nil, List.length_set] at x3l s3
     have hA1 : m.length + 2 ≤ A := by rw [hA]; simp only [mx_eq]; omega
     have hA2 : M3.length ≤ A := by rw [hA]; simp only [cr_sl, mx_eq] at q3 ⊢; omega
     have hA3 : M3.length ≤ mx (mx (mx (mx t.e e') (qc' + 1)) e3) (q3' + 1) := by simp only [cr_sl, mx_eq] at q3 ⊢; omega
     have hz : m.length + 1 < M3.length := by omega
     rw [← hA]
     refine ⟨_, by simp (maxSteps := 1000000) -implicitDefEqProofs (disch := first | omega | (simp [get_app, get_app0]; done) | rfl | (simp only [List.length_cons, List.length_append, List.length_take, List.length_drop, List.length_nil]; omega)) [-getElem?_pos, -C.refs, cr_sl, cr_ptr, cr_nils, cr_int, cr_bool, cr_ci, c_blkr]; rfl, .inr ⟨List.take A (M3.set (m.length + 1) ⟨spC s (.sl q3' 0 n3' n3'), 51, 0, true⟩), mx (mx (mx (mx t.e e') (qc' + 1)) e3) (q3' + 1), .sl q3' 0 n3' n3', t.M.length + (l.length + (0 + 1) + 1 + 1), M3.length, t.ts ++ [y.2.2], ?_, hrun, ?_, ?_, ?_, ?_, ?_, ?_, ?_, ?_⟩⟩
     ·have : (t.ts.length + 1) * 2 = t.ts.length * 2 + 2 := by omega
      simp [this]
     ·exact ((hxP.trans x3).put (by omega)).cut (by omega)
     ·rw [live_cut (by omega)]
      unfold live
      rw [List.getElem?_set_self hz, Option.bind_some, if_pos (sp_len _ _).symm]
     ·rw [List.getElem?_take_of_lt (by omega), List.getElem?_set_ne (by omega), x3.get (by simp; omega), List.getElem?_append_left (by simpa using k8), List.getElem?_set_self k8]
     ·exact (s3.set (.inl (by omega))).congr fun q _ hq => List.getElem?_take_of_lt (by omega)
     ·omega
     ·rw [List.length_take, List.length_set]; omega
     ·exact hA3
     ·exact .inl (by omega)
  have htk0 : ∀ a b F T, List.take (mx m.length (mx a (mx b (M1.length + 2)))) (M1 ++ [F, T]) = M1 ++ [F, T] := fun a b F T => List.take_of_length_le (by simp only [List.length_append, List.length_cons, List.length_nil, mx_eq]; omega)
  generalize hd' : runF _ _ _ _ _ = dd
  simp (maxSteps := 1000000) -implicitDefEqProofs (disch := first | omega | (simp [get_app, get_app0]; done) | rfl | (simp only [List.length_cons, List.length_append, List.length_take, List.length_drop, List.length_nil]; omega)) [-getElem?_pos, -fin, -C.refs, cr_sl, cr_ptr, cr_nils, cr_int, cr_bool, cr_ci, z141, sp_len, sp_refs, sp_take, sp_over, c_spec_Batch, d1, wA, wZ, lenM, h30', st1, h1] at hd'
  generalize hqq : blkC _ _ _ (iter _ _ _ _) = qq at hd'
  have hst : ∃ r, qq = some r ∧ ((∃ t : BSt, r = (.norm, ⟨[(4, .c (.ptr (m.length + 1) 0 141)), (7, .c (.ptr q7 0 141)), (8, .c (.sl q8 0 t.ts.length (t.ts.length * 2)))], t.M, t.e, 0⟩) ∧ BI m s v xss ds q7 q8 t ∧ t.i = ds.length) ∨
    (∃ M' e' c3 lo hi ts, r = (.ret, ⟨[(4, .c (.ptr (m.length + 1) 0 141)), (5, .c (.sl q8 0 ts.length (ts.length * 2))), (6, vb false)], M', e', 0⟩) ∧ batF (s, xss) ds = (ts, none) ∧ Ext m M' ∧ live M' (m.length + 1) 141 = some ⟨spC s c3, 51, 0, true⟩ ∧ M'[q8]? = some ⟨flat tdC ts, 53, 2, true⟩ ∧ SO M' lo hi c3 xss ∧ m.length + 2 ≤ lo ∧ hi ≤ M'.length ∧ hi ≤ e' ∧ (q8 < lo ∨ hi ≤ q8))) := by
   rw [← hqq]
   refine hlp L ⟨0, M1 ++ [⟨spC s (.sl qc 0 nc nc), 51, 0, true⟩, ⟨[], 53, 2, true⟩], mx (mx v.refs e1) (qc + 1), (s, xss), [], .sl qc 0 nc nc, m1.length, M1.length⟩ _ ?I ?tr (by show ds.length - 0 < L; omega)
   case tr =>
    simp (maxSteps := 1000000) -implicitDefEqProofs (disch := omega) [-getElem?_pos, -C.refs, cr_sl, cr_ptr, cr_nils, cr_int, cr_bool, cr_ci, hq7, hq8]
    exact List.take_of_length_le (by simp only [List.length_append, List.length_cons, List.length_nil, mx_eq]; omega)
   case I =>
    refine ⟨Nat.zero_le _, by simp, x01.trans ⟨_, rfl⟩, by simp; omega, wA _, wZ _, ?_, ?_, s1.grow (Nat.le_refl _), by show m.length + 2 ≤ m1.length; omega, by simp, ?_, .inr (by show M1.length ≤ q7; omega), .inr (by show M1.length ≤ q8; omega), b1, b2, bt⟩
    ·rw [hq7]; exact lvAt0 (sp_len _ _).symm
    ·show (M1 ++ [_, _])[q8]? = _
     rw [hq8, get_app]; rfl
    ·show M1.length ≤ mx (mx v.refs e1) (qc + 1)
     simp only [cr_sl, mx_eq] at q1 ⊢
     omega
  clear hlp hqq
  obtain ⟨r, rfl, hr⟩ := hst
  rcases hr with ⟨t, rfl, hI, hti⟩ | ⟨M', e', c3, lo, hi, ts, rfl, hrun, u1, u2, u3, u4, u5, u6, u7, u8⟩
  ·obtain ⟨i, M, e, z, ts, c, lo, hi⟩ := t
   simp only at hI hti hd'
   have hrun := hI.run
   simp only [hti, List.drop_length, batF, List.append_nil] at hrun
   rw [hrun]
   have hS7 := hI.S7
   have hZ := hI.Z
   have hS8 := hI.S8
   have hso := hI.so
   have hlo := hI.lo
   have hhi := hI.hi
   have hhe := hI.he
   have hd8 := hI.d8
   have hext := hI.ext
   simp only at hS7 hZ hS8 hso hlo hhi hhe hd8 hext
   obtain ⟨qt, nt, rfl⟩ := hso.form
   have hz1 := live_lt hZ
   have hl8 := lt_of_get hS8
   obtain ⟨A, hA⟩ : ∃ A, A = mx m.length (mx (mx e (qt + 1)) (q8 + 1)) := ⟨_, rfl⟩
   have hA1 : m.length + 1 < A := by rw [hA]; simp only [mx_eq]; omega
   have hA2 : hi ≤ A := by rw [hA]; simp only [mx_eq]; omega
   have hA3 : q8 < A := by rw [hA]; simp only [mx_eq]; omega
   have htk1 : ∀ W, List.take (mx m.length (mx (mx e (qt + 1)) (q8 + 1))) (M.set (m.length + 1) W) = (M.take A).set (m.length + 1) W := fun W => by rw [← hA, List.take_set]
   have hz4 : m.length + 1 < (M.take A).length := by rw [List.length_take]; omega
   have hx4 : Ext m (M.take A) := hext.cut (by omega)
   have hs4 : SO (M.take A) lo hi (.sl qt 0 nt nt) z.2 := hso.congr fun q _ hq => List.getElem?_take_of_lt (by omega)
   have h84 : (M.take A)[q8]? = some ⟨flat tdC ts, 53, 2, true⟩ := by rw [List.getElem?_take_of_lt hA3]; exact hS8
   have hh4 : hi ≤ (M.take A).length := by rw [List.length_take]; omega
   generalize M.take A = M4 at htk1 hz4 hx4 hs4 h84 hh4
   simp (maxSteps := 1000000) -implicitDefEqProofs (disch := first | omega | (simp [get_app, get_app0]; done) | rfl | (simp only [List.length_cons, List.length_append, List.length_take, List.length_drop, List.length_nil]; omega)) [-getElem?_pos, -fin, -C.refs, cr_sl, cr_ptr, cr_nils, cr_int, cr_bool, cr_ci, z141, sp_len, sp_refs, sp_take, sp_over, hS7, hZ, hz1, htk1, hz4] at hd'
   subst hd'
   have := fin_bat (s := z.1) (ok := true) (ts := ts) (env := [(4, .c (.ptr (m.length + 1) 0 141)), (5, .c (.sl q8 0 ts.length (ts.length * 2))), (6, vb true)]) (m := m) (M := M4.set (m.length + 1) ⟨spC z.1 (.sl qt 0 nt nt), 51, 0, true⟩) (e := mx e (qt + 1)) (q := q8) (hx4.put (by omega)) (hs4.set (.inl (by omega))) (by omega) (by simpa using hh4) (by simp only [mx_eq]; omega) (by rw [List.getElem?_set_ne (by omega)]; exact h84) (by omega) hd8
   obtain ⟨M', c', tv, e', lo', hi', q', f1, f2⟩ := this
   exact ⟨M', c', tv, e', lo', hi', q', congrArg some f1, f2⟩
  ·rw [hrun]
   obtain ⟨qt, nt, rfl⟩ := u4.form
   simp (maxSteps := 1000000) -implicitDefEqProofs (disch := first | omega | (simp [get_app, get_app0]; done) | rfl | (simp only [List.length_cons, List.length_append, List.length_take, List.length_drop, List.length_nil]; omega)) [-getElem?_pos, -fin, -C.refs, cr_sl, cr_ptr, cr_nils, cr_int, cr_bool, cr_ci, z141, sp_len, sp_refs, sp_take, sp_over, u2] at hd'
   subst hd'
   have := fin_bat (s := s) (ok := false) (ts := ts) (env := [(4, .c (.ptr (m.length + 1) 0 141)), (5, .c (.sl q8 0 ts.length (ts.length * 2))), (6, vb false)]) (m := m) (M := M') (e := e') (q := q8) u1 u4 (by omega) u6 (Nat.le_trans u7 (le_mx_l _ _)) u3 (by omega) u8
   obtain ⟨M'', c', tv, e'', lo', hi', q', f1, f2⟩ := this
   exact ⟨M'', c', tv, e'', lo', hi', q', congrArg some f1, f2⟩
end Go.Proofs.YtfbeplbcaanimaaGreat
