/-
 Batches: what is handed back; the reference's Batch.
-/
import Derived.Test.YtfbeplbcaanimaaGreatWj
set_option linter.unusedVariables false
set_option linter.unusedSimpArgs false
set_option maxHeartbeats 4000000
set_option maxRecDepth 100000
namespace Go.Proofs.YtfbeplbcaanimaaGreat
variable {L : Nat}
structure Two (W : C → C → V) : Prop where
 refs : ∀ c t, (W c t).refs = mx c.refs t.refs
 own : ∀ c t n0, (W c t).own n0 = c.own n0 ++ t.own n0
 ren : ∀ c t f, (W c t).ren f = W (c.ren f) (t.ren f)
theorem fin_w2 {W : C → C → V} (hW : Two W) {m M : List Blk} {lo hi e q n tot es : Nat} {ty : TypeId} {c : C} {cs : List C} {env : List (Nat × V)} {xss : List (List Int)} (hE : Ext m M) (h : SO M lo hi c xss) (hlo : m.length ≤ lo) (hm : hi ≤ M.length) (ha : hi ≤ mx e c.refs)
  (hq : M[q]? = some ⟨cs, ty, es, true⟩) (hz : refsL cs = 0) (hqm : m.length ≤ q) (hd : q < lo ∨ hi ≤ q) :
  ∃ M' c' q' e' lo' hi', fin m.length (W c (.sl q 0 n tot)) ⟨env, M, e, 0⟩ = ⟨W c' (.sl q' 0 n tot), M', e', 0⟩ ∧ Ext m M' ∧ SO M' lo' hi' c' xss ∧ m.length ≤ lo' ∧ hi' ≤ M'.length ∧ hi' ≤ mx e' c'.refs ∧ M'[q']? = some ⟨cs, ty, es, true⟩ ∧ m.length ≤ q' ∧ (q' < lo' ∨ hi' ≤ q') := by
 obtain ⟨b, hs, bi, h1, h2, rfl, h4, h5, h6, h7⟩ := h
 have hbq : b ≠ q := by omega
 have hcr : (C.sl b 0 xss.length xss.length).refs = b + 1 := rfl
 have htr : (C.sl q 0 n tot).refs = q + 1 := rfl
 rw [hcr] at ha
 have hr : (W (.sl b 0 xss.length xss.length) (.sl q 0 n tot)).refs = mx (b + 1) (q + 1) := by rw [hW.refs, hcr, htr]
 have ho : (W (.sl b 0 xss.length xss.length) (.sl q 0 n tot)).own m.length = [b, q] := by
  rw [hW.own]
  show (if b < m.length then [] else [b]) ++ (if q < m.length then [] else [q]) = _
  rw [if_neg (by omega), if_neg (by omega)]
  rfl
 have hql := lt_of_get hq
 unfold fin
 simp only [if_true]
 rw [hr, ho, if_neg (by rw [mx_eq]; omega)]
 have hqb : ¬ q = b := fun e => hbq e.symm
 have hn : nub [b, q] = [b, q] := by
  simp [nub]
  omega
 rw [hn]
 by_cases hz2 : refsL hs = 0
 ·have hp : pickB M [b, q] = some [⟨hs, 103, 1, true⟩, ⟨cs, ty, es, true⟩] := by
   unfold pickB
   rw [h4, Option.bind_some, if_pos hz2]
   unfold pickB
   rw [hq, Option.bind_some, if_pos hz]
   rfl
  rw [hp]
  refine ⟨m ++ [⟨hs, 103, 1, true⟩, ⟨cs, ty, es, true⟩], .sl m.length 0 xss.length xss.length, m.length + 1, 0, m.length, m.length + 1, ?_, ⟨_, rfl⟩, ⟨m.length, hs, fun j => m.length + 1 + j, Nat.le_refl _, by omega, rfl, by simp, h5, fun i j _ _ hij => by simp only at hij; omega, fun j hj => ?_⟩, Nat.le_refl _, by simp, by simp [C.refs, mx_eq], by simp, by omega, .inr (Nat.le_refl _)⟩
  ·have hren : ∀ f, (W (.sl b 0 xss.length xss.length) (.sl q 0 n tot)).ren f = W (.sl (f b) 0 xss.length xss.length) (.sl (f q) 0 n tot) := fun f => by rw [hW.ren]; rfl
   have hp1 : pos m.length [b, q] b = m.length := by simp [pos]
   have hp2 : pos m.length [b, q] q = m.length + 1 := by
    simp [pos, hbq]
    omega
   simp only
   rw [hren, hp1, hp2, hE.fin0]
  ·obtain ⟨c, k1, k2⟩ := h7 j hj
   refine ⟨c, k1, ?_⟩
   rcases k2 with k2 | ⟨cs, k2, _⟩
   ·exact .inl k2
   ·have := refsL_get k1
    rw [k2] at this
    simp only [C.refs] at this
    omega
 ·have hp : pickB M [b, q] = none := by
   unfold pickB
   rw [h4, Option.bind_some, if_neg hz2]
  rw [hp]
  have hA : hi ≤ mx m.length (mx e (mx (b + 1) (q + 1))) := by simp only [mx_eq] at ha ⊢; omega
  have hA2 : q < mx m.length (mx e (mx (b + 1) (q + 1))) := by simp only [mx_eq]; omega
  have hA3 : m.length ≤ mx m.length (mx e (mx (b + 1) (q + 1))) := le_mx_l _ _
  have : SO M lo hi (.sl b 0 xss.length xss.length) xss := ⟨b, hs, bi, h1, h2, rfl, h4, h5, h6, h7⟩
  refine ⟨M.take (mx m.length (mx e (mx (b + 1) (q + 1)))), .sl b 0 xss.length xss.length, q, e, lo, hi, rfl, hE.cut hA3, this.congr fun j _ hj => List.getElem?_take_of_lt (by omega), hlo, by rw [List.length_take]; omega, ha, by rw [List.getElem?_take_of_lt hA2]; exact hq, hqm, hd⟩
theorem two_b (s : Spc) (ok : Bool) : Two fun c t => .tup [.agg (spC s c), .c t, vb ok] := by
 refine ⟨fun c t => ?_, fun c t n0 => ?_, fun c t f => ?_⟩
 ·show mx (refsL (spC s c)) (mx t.refs (mx 0 0)) = _
  rw [sp_refs]
  simp only [mx_eq]
  omega
 ·show (spC s c).flatMap (·.own n0) ++ (t.own n0 ++ ([] ++ [])) = _
  rw [sp_own]
  simp
 ·show V.tup [.agg ((spC s c).map (·.ren f)), .c (t.ren f), vb ok] = _
  rw [sp_ren]
structure BRes (m M : List Blk) (e : Nat) (c : C) (xss : List (List Int)) (tv : C) (ts : List Tld) (lo hi q : Nat) : Prop where
 ext : Ext m M
 so : SO M lo hi c xss
 lob : m.length ≤ lo
 hib : hi ≤ M.length
 heb : hi ≤ mx e c.refs
 told : (tv = .nils ∧ ts = []) ∨ (tv = .sl q 0 ts.length (ts.length * 2) ∧ M[q]? = some ⟨flat tdC ts, 53, 2, true⟩ ∧ m.length ≤ q ∧ (q < lo ∨ hi ≤ q))
theorem fin_bat {m M : List Blk} {lo hi e q : Nat} {c : C} {env : List (Nat × V)} {s : Spc} {ok : Bool} {xss : List (List Int)} {ts : List Tld} (hE : Ext m M) (h : SO M lo hi c xss) (hlo : m.length ≤ lo) (hm : hi ≤ M.length) (ha : hi ≤ mx e c.refs)
  (hq : M[q]? = some ⟨flat tdC ts, 53, 2, true⟩) (hqm : m.length ≤ q) (hd : q < lo ∨ hi ≤ q) :
  ∃ M' c' tv e' lo' hi' q', fin m.length (.tup [.agg (spC s c), .c (.sl q 0 ts.length (ts.length * 2)), vb ok]) ⟨env, M, e, 0⟩ = ⟨.tup [.agg (spC s c'), .c tv, vb ok], M', e', 0⟩ ∧ BRes m M' e' c' xss tv ts lo' hi' q' := by
 obtain ⟨M', c', q', e', lo', hi', f1, f2, f3, f4, f5, f6, f7, f8, f9⟩ := fin_w2 (two_b s ok) (env := env) (n := ts.length) (tot := ts.length * 2) hE h hlo hm ha hq (flat_td_refs ts) hqm hd
 exact ⟨M', c', _, e', lo', hi', q', f1, f2, f3, f4, f5, f6, .inr ⟨rfl, f7, f8, f9⟩⟩
theorem batF_step {z0 z : Spc × List (List Int)} {ds : List Dd} {ts : List Tld} {i : Nat} (hi : i < ds.length) (h : batF z0 ds = (ts ++ (batF z (ds.drop i)).1, (batF z (ds.drop i)).2)) :
  ((doDeed z.1 z.2 (ds.getD i dd0)).2.2.1 ≤ 1 → batF z0 ds = ((ts ++ [(doDeed z.1 z.2 (ds.getD i dd0)).2.2]) ++ (batF ((doDeed z.1 z.2 (ds.getD i dd0)).1, (doDeed z.1 z.2 (ds.getD i dd0)).2.1) (ds.drop (i + 1))).1, (batF ((doDeed z.1 z.2 (ds.getD i dd0)).1, (doDeed z.1 z.2 (ds.getD i dd0)).2.1) (ds.drop (i + 1))).2)) ∧
  (¬ (doDeed z.1 z.2 (ds.getD i dd0)).2.2.1 ≤ 1 → batF z0 ds = (ts ++ [(doDeed z.1 z.2 (ds.getD i dd0)).2.2], none)) := by
 have hd : ds.drop i = ds.getD i dd0 :: ds.drop (i + 1) := by
  rw [List.drop_eq_getElem_cons hi]
  simp [List.getD_eq_getElem?_getD, hi]
 rw [hd] at h
 generalize ds.getD i dd0 = d at h
 refine ⟨fun hc => ?_, fun hc => ?_⟩
 ·rw [batF, if_pos hc] at h
  rw [h]
  simp
 ·rw [batF, if_neg hc] at h
  exact h
theorem one_bn (s : Spc) (ok : Bool) : One fun c => .tup [.agg (spC s c), .c .nils, vb ok] := by
 refine ⟨fun c => ?_, fun c n0 => ?_, fun c f => ?_⟩
 ·show mx (refsL (spC s c)) (mx 0 (mx 0 0)) = _
  rw [sp_refs]
  simp only [mx_eq]
  omega
 ·show (spC s c).flatMap (·.own n0) ++ ([] ++ ([] ++ [])) = _
  rw [sp_own]
  simp
 ·show V.tup [.agg ((spC s c).map (·.ren f)), .c .nils, vb ok] = _
  rw [sp_ren]
theorem fin_bn {m M : List Blk} {hi e : Nat} {c : C} {env : List (Nat × V)} {s : Spc} {ok : Bool} {xss : List (List Int)} (hE : Ext m M) (h : SO M m.length hi c xss) (hm : hi ≤ M.length) (ha : hi ≤ mx e c.refs) :
  ∃ M' c' tv e' lo' hi' q', fin m.length (.tup [.agg (spC s c), .c .nils, vb ok]) ⟨env, M, e, 0⟩ = ⟨.tup [.agg (spC s c'), .c tv, vb ok], M', e', 0⟩ ∧ BRes m M' e' c' xss tv [] lo' hi' q' := by
 obtain ⟨M', c', e', f1, f2, f3, f4⟩ := fin_w (one_bn s ok) (env := env) hE h hm ha
 exact ⟨M', c', .nils, e', m.length, M'.length, 0, f1, f2, f3, Nat.le_refl _, Nat.le_refl _, f4, .inl ⟨rfl, rfl⟩⟩
structure BSt where
 i : Nat
 M : List Blk
 e : Nat
 z : Spc × List (List Int)
 ts : List Tld
 c : C
 lo : Nat
 hi : Nat
structure BI (m : List Blk) (s : Spc) (v : C) (xss : List (List Int)) (ds : List Dd) (q7 q8 : Nat) (t : BSt) : Prop where
 il : t.i ≤ ds.length
 run : batF (s, xss) ds = (t.ts ++ (batF t.z (ds.drop t.i)).1, (batF t.z (ds.drop t.i)).2)
 ext : Ext m t.M
 len : m.length + 2 ≤ t.M.length
 A : live t.M m.length 141 = some ⟨spC s v, 51, 0, true⟩
 Z : live t.M (m.length + 1) 141 = some ⟨spC spZ .nils, 51, 0, true⟩
 S7 : live t.M q7 141 = some ⟨spC t.z.1 t.c, 51, 0, true⟩
 S8 : t.M[q8]? = some ⟨flat tdC t.ts, 53, 2, true⟩
 so : SO t.M t.lo t.hi t.c t.z.2
 lo : m.length + 2 ≤ t.lo
 hi : t.hi ≤ t.M.length
 he : t.hi ≤ t.e
 d7 : q7 < t.lo ∨ t.hi ≤ q7
 d8 : q8 < t.lo ∨ t.hi ≤ q8
 b1 : t.z.2.length ≤ 1048576
 b2 : ∀ xs ∈ t.z.2, xs.length ≤ 1048576
 bt : tot t.z.2 ≤ 1073741824
theorem live_cut {M : List Blk} {a b n : Nat} (h : b < a) : live (M.take a) b n = live M b n := by
 unfold live
 rw [List.getElem?_take_of_lt h]
section
variable {m : List Blk} {s : Spc} {v : C} {xss : List (List Int)} {ds : List Dd} {q7 q8 : Nat} {t : BSt}
theorem BI.cut (h : BI m s v xss ds q7 q8 t) {a : Nat} (ha : m.length + 2 ≤ a) (h7 : q7 < a) (h8 : q8 < a) (hh : t.hi ≤ a) : BI m s v xss ds q7 q8 ⟨t.i, t.M.take a, t.e, t.z, t.ts, t.c, t.lo, t.hi⟩ where
 il := h.il
 run := h.run
 ext := h.ext.cut (by omega)
 len := by have := h.len; show _ ≤ (t.M.take a).length; rw [List.length_take]; omega
 A := by show live (t.M.take a) _ _ = _; rw [live_cut (by omega)]; exact h.A
 Z := by show live (t.M.take a) _ _ = _; rw [live_cut (by omega)]; exact h.Z
 S7 := by show live (t.M.take a) _ _ = _; rw [live_cut h7]; exact h.S7
 S8 := by show (t.M.take a)[q8]? = _; rw [List.getElem?_take_of_lt h8]; exact h.S8
 so := h.so.congr fun q _ hq => List.getElem?_take_of_lt (by omega)
 lo := h.lo
 hi := by have := h.hi; show t.hi ≤ (t.M.take a).length; rw [List.length_take]; omega
 he := h.he
 d7 := h.d7
 d8 := h.d8
 b1 := h.b1
 b2 := h.b2
 bt := h.bt
theorem BI.next (h : BI m s v xss ds q7 q8 t) (hi : t.i < ds.length) (h7 : m.length + 2 ≤ q7) (h8 : m.length + 2 ≤ q8) (h78 : q7 ≠ q8) {l : List Blk} {c' : C} {e'' : Nat} {Y1 Y2 Lt : Blk}
  (hs : SO ((t.M ++ [dead, dead]) ++ l) (t.M ++ [dead, dead]).length ((t.M ++ [dead, dead]) ++ l).length c' (doDeed t.z.1 t.z.2 (ds.getD t.i dd0)).2.1) (he : t.M.length + 2 + l.length ≤ e'') (hc : (doDeed t.z.1 t.z.2 (ds.getD t.i dd0)).2.2.1 ≤ 1) :
  BI m s v xss ds q7 q8 ⟨t.i + 1, (t.M.set q8 ⟨flat tdC (t.ts ++ [(doDeed t.z.1 t.z.2 (ds.getD t.i dd0)).2.2]), 53, 2, true⟩).set q7 ⟨spC (doDeed t.z.1 t.z.2 (ds.getD t.i dd0)).1 c', 51, 0, true⟩ ++ Y1 :: Y2 :: (l ++ [Lt]), e'', ((doDeed t.z.1 t.z.2 (ds.getD t.i dd0)).1, (doDeed t.z.1 t.z.2 (ds.getD t.i dd0)).2.1), t.ts ++ [(doDeed t.z.1 t.z.2 (ds.getD t.i dd0)).2.2], c', t.M.length + 2, t.M.length + 2 + l.length⟩ := by
 have hl7 := live_lt h.S7
 have hl8 := lt_of_get h.S8
 have hb := doDeed_b (s := t.z.1) (d := ds.getD t.i dd0) h.b1 h.b2 h.bt
 have hlen := h.len
 refine ⟨hi, (batF_step hi h.run).1 hc, ?_, ?_, ?_, ?_, ?_, ?_, ?_, ?_, ?_, ?_, ?_, ?_, hb.1, hb.2.1, hb.2.2⟩
 ·exact ((h.ext.put (by omega)).put (by omega)).trans ⟨_, rfl⟩
 ·simp; omega
 ·exact live_grow (live_put (live_put h.A (by omega)) (by omega))
 ·exact live_grow (live_put (live_put h.Z (by omega)) (by omega))
 ·refine live_grow ?_
  unfold live
  rw [List.getElem?_set_self (by simpa using hl7), Option.bind_some, if_pos (sp_len _ _).symm]
 ·show ((_ : List Blk) ++ _)[q8]? = _
  rw [List.getElem?_append_left (by simpa using hl8), List.getElem?_set_ne h78, List.getElem?_set_self hl8]
 ·have hlo : (t.M ++ [dead, dead]).length = t.M.length + 2 := by simp
  have hhi : ((t.M ++ [dead, dead]) ++ l).length = t.M.length + 2 + l.length := by simp; omega
  rw [hlo, hhi] at hs
  refine hs.congr fun q q1 q2 => ?_
  obtain ⟨j, rfl⟩ : ∃ j, q = t.M.length + (j + 2) := ⟨q - t.M.length - 2, by omega⟩
  show ((_ : List Blk) ++ _)[t.M.length + (j + 2)]? = _
  rw [List.append_assoc, get_app, List.getElem?_append_right (by simp)]
  simp only [List.length_set, Nat.add_sub_cancel_left]
  show (l ++ [Lt])[j]? = l[j]?
  rw [List.getElem?_append_left (by omega)]
 ·show m.length + 2 ≤ t.M.length + 2
  omega
 ·simp; omega
 ·exact he
 ·exact .inl (by show q7 < t.M.length + 2; omega)
 ·exact .inl (by show q8 < t.M.length + 2; omega)
theorem BI.next2 (h : BI m s v xss ds q7 q8 t) (hi : t.i < ds.length) (h7 : m.length + 2 ≤ q7) (h8 : m.length + 2 ≤ q8) (h78 : q7 ≠ q8) {l r : List Blk} {c' : C} {e'' : Nat} {D : Blk}
  (hs : SO ((t.M ++ [D]) ++ l) (t.M ++ [D]).length ((t.M ++ [D]) ++ l).length c' (doDeed t.z.1 t.z.2 (ds.getD t.i dd0)).2.1) (he : t.M.length + 1 + l.length ≤ e'') (hc : (doDeed t.z.1 t.z.2 (ds.getD t.i dd0)).2.2.1 ≤ 1) :
  BI m s v xss ds q7 q8 ⟨t.i + 1, (t.M.set q8 ⟨flat tdC (t.ts ++ [(doDeed t.z.1 t.z.2 (ds.getD t.i dd0)).2.2]), 53, 2, true⟩).set q7 ⟨spC (doDeed t.z.1 t.z.2 (ds.getD t.i dd0)).1 c', 51, 0, true⟩ ++ D :: (l ++ r), e'', ((doDeed t.z.1 t.z.2 (ds.getD t.i dd0)).1, (doDeed t.z.1 t.z.2 (ds.getD t.i dd0)).2.1), t.ts ++ [(doDeed t.z.1 t.z.2 (ds.getD t.i dd0)).2.2], c', t.M.length + 1, t.M.length + 1 + l.length⟩ := by
 have hl7 := live_lt h.S7
 have hl8 := lt_of_get h.S8
 have hb := doDeed_b (s := t.z.1) (d := ds.getD t.i dd0) h.b1 h.b2 h.bt
 have hlen := h.len
 refine ⟨hi, (batF_step hi h.run).1 hc, ?_, ?_, ?_, ?_, ?_, ?_, ?_, ?_, ?_, ?_, ?_, ?_, hb.1, hb.2.1, hb.2.2⟩
 ·exact ((h.ext.put (by omega)).put (by omega)).trans ⟨_, rfl⟩
 ·simp; omega
 ·exact live_grow (live_put (live_put h.A (by omega)) (by omega))
 ·exact live_grow (live_put (live_put h.Z (by omega)) (by omega))
 ·refine live_grow ?_
  unfold live
  rw [List.getElem?_set_self (by simpa using hl7), Option.bind_some, if_pos (sp_len _ _).symm]
 ·show ((_ : List Blk) ++ _)[q8]? = _
  rw [List.getElem?_append_left (by simpa using hl8), List.getElem?_set_ne h78, List.getElem?_set_self hl8]
 ·have hlo : (t.M ++ [D]).length = t.M.length + 1 := by simp
  have hhi : ((t.M ++ [D]) ++ l).length = t.M.length + 1 + l.length := by simp; omega
  rw [hlo, hhi] at hs
  refine hs.congr fun q q1 q2 => ?_
  obtain ⟨j, rfl⟩ : ∃ j, q = t.M.length + (j + 1) := ⟨q - t.M.length - 1, by omega⟩
  show ((_ : List Blk) ++ _)[t.M.length + (j + 1)]? = _
  rw [List.append_assoc, get_app, List.getElem?_append_right (by simp)]
  simp only [List.length_set, Nat.add_sub_cancel_left]
  show (l ++ r)[j]? = l[j]?
  rw [List.getElem?_append_left (by omega)]
 ·show m.length + 2 ≤ t.M.length + 1
  omega
 ·simp; omega
 ·exact he
 ·exact .inl (by show q7 < t.M.length + 1; omega)
 ·exact .inl (by show q8 < t.M.length + 1; omega)
end
end Go.Proofs.YtfbeplbcaanimaaGreat
