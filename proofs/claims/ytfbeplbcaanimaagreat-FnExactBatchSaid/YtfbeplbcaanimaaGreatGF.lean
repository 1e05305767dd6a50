/-
 Sets: added to, the program's way.
-/
import Derived.Test.YtfbeplbcaanimaaGreatGE
set_option linter.unusedVariables false
set_option linter.unusedSimpArgs false
set_option maxHeartbeats 4000000
namespace Go.Proofs.YtfbeplbcaanimaaGreat
variable {X : FuncId → List V → List Blk → Option Ret} {L : Nat}
theorem SX.low {m : List Blk} {lo lo' hi q : Nat} {hs : List C} {z : List (List Int)} (h : SX m lo hi q hs z) (hl : lo' ≤ lo) : SX m lo' hi q hs z :=
 ⟨by have := h.q1; omega, h.q2, h.hm, h.hdr, h.len, fun j hj => (h.bk j hj).imp id fun ⟨b, h1, h2, h3, h4, h5⟩ => ⟨b, h1, h2, by omega, h4, h5⟩, h.dst⟩
theorem SX.over {m P : List Blk} {hi q p b n : Nat} {hs : List C} {z : List (List Int)} {ys : List Int} (h : SX P m.length hi q hs z) (hE : Ext m P) (hp : p < z.length) (hb : hs[p]? = some (.sl b 0 n n)) (hn : n = ys.length) (b1 : m.length ≤ b) (b2 : b < hi) (b3 : b ≠ q) :
  SX (P.set b (blkI ys)) m.length hi q hs (setN z p ys) ∧ Ext m (P.set b (blkI ys)) := by
 subst hn
 have hbP : b < P.length := by have := h.hm; omega
 have hpl : p < hs.length := by rw [h.len]; exact hp
 have hlay : lay hs p [.sl b 0 ys.length ys.length] = hs := List.ext_getElem? fun j => by
  rw [lay_one hpl]
  by_cases e : j = p
  ·rw [if_pos e, e, hb]
  ·rw [if_neg e]
 have hl := hE.len
 constructor
 ·have := h.put (p := p) (b := b) (xs := ys) (hi' := hi) (m' := P.set b (blkI ys)) hp (Nat.le_refl _) (by rw [List.length_set]; exact h.hm) (by rw [List.getElem?_set_ne b3, h.hdr, hlay]) (by rw [List.getElem?_set_self hbP]) b1 b2 b3 (fun j x' y z' hj e => hj (h.dst _ _ _ _ _ _ _ _ _ e hb)) (fun j h1 h2 h3 h4 => List.getElem?_set_ne (Ne.symm h4))
  rwa [hlay] at this
 ·exact Ext.of (by rw [List.length_set]; omega) fun j hj => by rw [List.getElem?_set_ne (by omega), hE.get hj]
theorem SX.han {m : List Blk} {lo hi q p : Nat} {hs : List C} {z : List (List Int)} (h : SX m lo hi q hs z) (hp : p < z.length) : ∃ cp, hs[p]? = some cp ∧ SlA m cp (nthL z p) := by
 rcases h.bk p hp with ⟨a1, a2⟩ | ⟨b, a1, a2, a3, a4, a5⟩
 ·exact ⟨_, a1, .inl ⟨rfl, a2⟩⟩
 ·exact ⟨_, a1, SlA_blk a2⟩
theorem impl_SetAdd (hL : 2000000 ≤ L) (k : Nat) (m : List Blk) (v : C) (xss : List (List Int)) (x : Int) (hv : SSA m v xss) (b1 : xss.length ≤ 1048576) (b2 : ∀ xs ∈ xss, xs.length ≤ 1048576) :
  ∃ M c e, den T libX L (k + 4) 90 [.c v, vi x] m = some ⟨.tup [.c c, vi (setAdd xss x).2], M, e, 0⟩ ∧ Ext m M ∧ SO M m.length M.length c (setAdd xss x).1 ∧ M.length ≤ mx e c.refs := by
 rw [den_eq T_90]
 have d1 := den_ownSet (X := libX) (L := L) hL (k + 1) m v xss hv b1 b2
 have hsx := fresh_SX m xss
 have hml := freshM_len m xss
 have hext : Ext m (freshM m xss) := ⟨_, rfl⟩
 unfold freshR at d1
 generalize freshM m xss = M at d1 hsx hml hext
 obtain ⟨q0, hq0⟩ : ∃ q, q = m.length := ⟨_, rfl⟩
 rw [← hq0] at d1 hml
 have hsx : SX M m.length (q0 + 1 + xss.length) q0 (hd (q0 + 1) xss) xss := by rw [hq0]; exact hsx
 have hle : M.length ≤ mx (if xss = [] then 0 else q0 + 1 + xss.length) (q0 + 1) := by
  rw [mx_eq, hml]
  split
  ·rename_i h; subst h; simp
  ·omega
 have htk : List.take (mx (if xss = [] then 0 else q0 + 1 + xss.length) (q0 + 1)) M = M := List.take_of_length_le hle
 have hso0 : SO M m.length M.length (.sl q0 0 xss.length xss.length) xss := by rw [hml]; exact hsx.so
 have o1 := den_impl_SetOk (X := libX) (L := L) hL k m v xss hv.ss b1 b2
 have o2 := den_isValue (X := libX) (L := L) (k + 1) m x
 unfold setAdd
 cases h1 : setOk xss with
 | false =>
  rw [h1] at o1
  simp (maxSteps := 1000000) -implicitDefEqProofs (disch := omega) [-getElem?_pos, -fin, c_impl_SetAdd, d1, o1, htk]
  exact fin_sety hext hso0 (Nat.le_refl _) hle
 | true =>
  rw [h1] at o1
  cases h2 : isVal x with
  | false =>
   rw [h2] at o2
   simp (maxSteps := 1000000) -implicitDefEqProofs (disch := omega) [-getElem?_pos, -fin, c_impl_SetAdd, d1, o1, o2, htk]
   exact fin_sety hext hso0 (Nat.le_refl _) hle
  | true =>
   rw [h2] at o2
   have o3 := den_impl_setHas (X := libX) (L := L) hL k m v xss x hv.ss b2 h1
   cases h3 : setHas xss x with
   | true =>
    rw [h3] at o3
    simp (maxSteps := 1000000) -implicitDefEqProofs (disch := omega) [-getElem?_pos, -fin, c_impl_SetAdd, d1, o1, o2, o3, htk]
    exact fin_sety hext hso0 (Nat.le_refl _) hle
   | false =>
    rw [h3] at o3
    have hn := setOk_len h1
    have hne : xss ≠ [] := fun e => by subst e; simp at hn
    clear hn
    have hlp := iter_ex (n0 := m.length) (id := 1) (ka := some [1, 6]) (f := fun s => exec (den T libX L (k + 3)) L m.length none c_impl_SetAdd_b0 s) (tr := trim m.length (some [0, 1, 6])) (σ := Nat × List (List Int) × List Blk × Nat × Nat × Nat × List C)
     (fun s => ⟨[(0, .c v), (1, vi x), (6, .c (.sl s.2.2.2.2.2.1 0 s.2.1.length s.2.1.length))], s.2.2.1, s.2.2.2.1, 0⟩)
     (fun s => Zed xss s.2.1 ∧ settle x (srt xss.flatten) s.1 s.2.1 = settle x (srt xss.flatten) 4 xss ∧ 16 ≤ s.2.1.length * 2 ^ s.1 ∧ Ext m s.2.2.1 ∧ SX s.2.2.1 m.length s.2.2.2.2.1 s.2.2.2.2.2.1 s.2.2.2.2.2.2 s.2.1 ∧ s.2.2.2.2.1 ≤ mx s.2.2.2.1 (s.2.2.2.2.2.1 + 1))
     (fun s => s.1)
     (fun r => (∃ z M' e' hi q hs, r = (.norm, ⟨[(1, vi x), (6, .c (.sl q 0 z.length z.length))], M', e', 0⟩) ∧ settle x (srt xss.flatten) 4 xss = some z ∧ Ext m M' ∧ SX M' m.length hi q hs z ∧ hi ≤ mx e' (q + 1)) ∨
      (∃ M' e' hi q hs, r = (.ret, ⟨[(4, .c (.sl q 0 xss.length xss.length)), (5, .c (.int .i64 3))], M', e', 0⟩) ∧ settle x (srt xss.flatten) 4 xss = none ∧ Ext m M' ∧ SX M' m.length hi q hs xss ∧ hi ≤ mx e' (q + 1))) ?w
    case w =>
     rintro ⟨f, z, M', e', hi, q, hs⟩ ⟨hz, i1, i2, i3, i4, i5⟩
     simp only at hz i1 i2 i3 i4 i5 ⊢
     have hzl : 0 < z.length ∧ z.length ≤ 8 := by have := hz.len; omega
     have hz4 : z.length ≠ 8 → 2 * z.length ≤ 8 := by have := hz.len; omega
     have hg0 : f ≠ 0 := by
      rintro rfl
      rw [Nat.pow_zero] at i2
      omega
     have i2' : z.length * 2 ^ f = 2 * z.length * 2 ^ (f - 1) := by
      obtain ⟨g, rfl⟩ : ∃ g, f = g + 1 := ⟨f - 1, by omega⟩
      rw [Nat.pow_succ, Nat.add_sub_cancel, Nat.mul_comm 2 z.length, Nat.mul_assoc, Nat.mul_comm 2]
     rw [i2'] at i2
     clear i2'
     obtain ⟨hp, hp1⟩ := plc_lt (n := z.length) (by omega) x
     obtain ⟨p, hpe⟩ : ∃ p, p = plc z.length x := ⟨_, rfl⟩
     rw [← hpe] at hp hp1
     have o4 := den_placeOf (X := libX) (L := L) (k + 2) M' x z.length (by omega)
     rw [hp1] at o4
     have hpi : (p : Int) < (z.length : Int) := by omega
     have hlq := i4.live
     have hhl := i4.len
     obtain ⟨cp, hcp, hcs⟩ := i4.han hp
     have hcl := hcs.sl.lenV
     have hbk : bkt z x = nthL z p := by unfold bkt; rw [hp1, Int.toNat_natCast]
     obtain ⟨g, rfl⟩ : ∃ g, f = g + 1 := ⟨f - 1, by omega⟩
     rw [Nat.add_sub_cancel] at i2
     clear hg0
     generalize hR : settle x (srt xss.flatten) 4 xss = R at i1 ⊢
     rw [settle] at i1
     generalize hGG : 2 * z.length * 2 ^ g = G at i2
     rw [hbk] at i1
     by_cases h3 : (nthL z p).length = 3
     ·rw [if_pos h3] at i1
      have h3t : (((nthL z p).length : Int) = 3) = True := eq_true (by omega)
      by_cases h8 : z.length = 8
      ·rw [if_pos h8] at i1
       have h8t : ((z.length : Int) = 8) = True := eq_true (by omega)
       have hv' : SSA M' v xss := i3.ssa hv
       have d2 := den_ownSet (X := libX) (L := L) hL (k + 1) M' v xss hv' b1 b2
       have hsx2 := fresh_SX M' xss
       have hml2 := freshM_len M' xss
       have hext2 : Ext M' (freshM M' xss) := ⟨_, rfl⟩
       unfold freshR at d2
       generalize freshM M' xss = M2 at d2 hsx2 hml2 hext2
       refine ⟨.ret, _, by simp (maxSteps := 1000000) -implicitDefEqProofs (disch := omega) [-getElem?_pos, c_impl_SetAdd_b0, h3t, h8t, hpi, o4, hlq, hhl, hcp, hcl, d2, hne]; exact rfl, ?_⟩
       refine ⟨_, by simp (maxSteps := 1000000) -implicitDefEqProofs (disch := omega) [-getElem?_pos, c_blkr]; exact ⟨rfl, rfl⟩, .inr ⟨_, _, M'.length + 1 + xss.length, M'.length, hd (M'.length + 1) xss, rfl, i1.symm, ?_, ?_, ?_⟩⟩
       ·exact (i3.trans hext2).cut (le_mx_l _ _)
       ·exact (hsx2.low i3.len).cut (by simp only [mx_eq]; omega)
       ·simp only [mx_eq]; omega
      ·rw [if_neg h8] at i1
       have h8f : ¬ (z.length : Int) = 8 := by omega
       have hv' : SSA M' v xss := i3.ssa hv
       have hst := setOk_tot h1
       obtain ⟨c1, M1, bj, d2, x1, ob⟩ := listed_ob (L := L) hL k M' v xss hv' b1 b2 (by omega)
       obtain ⟨q2, M2, e2, d3, x2, hi2, hs2, sx2, hh2⟩ := den_bucketed (X := libX) (L := L) hL (k + 1) M1 c1 (srt xss.flatten) (2 * z.length) ob.sl (by have := hz4 h8; omega) (by rw [srt_len, tot_flatten]; omega)
       have hlq1 : live M1 q z.length = some ⟨hs, 103, 1, true⟩ := by
        obtain ⟨l', rfl⟩ := x1
        exact live_grow hlq
       have l1 := x1.len
       have l3 := i3.len
       have h2c : (2 : Int) * (z.length : Int) = ((2 * z.length : Nat) : Int) := by omega
       have sx3 := sx2.low (lo' := m.length) (by omega)
       have x3 := i3.trans (x1.trans x2)
       have hbl := buck_len (srt xss.flatten) (2 * z.length)
       have hz2 := hz.next h8
       generalize hN : 2 * z.length = N at d3 h2c hbl sx3 i1 hz2
       refine ⟨.norm, _, by simp (maxSteps := 1000000) -implicitDefEqProofs (disch := omega) [-getElem?_pos, c_impl_SetAdd_b0, h3t, h8f, hpi, o4, hlq, hhl, hcp, hcl, hlq1, d2, h2c, d3]; exact rfl, (g, buck (srt xss.flatten) N, _, _, hi2, q2, hs2), by simp (maxSteps := 1000000) -implicitDefEqProofs (disch := omega) [-getElem?_pos, hbl]; exact ⟨rfl, rfl⟩, ⟨hz2, i1, ?_, ?_, ?_, ?_⟩, Nat.lt_succ_self g⟩
       ·show 16 ≤ (buck (srt xss.flatten) N).length * 2 ^ g
        rw [hbl, ← hN, hGG]
        exact i2
       ·exact x3.cut (le_mx_l _ _)
       ·exact sx3.cut (by simp only [mx_eq] at hh2 ⊢; omega)
       ·simp only [mx_eq] at hh2 ⊢; omega
     ·rw [if_neg h3] at i1
      have h3' : ¬ ((nthL z p).length : Int) = 3 := by omega
      refine ⟨.exit 1, _, by simp (maxSteps := 1000000) -implicitDefEqProofs (disch := omega) [-getElem?_pos, c_impl_SetAdd_b0, hpi, o4, hlq, hhl, hcp, hcl, h3']; rfl, ?_⟩
      refine ⟨_, rfl, .inl ⟨z, _, _, hi, q, hs, by simp (maxSteps := 1000000) -implicitDefEqProofs (disch := omega) [-getElem?_pos, c_blkx]; rfl, i1.symm, ?_, ?_, i5⟩⟩
      ·exact i3.cut (le_mx_l _ _)
      ·exact i4.cut (by simp only [mx_eq] at i5 ⊢; omega)
    simp (maxSteps := 1000000) -implicitDefEqProofs (disch := omega) [-getElem?_pos, -fin, c_impl_SetAdd, d1, o1, o2, o3, hne]
    generalize hqq : blkC _ _ _ (iter _ _ _ _) = qq
    obtain ⟨r, e1, hr⟩ : ∃ r, qq = some r ∧ ((∃ z M' e' hi q hs, r = (Ex.norm, ⟨[(1, vi x), (6, .c (.sl q 0 z.length z.length))], M', e', 0⟩) ∧ settle x (srt xss.flatten) 4 xss = some z ∧ Ext m M' ∧ SX M' m.length hi q hs z ∧ hi ≤ mx e' (q + 1)) ∨
      (∃ M' e' hi q hs, r = (.ret, ⟨[(4, .c (.sl q 0 xss.length xss.length)), (5, .c (.int .i64 3))], M', e', 0⟩) ∧ settle x (srt xss.flatten) 4 xss = none ∧ Ext m M' ∧ SX M' m.length hi q hs xss ∧ hi ≤ mx e' (q + 1))) := by
     rw [← hqq]
     refine hlp L (4, xss, _, q0 + 1 + xss.length, q0 + 1 + xss.length, q0, hd (q0 + 1) xss) _ ?I (by simp (maxSteps := 1000000) -implicitDefEqProofs (disch := omega) [-getElem?_pos, hne]; rfl) (by show 4 < L; omega)
     refine ⟨Zed.start h1, rfl, ?_, hext.cut (le_mx_l _ _), hsx.cut (by simp only [mx_eq]; omega), ?_⟩
     ·have := setOk_len h1
      show 16 ≤ xss.length * 2 ^ 4
      omega
     ·show q0 + 1 + xss.length ≤ mx (q0 + 1 + xss.length) (q0 + 1)
      exact le_mx_l _ _
    clear hlp hqq
    rcases hr with ⟨z, M', e', hi, q, hs, rfl, hst, w1, w2, w3⟩ | ⟨M', e', hi, q, hs, rfl, hst, w1, w2, w3⟩
    ·subst e1
     obtain ⟨hz, hb3⟩ := settle_Zed 4 (Zed.start h1) hst
     have hzl : 0 < z.length ∧ z.length ≤ 8 := by have := hz.len; omega
     rw [hst]
     obtain ⟨hp, hp1⟩ := plc_lt (n := z.length) (by omega) x
     obtain ⟨p, hpe⟩ : ∃ p, p = plc z.length x := ⟨_, rfl⟩
     rw [← hpe] at hp hp1
     have hasc := hz.asc p hp
     have hsm := (hz.small h1).2 p hp
     clear hz hb3 hst o1 o2 o3 d1 hsx hext hle htk hso0
     simp only [bkt, hp1, Int.toNat_natCast]
     have hai := app_ins hasc x
     have o4 := den_placeOf (X := libX) (L := L) (k + 2) M' x z.length (by omega)
     rw [hp1] at o4
     have hpi : (p : Int) < (z.length : Int) := by omega
     have hlq := w2.live
     have hhl := w2.len
     have hqM : q < M'.length := lt_of_get w2.hdr
     have hlq2 : ∀ l, live (M' ++ l) q z.length = some ⟨hs, 103, 1, true⟩ := fun l => live_grow hlq
     have hset : ∀ l W, (M' ++ l).set q W = M'.set q W ++ l := fun l W => List.set_append_left _ _ hqM
     have hsrt : ∀ (c : C) (M : List Blk), den T libX L (k + 3) 121 [.c c] M = sortF [.c c] M := fun c M => by rw [den_out rfl, libX_sort]
     have hu1 : unI [ci x] = some [x] := rfl
     have hw0 : m.length - q = 0 := by have := w2.q1; omega
     have hpl : p < hs.length := by omega
     have hlp2 : ∀ c, (lay hs p [c])[p]? = some c := fun c => by rw [lay_one hpl, if_pos rfl]
     have hll : ∀ c, (lay hs p [c]).length = z.length := fun c => by rw [lay_lenP hpl, hhl]
     rcases w2.bk p hp with ⟨a1, a2⟩ | ⟨b, a1, a2, a3, a4, a5⟩
     ·obtain ⟨u1, u2⟩ := w2.appNew (p := p) (b := M'.length + 1) (n := 1) (xs := srt [x]) (l := [⟨[ci x], 3, 1, true⟩, ⟨ints (srt [x]), 3, 1, true⟩]) w1 hp (by rw [srt_len]; rfl) (by omega) (by rw [get_app]; rfl)
      rw [a2, List.nil_append] at hai
      rw [a2, ← hai]
      have hlq3 : ∀ W l, live (M'.set q W ++ l) q z.length = if z.length = W.cs.length then some W else none := fun W l => by
       unfold live
       rw [List.getElem?_append_left (by simpa using hqM), List.getElem?_set_self hqM]
       rfl
      simp (maxSteps := 1000000) -implicitDefEqProofs (disch := omega) [-getElem?_pos, -fin, c_impl_SetAdd, hpi, o4, hlq, hlq2, hlq3, hhl, a1, hset, hsrt, sortF, hu1, hlp2, hll, hw0]
      have u3 := u1.cut (a := mx m.length (mx (mx e' (M'.length + 2)) (q + 1))) (by simp only [mx_eq]; omega)
      have u4 := u3.so
      rw [setN_len] at u4
      exact fin_sety (u2.cut (le_mx_l _ _)) u4 u3.hm (by simp only [mx_eq]; omega)
     ·obtain ⟨u1, u2⟩ := w2.appIn (p := p) (b := b) (l := [⟨[ci x], 3, 1, true⟩]) w1 hp a1 a2 a3 a4 a5 x
      obtain ⟨v1, v2⟩ := u1.over (p := p) (b := b) (n := (nthL z p).length + 1) (ys := srt (nthL z p ++ [x])) u2 (by rw [setN_len]; exact hp) (hlp2 _) (by rw [srt_len, List.length_append]; rfl) a3 a4 a5
      rw [setN_setN] at v1
      rw [← hai]
      have hbM : b < M'.length := lt_of_get a2
      have hlb : ∀ l, live (M' ++ l) b (nthL z p).length = some (blkI (nthL z p)) := fun l => live_grow (by unfold live; rw [a2]; simp [blkI, ints_len])
      have hlq3 : ∀ Z l, live (M'.set b Z ++ l) q z.length = some ⟨hs, 103, 1, true⟩ := fun Z l => by
       have := hlq2 l
       unfold live at this ⊢
       rw [List.getElem?_append_left (by simpa using hqM), List.getElem?_set_ne a5]
       rwa [List.getElem?_append_left hqM] at this
      have hset2 : ∀ Z l W, (M'.set b Z ++ l).set q W = (M'.set b Z).set q W ++ l := fun Z l W => List.set_append_left _ _ (by simpa using hqM)
      have hlq4 : ∀ Z W l, live ((M'.set b Z).set q W ++ l) q z.length = if z.length = W.cs.length then some W else none := fun Z W l => by
       unfold live
       rw [List.getElem?_append_left (by simpa using hqM), List.getElem?_set_self (by simpa using hqM)]
       rfl
      have hlb4 : ∀ Z W l t, live ((M'.set b Z).set q W ++ l) b t = if t = Z.cs.length then some Z else none := fun Z W l t => by
       unfold live
       rw [List.getElem?_append_left (by simpa using hbM), List.getElem?_set_ne (Ne.symm a5), List.getElem?_set_self hbM]
       rfl
      have hu2 : unI (ints (nthL z p) ++ [ci x]) = some (nthL z p ++ [x]) := by rw [ints_snoc', unI_ints]
      have hwb : m.length - b = 0 := by omega
      simp (maxSteps := 1000000) -implicitDefEqProofs (disch := omega) [-getElem?_pos, -fin, c_impl_SetAdd, hpi, o4, hlq, hlq2, hlq3, hlq4, hlb, hlb4, hhl, a1, hset, hset2, hsrt, sortF, hu2, hlp2, hll, hw0, hwb]
      have u3 := v1.cut (a := mx m.length (mx (mx e' (b + 1)) (q + 1))) (by simp only [mx_eq] at w3 ⊢; omega)
      have u4 := u3.so
      rw [setN_len] at u4
      exact fin_sety (v2.cut (le_mx_l _ _)) u4 u3.hm (by simp only [mx_eq] at w3 ⊢; omega)
    ·subst e1
     rw [hst]
     simp (maxSteps := 1000000) -implicitDefEqProofs (disch := omega) [-getElem?_pos, -fin]
     exact fin_sety w1 w2.so w2.hm w3
end Go.Proofs.YtfbeplbcaanimaaGreat
set_option linter.unusedVariables false
set_option linter.unusedSimpArgs false
set_option maxHeartbeats 4000000
namespace Go.Proofs.YtfbeplbcaanimaaGreat
variable {X : FuncId → List V → List Blk → Option Ret} {L : Nat}
theorem spec_SetAdd (hL : 2000000 ≤ L) (k : Nat) (m : List Blk) (v : C) (xss : List (List Int)) (x : Int) (hv : SSA m v xss) (b1 : xss.length ≤ 1048576) (b2 : ∀ xs ∈ xss, xs.length ≤ 1048576) :
  ∃ M c e, den T X L (k + 5) 71 [.c v, vi x] m = some ⟨.tup [.c c, vi (setAdd xss x).2], M, e, 0⟩ ∧ Ext m M ∧ SO M m.length M.length c (setAdd xss x).1 ∧ M.length ≤ mx e c.refs := by
 rw [den_eq T_71]
 have d1 := den_l16Copy (X := X) (L := L) hL (k + 2) m v xss hv b1 b2
 have hsx := fresh_SX m xss
 have hml := freshM_len m xss
 have hext : Ext m (freshM m xss) := ⟨_, rfl⟩
 unfold freshR at d1
 generalize freshM m xss = M at d1 hsx hml hext
 obtain ⟨q0, hq0⟩ : ∃ q, q = m.length := ⟨_, rfl⟩
 rw [← hq0] at d1 hml
 have hsx : SX M m.length (q0 + 1 + xss.length) q0 (hd (q0 + 1) xss) xss := by rw [hq0]; exact hsx
 have hle : M.length ≤ mx (if xss = [] then 0 else q0 + 1 + xss.length) (q0 + 1) := by
  rw [mx_eq, hml]
  split
  ·rename_i h; subst h; simp
  ·omega
 have htk : List.take (mx (if xss = [] then 0 else q0 + 1 + xss.length) (q0 + 1)) M = M := List.take_of_length_le hle
 have hso0 : SO M m.length M.length (.sl q0 0 xss.length xss.length) xss := by rw [hml]; exact hsx.so
 have hx1 := hext.ssa hv
 have o1 := den_spec_SetOk (X := X) (L := L) hL (k + 1) M v xss hx1.ss b1 b2
 have o2 := den_l1Value (X := X) (L := L) (k + 2) M x
 unfold setAdd
 cases h1 : setOk xss with
 | false =>
  rw [h1] at o1
  simp (maxSteps := 1000000) -implicitDefEqProofs (disch := omega) [-getElem?_pos, -fin, c_spec_SetAdd, d1, o1, htk]
  exact fin_sety hext hso0 (Nat.le_refl _) hle
 | true =>
  rw [h1] at o1
  cases h2 : isVal x with
  | false =>
   rw [h2] at o2
   simp (maxSteps := 1000000) -implicitDefEqProofs (disch := omega) [-getElem?_pos, -fin, c_spec_SetAdd, d1, o1, o2, htk]
   exact fin_sety hext hso0 (Nat.le_refl _) hle
  | true =>
   rw [h2] at o2
   have o3 := den_spec_SetHas16 (X := X) (L := L) hL k M v xss x hx1.ss b1 b2
   rw [h1, Bool.true_and] at o3
   cases h3 : setHas xss x with
   | true =>
    rw [h3] at o3
    simp (maxSteps := 1000000) -implicitDefEqProofs (disch := omega) [-getElem?_pos, -fin, c_spec_SetAdd, d1, o1, o2, o3, htk]
    exact fin_sety hext hso0 (Nat.le_refl _) hle
   | false =>
    rw [h3] at o3
    have hn := setOk_len h1
    have hne : xss ≠ [] := fun e => by subst e; simp at hn
    clear hn
    have hlp := iter_ex (n0 := m.length) (id := 0) (ka := some [1, 6]) (f := fun s => exec (den T X L (k + 4)) L m.length none c_spec_SetAdd_b0 s) (tr := trim m.length (some [0, 1, 6])) (σ := Nat × List (List Int) × List Blk × Nat × Nat × Nat × List C)
     (fun s => ⟨[(0, .c v), (1, vi x), (6, .c (.sl s.2.2.2.2.2.1 0 s.2.1.length s.2.1.length))], s.2.2.1, s.2.2.2.1, 0⟩)
     (fun s => Zed xss s.2.1 ∧ settle x (srt xss.flatten) s.1 s.2.1 = settle x (srt xss.flatten) 4 xss ∧ 16 ≤ s.2.1.length * 2 ^ s.1 ∧ Ext m s.2.2.1 ∧ SX s.2.2.1 m.length s.2.2.2.2.1 s.2.2.2.2.2.1 s.2.2.2.2.2.2 s.2.1 ∧ s.2.2.2.2.1 ≤ mx s.2.2.2.1 (s.2.2.2.2.2.1 + 1))
     (fun s => s.1)
     (fun r => (∃ z M' e' hi q hs, r = (.norm, ⟨[(1, vi x), (6, .c (.sl q 0 z.length z.length))], M', e', 0⟩) ∧ settle x (srt xss.flatten) 4 xss = some z ∧ Ext m M' ∧ SX M' m.length hi q hs z ∧ hi ≤ mx e' (q + 1)) ∨
      (∃ M' e' hi q hs, r = (.ret, ⟨[(4, .c (.sl q 0 xss.length xss.length)), (5, .c (.int .i64 3))], M', e', 0⟩) ∧ settle x (srt xss.flatten) 4 xss = none ∧ Ext m M' ∧ SX M' m.length hi q hs xss ∧ hi ≤ mx e' (q + 1))) ?w
    case w =>
     rintro ⟨f, z, M', e', hi, q, hs⟩ ⟨hz, i1, i2, i3, i4, i5⟩
     simp only at hz i1 i2 i3 i4 i5 ⊢
     have hzl : 0 < z.length ∧ z.length ≤ 8 := by have := hz.len; omega
     have hz4 : z.length ≠ 8 → 2 * z.length ≤ 8 := by have := hz.len; omega
     have hg0 : f ≠ 0 := by
      rintro rfl
      rw [Nat.pow_zero] at i2
      omega
     have i2' : z.length * 2 ^ f = 2 * z.length * 2 ^ (f - 1) := by
      obtain ⟨g, rfl⟩ : ∃ g, f = g + 1 := ⟨f - 1, by omega⟩
      rw [Nat.pow_succ, Nat.add_sub_cancel, Nat.mul_comm 2 z.length, Nat.mul_assoc, Nat.mul_comm 2]
     rw [i2'] at i2
     clear i2'
     obtain ⟨hp, hp1⟩ := plc_lt (n := z.length) (by omega) x
     obtain ⟨p, hpe⟩ : ∃ p, p = plc z.length x := ⟨_, rfl⟩
     rw [← hpe] at hp hp1
     have o4 := den_l16Place (X := X) (L := L) (k + 3) M' x z.length (by omega)
     rw [hp1] at o4
     have hpi : (p : Int) < (z.length : Int) := by omega
     have hlq := i4.live
     have hhl := i4.len
     obtain ⟨cp, hcp, hcs⟩ := i4.han hp
     have hcl := hcs.sl.lenV
     have hbk : bkt z x = nthL z p := by unfold bkt; rw [hp1, Int.toNat_natCast]
     obtain ⟨g, rfl⟩ : ∃ g, f = g + 1 := ⟨f - 1, by omega⟩
     rw [Nat.add_sub_cancel] at i2
     clear hg0
     generalize hR : settle x (srt xss.flatten) 4 xss = R at i1 ⊢
     rw [settle] at i1
     generalize hGG : 2 * z.length * 2 ^ g = G at i2
     rw [hbk] at i1
     by_cases h3 : (nthL z p).length = 3
     ·rw [if_pos h3] at i1
      have h3t : (((nthL z p).length : Int) = 3) = True := eq_true (by omega)
      by_cases h8 : z.length = 8
      ·rw [if_pos h8] at i1
       have h8t : ((z.length : Int) = 8) = True := eq_true (by omega)
       have hv' : SSA M' v xss := i3.ssa hv
       have d2 := den_l16Copy (X := X) (L := L) hL (k + 2) M' v xss hv' b1 b2
       have hsx2 := fresh_SX M' xss
       have hml2 := freshM_len M' xss
       have hext2 : Ext M' (freshM M' xss) := ⟨_, rfl⟩
       unfold freshR at d2
       generalize freshM M' xss = M2 at d2 hsx2 hml2 hext2
       refine ⟨.ret, _, by simp (maxSteps := 1000000) -implicitDefEqProofs (disch := omega) [-getElem?_pos, c_spec_SetAdd_b0, h3t, h8t, hpi, o4, hlq, hhl, hcp, hcl, d2, hne]; exact rfl, ?_⟩
       refine ⟨_, by simp (maxSteps := 1000000) -implicitDefEqProofs (disch := omega) [-getElem?_pos, c_blkr]; exact ⟨rfl, rfl⟩, .inr ⟨_, _, M'.length + 1 + xss.length, M'.length, hd (M'.length + 1) xss, rfl, i1.symm, ?_, ?_, ?_⟩⟩
       ·exact (i3.trans hext2).cut (le_mx_l _ _)
       ·exact (hsx2.low i3.len).cut (by simp only [mx_eq]; omega)
       ·simp only [mx_eq]; omega
      ·rw [if_neg h8] at i1
       have h8f : ¬ (z.length : Int) = 8 := by omega
       have hsz := (hz.small h1).1
       obtain ⟨q2, M2, e2, d3, x2, hi2, hs2, sx2, hh2⟩ := den_l16Double (X := X) (L := L) hL (k + 2) M' _ z i4.so.ssa ⟨hzl.1, hz4 h8⟩ (by omega)
       have l3 := i3.len
       have sx3 := sx2.low (lo' := m.length) (by omega)
       have x3 := i3.trans x2
       have hz2 := hz.next h8
       rw [dbl_buck, perm_srt hz.perm] at sx3
       have hbl := buck_len (srt xss.flatten) (2 * z.length)
       generalize hN : 2 * z.length = N at d3 hbl sx3 i1 hz2
       refine ⟨.norm, _, by simp (maxSteps := 1000000) -implicitDefEqProofs (disch := omega) [-getElem?_pos, c_spec_SetAdd_b0, h3t, h8f, hpi, o4, hlq, hhl, hcp, hcl, d3]; exact rfl, (g, buck (srt xss.flatten) N, _, _, hi2, q2, hs2), by simp (maxSteps := 1000000) -implicitDefEqProofs (disch := omega) [-getElem?_pos, hbl]; exact ⟨rfl, rfl⟩, ⟨hz2, i1, ?_, ?_, ?_, ?_⟩, Nat.lt_succ_self g⟩
       ·show 16 ≤ (buck (srt xss.flatten) N).length * 2 ^ g
        rw [hbl, ← hN, hGG]
        exact i2
       ·exact x3.cut (le_mx_l _ _)
       ·exact sx3.cut (by simp only [mx_eq] at hh2 ⊢; omega)
       ·simp only [mx_eq] at hh2 ⊢; omega
     ·rw [if_neg h3] at i1
      have h3' : ¬ ((nthL z p).length : Int) = 3 := by omega
      refine ⟨.exit 0, _, by simp (maxSteps := 1000000) -implicitDefEqProofs (disch := omega) [-getElem?_pos, c_spec_SetAdd_b0, hpi, o4, hlq, hhl, hcp, hcl, h3']; rfl, ?_⟩
      refine ⟨_, rfl, .inl ⟨z, _, _, hi, q, hs, by simp (maxSteps := 1000000) -implicitDefEqProofs (disch := omega) [-getElem?_pos, c_blkx]; rfl, i1.symm, ?_, ?_, i5⟩⟩
      ·exact i3.cut (le_mx_l _ _)
      ·exact i4.cut (by simp only [mx_eq] at i5 ⊢; omega)
    simp (maxSteps := 1000000) -implicitDefEqProofs (disch := omega) [-getElem?_pos, -fin, c_spec_SetAdd, d1, o1, o2, o3, hne]
    generalize hqq : blkC _ _ _ (iter _ _ _ _) = qq
    obtain ⟨r, e1, hr⟩ : ∃ r, qq = some r ∧ ((∃ z M' e' hi q hs, r = (Ex.norm, ⟨[(1, vi x), (6, .c (.sl q 0 z.length z.length))], M', e', 0⟩) ∧ settle x (srt xss.flatten) 4 xss = some z ∧ Ext m M' ∧ SX M' m.length hi q hs z ∧ hi ≤ mx e' (q + 1)) ∨
      (∃ M' e' hi q hs, r = (.ret, ⟨[(4, .c (.sl q 0 xss.length xss.length)), (5, .c (.int .i64 3))], M', e', 0⟩) ∧ settle x (srt xss.flatten) 4 xss = none ∧ Ext m M' ∧ SX M' m.length hi q hs xss ∧ hi ≤ mx e' (q + 1))) := by
     rw [← hqq]
     refine hlp L (4, xss, _, q0 + 1 + xss.length, q0 + 1 + xss.length, q0, hd (q0 + 1) xss) _ ?I (by simp (maxSteps := 1000000) -implicitDefEqProofs (disch := omega) [-getElem?_pos, hne]; rfl) (by show 4 < L; omega)
     refine ⟨Zed.start h1, rfl, ?_, hext.cut (le_mx_l _ _), hsx.cut (by simp only [mx_eq]; omega), ?_⟩
     ·have := setOk_len h1
      show 16 ≤ xss.length * 2 ^ 4
      omega
     ·show q0 + 1 + xss.length ≤ mx (q0 + 1 + xss.length) (q0 + 1)
      exact le_mx_l _ _
    clear hlp hqq
    rcases hr with ⟨z, M', e', hi, q, hs, rfl, hst, w1, w2, w3⟩ | ⟨M', e', hi, q, hs, rfl, hst, w1, w2, w3⟩
    ·subst e1
     obtain ⟨hz, hb3⟩ := settle_Zed 4 (Zed.start h1) hst
     have hzl : 0 < z.length ∧ z.length ≤ 8 := by have := hz.len; omega
     rw [hst]
     obtain ⟨hp, hp1⟩ := plc_lt (n := z.length) (by omega) x
     obtain ⟨p, hpe⟩ : ∃ p, p = plc z.length x := ⟨_, rfl⟩
     rw [← hpe] at hp hp1
     have hsm := (hz.small h1).2 p hp
     clear hz hb3 hst o1 o2 o3 d1 hsx hext hle htk hso0
     simp only [bkt, hp1, Int.toNat_natCast]
     have o4 := den_l16Place (X := X) (L := L) (k + 3) M' x z.length (by omega)
     rw [hp1] at o4
     have hpi : (p : Int) < (z.length : Int) := by omega
     have hlq := w2.live
     have hhl := w2.len
     have hqM : q < M'.length := lt_of_get w2.hdr
     have hlq2 : ∀ l, live (M' ++ l) q z.length = some ⟨hs, 103, 1, true⟩ := fun l => live_grow hlq
     have hset : ∀ l W, (M' ++ l).set q W = M'.set q W ++ l := fun l W => List.set_append_left _ _ hqM
     have hw0 : m.length - q = 0 := by have := w2.q1; omega
     obtain ⟨cp, hcp, hcs⟩ := w2.han hp
     have o5 := den_l16Put (X := X) (L := L) hL (k + 3) M' cp _ x hcs (by omega)
     obtain ⟨u1, u2⟩ := w2.appNew (p := p) (b := M'.length) (xs := insL (nthL z p) x) (l := [blkI (insL (nthL z p) x)]) w1 hp rfl (Nat.le_refl _) (by rw [get_app0]; rfl)
     generalize insL (nthL z p) x = ins at o5 u1 u2 ⊢
     simp (maxSteps := 1000000) -implicitDefEqProofs (disch := omega) [-getElem?_pos, -fin, c_spec_SetAdd, hpi, o4, o5, hlq, hlq2, hhl, hcp, hset, hw0]
     have u3 := u1.cut (a := mx m.length (mx (mx e' (M'.length + 1)) (q + 1))) (by simp only [mx_eq]; omega)
     have u4 := u3.so
     rw [setN_len] at u4
     exact fin_sety (u2.cut (le_mx_l _ _)) u4 u3.hm (by simp only [mx_eq]; omega)
    ·subst e1
     rw [hst]
     simp (maxSteps := 1000000) -implicitDefEqProofs (disch := omega) [-getElem?_pos, -fin]
     exact fin_sety w1 w2.so w2.hm w3
end Go.Proofs.YtfbeplbcaanimaaGreat
set_option linter.unusedVariables false
set_option linter.unusedSimpArgs false
set_option maxHeartbeats 4000000
namespace Go.Proofs.YtfbeplbcaanimaaGreat
variable {X : FuncId → List V → List Blk → Option Ret} {L : Nat}
structure Bd (z : List (List Int)) : Prop where
 l : z.length ≤ 1048576
 e : ∀ xs ∈ z, xs.length ≤ 1048576
 t : tot z ≤ 1073741824
theorem Bd.add {z : List (List Int)} (h : Bd z) (x : Int) : Bd (setAdd z x).1 := let ⟨a, b, c⟩ := setAdd_b (x := x) h.l h.e h.t; ⟨a, b, c⟩
theorem SO.cut {m : List Blk} {lo hi a : Nat} {c : C} {z : List (List Int)} (h : SO m lo hi c z) (ha : hi ≤ a) : SO (m.take a) lo hi c z := h.congr fun q _ hq => List.getElem?_take_of_lt (by omega)
end Go.Proofs.YtfbeplbcaanimaaGreat
set_option linter.unusedVariables false
set_option linter.unusedSimpArgs false
set_option maxHeartbeats 4000000
namespace Go.Proofs.YtfbeplbcaanimaaGreat
variable {X : FuncId → List V → List Blk → Option Ret} {L : Nat}
end Go.Proofs.YtfbeplbcaanimaaGreat
