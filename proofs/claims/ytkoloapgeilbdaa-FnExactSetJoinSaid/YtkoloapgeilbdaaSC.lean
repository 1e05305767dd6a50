/-
  Sets: dropped; the law of SetDrop.
-/
import Derived.Test.YtkoloapgeilbdaaSB
set_option linter.unusedVariables false
set_option linter.unusedSimpArgs false
set_option maxHeartbeats 4000000
namespace Go.Proofs.Ytkoloapgeilbdaa
variable {X : FuncId → List V → List Blk → Option Ret} {L : Nat}

theorem lay_one {cs : List C} {p j : Nat} {c : C} (hp : p < cs.length) : (lay cs p [c])[j]? = if j = p then some c else cs[j]? := by
  unfold lay
  rw [List.append_assoc, List.getElem?_append, List.length_take, Nat.min_eq_left (by omega)]
  by_cases h : j < p
  · rw [if_pos h, if_neg (by omega), List.getElem?_take_of_lt h]
  · rw [if_neg h]
    by_cases e : j = p
    · subst e; simp
    · rw [if_neg e, List.getElem?_append_right (by simp; omega), List.getElem?_drop]
      simp only [List.length_cons, List.length_nil]
      congr 1
      omega
theorem lay_lenP {cs : List C} {p : Nat} {c : C} (hp : p < cs.length) : (lay cs p [c]).length = cs.length := by
  unfold lay
  simp
  omega
def setN (xss : List (List Int)) (p : Nat) (xs : List Int) : List (List Int) := xss.set p xs
theorem setN_len (xss : List (List Int)) (p : Nat) (xs : List Int) : (setN xss p xs).length = xss.length := by simp [setN]
theorem setN_nth {xss : List (List Int)} {p j : Nat} {xs : List Int} (hp : p < xss.length) : nthL (setN xss p xs) j = if j = p then xs else nthL xss j := by
  unfold nthL setN
  by_cases e : j = p
  · subst e; simp [List.getD_eq_getElem?_getD, hp]
  · rw [if_neg e]
    simp only [List.getD_eq_getElem?_getD]
    rw [List.getElem?_set_ne (Ne.symm e)]
/-- A set of one's own, laid as a copy is laid. -/
structure Laid (M : List Blk) (q : Nat) (xss : List (List Int)) : Prop where
  hdr : M[q]? = some ⟨hd (q + 1) xss, 30, 1, true⟩
  bks : ∀ j, j < xss.length → M[q + 1 + j]? = some (blkI (nthL xss j))
theorem fresh_laid (m : List Blk) (xss : List (List Int)) : Laid (freshM m xss) m.length xss := by
  refine ⟨by unfold freshM; rw [get_app0]; rfl, fun j hj => ?_⟩
  unfold freshM
  rw [show m.length + 1 + j = m.length + (j + 1) by omega, get_app]
  simp [nthL, List.getD_eq_getElem?_getD, hj, blkI]
/-- One bucket put anew. -/
theorem Laid.put {M M' : List Blk} {q lo p : Nat} {xss : List (List Int)} {c : C} {bj : Nat} {xs : List Int} (h : Laid M q xss) (hp : p < xss.length) (hlo : lo ≤ q) (hl : q + 1 + xss.length ≤ M'.length)
    (h1 : M'[q]? = some ⟨lay (hd (q + 1) xss) p [c], 30, 1, true⟩) (h2 : ∀ j, j < xss.length → j ≠ p → M'[q + 1 + j]? = M[q + 1 + j]?) (h3 : OB M' lo M'.length q bj c xs) (h4 : ∀ j, j < xss.length → j ≠ p → bj ≠ q + 1 + j) :
    SO M' lo M'.length (.sl q 0 xss.length xss.length) (setN xss p xs) := by
  have hl1 := hd_len (q + 1) xss
  refine ⟨q, lay (hd (q + 1) xss) p [c], fun j => if j = p then bj else q + 1 + j, hlo, by omega, by rw [setN_len], h1, by rw [lay_lenP (by omega), hl1, setN_len], fun i j hi hj hij => ?_, fun j hj => ?_⟩
  · rw [setN_len] at hi hj
    by_cases e1 : i = p
    · by_cases e2 : j = p
      · omega
      · simp only [e1, if_true, if_neg e2] at hij
        exact absurd hij (h4 j hj e2)
    · by_cases e2 : j = p
      · simp only [e2, if_true, if_neg e1] at hij
        exact absurd hij.symm (h4 i hi e1)
      · simp only [if_neg e1, if_neg e2] at hij
        omega
  · rw [setN_len] at hj
    rw [setN_nth hp, lay_one (by omega)]
    by_cases e : j = p
    · simp only [e, if_true]
      exact ⟨c, rfl, h3⟩
    · simp only [if_neg e]
      exact ⟨_, hd_get hj, .inr ⟨ints (nthL xss j), by rw [ints_len], by omega, by omega, by omega, (h2 j hj e).trans (h.bks j hj), by rw [ints_len]; exact Nat.le_refl _, fun i hi => ints_get' hi⟩⟩
def setDrop (xss : List (List Int)) (x : Int) : List (List Int) × Int :=
  if setOk xss = true ∧ isVal x = true then (if setHas xss x = true then (setN xss (x % (xss.length : Int)).toNat (without (bkt xss x) x), 0) else (xss, 4)) else (xss, 1)
/-- In a bucket that is right each value stands once. -/
theorem bk_once {n b : Int} {xs : List Int} (h : bkOk n b xs = true) : ∀ i j, i < xs.length → j < xs.length → nth xs i = nth xs j → i = j := by
  simp only [bkOk, Bool.and_eq_true, decide_eq_true_eq] at h
  have step : ∀ i, i + 1 < xs.length → nth xs i < nth xs (i + 1) := fun i hi => by
    have := h.2 (i + 1) hi
    simp only [elOk, Bool.and_eq_true, decide_eq_true_eq, Nat.add_sub_cancel] at this
    exact this.2 (Nat.succ_pos i)
  have mono : ∀ d i, i + d + 1 < xs.length → nth xs i < nth xs (i + d + 1) := by
    intro d
    induction d with
    | zero => intro i hi; exact step i hi
    | succ d ih =>
      intro i hi
      have h1 := ih i (by omega)
      have h2 := step (i + d + 1) (by omega)
      rw [show i + (d + 1) + 1 = i + d + 1 + 1 by omega]
      omega
  intro i j hi hj he
  rcases Nat.lt_trichotomy i j with hlt | rfl | hlt
  · have := mono (j - i - 1) i (by omega)
    rw [show i + (j - i - 1) + 1 = j by omega] at this
    omega
  · rfl
  · have := mono (i - j - 1) j (by omega)
    rw [show j + (i - j - 1) + 1 = i by omega] at this
    omega
theorem place_lt {xss : List (List Int)} (ho : setOk xss = true) (x : Int) : ∃ p : Nat, x % (xss.length : Int) = p ∧ p < xss.length := by
  have hn := setOk_len ho
  have h1 := Int.emod_nonneg x (show (xss.length : Int) ≠ 0 by omega)
  have h2 := Int.emod_lt_of_pos x (show 0 < (xss.length : Int) by omega)
  exact ⟨(x % (xss.length : Int)).toNat, by omega, by omega⟩
theorem bkt_ok {xss : List (List Int)} (ho : setOk xss = true) {p : Nat} (hp : p < xss.length) : bkOk xss.length p (nthL xss p) = true := by
  simp only [setOk, Bool.and_eq_true, decide_eq_true_eq] at ho
  exact ho.2 p hp
theorem refsL_get {cs : List C} {c : C} {j : Nat} (h : cs[j]? = some c) : c.refs ≤ refsL cs := refsL_le.1 (Nat.le_refl _) c (List.mem_of_getElem? h)
/-- What is handed back: a set of one's own and a code. -/
theorem fin_set {m M : List Blk} {hi q n e : Nat} {env : List (Nat × V)} {code : Int} {xss : List (List Int)} (hE : Ext m M) (h : SO M m.length hi (.sl q 0 n n) xss) (hm : hi ≤ M.length) (ha : hi ≤ mx e (q + 1)) :
    ∃ M' c e', fin m.length (.tup [.c (.sl q 0 n n), .c (.int .i64 code)]) ⟨env, M, e, 0⟩ = ⟨.tup [.c c, .c (.int .i64 code)], M', e', 0⟩ ∧ Ext m M' ∧ SO M' m.length M'.length c xss ∧ M'.length ≤ mx e' c.refs := by
  obtain ⟨b, hs, bi, h1, h2, h3, h4, h5, h6, h7⟩ := h
  injection h3 with h3 _ h3' _
  subst h3
  subst h3'
  have hq : ¬ q + 1 ≤ m.length := by omega
  have hown : ¬ q < m.length := by omega
  by_cases hr : refsL hs = 0
  · refine ⟨m ++ [⟨hs, 30, 1, true⟩], .sl m.length 0 xss.length xss.length, 0, ?_, ⟨_, rfl⟩, ⟨m.length, hs, fun j => m.length + 1 + j, Nat.le_refl _, by simp, rfl, by simp, h5, fun i j _ _ hij => by simp only at hij; omega, fun j hj => ?_⟩, by simp [C.refs, mx_eq]⟩
    · simp [fin, V.refs, V.refsAll, C.refs, hq, V.own, C.own, hown, nub, pickB, h4, hr, V.ren, C.ren, pos, hE.fin0]
    · obtain ⟨c, k1, k2⟩ := h7 j hj
      refine ⟨c, k1, ?_⟩
      rcases k2 with k2 | ⟨cs, k2, _⟩
      · exact .inl k2
      · have := refsL_get k1
        rw [k2] at this
        simp only [C.refs] at this
        omega
  · refine ⟨M.take (mx m.length (mx e (q + 1))), .sl q 0 xss.length xss.length, e, ?_, ?_, ?_, by rw [List.length_take]; simp only [C.refs, mx_eq]; omega⟩
    · simp [fin, V.refs, V.refsAll, C.refs, hq, V.own, C.own, hown, nub, pickB, h4, hr]
    · have hl := hE.len
      have := le_mx_l m.length (mx e (q + 1))
      exact Ext.of (by rw [List.length_take]; omega) fun j hj => by rw [List.getElem?_take_of_lt (by omega), hE.get hj]
    · have ha' : hi ≤ mx m.length (mx e (q + 1)) := Nat.le_trans ha (le_mx_r _ _)
      have : SO M m.length hi (.sl q 0 xss.length xss.length) xss := ⟨q, hs, bi, h1, h2, rfl, h4, h5, h6, h7⟩
      exact (this.congr (m' := M.take (mx m.length (mx e (q + 1)))) fun j _ hj => List.getElem?_take_of_lt (by omega)).wide (Nat.le_refl _) (by rw [List.length_take]; omega)
theorem fin_setx {m M : List Blk} {hi q n e : Nat} {env : List (Nat × V)} {code : Int} {xss : List (List Int)} (hE : Ext m M) (h : SO M m.length hi (.sl q 0 n n) xss) (hm : hi ≤ M.length) (ha : hi ≤ mx e (q + 1)) :
    ∃ M' c, (∃ e', fin m.length (.tup [.c (.sl q 0 n n), .c (.int .i64 code)]) ⟨env, M, e, 0⟩ = ⟨.tup [.c c, vi code], M', e', 0⟩) ∧ Ext m M' ∧ SO M' m.length M'.length c xss := by
  obtain ⟨M', c, e', h1, h2, h3, _⟩ := fin_set (env := env) (code := code) hE h hm ha
  exact ⟨M', c, ⟨e', h1⟩, h2, h3⟩
/-- The same, with what bounds it. -/
theorem fin_sety {m M : List Blk} {hi q n e : Nat} {env : List (Nat × V)} {code : Int} {xss : List (List Int)} (hE : Ext m M) (h : SO M m.length hi (.sl q 0 n n) xss) (hm : hi ≤ M.length) (ha : hi ≤ mx e (q + 1)) :
    ∃ M' c e', fin m.length (.tup [.c (.sl q 0 n n), .c (.int .i64 code)]) ⟨env, M, e, 0⟩ = ⟨.tup [.c c, vi code], M', e', 0⟩ ∧ Ext m M' ∧ SO M' m.length M'.length c xss ∧ M'.length ≤ mx e' c.refs := fin_set hE h hm ha
theorem impl_SetDrop (hL : 2000000 ≤ L) (k : Nat) (m : List Blk) (v : C) (xss : List (List Int)) (x : Int) (hv : SSA m v xss) (b1 : xss.length ≤ 1048576) (b2 : ∀ xs ∈ xss, xs.length ≤ 1048576) :
    ∃ M c e, den T X L (k + 4) 45 [.c v, vi x] m = some ⟨.tup [.c c, vi (setDrop xss x).2], M, e, 0⟩ ∧ Ext m M ∧ SO M m.length M.length c (setDrop xss x).1 := by
  rw [den_eq T_45]
  have hv1 : SSA (m ++ [⟨[ci x], 3, 0, true⟩]) v xss := hv.grow
  have d1 := den_ownSet (X := X) (L := L) hL (k + 1) _ v xss hv1 b1 b2
  have hso := fresh_SO (m ++ [⟨[ci x], 3, 0, true⟩]) xss
  have hlaid := fresh_laid (m ++ [⟨[ci x], 3, 0, true⟩]) xss
  have hml := freshM_len (m ++ [⟨[ci x], 3, 0, true⟩]) xss
  have hext : Ext (m ++ [⟨[ci x], 3, 0, true⟩]) (freshM (m ++ [⟨[ci x], 3, 0, true⟩]) xss) := ⟨_, rfl⟩
  unfold freshR at d1
  obtain ⟨q, hq⟩ : ∃ q, q = (m ++ [(⟨[ci x], 3, 0, true⟩ : Blk)]).length := ⟨_, rfl⟩
  have hq' : q = m.length + 1 := by rw [hq]; simp
  rw [← hq] at d1 hso hlaid hml
  have hx1 := hext.ssa hv1
  have hbox : live (freshM (m ++ [⟨[ci x], 3, 0, true⟩]) xss) m.length 1 = some ⟨[ci x], 3, 0, true⟩ := by
    unfold live
    rw [hext.get (by simp)]
    simp
  have hext0 : Ext m (freshM (m ++ [⟨[ci x], 3, 0, true⟩]) xss) := Ext.trans ⟨_, rfl⟩ hext
  generalize freshM (m ++ [⟨[ci x], 3, 0, true⟩]) xss = M at d1 hso hlaid hml hx1 hbox hext hext0
  have o1 := den_impl_SetOk (X := X) (L := L) hL k M v xss hx1.ss b1 b2
  have o2 := den_isValue (X := X) (L := L) (k + 1) M x
  have hle : M.length ≤ mx (if xss = [] then 0 else q + 1 + xss.length) (q + 1) := by
    rw [mx_eq, hml]
    split
    · rename_i h; subst h; simp
    · omega
  have htk : List.take (mx (if xss = [] then 0 else q + 1 + xss.length) (q + 1)) M = M := List.take_of_length_le hle
  have hso0 := hso.wide (lo' := m.length) (hi' := M.length) (by omega) (Nat.le_refl _)
  unfold setDrop
  cases h1 : setOk xss with
  | false =>
    rw [h1] at o1
    simp (maxSteps := 1000000) (implicitDefEqProofs := false) (disch := omega) [-getElem?_pos, -fin, c_impl_SetDrop, d1, o1, htk]
    exact fin_setx hext0 hso0 (Nat.le_refl _) hle
  | true =>
    rw [h1] at o1
    cases h2 : isVal x with
    | false =>
      rw [h2] at o2
      simp (maxSteps := 1000000) (implicitDefEqProofs := false) (disch := omega) [-getElem?_pos, -fin, c_impl_SetDrop, d1, o1, o2, hbox, htk]
      exact fin_setx hext0 hso0 (Nat.le_refl _) hle
    | true =>
      rw [h2] at o2
      have o3 := den_impl_setHas (X := X) (L := L) hL k M v xss x hx1.ss b2 h1
      cases h3 : setHas xss x with
      | false =>
        rw [h3] at o3
        simp (maxSteps := 1000000) (implicitDefEqProofs := false) (disch := omega) [-getElem?_pos, -fin, c_impl_SetDrop, d1, o1, o2, o3, hbox, htk]
        exact fin_setx hext0 hso0 (Nat.le_refl _) hle
      | true =>
        rw [h3] at o3
        have hn := setOk_len h1
        obtain ⟨p, hp1, hp⟩ := place_lt h1 x
        have o4 := den_placeOf (X := X) (L := L) (k + 2) M x xss.length (by omega)
        rw [hp1] at o4
        have hne : xss ≠ [] := fun e => by subst e; simp at hn
        unfold setHas bkt at h3
        unfold bkt
        rw [hp1, Int.toNat_natCast] at h3 ⊢
        have hbl := bk_len h1 _ (nthL_mem (i := p) hp)
        obtain ⟨i, hi, hix⟩ := contains_nth.1 h3
        obtain ⟨cs, d2, c1, c2, c3⟩ := den_DeleteFunc (X := X) (L := L) hL k M (q + 1 + p) m.length (nthL xss p) x i hbox (by omega) (hlaid.bks p hp) (by omega) hi hix fun j hj hji e => hji (bk_once (bkt_ok h1 hp) j i hj hi (e.trans hix.symm))
        have hh := hd_len (q + 1) xss
        have hg := hd_get (b := q + 1) hp
        have hlq : live M q xss.length = some ⟨hd (q + 1) xss, 30, 1, true⟩ := by
          unfold live; rw [hlaid.hdr]; simp [hh]
        have hpi : (p : Int) < (xss.length : Int) := by omega
        have hlb : live (M.set (q + 1 + p) ⟨cs, 3, 1, true⟩) q xss.length = some ⟨hd (q + 1) xss, 30, 1, true⟩ := by
          unfold live; rw [List.getElem?_set_ne (by omega), hlaid.hdr]; simp [hh]
        have hbx2 : live (M.set (q + 1 + p) ⟨cs, 3, 1, true⟩) m.length 1 = some ⟨[ci x], 3, 0, true⟩ := by
          unfold live at hbox ⊢; rw [List.getElem?_set_ne (by omega)]; exact hbox
        have z : M.length - (q + 1 + p) - (M.length - m.length) = 0 := by omega
        have hsx := hlaid.put (M' := (M.set (q + 1 + p) ⟨cs, 3, 1, true⟩).set q ⟨lay (hd (q + 1) xss) p [.sl (q + 1 + p) 0 ((nthL xss p).length - 1) (nthL xss p).length], 30, 1, true⟩) (c := .sl (q + 1 + p) 0 ((nthL xss p).length - 1) (nthL xss p).length) (lo := m.length) (xs := without (nthL xss p) x) (bj := q + 1 + p) hp (by omega) (by simp; omega) ?h1 ?h2 ?h3 ?h4
        case h1 => rw [List.getElem?_set_self (by simp; omega)]
        case h2 =>
          intro j hj hjp
          rw [List.getElem?_set_ne (by omega), List.getElem?_set_ne (by omega)]
        case h3 =>
          refine .inr ⟨cs, by rw [c2, c1], by omega, by simp; omega, by omega, ?_, by rw [c1, c2]; omega, fun j hj => c3 j (by omega)⟩
          rw [List.getElem?_set_ne (by omega), List.getElem?_set_self (by omega)]
        case h4 =>
          intro j hj hjp
          omega
        have hx2 : Ext m ((M.set (q + 1 + p) ⟨cs, 3, 1, true⟩).set q ⟨lay (hd (q + 1) xss) p [.sl (q + 1 + p) 0 ((nthL xss p).length - 1) (nthL xss p).length], 30, 1, true⟩) := Ext.of (by simp; omega) fun j hj => by
          rw [List.getElem?_set_ne (by omega), List.getElem?_set_ne (by omega)]
          exact hext0.get hj
        have htk3 : List.take (q + 1 + xss.length) ((M.set (q + 1 + p) ⟨cs, 3, 1, true⟩).set q ⟨lay (hd (q + 1) xss) p [.sl (q + 1 + p) 0 ((nthL xss p).length - 1) (nthL xss p).length], 30, 1, true⟩) = (M.set (q + 1 + p) ⟨cs, 3, 1, true⟩).set q ⟨lay (hd (q + 1) xss) p [.sl (q + 1 + p) 0 ((nthL xss p).length - 1) (nthL xss p).length], 30, 1, true⟩ := List.take_of_length_le (by simp; omega)
        simp (maxSteps := 1000000) (implicitDefEqProofs := false) (disch := omega) [-getElem?_pos, -fin, c_impl_SetDrop, d1, o1, o2, o3, o4, hbox, hbx2, hpi, hlq, hlb, hg, hh, d2, hne, z, hx1.ss.lenV, htk3]
        exact fin_setx hx2 hsx (Nat.le_refl _) (by rw [mx_eq]; simp; omega)
end Go.Proofs.Ytkoloapgeilbdaa
