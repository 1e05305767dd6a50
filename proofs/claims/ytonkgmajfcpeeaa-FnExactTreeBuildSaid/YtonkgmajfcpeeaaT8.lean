/-
  Trees: added.
-/
import Derived.Test.YtonkgmajfcpeeaaT7
import Derived.Test.YtonkgmajfcpeeaaC9
set_option linter.unusedVariables false
set_option linter.unusedSimpArgs false
set_option maxHeartbeats 4000000
namespace Go.Proofs.Ytonkgmajfcpeeaa
variable {X : FuncId → List V → List Blk → Option Ret} {L : Nat}

def setF (f : Nat → Nd) (w : Way) (x : Int) : Nat → Nd := match w with
  | none => f
  | some (q, false) => upd f q { f q with b := x }
  | some (q, true) => upd f q { f q with c := x }
def setA (a : Int) (w : Way) (x : Int) : Int := match w with
  | none => x
  | some _ => a
theorem lay_way {f : Nat → Nd} {a x : Int} {w : Way} (h : okW w) : lay (chn f a) (offW w) [ci x] = chn (setF f w x) (setA a w x) := by
  match w, h with
  | none, _ =>
    show lay (nds 16 f ++ [ci a]) 64 [ci x] = nds 16 f ++ [ci x]
    rw [nds_lay_past (by omega)]; rfl
  | some (q, false), h => exact nds_lb h x
  | some (q, true), h => exact nds_lc h x
theorem upd_comm {f : Nat → Nd} {i j : Nat} (h : i ≠ j) (x y : Nd) : upd (upd f i x) j y = upd (upd f j y) i x := by
  funext k
  unfold upd
  by_cases h1 : k = i
  · by_cases h2 : k = j
    · omega
    · simp [h1, h]
  · simp [h1]
theorem setF_comm {f : Nat → Nd} {w : Way} {x : Int} {i : Nat} {y : Nd} (h : ∀ q s, w = some (q, s) → q ≠ i) : setF (upd f i y) w x = upd (setF f w x) i y := by
  match w, h with
  | none, _ => rfl
  | some (q, false), h =>
    have := h q false rfl
    show upd (upd f i y) q { upd f i y q with b := x } = _
    rw [upd_ne _ _ this, upd_comm (Ne.symm this)]
    rfl
  | some (q, true), h =>
    have := h q true rfl
    show upd (upd f i y) q { upd f i y q with c := x } = _
    rw [upd_ne _ _ this, upd_comm (Ne.symm this)]
    rfl
/-- The way that a list of opened places tells. -/
def lastW (f : Nat → Nd) (key : Int) (vs : List Nat) : Way := match vs.getLast? with
  | none => none
  | some q => some (q, decide (¬ key < (f q).a))
theorem den_l15Hang (hL : 100 ≤ L) (k : Nat) (m : List Blk) (f : Nat → Nd) (a key p : Int) (v : C) (vs : List Nat) (hv : Sl m v (toI vs)) (hvs : ∀ x ∈ vs, x < 16) (hlen : vs.length ≤ 16) :
    den T X L (k + 1) 71 [.agg (chn f a), .c v, vi key, vi p] m = some ⟨.agg (chn (setF f (lastW f key vs) p) (setA a (lastW f key vs) p)), m, 0, 0⟩ := by
  rw [den_eq T_71]
  have hg : Sl (m ++ [⟨chn f a, 43, 0, true⟩, ⟨chn (fun _ => nd0) 0, 43, 0, true⟩]) v (toI vs) := hv.grow
  have h1 := hg.lenV
  rw [toI_len] at h1
  cases hl : vs.getLast? with
  | none =>
    have : vs = [] := List.getLast?_eq_none_iff.1 hl
    subst this
    simp (maxSteps := 1000000) (implicitDefEqProofs := false) (disch := omega) [-getElem?_pos, c_spec_l15Hang, z65, h1, lastW, setF, setA]
  | some q =>
    have hne : vs ≠ [] := fun h => by subst h; cases hl
    have hpos : 0 < vs.length := List.length_pos_iff.2 hne
    have hq : q < 16 := hvs q (List.mem_of_getLast? hl)
    have h2 := hg.ixV (i := (vs.length : Int) - 1) (by rw [toI_len]; omega)
    have h3 := hg.ldV (i := ((vs.length : Int) - 1).toNat) (by rw [toI_len]; omega)
    have h4 : nth (toI vs) ((vs.length : Int) - 1).toNat = q := by
      rw [List.getLast?_eq_getElem?] at hl
      have : ((vs.length : Int) - 1).toNat = vs.length - 1 := by omega
      rw [this]
      simp [nth, toI, List.getD_eq_getElem?_getD, hl]
    rw [h4] at h3
    rw [show ((vs.length : Int) - 1).toNat = vs.length - 1 by omega] at h2 h3
    have hz : ¬ (vs.length : Int) = 0 := by omega
    by_cases hk : key < (f q).a
    · simp (maxSteps := 1000000) (implicitDefEqProofs := false) (disch := omega) [-getElem?_pos, c_spec_l15Hang, z65, h1, h2, h3, hz, hne, hk, lastW, hl, setF, setA]
    · simp (maxSteps := 1000000) (implicitDefEqProofs := false) (disch := omega) [-getElem?_pos, c_spec_l15Hang, z65, h1, h2, h3, hz, hne, hk, lastW, hl, setF, setA]

def treeAdd (f : Nat → Nd) (a key : Int) : (Nat → Nd) × Int × Int :=
  if treeOk f a = true ∧ isVal key = true then
    if (twk f a key 8 none).2.2 = true then
      (if valW f a (twk f a key 8 none).1 = -1 then (if frI f 16 0 = 16 then (f, a, 3) else (upd (setF f (twk f a key 8 none).1 (frI f 16 0)) (frI f 16 0) ⟨true, key, -1, -1⟩, setA a (twk f a key 8 none).1 (frI f 16 0), 0)) else (f, a, 4))
    else (f, a, 2)
  else (f, a, 1)
def outT (r : (Nat → Nd) × Int × Int) : V := .tup [.agg (chn r.1 r.2.1), vi r.2.2]
theorem frI_free {f : Nat → Nd} : ∀ (n i : Nat), frI f n i ≠ i + n → (f (frI f n i)).u = false
  | 0, i, h => absurd rfl h
  | n + 1, i, h => by
    unfold frI at h ⊢
    cases hu : (f i).u with
    | true =>
      rw [if_pos hu] at h
      simp only [if_true]
      exact frI_free n (i + 1) (by omega)
    | false => simpa using hu
theorem den_impl_TreeAdd (hL : 100 ≤ L) (k : Nat) (m : List Blk) (f : Nat → Nd) (a key : Int) : den T X L (k + 21) 46 [.agg (chn f a), vi key] m = some ⟨outT (treeAdd f a key), m, 0, 0⟩ := by
  rw [den_eq T_46]
  unfold outT
  cases hok : treeOk f a with
  | false => simp (maxSteps := 1000000) (implicitDefEqProofs := false) (disch := omega) [-getElem?_pos, c_impl_TreeAdd, den_impl_TreeOk hL, treeOk_same, hok, treeAdd, z65]
  | true =>
    have ht := trW_root hok
    cases hv : isVal key with
    | false => simp (maxSteps := 1000000) (implicitDefEqProofs := false) (disch := omega) [-getElem?_pos, c_impl_TreeAdd, den_impl_TreeOk hL, treeOk_same, den_isValue (k + 18), hok, hv, treeAdd, z65]
    | true =>
      have e := den_impl_twalk (X := X) hL (k + 19) (m ++ [⟨chn f a, 43, 0, true⟩, ⟨chn (fun _ => nd0) 0, 43, 0, true⟩]) m.length f a key (by simp (maxSteps := 1000000) (implicitDefEqProofs := false) (disch := omega) [-getElem?_pos]) ht
      have htw := (twk_tr (key := key) 8 none ht).1
      have hg := get_way (f := f) (a := a) htw
      have hw := way_lt htw
      unfold treeAdd
      rw [if_pos ⟨hok, hv⟩]
      generalize twk f a key 8 none = r at e htw hg hw
      obtain ⟨w, op, ok⟩ := r
      simp only at e htw hg hw ⊢
      cases ok with
      | false => simp (maxSteps := 1000000) (implicitDefEqProofs := false) (disch := omega) [-getElem?_pos, c_impl_TreeAdd, den_impl_TreeOk hL, treeOk_same, den_isValue (k + 18), hok, hv, e, z65]
      | true =>
        by_cases hz : valW f a w = -1
        · rw [hz] at hg
          have hl := iter_blk (n0 := m.length) (id := 1) (ka := some [2, 4]) (f := fun s => exec (den T X L (k + 20)) L m.length none c_impl_TreeAdd_b0 s) (tr := trim m.length (some [1, 2, 4, 6, 37, 38])) (σ := Nat)
            (fun i => ⟨[(1, vi key), (2, .c (.ptr m.length 0 65)), (4, .c (.ptr (m.length + 1) 0 65)), (6, .c (.ptr m.length (offW w) 65)), (37, .agg (nds 16 f)), (38, vi i)], m ++ [⟨chn f a, 43, 0, true⟩, ⟨chn (fun _ => nd0) 0, 43, 0, true⟩], 0, 0⟩)
            (fun i => i ≤ 16) (fun i => 16 - i)
            (fun i => if frI f (16 - i) i = 16 then (.norm, ⟨[(2, .c (.ptr m.length 0 65)), (4, .c (.ptr (m.length + 1) 0 65))], m ++ [⟨chn f a, 43, 0, true⟩, ⟨chn (fun _ => nd0) 0, 43, 0, true⟩], 0, 0⟩)
              else (.ret, ⟨[(4, .c (.ptr (m.length + 1) 0 65)), (5, vi 0)],
                m ++ [⟨chn (upd (setF f w (frI f (16 - i) i)) (frI f (16 - i) i) ⟨true, key, -1, -1⟩) (setA a w (frI f (16 - i) i)), 43, 0, true⟩, ⟨chn (upd (setF f w (frI f (16 - i) i)) (frI f (16 - i) i) ⟨true, key, -1, -1⟩) (setA a w (frI f (16 - i) i)), 43, 0, true⟩], 0, 0⟩)) ?w
          case w =>
            intro i hi
            by_cases he : i = 16
            · subst he
              refine ⟨.exit 1, _, by simp (maxSteps := 1000000) (implicitDefEqProofs := false) (disch := omega) [-getElem?_pos, c_impl_TreeAdd_b0]; rfl, ?_⟩
              simp (maxSteps := 1000000) (implicitDefEqProofs := false) (disch := omega) [-getElem?_pos, c_blkx, frI]
            · have hi' : (i : Int) < 16 := by omega
              cases hu : (f i).u with
              | true =>
                refine ⟨.norm, _, by simp (maxSteps := 1000000) (implicitDefEqProofs := false) (disch := omega) [-getElem?_pos, c_impl_TreeAdd_b0, hi', znd, nd_g0, nd_lay, hu, show i * 4 ≤ 60 by omega]; rfl, i + 1, ?_, by omega, by omega, by simp only [← frI_step (show i < 16 by omega) hu]⟩
                simp (maxSteps := 1000000) (implicitDefEqProofs := false) (disch := omega) [-getElem?_pos, nd_refs]
              | false =>
                have hlay := fun x => lay_way (f := f) (a := a) (x := x) htw
                refine ⟨.ret, _, by simp (maxSteps := 1000000) (implicitDefEqProofs := false) (disch := omega) [-getElem?_pos, c_impl_TreeAdd_b0, hi', znd, nd_g0, nd_lay, nd_l0, nd_l1, nd_l2, nd_l3, hu, show i * 4 ≤ 60 by omega, hlay]; rfl, ?_⟩
                simp (maxSteps := 1000000) (implicitDefEqProofs := false) (disch := omega) [-getElem?_pos, c_blkr, frI_hit (show i < 16 by omega) hu, he]
          simp (maxSteps := 1000000) (implicitDefEqProofs := false) (disch := omega) [-getElem?_pos, c_impl_TreeAdd, den_impl_TreeOk hL, treeOk_same, den_isValue (k + 18), hok, hv, e, z65, hg, hz]
          rw [hl L 0 _ (Nat.zero_le _) ?tr (by show 16 < L; omega)]
          case tr => simp (maxSteps := 1000000) (implicitDefEqProofs := false) (disch := omega) [-getElem?_pos]
          by_cases hf : frI f 16 0 = 16
          · simp (maxSteps := 1000000) (implicitDefEqProofs := false) (disch := omega) [-getElem?_pos, hf]
          · simp (maxSteps := 1000000) (implicitDefEqProofs := false) (disch := omega) [-getElem?_pos, hf]
        · simp (maxSteps := 1000000) (implicitDefEqProofs := false) (disch := omega) [-getElem?_pos, c_impl_TreeAdd, den_impl_TreeOk hL, treeOk_same, den_isValue (k + 18), hok, hv, e, z65, hg, hz]

theorem den_spec_TreeAdd (hL : 100 ≤ L) (k : Nat) (m : List Blk) (f : Nat → Nd) (a key : Int) : den T X L (k + 21) 45 [.agg (chn f a), vi key] m = some ⟨outT (treeAdd f a key), m, 0, 0⟩ := by
  rw [den_eq T_45]
  unfold outT
  cases hok : treeOk f a with
  | false => simp (maxSteps := 1000000) (implicitDefEqProofs := false) (disch := omega) [-getElem?_pos, c_spec_TreeAdd, den_spec_TreeOk hL, hok, treeAdd, z65]
  | true =>
    have ht := trW_root hok
    cases hv : isVal key with
    | false => simp (maxSteps := 1000000) (implicitDefEqProofs := false) (disch := omega) [-getElem?_pos, c_spec_TreeAdd, den_spec_TreeOk hL, den_l1Value (k + 18), hok, hv, treeAdd, z65]
    | true =>
      have e := fun m => den_spec_twalk (X := X) hL (k + 19) m f a key ht
      have hvl := vis_len (key := key) 8 none ht
      have hle := twk_le (key := key) 8 none ht
      have hvt := vis_lt (key := key) 8 none ht
      have hla := vis_last (key := key) 8 none ht
      rw [show valW f a none = a from rfl] at hvl hvt hla
      unfold treeAdd
      rw [if_pos ⟨hok, hv⟩]
      generalize vis f key 8 a = vs at e hvl hvt hla
      generalize twk f a key 8 none = r at e hvl hle hla
      obtain ⟨w, op, ok⟩ := r
      simp only at e hvl hle hla ⊢
      have hb := frI_bound f 16 0
      cases ok with
      | false => simp (maxSteps := 1000000) (implicitDefEqProofs := false) (disch := omega) [-getElem?_pos, c_spec_TreeAdd, den_spec_TreeOk hL, den_l1Value (k + 18), hok, hv, e, z65]
      | true =>
        by_cases hz : valW f a w = -1
        · have hw : lastW f key vs = w := (hla rfl hz).symm
          have hl := iter_blk (n0 := m.length) (id := 0) (ka := some [1, 2, 4, 6, 9]) (f := fun s => exec (den T X L (k + 20)) L m.length none c_spec_TreeAdd_b0 s) (tr := trim m.length (some [1, 2, 4, 6, 9])) (σ := Nat)
            (fun i => ⟨[(1, vi key), (2, .c (.ptr m.length 0 65)), (4, .c (.ptr (m.length + 1) 0 65)), (6, .c (.sl (m.length + 2) 0 vs.length vs.length)), (9, vi i)], m ++ [⟨chn f a, 43, 0, true⟩, ⟨chn (fun _ => nd0) 0, 43, 0, true⟩, blkI (toI vs)], 0, 0⟩)
            (fun i => i ≤ 16) (fun i => 16 - i)
            (fun i => (.norm, ⟨[(1, vi key), (2, .c (.ptr m.length 0 65)), (4, .c (.ptr (m.length + 1) 0 65)), (6, .c (.sl (m.length + 2) 0 vs.length vs.length)), (9, vi (frI f (16 - i) i))], m ++ [⟨chn f a, 43, 0, true⟩, ⟨chn (fun _ => nd0) 0, 43, 0, true⟩, blkI (toI vs)], 0, 0⟩)) ?w
          case w =>
            intro i hi
            by_cases he : i = 16
            · subst he
              refine ⟨.exit 0, _, by simp (maxSteps := 1000000) (implicitDefEqProofs := false) (disch := omega) [-getElem?_pos, c_spec_TreeAdd_b0]; rfl, ?_⟩
              simp (maxSteps := 1000000) (implicitDefEqProofs := false) (disch := omega) [-getElem?_pos, c_blkx, frI]
            · have hi' : (i : Int) < 16 := by omega
              cases hu : (f i).u with
              | true =>
                refine ⟨.norm, _, by simp (maxSteps := 1000000) (implicitDefEqProofs := false) (disch := omega) [-getElem?_pos, c_spec_TreeAdd_b0, hi', hu]; rfl, i + 1, ?_, by omega, by omega, by simp only [← frI_step (show i < 16 by omega) hu]⟩
                simp (maxSteps := 1000000) (implicitDefEqProofs := false) (disch := omega) [-getElem?_pos]
              | false =>
                refine ⟨.exit 0, _, by simp (maxSteps := 1000000) (implicitDefEqProofs := false) (disch := omega) [-getElem?_pos, c_spec_TreeAdd_b0, hi', hu]; rfl, ?_⟩
                simp (maxSteps := 1000000) (implicitDefEqProofs := false) (disch := omega) [-getElem?_pos, c_blkx, frI_hit (show i < 16 by omega) hu]
          have hfree := frI_free (f := f) 16 0
          simp (maxSteps := 1000000) (implicitDefEqProofs := false) (disch := omega) [-getElem?_pos, c_spec_TreeAdd, den_spec_TreeOk hL, den_l1Value (k + 18), hok, hv, e, z65, hz]
          rw [hl L 0 _ (Nat.zero_le _) ?tr (by show 16 < L; omega)]
          case tr => simp (maxSteps := 1000000) (implicitDefEqProofs := false) (disch := omega) [-getElem?_pos]
          simp only [Nat.sub_zero]
          generalize frI f 16 0 = n at hb hfree
          by_cases hf : n = 16
          · subst hf; simp (maxSteps := 1000000) (implicitDefEqProofs := false) (disch := omega) [-getElem?_pos]
          · have hf' : ¬ (n : Int) = 16 := by omega
            have hfu := hfree (by omega)
            have hne : ∀ q s, w = some (q, s) → q ≠ n := by
              intro q s hqs hqn
              rw [← hw] at hqs
              unfold lastW at hqs
              cases hgl : vs.getLast? with
              | none => rw [hgl] at hqs; cases hqs
              | some x =>
                rw [hgl] at hqs
                simp only [Option.some.injEq, Prod.mk.injEq] at hqs
                have := (hvt x (List.mem_of_getLast? hgl)).2
                rw [hqs.1, hqn, hfu] at this
                cases this
            have hw2 : lastW (upd f n ⟨true, key, -1, -1⟩) key vs = w := by
              rw [← hw]
              unfold lastW
              cases hgl : vs.getLast? with
              | none => rfl
              | some x =>
                have hx : x ≠ n := fun hx => by
                  have := (hvt x (List.mem_of_getLast? hgl)).2
                  rw [hx, hfu] at this
                  cases this
                simp only [upd_ne _ _ hx]
            have hh := fun (l : List Blk) (p : Int) => den_l15Hang (X := X) hL (k + 19) (m ++ ⟨chn (upd f n ⟨true, key, -1, -1⟩) a, 43, 0, true⟩ :: ⟨chn (fun _ => nd0) 0, 43, 0, true⟩ :: blkI (toI vs) :: l) (upd f n ⟨true, key, -1, -1⟩) a key p (.sl (m.length + 2) 0 (toI vs).length (toI vs).length) vs (live_ints (ty := 3) (o := true) (by simp [get_app])) (fun x hx => (hvt x hx).1) (by omega)
            simp only [hw2, setF_comm hne, toI_len] at hh
            simp (maxSteps := 1000000) (implicitDefEqProofs := false) (disch := omega) [-getElem?_pos, hf, hf', znd, nd_l0, nd_l1, nd_l2, nd_l3, hh]
        · simp (maxSteps := 1000000) (implicitDefEqProofs := false) (disch := omega) [-getElem?_pos, c_spec_TreeAdd, den_spec_TreeOk hL, den_l1Value (k + 18), hok, hv, e, z65, hz]

theorem den_eqTwig (k : Nat) (m : List Blk) (x : Nd) : den T X L (k + 1) 74 [.agg (nd x), .agg (nd x)] m = some ⟨vb true, m, 0, 0⟩ := by
  rw [den_eq T_74]
  simp (maxSteps := 1000000) (implicitDefEqProofs := false) (disch := omega) [-getElem?_pos, c_laws_eqTwig, nd]
theorem den_eqTwigA16 (hL : 100 ≤ L) (k : Nat) (m : List Blk) (f : Nat → Nd) : den T X L (k + 2) 60 [.agg (nds 16 f), .agg (nds 16 f)] m = some ⟨vb true, m, 0, 0⟩ := by
  rw [den_eq T_60]
  have hl := iter_up (f := fun s => exec (den T X L (k + 1)) L m.length none c_laws_eqTwigA16_b0 s) (tr := trim m.length (some [2, 3, 5]))
    (fun i => ⟨[(2, .c (.ptr m.length 0 64)), (3, .c (.ptr (m.length + 1) 0 64)), (5, vi i)], m ++ [⟨nds 16 f, 41, 0, true⟩, ⟨nds 16 f, 41, 0, true⟩], 0, 0⟩) 16
    ?s1 ⟨0, _, by simp (maxSteps := 1000000) (implicitDefEqProofs := false) (disch := omega) [-getElem?_pos, c_laws_eqTwigA16_b0]; rfl⟩
  case s1 =>
    intro i hi
    refine ⟨_, by simp (maxSteps := 1000000) (implicitDefEqProofs := false) (disch := omega) [-getElem?_pos, c_laws_eqTwigA16_b0, show (i : Int) < 16 by omega, den_eqTwig]; rfl, ?_⟩
    simp (maxSteps := 1000000) (implicitDefEqProofs := false) (disch := omega) [-getElem?_pos]
  simp (maxSteps := 1000000) (implicitDefEqProofs := false) (disch := omega) [-getElem?_pos, c_laws_eqTwigA16]
  rw [hl L 0 _ ?tr (by omega) (by omega)]
  case tr => simp (maxSteps := 1000000) (implicitDefEqProofs := false) (disch := omega) [-getElem?_pos, nds_refs]
  simp (maxSteps := 1000000) (implicitDefEqProofs := false) (disch := omega) [-getElem?_pos, c_laws_eqTwigA16_b0]
theorem den_eqTree (hL : 100 ≤ L) (k : Nat) (m : List Blk) (f : Nat → Nd) (a : Int) : den T X L (k + 3) 24 [.agg (chn f a), .agg (chn f a)] m = some ⟨vb true, m, 0, 0⟩ := by
  rw [den_eq T_24]
  simp (maxSteps := 1000000) (implicitDefEqProofs := false) (disch := omega) [-getElem?_pos, c_laws_eqTree, den_eqTwigA16 hL]
theorem den_FnExactTreeAdd (hL : 100 ≤ L) (k : Nat) (m : List Blk) (f : Nat → Nd) (a key : Int) : den T X L (k + 22) 14 [.agg (chn f a), vi key] m = some ⟨vb true, m, 0, 0⟩ := by
  rw [den_eq T_14]
  simp (maxSteps := 1000000) (implicitDefEqProofs := false) (disch := omega) [-getElem?_pos, c_laws_FnExactTreeAdd, den_toTree hL (k + 18), den_spec_TreeAdd hL, den_impl_TreeAdd hL, den_eqTree hL (k + 18), outT, z65]
end Go.Proofs.Ytonkgmajfcpeeaa
