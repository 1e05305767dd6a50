/-
  Chains: put.
-/
import Derived.Test.YtonkgmajfcpeeaaC7
set_option linter.unusedVariables false
set_option linter.unusedSimpArgs false
set_option maxHeartbeats 4000000
namespace Go.Proofs.Ytonkgmajfcpeeaa
variable {X : FuncId → List V → List Blk → Option Ret} {L : Nat}

theorem nd_g0 (x : Nd) : (nd x)[0]? = some (cb x.u) := rfl
theorem nd_g1 (x : Nd) : (nd x)[1]? = some (ci x.a) := rfl
theorem nd_g2 (x : Nd) : (nd x)[2]? = some (ci x.b) := rfl
theorem nd_g3 (x : Nd) : (nd x)[3]? = some (ci x.c) := rfl
theorem nd_l0 (x : Nd) (v : Bool) : lay (nd x) 0 [.bool v] = nd ⟨v, x.a, x.b, x.c⟩ := rfl
theorem nd_l1 (x : Nd) (v : Int) : lay (nd x) 1 [.int .i64 v] = nd ⟨x.u, v, x.b, x.c⟩ := rfl
theorem nd_l2 (x : Nd) (v : Int) : lay (nd x) 2 [.int .i64 v] = nd ⟨x.u, x.a, v, x.c⟩ := rfl
theorem nd_l3 (x : Nd) (v : Int) : lay (nd x) 3 [.int .i64 v] = nd ⟨x.u, x.a, x.b, v⟩ := rfl
theorem nd_lay (x y : Nd) : lay (nd x) 0 (nd y) = nd y := lay_all rfl
/-- The first free node from one on, among so many; behind them where there is none. -/
def frI (f : Nat → Nd) : Nat → Nat → Nat
  | 0, i => i
  | n + 1, i => if (f i).u = true then frI f n (i + 1) else i
theorem frI_bound (f : Nat → Nd) : ∀ (n i : Nat), i ≤ frI f n i ∧ frI f n i ≤ i + n
  | 0, i => ⟨Nat.le_refl _, Nat.le_refl _⟩
  | n + 1, i => by
    have := frI_bound f n (i + 1)
    unfold frI
    split <;> omega
theorem frI_step {f : Nat → Nd} {i : Nat} (hi : i < 16) (h : (f i).u = true) : frI f (16 - i) i = frI f (16 - (i + 1)) (i + 1) := by
  conv => lhs; rw [show 16 - i = (16 - (i + 1)) + 1 by omega]; unfold frI
  rw [if_pos h]
theorem frI_hit {f : Nat → Nd} {i : Nat} (hi : i < 16) (h : (f i).u = false) : frI f (16 - i) i = i := by
  rw [show 16 - i = (16 - (i + 1)) + 1 by omega]; unfold frI
  rw [if_neg (by simp [h])]

theorem den_link_at (k : Nat) (m l : List Blk) (f : Nat → Nd) (a ah p : Int) (ha : inP ah) :
    den T X L (k + 1) 69 [.c (.ptr m.length 0 65), vi ah, vi p] (m ++ ⟨chn f a, 31, 0, true⟩ :: l) = some ⟨.tup [], m ++ ⟨chn (linkF f ah p) (linkA a ah p), 31, 0, true⟩ :: l, 0, l.length + 1⟩ := by
  have h := den_link (X := X) (L := L) k (m ++ ⟨chn f a, 31, 0, true⟩ :: l) m.length f a ah p (by simp (maxSteps := 1000000) (implicitDefEqProofs := false) (disch := omega) [-getElem?_pos]) ha
  rw [h]; simp (maxSteps := 1000000) (implicitDefEqProofs := false) (disch := omega) [-getElem?_pos, set_app0, List.length_append, List.length_cons]

def mapPut (f : Nat → Nd) (a key val : Int) : (Nat → Nd) × Int × Int × Int :=
  if chainOk f a = true ∧ isVal key = true ∧ isVal val = true then
    if (wk f key 10 (-1) a).2.2.2 = true then
      if hasB f (wk f key 10 (-1) a).2.1 key = true then (upd f (wk f key 10 (-1) a).2.1.toNat { f (wk f key 10 (-1) a).2.1.toNat with b := val }, a, (wk f key 10 (-1) a).2.2.1, 0)
      else if frI f 16 0 = 16 then (f, a, (wk f key 10 (-1) a).2.2.1, 3)
      else (linkF (upd f (frI f 16 0) ⟨true, key, val, (wk f key 10 (-1) a).2.1⟩) (wk f key 10 (-1) a).1 (frI f 16 0), linkA a (wk f key 10 (-1) a).1 (frI f 16 0), (wk f key 10 (-1) a).2.2.1, 0)
    else (f, a, (wk f key 10 (-1) a).2.2.1, 2)
  else (f, a, 0, 1)

theorem den_impl_MapPut (hL : 100 ≤ L) (k : Nat) (m : List Blk) (f : Nat → Nd) (a key val : Int) :
    den T X L (k + 4) 44 [.agg (chn f a), vi key, vi val] m = some ⟨outC (mapPut f a key val), m, 0, 0⟩ := by
  rw [den_eq T_44]
  unfold outC
  cases hok : chainOk f a with
  | false => simp (maxSteps := 1000000) (implicitDefEqProofs := false) (disch := omega) [-getElem?_pos, c_impl_MapPut, den_impl_ChainOk hL, hok, mapPut, z65]
  | true =>
    have hc := ch_of hok
    obtain ⟨hin, hah⟩ := wk_in (key := key) 10 κ0 (-1) a hc (.inl rfl)
    cases hv : isVal key with
    | false => simp (maxSteps := 1000000) (implicitDefEqProofs := false) (disch := omega) [-getElem?_pos, c_impl_MapPut, den_impl_ChainOk hL, den_isValue, hok, hv, mapPut, z65]
    | true =>
      cases hv2 : isVal val with
      | false => simp (maxSteps := 1000000) (implicitDefEqProofs := false) (disch := omega) [-getElem?_pos, c_impl_MapPut, den_impl_ChainOk hL, den_isValue, hok, hv, hv2, mapPut, z65]
      | true =>
        cases hw : (wk f key 10 (-1) a).2.2.2 with
        | false => simp (maxSteps := 1000000) (implicitDefEqProofs := false) (disch := omega) [-getElem?_pos, c_impl_MapPut, den_impl_ChainOk hL, den_isValue, den_impl_walk hL _ _ f a key κ0 hc, hok, hv, hv2, hw, mapPut, z65]
        | true =>
          cases hh : hasB f (wk f key 10 (-1) a).2.1 key with
          | true =>
            obtain ⟨q, hq, hq2, _⟩ := hasB_pos hin hh
            rw [hq] at hh hin
            simp (maxSteps := 1000000) (implicitDefEqProofs := false) (disch := omega) [-getElem?_pos, c_impl_MapPut, den_impl_ChainOk hL, den_isValue, den_impl_walk hL _ _ f a key κ0 hc, den_has _ _ f a _ key hin, hok, hv, hv2, hw, hq, hh, mapPut, z65]
          | false =>
            have hl := iter_blk (n0 := m.length) (id := 1) (ka := some [3, 6, 11]) (f := fun s => exec (den T X L (k + 3)) L m.length none c_impl_MapPut_b0 s) (tr := trim m.length (some [1, 2, 3, 6, 9, 10, 11, 55, 56])) (σ := Nat)
              (fun i => ⟨[(1, vi key), (2, vi val), (3, .c (.ptr m.length 0 65)), (6, .c (.ptr (m.length + 1) 0 65)), (9, vi (wk f key 10 (-1) a).1), (10, vi (wk f key 10 (-1) a).2.1), (11, vi (wk f key 10 (-1) a).2.2.1), (55, .agg (nds 16 f)), (56, vi i)], m ++ [⟨chn f a, 31, 0, true⟩, ⟨chn (fun _ => nd0) 0, 31, 0, true⟩], 0, 0⟩)
              (fun i => i ≤ 16) (fun i => 16 - i)
              (fun i => if frI f (16 - i) i = 16 then (.norm, ⟨[(3, .c (.ptr m.length 0 65)), (6, .c (.ptr (m.length + 1) 0 65)), (11, vi (wk f key 10 (-1) a).2.2.1)], m ++ [⟨chn f a, 31, 0, true⟩, ⟨chn (fun _ => nd0) 0, 31, 0, true⟩], 0, 0⟩)
                else (.ret, ⟨[(6, .c (.ptr (m.length + 1) 0 65)), (7, vi (wk f key 10 (-1) a).2.2.1), (8, vi 0)],
                  m ++ [⟨chn (linkF (upd f (frI f (16 - i) i) ⟨true, key, val, (wk f key 10 (-1) a).2.1⟩) (wk f key 10 (-1) a).1 (frI f (16 - i) i)) (linkA a (wk f key 10 (-1) a).1 (frI f (16 - i) i)), 31, 0, true⟩,
                    ⟨chn (linkF (upd f (frI f (16 - i) i) ⟨true, key, val, (wk f key 10 (-1) a).2.1⟩) (wk f key 10 (-1) a).1 (frI f (16 - i) i)) (linkA a (wk f key 10 (-1) a).1 (frI f (16 - i) i)), 31, 0, true⟩], 0, 0⟩)) ?w
            case w =>
              intro i hi
              by_cases he : i = 16
              · subst he
                refine ⟨.exit 1, _, by simp (maxSteps := 1000000) (implicitDefEqProofs := false) (disch := omega) [-getElem?_pos, c_impl_MapPut_b0]; rfl, ?_⟩
                simp (maxSteps := 1000000) (implicitDefEqProofs := false) (disch := omega) [-getElem?_pos, c_blkx, frI]
              · have hi' : (i : Int) < 16 := by omega
                cases hu : (f i).u with
                | true =>
                  refine ⟨.norm, _, by simp (maxSteps := 1000000) (implicitDefEqProofs := false) (disch := omega) [-getElem?_pos, c_impl_MapPut_b0, hi', znd, nd_g0, nd_lay, nd_l0, nd_l1, nd_l2, nd_l3, hu, show i * 4 ≤ 60 by omega]; rfl, i + 1, ?_, by omega, by omega, by simp only [← frI_step (show i < 16 by omega) hu]⟩
                  simp (maxSteps := 1000000) (implicitDefEqProofs := false) (disch := omega) [-getElem?_pos, nd_refs]
                | false =>
                  refine ⟨.ret, _, by simp (maxSteps := 1000000) (implicitDefEqProofs := false) (disch := omega) [-getElem?_pos, c_impl_MapPut_b0, hi', znd, nd_g0, nd_lay, nd_l0, nd_l1, nd_l2, nd_l3, hu, show i * 4 ≤ 60 by omega, den_link_at _ _ _ _ _ _ _ hah]; rfl, ?_⟩
                  simp (maxSteps := 1000000) (implicitDefEqProofs := false) (disch := omega) [-getElem?_pos, c_blkr, frI_hit (show i < 16 by omega) hu, he]
            simp (maxSteps := 1000000) (implicitDefEqProofs := false) (disch := omega) [-getElem?_pos, c_impl_MapPut, den_impl_ChainOk hL, den_isValue, den_impl_walk hL _ _ f a key κ0 hc, den_has _ _ f a _ key hin, hok, hv, hv2, hw, hh, mapPut, z65]
            rw [hl L 0 _ (Nat.zero_le _) ?tr (by show 16 < L; omega)]
            case tr => simp (maxSteps := 1000000) (implicitDefEqProofs := false) (disch := omega) [-getElem?_pos]
            by_cases hf : frI f 16 0 = 16
            · simp (maxSteps := 1000000) (implicitDefEqProofs := false) (disch := omega) [-getElem?_pos, hf]
            · simp (maxSteps := 1000000) (implicitDefEqProofs := false) (disch := omega) [-getElem?_pos, hf]
end Go.Proofs.Ytonkgmajfcpeeaa
