/-
  Trees: found; the law.
-/
import Derived.Test.YtonkgmajfcpeeaaT6
set_option linter.unusedVariables false
set_option linter.unusedSimpArgs false
set_option maxHeartbeats 4000000
namespace Go.Proofs.Ytonkgmajfcpeeaa
variable {X : FuncId → List V → List Blk → Option Ret} {L : Nat}

theorem den_spec_twalk (hL : 100 ≤ L) (k : Nat) (m : List Blk) (f : Nat → Nd) (a key : Int) (ht : trW f a none) :
    den T X L (k + 1) 67 [.agg (chn f a), vi key] m = some ⟨.tup [.c (.sl m.length 0 (vis f key 8 a).length (vis f key 8 a).length), vb ((twk f a key 8 none).2.2 && !(decide (valW f a (twk f a key 8 none).1 = -1))), vb (twk f a key 8 none).2.2], m ++ [blkI (toI (vis f key 8 a))], 0, 0⟩ := by
  rw [den_eq T_67]
  have hl := iter_blk (n0 := m.length) (id := 0) (ka := some [7]) (f := fun s => exec (den T X L k) L m.length none c_spec_l15Walk_b0 s) (tr := trim m.length (some [1, 2, 7, 8])) (σ := Nat × Way × List Nat)
    (fun s => ⟨[(1, vi key), (2, .c (.ptr m.length 0 65)), (7, .c (.sl (m.length + 1) 0 s.2.2.length s.2.2.length)), (8, vi (valW f a s.2.1))], m ++ [⟨chn f a, 43, 0, true⟩, blkI (toI s.2.2)], 0, 0⟩)
    (fun s => s.1 ≤ 8 ∧ s.2.2.length = 8 - s.1 ∧ trW f a s.2.1) (fun s => s.1)
    (fun s => if (twk f a key s.1 s.2.1).2.2 = true ∧ valW f a (twk f a key s.1 s.2.1).1 = -1 then (.norm, ⟨[(7, .c (.sl (m.length + 1) 0 (s.2.2 ++ vis f key s.1 (valW f a s.2.1)).length (s.2.2 ++ vis f key s.1 (valW f a s.2.1)).length))], m ++ [⟨chn f a, 43, 0, true⟩, blkI (toI (s.2.2 ++ vis f key s.1 (valW f a s.2.1)))], 0, 0⟩)
      else (.ret, ⟨[(4, .c (.sl (m.length + 1) 0 (s.2.2 ++ vis f key s.1 (valW f a s.2.1)).length (s.2.2 ++ vis f key s.1 (valW f a s.2.1)).length)), (5, vb (twk f a key s.1 s.2.1).2.2), (6, vb (twk f a key s.1 s.2.1).2.2)], m ++ [⟨chn f a, 43, 0, true⟩, blkI (toI (s.2.2 ++ vis f key s.1 (valW f a s.2.1)))], 0, 0⟩)) ?w
  case w =>
    rintro ⟨n, w, out⟩ ⟨hn, ho, htw⟩
    simp only at hn ho htw
    by_cases hv : valW f a w = -1
    · refine ⟨.exit 0, _, by simp (maxSteps := 1000000) (implicitDefEqProofs := false) (disch := omega) [-getElem?_pos, c_spec_l15Walk_b0, hv]; rfl, ?_⟩
      simp only [twk_end hv, hv, vis_end, List.append_nil]
      simp (maxSteps := 1000000) (implicitDefEqProofs := false) (disch := omega) [-getElem?_pos, c_blkx]
    · obtain ⟨q, h1, h2, h3, h4, h5⟩ := trW_step htw hv
      have hq : ¬ (q : Int) = -1 := by omega
      cases n with
      | zero =>
        refine ⟨.ret, _, by simp (maxSteps := 1000000) (implicitDefEqProofs := false) (disch := omega) [-getElem?_pos, c_spec_l15Walk_b0, h1, hq, toI_len, show (out.length : Int) = 8 by omega]; rfl, ?_⟩
        simp only [twk_zero hv, vis_zero, List.append_nil]
        simp (maxSteps := 1000000) (implicitDefEqProofs := false) (disch := omega) [-getElem?_pos, c_blkr]
      | succ n =>
        have h8 : ¬ (out.length : Int) = 8 := by omega
        have hll : (out ++ [q]).length = out.length + 1 := by simp
        by_cases k1 : key < (f q).a
        · refine ⟨.norm, _, by simp (maxSteps := 1000000) (implicitDefEqProofs := false) (disch := omega) [-getElem?_pos, c_spec_l15Walk_b0, h1, hq, toI_len, h8, k1, show ¬ (f q).a = key by omega, ints_snoc, toI_snoc]; rfl, (n, some (q, false), out ++ [q]), ?_, ⟨by omega, by show (out ++ [q]).length = 8 - n; rw [hll]; omega, h4⟩, by show n < n + 1; omega, ?_⟩
          · simp (maxSteps := 1000000) (implicitDefEqProofs := false) (disch := omega) [-getElem?_pos, valW]
          · simp only [twk_l h1 k1, h1, vis_l (show ¬ (f q).a = key by omega) k1, List.append_assoc, List.cons_append, List.nil_append]
            rfl
        · by_cases k2 : key > (f q).a
          · refine ⟨.norm, _, by simp (maxSteps := 1000000) (implicitDefEqProofs := false) (disch := omega) [-getElem?_pos, c_spec_l15Walk_b0, h1, hq, toI_len, h8, k1, show ¬ (f q).a = key by omega, ints_snoc, toI_snoc]; rfl, (n, some (q, true), out ++ [q]), ?_, ⟨by omega, by show (out ++ [q]).length = 8 - n; rw [hll]; omega, h5⟩, by show n < n + 1; omega, ?_⟩
            · simp (maxSteps := 1000000) (implicitDefEqProofs := false) (disch := omega) [-getElem?_pos, valW]
            · simp only [twk_r h1 k1 k2, h1, vis_r (show ¬ (f q).a = key by omega) k1, List.append_assoc, List.cons_append, List.nil_append]
              rfl
          · refine ⟨.ret, _, by simp (maxSteps := 1000000) (implicitDefEqProofs := false) (disch := omega) [-getElem?_pos, c_spec_l15Walk_b0, h1, hq, toI_len, h8, k1, show (f q).a = key by omega, ints_snoc, toI_snoc]; rfl, ?_⟩
            simp only [twk_hit h1 k1 k2, h1, vis_hit (show (f q).a = key by omega), hq, and_false, if_false]
            simp (maxSteps := 1000000) (implicitDefEqProofs := false) (disch := omega) [-getElem?_pos, c_blkr]
  have hlen : (vis f key 8 a).length ≤ 8 := by
    have := vis_len (key := key) 8 none ht
    have h2 := twk_le (key := key) 8 none ht
    rw [show valW f a none = a from rfl] at this
    omega
  simp (maxSteps := 1000000) (implicitDefEqProofs := false) (disch := omega) [-getElem?_pos, c_spec_l15Walk]
  rw [hl L (8, none, []) _ ⟨Nat.le_refl _, rfl, ht⟩ ?tr (by show 8 < L; omega)]
  case tr => simp (maxSteps := 1000000) (implicitDefEqProofs := false) (disch := omega) [-getElem?_pos, toI, ints, refsL, valW]
  simp only [List.nil_append, show valW f a none = a from rfl]
  by_cases hc : (twk f a key 8 none).2.2 = true ∧ valW f a (twk f a key 8 none).1 = -1
  · rw [if_pos hc]
    simp (maxSteps := 1000000) (implicitDefEqProofs := false) (disch := omega) [-getElem?_pos, hc.1, hc.2, toI_len]
  · rw [if_neg hc]
    cases hok : (twk f a key 8 none).2.2 with
    | false => simp (maxSteps := 1000000) (implicitDefEqProofs := false) (disch := omega) [-getElem?_pos, hok, toI_len]
    | true =>
      have h2 : ¬ valW f a (twk f a key 8 none).1 = -1 := fun h => hc ⟨hok, h⟩
      simp (maxSteps := 1000000) (implicitDefEqProofs := false) (disch := omega) [-getElem?_pos, hok, toI_len, h2]

def treeFind (f : Nat → Nd) (a key : Int) : Int × Int :=
  if treeOk f a = true ∧ isVal key = true then
    if (twk f a key 8 none).2.2 = true then (if valW f a (twk f a key 8 none).1 = -1 then ((twk f a key 8 none).2.1, 5) else ((twk f a key 8 none).2.1, 4)) else ((twk f a key 8 none).2.1, 2)
  else (0, 1)
theorem trW_root {f : Nat → Nd} {a : Int} (h : treeOk f a = true) : trW f a none := by
  obtain ⟨l, _, h1, _⟩ := tree_spec h
  exact ⟨trivial, l, h1⟩
theorem den_impl_TreeFind (hL : 100 ≤ L) (k : Nat) (m : List Blk) (f : Nat → Nd) (a key : Int) : den T X L (k + 21) 39 [.agg (chn f a), vi key] m = some ⟨.tup [vi (treeFind f a key).1, vi (treeFind f a key).2], m, 0, 0⟩ := by
  rw [den_eq T_39]
  cases hok : treeOk f a with
  | false => simp (maxSteps := 1000000) (implicitDefEqProofs := false) (disch := omega) [-getElem?_pos, c_impl_TreeFind, den_impl_TreeOk hL, treeOk_same, hok, treeFind]
  | true =>
    have ht := trW_root hok
    cases hv : isVal key with
    | false => simp (maxSteps := 1000000) (implicitDefEqProofs := false) (disch := omega) [-getElem?_pos, c_impl_TreeFind, den_impl_TreeOk hL, treeOk_same, den_isValue (k + 18), hok, hv, treeFind]
    | true =>
      have e := den_impl_twalk (X := X) hL (k + 19) (m ++ [⟨chn f a, 43, 0, true⟩]) m.length f a key (by simp (maxSteps := 1000000) (implicitDefEqProofs := false) (disch := omega) [-getElem?_pos]) ht
      have hg := get_way (f := f) (a := a) (twk_tr (key := key) 8 none ht).1
      have hw := way_lt (twk_tr (key := key) 8 none ht).1
      cases hc : (twk f a key 8 none).2.2 with
      | false => simp (maxSteps := 1000000) (implicitDefEqProofs := false) (disch := omega) [-getElem?_pos, c_impl_TreeFind, den_impl_TreeOk hL, treeOk_same, den_isValue (k + 18), hok, hv, treeFind, e, hc]
      | true =>
        by_cases hz : valW f a (twk f a key 8 none).1 = -1
        · rw [hz] at hg
          simp (maxSteps := 1000000) (implicitDefEqProofs := false) (disch := omega) [-getElem?_pos, c_impl_TreeFind, den_impl_TreeOk hL, treeOk_same, den_isValue (k + 18), hok, hv, treeFind, e, hc, hg, hz]
        · simp (maxSteps := 1000000) (implicitDefEqProofs := false) (disch := omega) [-getElem?_pos, c_impl_TreeFind, den_impl_TreeOk hL, treeOk_same, den_isValue (k + 18), hok, hv, treeFind, e, hc, hg, hz]
theorem den_spec_TreeFind (hL : 100 ≤ L) (k : Nat) (m : List Blk) (f : Nat → Nd) (a key : Int) : den T X L (k + 21) 38 [.agg (chn f a), vi key] m = some ⟨.tup [vi (treeFind f a key).1, vi (treeFind f a key).2], m, 0, 0⟩ := by
  rw [den_eq T_38]
  cases hok : treeOk f a with
  | false => simp (maxSteps := 1000000) (implicitDefEqProofs := false) (disch := omega) [-getElem?_pos, c_spec_TreeFind, den_spec_TreeOk hL, hok, treeFind]
  | true =>
    have ht := trW_root hok
    cases hv : isVal key with
    | false => simp (maxSteps := 1000000) (implicitDefEqProofs := false) (disch := omega) [-getElem?_pos, c_spec_TreeFind, den_spec_TreeOk hL, den_l1Value (k + 18), hok, hv, treeFind]
    | true =>
      have e := fun m => den_spec_twalk (X := X) hL (k + 19) m f a key ht
      have hlen := vis_len (key := key) 8 none ht
      rw [show valW f a none = a from rfl] at hlen
      cases hc : (twk f a key 8 none).2.2 with
      | false => simp (maxSteps := 1000000) (implicitDefEqProofs := false) (disch := omega) [-getElem?_pos, c_spec_TreeFind, den_spec_TreeOk hL, den_l1Value (k + 18), hok, hv, treeFind, e, hc, toI_len, hlen]
      | true =>
        by_cases hz : valW f a (twk f a key 8 none).1 = -1
        · simp (maxSteps := 1000000) (implicitDefEqProofs := false) (disch := omega) [-getElem?_pos, c_spec_TreeFind, den_spec_TreeOk hL, den_l1Value (k + 18), hok, hv, treeFind, e, hc, toI_len, hlen, hz]
        · simp (maxSteps := 1000000) (implicitDefEqProofs := false) (disch := omega) [-getElem?_pos, c_spec_TreeFind, den_spec_TreeOk hL, den_l1Value (k + 18), hok, hv, treeFind, e, hc, toI_len, hlen, hz]
theorem den_FnExactTreeFind (hL : 100 ≤ L) (k : Nat) (m : List Blk) (f : Nat → Nd) (a key : Int) : den T X L (k + 22) 11 [.agg (chn f a), vi key] m = some ⟨vb true, m, 0, 0⟩ := by
  rw [den_eq T_11]
  simp (maxSteps := 1000000) (implicitDefEqProofs := false) (disch := omega) [-getElem?_pos, c_laws_FnExactTreeFind, den_toTree hL (k + 18), den_spec_TreeFind hL, den_impl_TreeFind hL]
end Go.Proofs.Ytonkgmajfcpeeaa
