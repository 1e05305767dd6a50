/-
  Spaces: a map, a queue, a tree and a set, as cells.
-/
import Derived.Test.YtdnfcomgdgdifaaGB
import Derived.Test.YtdnfcomgdgdifaaRA
import Derived.Test.YtdnfcomgdgdifaaTA
import Derived.Test.YtdnfcomgdgdifaaCA
import Derived.Test.YtdnfcomgdgdifaaSq
set_option linter.unusedVariables false
set_option linter.unusedSimpArgs false
set_option linter.unnecessarySimpa false
set_option maxHeartbeats 4000000
set_option maxRecDepth 100000
namespace Go.Proofs.Ytdnfcomgdgdifaa
variable {X : FuncId → List V → List Blk → Option Ret} {L : Nat}

def spZ : Spc := ⟨fun _ => nd0, 0, (fun _ => 0, 0, 0), fun _ => nd0, 0⟩
theorem z141 : [C.bool false, .int .i64 0, .int .i64 0, .int .i64 0, .bool false, .int .i64 0, .int .i64 0, .int .i64 0, .bool false, .int .i64 0, .int .i64 0, .int .i64 0, .bool false, .int .i64 0, .int .i64 0, .int .i64 0, .bool false, .int .i64 0, .int .i64 0, .int .i64 0, .bool false, .int .i64 0, .int .i64 0, .int .i64 0, .bool false, .int .i64 0, .int .i64 0, .int .i64 0, .bool false, .int .i64 0, .int .i64 0, .int .i64 0, .bool false, .int .i64 0, .int .i64 0, .int .i64 0, .bool false, .int .i64 0, .int .i64 0, .int .i64 0, .bool false, .int .i64 0, .int .i64 0, .int .i64 0, .bool false, .int .i64 0, .int .i64 0, .int .i64 0, .bool false, .int .i64 0, .int .i64 0, .int .i64 0, .bool false, .int .i64 0, .int .i64 0, .int .i64 0, .bool false, .int .i64 0, .int .i64 0, .int .i64 0, .bool false, .int .i64 0, .int .i64 0, .int .i64 0, .int .i64 0, .int .i64 0, .int .i64 0, .int .i64 0, .int .i64 0, .int .i64 0, .int .i64 0, .int .i64 0, .int .i64 0, .int .i64 0, .int .i64 0, .bool false, .int .i64 0, .int .i64 0, .int .i64 0, .bool false, .int .i64 0, .int .i64 0, .int .i64 0, .bool false, .int .i64 0, .int .i64 0, .int .i64 0, .bool false, .int .i64 0, .int .i64 0, .int .i64 0, .bool false, .int .i64 0, .int .i64 0, .int .i64 0, .bool false, .int .i64 0, .int .i64 0, .int .i64 0, .bool false, .int .i64 0, .int .i64 0, .int .i64 0, .bool false, .int .i64 0, .int .i64 0, .int .i64 0, .bool false, .int .i64 0, .int .i64 0, .int .i64 0, .bool false, .int .i64 0, .int .i64 0, .int .i64 0, .bool false, .int .i64 0, .int .i64 0, .int .i64 0, .bool false, .int .i64 0, .int .i64 0, .int .i64 0, .bool false, .int .i64 0, .int .i64 0, .int .i64 0, .bool false, .int .i64 0, .int .i64 0, .int .i64 0, .bool false, .int .i64 0, .int .i64 0, .int .i64 0, .bool false, .int .i64 0, .int .i64 0, .int .i64 0, .int .i64 0, .nils] = spC spZ .nils := rfl
section
variable (s : Spc) (v : C)
theorem chn_l (f : Nat → Nd) (a : Int) : (chn f a).length = 65 := by simp [nds_len]
theorem ring_l (r : R3) : (ringV r).length = 10 := rfl
theorem chn_z (f : Nat → Nd) (a : Int) : refsL (chn f a) = 0 := by simp [refs_append, nds_refs, refsL, C.refs, ci, mx]
theorem chn_h (f : Nat → Nd) (a : Int) : (chn f a).all (·.hard) = true := by rw [List.all_append, nds_hard]; rfl
theorem sp_len : (spC s v).length = 141 := by simp [spC, ring_l, nds_len]
theorem sp_refs : refsL (spC s v) = v.refs := by
  unfold spC
  rw [refs_append (a := chn s.f s.a), refs_append (a := ringV s.r), refs_append (a := chn s.g s.b), chn_z, chn_z, show refsL (ringV s.r) = 0 from rfl, refsL, refsL]
  generalize v.refs = r
  simp only [mx_eq]
  omega
theorem sp_take : (spC s v).take 141 = spC s v := List.take_of_length_le (by rw [sp_len]; exact Nat.le_refl _)
theorem sp_map : (spC s v).take 65 = chn s.f s.a := by unfold spC; rw [← chn_l s.f s.a, List.take_left]
theorem sp_queue : ((spC s v).drop 65).take 10 = ringV s.r := by
  unfold spC
  rw [← chn_l s.f s.a, List.drop_left, ← ring_l s.r, List.take_left]
theorem sp_tree : ((spC s v).drop 75).take 65 = chn s.g s.b := by
  unfold spC
  rw [show 75 = (chn s.f s.a).length + 10 by rw [chn_l], ← List.drop_drop, List.drop_left, ← ring_l s.r, List.drop_left, ← chn_l s.g s.b, List.take_left]
theorem sp_set : (spC s v)[140]? = some v := by
  unfold spC
  rw [List.getElem?_append_right (by rw [chn_l]; omega), chn_l, List.getElem?_append_right (by rw [ring_l]; omega), ring_l, List.getElem?_append_right (by rw [chn_l]; omega), chn_l]
  rfl
theorem sp_over (s' : Spc) (v' : C) : lay (spC s v) 0 (spC s' v') = spC s' v' := lay_all (by rw [sp_len, sp_len])
theorem sp_lmap (f : Nat → Nd) (a : Int) : lay (spC s v) 0 (chn f a) = spC { s with f := f, a := a } v := by
  unfold spC lay
  rw [List.take_zero, List.nil_append, Nat.zero_add, chn_l, ← chn_l s.f s.a, List.drop_left]
theorem sp_lqueue (r : R3) : lay (spC s v) 65 (ringV r) = spC { s with r := r } v := by
  unfold spC
  rw [lay_mid (a := chn s.f s.a) (b := ringV s.r) (by rw [chn_l]) (by rw [ring_l, ring_l])]
theorem sp_ltree (g : Nat → Nd) (b : Int) : lay (spC s v) 75 (chn g b) = spC { s with g := g, b := b } v := by
  unfold spC
  rw [← List.append_assoc (chn s.f s.a), lay_mid (a := chn s.f s.a ++ ringV s.r) (b := chn s.g s.b) (by rw [List.length_append, chn_l, ring_l]) (by rw [chn_l, chn_l]), List.append_assoc]
theorem sp_lset (v' : C) : lay (spC s v) 140 [v'] = spC s v' := by
  unfold spC
  rw [← List.append_assoc (ringV s.r), ← List.append_assoc (chn s.f s.a), ← List.append_assoc (ringV s.r), ← List.append_assoc (chn s.f s.a)]
  have := lay_mid (a := chn s.f s.a ++ (ringV s.r ++ chn s.g s.b)) (b := [v]) (n := [v']) (r := []) (o := 140) (by simp [nds_len, ring_l]) rfl
  simpa using this
end
theorem own_hard {n0 : Nat} {cs : List C} (h : cs.all (·.hard) = true) : cs.flatMap (·.own n0) = [] := by
  rw [List.flatMap_eq_nil_iff]
  intro c hc
  have := List.all_eq_true.1 h c hc
  cases c <;> first | rfl | (simp [C.hard] at this)
theorem ren_hard {f : Nat → Nat} {cs : List C} (h : cs.all (·.hard) = true) : cs.map (·.ren f) = cs := by
  rw [List.map_congr_left (g := id)]
  · simp
  · intro c hc
    have := List.all_eq_true.1 h c hc
    cases c <;> first | rfl | (simp [C.hard] at this)
theorem sp_own (s : Spc) (v : C) (n0 : Nat) : (spC s v).flatMap (·.own n0) = v.own n0 := by
  unfold spC
  rw [List.flatMap_append (xs := chn s.f s.a), List.flatMap_append (xs := ringV s.r), List.flatMap_append (xs := chn s.g s.b), own_hard (chn_h _ _), own_hard (chn_h _ _), own_hard (cs := ringV s.r) rfl]
  simp
theorem sp_ren (s : Spc) (v : C) (f : Nat → Nat) : (spC s v).map (·.ren f) = spC s (v.ren f) := by
  unfold spC
  rw [List.map_append (l₁ := chn s.f s.a), List.map_append (l₁ := ringV s.r), List.map_append (l₁ := chn s.g s.b), ren_hard (chn_h _ _), ren_hard (chn_h _ _), ren_hard (cs := ringV s.r) rfl]
  rfl
/-- What a space of the law's own is when it is handed back. -/
theorem fin_sp {m l1 : List Blk} {xss : List (List Int)} {e q : Nat} {env : List (Nat × V)} {s : Spc} (hq : q = m.length + l1.length) (he : q + 1 + xss.length ≤ mx e (q + 1)) :
    ∃ l c e', fin m.length (.agg (spC s (.sl q 0 xss.length xss.length))) ⟨env, m ++ (l1 ++ ⟨hd (q + 1) xss, 28, 1, true⟩ :: xss.map blkI), e, 0⟩ = ⟨.agg (spC s c), m ++ l, e', 0⟩ ∧ SS (m ++ l) c xss := by
  have hqm : m.length ≤ q := by omega
  have hr : (V.agg (spC s (.sl q 0 xss.length xss.length))).refs = q + 1 := by unfold V.refs; exact sp_refs _ _
  have ho : (V.agg (spC s (.sl q 0 xss.length xss.length))).own m.length = [q] := by
    show (spC s (.sl q 0 xss.length xss.length)).flatMap (·.own m.length) = [q]
    rw [sp_own]
    show (if q < m.length then [] else [q]) = [q]
    rw [if_neg (Nat.not_lt.2 hqm)]
  have hg : (m ++ (l1 ++ (⟨hd (q + 1) xss, 28, 1, true⟩ : Blk) :: xss.map blkI))[q]? = some ⟨hd (q + 1) xss, 28, 1, true⟩ := by
    rw [← List.append_assoc, List.getElem?_append_right (by rw [List.length_append]; omega), List.length_append, hq, Nat.sub_self]; rfl
  unfold fin
  simp only [if_true]
  rw [hr, ho, if_neg (by omega)]
  have hn : nub [q] = [q] := rfl
  rw [hn]
  cases xss with
  | nil =>
    have hp : pickB (m ++ (l1 ++ (⟨hd (q + 1) [], 28, 1, true⟩ : Blk) :: List.map blkI [])) [q] = some [⟨[], 28, 1, true⟩] := by
      unfold pickB
      rw [hg]
      rfl
    rw [hp]
    refine ⟨[⟨[], 28, 1, true⟩], .sl m.length 0 0 0, 0, ?_, .inr ⟨m.length, 0, 0, ⟨[], 28, 1, true⟩, rfl, by simp [live], .inr rfl, fun j hj => by simp at hj⟩⟩
    have ht : (m ++ (l1 ++ (⟨hd (q + 1) [], 28, 1, true⟩ : Blk) :: List.map blkI [])).take m.length = m := List.take_left
    rw [ht]
    have hrn : ∀ f, (V.agg (spC s (.sl q 0 0 0))).ren f = .agg (spC s (.sl (f q) 0 0 0)) := fun f => by
      show V.agg ((spC s (.sl q 0 0 0)).map (·.ren f)) = _
      rw [sp_ren]; rfl
    have hpos : pos m.length [q] q = m.length := by simp [pos]
    simp only [List.length_nil]
    rw [hrn, hpos]
  | cons xs r =>
    have hp : pickB (m ++ (l1 ++ (⟨hd (q + 1) (xs :: r), 28, 1, true⟩ : Blk) :: List.map blkI (xs :: r))) [q] = none := by
      unfold pickB
      rw [hg, Option.bind_some, hd_refs]
      simp
    rw [hp]
    have ht : (m ++ (l1 ++ (⟨hd (q + 1) (xs :: r), 28, 1, true⟩ : Blk) :: List.map blkI (xs :: r))).take (mx m.length (mx e (q + 1))) = m ++ (l1 ++ (⟨hd (q + 1) (xs :: r), 28, 1, true⟩ : Blk) :: List.map blkI (xs :: r)) := by
      refine List.take_of_length_le ?_
      simp only [List.length_append, List.length_cons, List.length_map] at he ⊢
      rw [mx_eq (m.length)]
      omega
    rw [ht]
    refine ⟨_, _, _, rfl, .inr ⟨q, 0, (xs :: r).length, ⟨hd (q + 1) (xs :: r), 28, 1, true⟩, rfl, ?_, .inr rfl, fun j hj => ⟨_, by rw [Nat.zero_add]; exact hd_get hj, ?_⟩⟩⟩
    · unfold live
      rw [hg, Option.bind_some, hd_len, if_pos rfl]
    · refine live_ints (ty := 3) (o := true) ?_
      rw [← List.append_assoc, List.getElem?_append_right (by rw [List.length_append]; omega), List.length_append, show q + 1 + j - (m.length + l1.length) = j + 1 by omega, List.getElem?_cons_succ, List.getElem?_map, List.getElem?_eq_getElem hj, nthL_lt hj]
      rfl
theorem den_toSpace (hL : 2000000 ≤ L) (k : Nat) (m : List Blk) (s : Spc) (v : C) (xss : List (List Int)) (hv : SS m v xss) (hb : xss.length ≤ 1048576) (hbs : ∀ xs ∈ xss, xs.length ≤ 1048576) :
    ∃ l c e, den T X L (k + 4) 43 [.agg (spC s v)] m = some ⟨.agg (spC s c), m ++ l, e, 0⟩ ∧ SS (m ++ l) c xss := by
  rw [den_eq T_43]
  have e1 := fun m => den_toChain (X := X) (L := L) (by omega) k m s.f s.a
  have e2 : ∀ m, den T X L (k + 3) 86 [.agg (ringV s.r)] m = some ⟨.agg (ringV s.r), m, 0, 0⟩ := fun m => den_toRing (X := X) (L := L) (by omega) (k + 1) m s.r.1 s.r.2.1 s.r.2.2
  have e3 := fun m => den_toTree (X := X) (L := L) (by omega) k m s.g s.b
  have e4 := den_toIntSS (X := X) (L := L) hL (k + 1) (m ++ [⟨spC s v, 87, 0, true⟩, ⟨spC spZ .nils, 91, 0, true⟩, ⟨spC s .nils, 91, 0, true⟩]) v xss hv.grow hb hbs
  unfold freshR freshM at e4
  obtain ⟨rv, hrv⟩ : ∃ r, r = v.refs := ⟨_, rfl⟩
  have hr : refsL (spC s v) = rv := by rw [hrv]; exact sp_refs s v
  have hr0 : ∀ s, refsL (spC s .nils) = 0 := fun s => sp_refs s _
  have hr1 : ∀ q n, refsL (spC s (.sl q 0 n n)) = q + 1 := fun q n => sp_refs s _
  have htk : ∀ k A B D, m.length + 4 + xss.length ≤ k → List.take k (m ++ A :: B :: D :: (⟨hd (m.length + 4) xss, 28, 1, true⟩ : Blk) :: xss.map blkI) = m ++ A :: B :: D :: (⟨hd (m.length + 4) xss, 28, 1, true⟩ : Blk) :: xss.map blkI := fun k A B D h => List.take_of_length_le (by simp; omega)
  have hmx : ∀ a, m.length + 4 + xss.length ≤ mx m.length (mx (mx (mx (mx a (if xss = [] then 0 else m.length + (4 + xss.length))) (m.length + 4)) (m.length + 4)) (m.length + 2)) := by
    intro a
    simp only [mx_eq]
    cases xss with
    | nil => simp; omega
    | cons x r => simp; omega
  have htk' := fun a A B D => htk _ A B D (hmx a)
  generalize hd' : runF _ _ _ _ _ = d
  simp (maxSteps := 1000000) (implicitDefEqProofs := false) (disch := omega) [-getElem?_pos, -fin, c_laws_toSpace, z141, sp_len, hr, hr0, hr1, sp_take, sp_map, sp_queue, sp_tree, sp_set, sp_over, sp_lmap, sp_lqueue, sp_ltree, sp_lset, e1, e2, e3, e4, htk'] at hd'
  subst hd'
  obtain ⟨l, c, e', f1, f2⟩ := fin_sp (m := m) (l1 := [⟨spC s v, 87, 0, true⟩, ⟨spC s (.sl (m.length + 3) 0 xss.length xss.length), 91, 0, true⟩, ⟨spC s (.sl (m.length + 3) 0 xss.length xss.length), 91, 0, true⟩]) (xss := xss) (e := mx (mx (mx rv (if xss = [] then 0 else m.length + (4 + xss.length))) (m.length + 4)) (m.length + 4)) (q := m.length + 3) (env := [(2, V.c (C.ptr (m.length + 1) 0 141))]) (s := s) rfl (by simp only [mx_eq]; cases xss with | nil => simp; omega | cons x r => simp; omega)
  exact ⟨l, c, e', congrArg some f1, f2⟩
def spOk (s : Spc) (xss : List (List Int)) : Bool := chainOk s.f s.a && ringOk s.r.1 s.r.2.1 s.r.2.2 && treeOk s.g s.b && setOk xss
section
variable (hL : 2000000 ≤ L) (k : Nat) (m : List Blk) (s : Spc) (v : C) (xss : List (List Int)) (hv : SS m v xss) (hb : xss.length ≤ 1048576) (hbs : ∀ xs ∈ xss, xs.length ≤ 1048576)
include hL hv hb hbs
theorem den_spec_SpaceOk : den T X L (k + 21) 42 [.agg (spC s v)] m = some ⟨vb (spOk s xss), m, 0, 0⟩ := by
  rw [den_eq T_42]
  have e1 := fun m => den_spec_ChainOk (X := X) (L := L) (by omega) (k + 17) m s.f s.a
  have e2 : ∀ m, den T X L (k + 20) 83 [.agg (ringV s.r)] m = some ⟨vb (ringOk s.r.1 s.r.2.1 s.r.2.2), m, 0, 0⟩ := fun m => den_spec_RingOk (X := X) (L := L) (by omega) (k + 17) m s.r.1 s.r.2.1 s.r.2.2
  have e3 := fun m => den_spec_TreeOk (X := X) (L := L) (by omega) k m s.g s.b
  have e4 := den_spec_SetOk (X := X) (L := L) hL (k + 17) (m ++ [⟨spC s v, 91, 0, true⟩]) v xss hv.grow hb hbs
  unfold spOk
  generalize chainOk s.f s.a = b1 at e1 ⊢
  generalize ringOk s.r.1 s.r.2.1 s.r.2.2 = b2 at e2 ⊢
  generalize treeOk s.g s.b = b3 at e3 ⊢
  generalize setOk xss = b4 at e4 ⊢
  cases b1 <;> cases b2 <;> cases b3 <;> simp (maxSteps := 1000000) (implicitDefEqProofs := false) (disch := omega) [-getElem?_pos, c_spec_SpaceOk, sp_len, sp_take, sp_map, sp_queue, sp_tree, sp_set, e1, e2, e3, e4, Bool.true_and, Bool.false_and, take_end]
theorem den_impl_SpaceOk : den T X L (k + 21) 44 [.agg (spC s v)] m = some ⟨vb (spOk s xss), m, 0, 0⟩ := by
  rw [den_eq T_44]
  have e1 := fun m => den_impl_ChainOk (X := X) (L := L) (by omega) (k + 17) m s.f s.a
  have e2 : ∀ m, den T X L (k + 20) 14 [.agg (ringV s.r)] m = some ⟨vb (ringOk s.r.1 s.r.2.1 s.r.2.2), m, 0, 0⟩ := fun m => den_impl_RingOk (X := X) (L := L) (by omega) (k + 13) m s.r.1 s.r.2.1 s.r.2.2
  have e3 := fun m => den_impl_TreeOk (X := X) (L := L) (by omega) k m s.g s.b
  have e4 := den_impl_SetOk (X := X) (L := L) hL (k + 17) (m ++ [⟨spC s v, 91, 0, true⟩]) v xss hv.grow hb hbs
  rw [treeOk_same] at e3
  unfold spOk
  generalize chainOk s.f s.a = b1 at e1 ⊢
  generalize ringOk s.r.1 s.r.2.1 s.r.2.2 = b2 at e2 ⊢
  generalize treeOk s.g s.b = b3 at e3 ⊢
  generalize setOk xss = b4 at e4 ⊢
  cases b1 <;> cases b2 <;> cases b3 <;> simp (maxSteps := 1000000) (implicitDefEqProofs := false) (disch := omega) [-getElem?_pos, c_impl_SpaceOk, sp_len, sp_take, sp_map, sp_queue, sp_tree, sp_set, e1, e2, e3, e4, Bool.true_and, Bool.false_and, take_end]
end
theorem den_szSpace (hL : 2000000 ≤ L) (k : Nat) (m : List Blk) (s : Spc) (v : C) (xss : List (List Int)) (left : Int) (hv : SS m v xss) (hb : big xss.length) (hbs : ∀ xs ∈ xss, big xs.length) (hl : 0 ≤ left ∧ left ≤ 1048576) :
    den T X L (k + 3) 41 [.agg (spC s v), vi left] m = some ⟨vi (szSS xss left), m, 0, 0⟩ := by
  rw [den_eq T_41]
  have e := den_szIntSS (X := X) (L := L) hL k (m ++ [⟨spC s v, 87, 0, true⟩]) v xss left hv.grow hb hbs hl
  have h1 : -1 ≤ szSS xss left := by
    unfold szSS
    split
    · omega
    · exact (szL_le (by omega)).1
  by_cases h : szSS xss left < 0
  · rw [show szSS xss left = -1 by omega] at e ⊢
    simp (maxSteps := 1000000) (implicitDefEqProofs := false) (disch := omega) [-getElem?_pos, c_laws_szSpace, sp_len, sp_set, e, take_end]
  · simp (maxSteps := 1000000) (implicitDefEqProofs := false) (disch := omega) [-getElem?_pos, c_laws_szSpace, sp_len, sp_set, e, h, take_end]
theorem den_eqTwig' (k : Nat) (m : List Blk) (x : Nd) : den T X L (k + 1) 123 [.agg (nd x), .agg (nd x)] m = some ⟨vb true, m, 0, 0⟩ := by
  rw [den_eq T_123]
  simp (maxSteps := 1000000) (implicitDefEqProofs := false) (disch := omega) [-getElem?_pos, c_laws_eqTwig, nd]
theorem den_eqTwigA16' (hL : 100 ≤ L) (k : Nat) (m : List Blk) (f : Nat → Nd) : den T X L (k + 2) 71 [.agg (nds 16 f), .agg (nds 16 f)] m = some ⟨vb true, m, 0, 0⟩ := by
  rw [den_eq T_71]
  have hl := iter_up (f := fun s => exec (den T X L (k + 1)) L m.length none c_laws_eqTwigA16_b0 s) (tr := trim m.length (some [2, 3, 5]))
    (fun i => ⟨[(2, .c (.ptr m.length 0 64)), (3, .c (.ptr (m.length + 1) 0 64)), (5, vi i)], m ++ [⟨nds 16 f, 45, 0, true⟩, ⟨nds 16 f, 45, 0, true⟩], 0, 0⟩) 16
    ?s1 ⟨0, _, by simp (maxSteps := 1000000) (implicitDefEqProofs := false) (disch := omega) [-getElem?_pos, c_laws_eqTwigA16_b0]; rfl⟩
  case s1 =>
    intro i hi
    refine ⟨_, by simp (maxSteps := 1000000) (implicitDefEqProofs := false) (disch := omega) [-getElem?_pos, c_laws_eqTwigA16_b0, show (i : Int) < 16 by omega, den_eqTwig']; rfl, ?_⟩
    simp (maxSteps := 1000000) (implicitDefEqProofs := false) (disch := omega) [-getElem?_pos]
  simp (maxSteps := 1000000) (implicitDefEqProofs := false) (disch := omega) [-getElem?_pos, c_laws_eqTwigA16]
  rw [hl L 0 _ ?tr (by omega) (by omega)]
  case tr => simp (maxSteps := 1000000) (implicitDefEqProofs := false) (disch := omega) [-getElem?_pos, nds_refs]
  simp (maxSteps := 1000000) (implicitDefEqProofs := false) (disch := omega) [-getElem?_pos, c_laws_eqTwigA16_b0]
theorem den_eqTree' (hL : 100 ≤ L) (k : Nat) (m : List Blk) (f : Nat → Nd) (a : Int) : den T X L (k + 3) 23 [.agg (chn f a), .agg (chn f a)] m = some ⟨vb true, m, 0, 0⟩ := by
  rw [den_eq T_23]
  simp (maxSteps := 1000000) (implicitDefEqProofs := false) (disch := omega) [-getElem?_pos, c_laws_eqTree, den_eqTwigA16' hL]
/-- The same space, its sets in two places. -/
theorem den_eqSpace (hL : 2000000 ≤ L) (k : Nat) (m : List Blk) (s : Spc) (v w : C) (xss : List (List Int)) (hv : SS m v xss) (hw : SS m w xss) (hb : xss.length ≤ 1048576) (hbs : ∀ xs ∈ xss, xs.length ≤ 1048576) :
    den T X L (k + 4) 45 [.agg (spC s v), .agg (spC s w)] m = some ⟨vb true, m, 0, 0⟩ := by
  rw [den_eq T_45]
  have e1 := fun m => den_eqChain (X := X) (L := L) (by omega) k m s.f s.a
  have e2 : ∀ m, den T X L (k + 3) 89 [.agg (ringV s.r), .agg (ringV s.r)] m = some ⟨vb true, m, 0, 0⟩ := fun m => by
    have := den_eqRing (X := X) (L := L) (by omega) (k + 1) m s.r.1 s.r.1 s.r.2.1 s.r.2.2 s.r.2.1 s.r.2.2
    simpa using this
  have e3 := fun m => den_eqTree' (X := X) (L := L) (by omega) k m s.g s.b
  have e4 := den_eqIntSS (X := X) (L := L) hL (k + 1) (m ++ [⟨spC s v, 91, 0, true⟩, ⟨spC s w, 91, 0, true⟩]) v w xss xss hv.grow hw.grow hb hbs
  simp only [decide_true] at e4
  simp (maxSteps := 1000000) (implicitDefEqProofs := false) (disch := omega) [-getElem?_pos, c_laws_eqSpace, sp_len, sp_take, sp_map, sp_queue, sp_tree, sp_set, e1, e2, e3, e4, take_end]
theorem den_FnExactSpaceOk (hL : 4000000 ≤ L) (k : Nat) (m : List Blk) (s : Spc) (v : C) (xss : List (List Int)) (hv : SS m v xss) (hb : xss.length ≤ 9223372036854775807) (hbs : ∀ xs ∈ xss, xs.length ≤ 9223372036854775807) :
    den T X L (k + 22) 7 [.agg (spC s v)] m = some ⟨vb true, m, 0, 0⟩ := by
  rw [den_eq T_7]
  obtain ⟨B, hB⟩ : ∃ B : Blk, B = ⟨spC s v, 87, 0, true⟩ := ⟨_, rfl⟩
  obtain ⟨Z, hZ⟩ : ∃ Z : Blk, Z = ⟨spC spZ .nils, 91, 0, true⟩ := ⟨_, rfl⟩
  have hsz := den_szSpace (X := X) (L := L) (by omega) (k + 18) (m ++ [B]) s v xss 1048576 hv.grow hb hbs (by omega)
  by_cases h0 : szSS xss 1048576 < 0
  · subst hB
    simp (maxSteps := 1000000) (implicitDefEqProofs := false) (disch := omega) [-getElem?_pos, c_laws_FnExactSpaceOk, sp_len, sp_take, hsz, h0, take_end]
  · obtain ⟨h1, h2, _⟩ := sz_ok (xss := xss) (left := 1048576) (by omega) (by omega) (by omega)
    obtain ⟨l1, c1, e1, d1, s1⟩ := den_toSpace (X := X) (L := L) (by omega) (k + 17) (m ++ [B]) s v xss hv.grow h1 h2
    have o1 := den_spec_SpaceOk (X := X) (L := L) (by omega) k (m ++ [B] ++ l1) s c1 xss s1 h1 h2
    obtain ⟨l2, c2, e2, d2, s2⟩ := den_toSpace (X := X) (L := L) (by omega) (k + 17) (m ++ [B] ++ l1) s v xss hv.grow.grow h1 h2
    obtain ⟨D, hD⟩ : ∃ D : Blk, D = ⟨spC s c2, 91, 0, true⟩ := ⟨_, rfl⟩
    have o2 := den_impl_SpaceOk (X := X) (L := L) (by omega) k (m ++ [B] ++ l1 ++ l2 ++ [D]) s c2 xss s2.grow h1 h2
    obtain ⟨l3, c3, e3, d3, s3⟩ := den_toSpace (X := X) (L := L) (by omega) (k + 17) (m ++ [B] ++ l1 ++ l2 ++ [D]) s v xss hv.grow.grow.grow.grow h1 h2
    have o3 := den_eqSpace (X := X) (L := L) (by omega) (k + 17) (m ++ [B] ++ l1 ++ l2 ++ [D] ++ l3) s c2 c3 xss s2.grow.grow s3 h1 h2
    simp only [List.append_assoc, List.cons_append, List.nil_append] at d1 d2 d3 o1 o2 o3
    subst hB hD
    have hgz : ∀ A x (r : List Blk), (A :: (l1 ++ (l2 ++ x :: r)))[l1.length + (l2.length + 1)]? = some x := fun A x r => by
      rw [show l1.length + (l2.length + 1) = (l1.length + l2.length) + 1 by omega, List.getElem?_cons_succ, ← List.append_assoc, List.getElem?_append_right (by simp)]
      simp
    have hsz2 : ∀ A x y (r : List Blk), (A :: (l1 ++ (l2 ++ x :: r))).set (l1.length + (l2.length + 1)) y = A :: (l1 ++ (l2 ++ y :: r)) := fun A x y r => by
      rw [show l1.length + (l2.length + 1) = (l1.length + l2.length) + 1 by omega, List.set_cons_succ, ← List.append_assoc, List.set_append_right _ _ (by simp)]
      simp
    generalize spOk s xss = r at o1 o2
    cases r <;> simp (maxSteps := 1000000) (implicitDefEqProofs := false) (disch := omega) [-getElem?_pos, c_laws_FnExactSpaceOk, z141, sp_len, sp_take, sp_over, hsz, h0, d1, d2, d3, o1, o2, o3, hgz, hsz2, take_end]
end Go.Proofs.Ytdnfcomgdgdifaa
