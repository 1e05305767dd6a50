/-
  The abstract machine is sound: literals of structs; every quiet operation.
-/
import Derived.Test.YtmifcdeajjgdpaaQ3
set_option linter.unusedVariables false
set_option linter.unusedSimpArgs false
namespace Go.Proofs.Ytmifcdeajjgdpaa
open Go.RowKit

section
variable {P : Program} {w : World} {ι : Nat → Nat × Nat} {m : List Blk} {base : Nat} {env : List (Nat × V)} {a : Act} {o : Oper}

theorem CR.firm {m : List Blk} {c : C} {r : Value} (h : CR w ι m c r) (hf : c.firm = true) : r.oneCell' = true := by
  cases h with
  | junk => cases hf
  | undef => cases hf
  | ptr h0 _ _ _ => exact h0
  | sl h0 _ _ _ => exact h0
  | flat _ h => exact h
  | _ => rfl

theorem cells?_AR {m : List Blk} {v : V} {r : Value} {cs : List C} (h : VR w ι m v r) (hc : v.cells? = some cs) : AR w ι m cs r.cells.toList := by
  cases h with
  | tup hl hh => cases hc
  | one h =>
    cases h with
    | @c x r h =>
      simp only [V.cells?] at hc
      split at hc
      · rename_i hf
        injection hc with hc; subst hc
        have h1 := h.firm hf
        have : r.cells = #[r] := by cases r <;> first | rfl | (simp [Value.oneCell'] at h1)
        rw [this]
        refine ⟨rfl, fun j c hj => ?_⟩
        cases j with
        | zero => simp at hj; subst hj; exact ⟨r, rfl, h, h1⟩
        | succ j => simp at hj
      · cases hc
    | agg h =>
      simp only [V.cells?, Option.some.injEq] at hc
      subst hc
      exact h

/-- Cells laid over cells, in the world likewise. -/
theorem lay_rel {R : C → Value → Prop} {cs new : List C} {rc : List Value} {news : List Value} {off : Nat} (hl : off + new.length ≤ cs.length) (hc : cs.length ≤ rc.length) (hn : new.length = news.length)
    (h1 : ∀ (j : Nat) (c : C), cs[j]? = some c → ∃ r, rc[j]? = some r ∧ R c r) (h2 : ∀ (j : Nat) (c : C), new[j]? = some c → ∃ r, news[j]? = some r ∧ R c r) :
    (lay cs off new).length = cs.length ∧ ∀ (j : Nat) (c : C), (lay cs off new)[j]? = some c → ∃ r, (rc.take off ++ news ++ rc.drop (off + news.length))[j]? = some r ∧ R c r := by
  refine ⟨by simp [lay]; omega, fun j c hj => ?_⟩
  unfold lay at hj
  rw [List.append_assoc] at hj ⊢
  rw [List.getElem?_append] at hj ⊢
  have e1 : (cs.take off).length = off := by simp; omega
  have e2 : (rc.take off).length = off := by simp; omega
  rw [e1] at hj
  rw [e2]
  split at hj
  · rename_i hlt
    rw [if_pos hlt]
    rw [List.getElem?_take, if_pos hlt] at hj ⊢
    exact h1 j c hj
  · rename_i hge
    rw [if_neg hge]
    rw [List.getElem?_append] at hj ⊢
    split at hj
    · rename_i hlt
      rw [if_pos (by omega)]
      exact h2 _ c hj
    · rename_i hge2
      rw [if_neg (by omega)]
      rw [List.getElem?_drop] at hj ⊢
      rw [← hn]
      exact h1 _ c hj

theorem fold_lay : ∀ (news : List Value) (cells : Array Value) (off k : Nat), off + k + news.length ≤ cells.size →
    ((news.zipIdx k).foldl (fun cs (p : Value × Nat) => cs.setIfInBounds (off + p.2) p.1) cells).toList = cells.toList.take (off + k) ++ news ++ cells.toList.drop (off + k + news.length)
  | [], cells, off, k, h => by simp
  | v :: r, cells, off, k, h => by
    simp only [List.zipIdx_cons, List.foldl_cons]
    rw [fold_lay r (cells.setIfInBounds (off + k) v) off (k + 1) (by simp at h ⊢; omega)]
    simp only [List.length_cons] at h
    simp only [Array.toList_setIfInBounds, List.length_cons]
    have e1 : (cells.toList.set (off + k) v).take (off + (k + 1)) = cells.toList.take (off + k) ++ [v] := by
      have hlt : off + k < cells.toList.length := by simp; omega
      rw [show off + (k + 1) = (off + k) + 1 by omega, List.take_succ_eq_append_getElem (by simp; omega)]
      simp [List.take_set_of_le]
    have e2 : (cells.toList.set (off + k) v).drop (off + (k + 1) + r.length) = cells.toList.drop (off + k + (r.length + 1)) := by
      rw [List.drop_set_of_lt (by omega)]
      congr 1
      omega
    rw [e1, e2]
    simp

/-- One part laid into its place. -/
theorem fill_one (he : EnvR w ι m env a) {cs new : List C} {rs : Array Value} (h : AR w ι m cs rs.toList) {x : Operand} (hnew : ((trO x).ev env).cells? = some new) {off n : Nat} (h1 : new.length = n) (h2 : off + n ≤ cs.length) :
    (a.eval x).cells.size = n ∧ off + n ≤ rs.size ∧ AR w ι m (lay cs off new) ((a.eval x).cells.zipIdx.foldl (fun cs (c, j) => cs.setIfInBounds (off + j) c) rs).toList := by
  have hn := cells?_AR (ev_VR he x) hnew
  have hns : (a.eval x).cells.size = n := by rw [← h1, hn.1]; simp
  have hrs : rs.size = cs.length := by rw [h.1]; simp
  have hfold := fold_lay (a.eval x).cells.toList rs off 0 (by simp; omega)
  have hfold' : ((a.eval x).cells.zipIdx.foldl (fun cs (c, j) => cs.setIfInBounds (off + j) c) rs).toList = rs.toList.take off ++ (a.eval x).cells.toList ++ rs.toList.drop (off + (a.eval x).cells.toList.length) := by
    rw [← Array.foldl_toList, Array.toList_zipIdx]
    simpa using hfold
  obtain ⟨l1, l2⟩ := lay_rel (R := fun c r => CR w ι m c r ∧ r.oneCell' = true) (cs := cs) (new := new) (rc := rs.toList) (news := (a.eval x).cells.toList) (off := off) (by omega) (by simp; omega) hn.1 h.2 hn.2
  refine ⟨hns, by omega, ?_⟩
  rw [hfold']
  exact ⟨by rw [l1, h.1]; simp; omega, l2⟩

theorem fill_fields (he : EnvR w ι m env a) {fields : Array Field} {places : Array (Nat × Nat)} (hpl : ∀ (i : Nat) (f : Field) (n : Nat), fields[i]? = some f → szT P f.type = some n → places[i]? = some (f.offset, n)) : ∀ (ps : List (Nat × Operand)) (l : List (Nat × Nat × Opd)) (cs : List C) (rs : Array Value) (out : List C),
    trPairs P fields ps = some l → AR w ι m cs rs.toList → layAll env cs l = some out → ∃ rs', Instr.fill (places[·]?) rs (ps.map fun p => (p.1, a.eval p.2)) = some rs' ∧ AR w ι m out rs'.toList
  | [], l, cs, rs, out, hl, h, hs => by
    simp only [trPairs, Option.some.injEq] at hl
    subst hl
    simp only [layAll, Option.some.injEq] at hs
    subst hs
    exact ⟨rs, by simp [Instr.fill], h⟩
  | (i, x) :: ps, l, cs, rs, out, hl, h, hs => by
    simp only [trPairs, Option.bind_eq_some_iff, Option.some.injEq] at hl
    obtain ⟨f, hf, n, hn, l', hl', rfl⟩ := hl
    simp only [layAll, Option.bind_eq_some_iff] at hs
    obtain ⟨new, hnew, hs⟩ := hs
    split at hs
    · rename_i hc
      obtain ⟨g1, g2, g3⟩ := fill_one he h hnew hc.1 hc.2
      obtain ⟨rs', k1, k2⟩ := fill_fields he hpl ps l' _ _ out hl' g3 hs
      refine ⟨rs', ?_, k2⟩
      simp only [List.map_cons, Instr.fill, hpl i f n hf hn, ne_eq, g1, not_true_eq_false, decide_false, Bool.false_or, decide_eq_true_eq]
      rw [if_neg (by omega)]
      exact k1
    · cases hs

theorem zeroT_some {t : TypeId} {z : List C} (h : zeroT P t = some z) : ∃ v, (∀ w', (zeroValue t).run P w' = .ok v w') ∧ (∀ (w' : World) (i' : Nat → Nat × Nat) (m' : List Blk), AR w' i' m' z v.cells.toList) ∧ (∃ i, P.info? t = some i ∧ i.zero = some v) ∧ v.cells.all (·.oneCell') = true := by
  unfold zeroT at h
  simp only [Option.bind_eq_some_iff] at h
  obtain ⟨v, ⟨i, hi, hz⟩, h⟩ := h
  split at h
  · rename_i hall
    injection h with h; subst h
    refine ⟨v, fun w' => by simp [zeroValue, typeInfo, hi, hz], fun w' i' m' => ⟨by simp, fun j c hj => ?_⟩, ⟨i, hi, hz⟩, hall⟩
    simp only [List.getElem?_map, Option.map_eq_some_iff] at hj
    obtain ⟨r, hr, rfl⟩ := hj
    exact ⟨r, hr, cv_CR r, (Array.all_eq_true'.1 hall) r (by have := List.mem_of_getElem? hr; simpa using this)⟩
  · cases h

theorem run_places {fields : Array Field} (hall : fields.all (fun f => (szT P f.type).isSome) = true) : ∃ places : Array (Nat × Nat), (∀ (i : Nat) (f : Field) (n : Nat), fields[i]? = some f → szT P f.type = some n → places[i]? = some (f.offset, n)) ∧
    ∀ w', (fields.mapM (fun f => do pure (f.offset, ← sizeOf f.type) : Field → Sem (Nat × Nat))).run P w' = .ok places w' := by
  have key : ∀ (l : List Field), (∀ f ∈ l, (szT P f.type).isSome = true) → ∀ w', (l.mapM (fun f => do pure (f.offset, ← sizeOf f.type) : Field → Sem (Nat × Nat))).run P w' = .ok (l.map fun f => (f.offset, (szT P f.type).getD 0)) w' := by
    intro l
    induction l with
    | nil => intro _ w'; simp
    | cons f l ih =>
      intro h w'
      obtain ⟨n, hn⟩ := Option.isSome_iff_exists.1 (h f (by simp))
      simp only [List.mapM_cons, Sem.run_bind, run_sizeOf hn, Result.andThen_ok, Sem.run_pure, ih (fun g hg => h g (by simp [hg])) w', List.map_cons, hn, Option.getD_some]
  refine ⟨fields.map fun f => (f.offset, (szT P f.type).getD 0), fun i f n hf hn => by simp [hf, hn], fun w' => ?_⟩
  have hm : fields.mapM (fun f => do pure (f.offset, ← sizeOf f.type) : Field → Sem (Nat × Nat)) = List.toArray <$> fields.toList.mapM (fun f => do pure (f.offset, ← sizeOf f.type) : Field → Sem (Nat × Nat)) := by
    rw [← List.mapM_toArray]
  rw [hm, Sem.run_map, key fields.toList (fun f hf => (Array.all_eq_true'.1 hall) f (by simpa using hf)) w', Result.andThen_ok]
  congr 1
  apply Array.ext'
  simp

theorem does_bld (he : EnvR w ι m env a) {t : TypeId} {parts : Array (Nat × Operand)} (ho : o.op = .build t parts) {i : I} (ht : trI P (.build t parts) = some i) {v : V} (hs : stepQ env m i = some v) : Does P w ι m a o v := by
  simp only [trI] at ht
  split at ht
  · rename_i fields hu
    split at ht
    · rename_i hall
      simp only [Option.bind_eq_some_iff, Option.map_eq_some_iff] at ht
      obtain ⟨z, hz, l, hl, rfl⟩ := ht
      simp only [stepQ, guard', Option.bind_eq_some_iff, Option.some.injEq] at hs
      obtain ⟨cs, hcs, rfl⟩ := hs
      obtain ⟨v0, hv0, hr, _⟩ := zeroT_some hz
      obtain ⟨places, hp1, hp2⟩ := run_places hall
      obtain ⟨rs', h1, h2⟩ := fill_fields he hp1 parts.toList l z v0.cells cs hl (hr w ι m) hcs
      refine ⟨.agg rs', .agg h2, fun w' _ => ?_⟩
      have h1' : Instr.fill (places[·]?) v0.cells (parts.map fun (i, x) => (i, a.eval x)).toList = some rs' := by
        rw [← h1]; congr 1; simp
      have hrun : (Instr.build t (parts.map fun (i, x) => (i, a.eval x))).run P w' = .ok (.agg rs') w' := by
        simp only [Instr.build, Sem.run_bind, hv0, Result.andThen_ok, run_underlying hu, hp2, h1', Sem.run_pure]
      simp [execOp, ho, hrun]
    · cases ht
  · cases ht

theorem stepQ_sound (s : Sim base w ι m) (he : EnvR w ι m env a) {i : I} (ht : trI P o.op = some i) {v : V} (hs : stepQ env m i = some v) : Does P w ι m a o v := by
  cases hop : o.op with
  | move x => rw [hop] at ht; simp only [trI, Option.some.injEq] at ht; subst ht; simp only [stepQ, guard', Option.some.injEq] at hs; subst hs; exact does_mov he (.inl hop)
  | assign x => rw [hop] at ht; simp only [trI, Option.some.injEq] at ht; subst ht; simp only [stepQ, guard', Option.some.injEq] at hs; subst hs; exact does_mov he (.inr hop)
  | pick c x y => rw [hop] at ht; simp only [trI, Option.some.injEq] at ht; subst ht; exact does_pick he hop hs
  | load t x => rw [hop] at ht; exact does_load s he hop ht hs
  | fieldAddr t x f => rw [hop] at ht; exact does_fld he hop ht hs
  | indexAddr t x y => rw [hop] at ht; exact does_ixa he hop ht hs
  | extract x k => rw [hop] at ht; simp only [trI, Option.some.injEq] at ht; subst ht; exact does_ext he hop hs
  | binOp op t x y u => rw [hop] at ht; exact does_bin he hop ht hs
  | unOp op t x => rw [hop] at ht; simp only [trI, Option.some.injEq] at ht; subst ht; exact does_un he hop hs
  | slice t x lo hi mx => rw [hop] at ht; exact does_slice he hop ht hs
  | build t parts => rw [hop] at ht; exact does_bld he hop ht hs
  | call c =>
    rw [hop] at ht
    by_cases hl : c.callee = .builtin .len
    · exact does_len he hop hl ht hs
    · exfalso
      simp only [trI] at ht
      (repeat' split at ht) <;> simp_all [Option.bind_eq_some_iff, Option.map_eq_some_iff]
      all_goals (first | (subst ht; simp [stepQ] at hs; done) | (obtain ⟨_, _, _, _, _, rfl⟩ := ht; simp [stepQ] at hs; done) | skip)
  | _ =>
    exfalso
    rw [hop] at ht
    simp only [trI] at ht
    (repeat' split at ht) <;> simp_all [Option.bind_eq_some_iff, Option.map_eq_some_iff]
    all_goals (first | (obtain ⟨_, _, rfl⟩ := ht; simp [stepQ] at hs; done) | (obtain ⟨_, _, _, _, _, rfl⟩ := ht; simp [stepQ] at hs; done) | (subst ht; simp [stepQ] at hs; done) | skip)
end
end Go.Proofs.Ytmifcdeajjgdpaa
