/-
  The abstract machine is sound: literals of structs; every quiet operation.
-/
import Derived.Test.YtkoloapgeilbdaaQ3
set_option linter.unusedVariables false
set_option linter.unusedSimpArgs false
namespace Go.Proofs.Ytkoloapgeilbdaa
open Go.RowKit

section
variable {P : Program} {w : World} {ι : Nat → Nat × Nat} {m : List Blk} {base : Nat} {env : List (Nat × V)} {a : Act} {o : Oper}

theorem CR.firm {m : List Blk} {c : C} {r : Value} (h : CR w ι m c r) (hf : c.firm = true) : r.oneCell' = true := by
  cases h with
  | junk => cases hf
  | undef => cases hf
  | ptr h0 _ _ _ _ => exact h0
  | sl h0 _ _ _ _ => exact h0
  | flat _ h => exact h
  | _ => rfl

theorem cells?_AR {m : List Blk} {v : V} {r : Value} {cs : List C} (h : VR w ι m v r) (hc : v.cells? = some cs) : AR w ι m cs r.cells.toList := by
  cases h with
  | tup hl hh => cases hc
  | one h =>
    cases h with
    | @c x r h =>
      simp only [V.cells?] at hc
      split at hc
      · rename_i hf
        injection hc with hc; subst hc
        have h1 := h.firm hf
        have : r.cells = #[r] := by cases r <;> first | rfl | (simp [Value.oneCell'] at h1)
        rw [this]
        refine ⟨rfl, fun j c hj => ?_⟩
        cases j with
        | zero => simp at hj; subst hj; exact ⟨r, rfl, h, h1⟩
        | succ j => simp at hj
      · cases hc
    | agg h =>
      simp only [V.cells?, Option.some.injEq] at hc
      subst hc
      exact h

/-- Cells laid over cells, in the world likewise. -/
theorem lay_rel {R : C → Value → Prop} {cs new : List C} {rc : List Value} {news : List Value} {off : Nat} (hl : off + new.length ≤ cs.length) (hc : cs.length ≤ rc.length) (hn : new.length = news.length)
    (h1 : ∀ (j : Nat) (c : C), cs[j]? = some c → ∃ r, rc[j]? = some r ∧ R c r) (h2 : ∀ (j : Nat) (c : C), new[j]? = some c → ∃ r, news[j]? = some r ∧ R c r) :
    (lay cs off new).length = cs.length ∧ ∀ (j : Nat) (c : C), (lay cs off new)[j]? = some c → ∃ r, (rc.take off ++ news ++ rc.drop (off + news.length))[j]? = some r ∧ R c r := by
  refine ⟨by simp [lay]; omega, fun j c hj => ?_⟩
  unfold lay at hj
  rw [List.append_assoc] at hj ⊢
  rw [List.getElem?_append] at hj ⊢
  have e1 : (cs.take off).length = off := by simp; omega
  have e2 : (rc.take off).length = off := by simp; omega
  rw [e1] at hj
  rw [e2]
  split at hj
  · rename_i hlt
    rw [if_pos hlt]
    rw [List.getElem?_take, if_pos hlt] at hj ⊢
    exact h1 j c hj
  · rename_i hge
    rw [if_neg hge]
    rw [List.getElem?_append] at hj ⊢
    split at hj
    · rename_i hlt
      rw [if_pos (by omega)]
      exact h2 _ c hj
    · rename_i hge2
      rw [if_neg (by omega)]
      rw [List.getElem?_drop] at hj ⊢
      rw [← hn]
      exact h1 _ c hj

theorem fold_lay : ∀ (news : List Value) (cells : Array Value) (off k : Nat), off + k + news.length ≤ cells.size →
    ((news.zipIdx k).foldl (fun cs (p : Value × Nat) => cs.setIfInBounds (off + p.2) p.1) cells).toList = cells.toList.take (off + k) ++ news ++ cells.toList.drop (off + k + news.length)
  | [], cells, off, k, h => by simp
  | v :: r, cells, off, k, h => by
    simp only [List.zipIdx_cons, List.foldl_cons]
    rw [fold_lay r (cells.setIfInBounds (off + k) v) off (k + 1) (by simp at h ⊢; omega)]
    simp only [List.length_cons] at h
    simp only [Array.toList_setIfInBounds, List.length_cons]
    have e1 : (cells.toList.set (off + k) v).take (off + (k + 1)) = cells.toList.take (off + k) ++ [v] := by
      have hlt : off + k < cells.toList.length := by simp; omega
      rw [show off + (k + 1) = (off + k) + 1 by omega, List.take_succ_eq_append_getElem (by simp; omega)]
      simp [List.take_set_of_le]
    have e2 : (cells.toList.set (off + k) v).drop (off + (k + 1) + r.length) = cells.toList.drop (off + k + (r.length + 1)) := by
      rw [List.drop_set_of_lt (by omega)]
      congr 1
      omega
    rw [e1, e2]
    simp

/-- One part laid into its place. -/
theorem fill_one (he : EnvR w ι m env a) {cs new : List C} {rs : Array Value} (h : AR w ι m cs rs.toList) {x : Operand} (hnew : ((trO x).ev env).cells? = some new) {off n : Nat} (h1 : new.length = n) (h2 : off + n ≤ cs.length) :
    (a.eval x).cells.size = n ∧ off + n ≤ rs.size ∧ AR w ι m (lay cs off new) ((a.eval x).cells.zipIdx.foldl (fun cs (c, j) => cs.setIfInBounds (off + j) c) rs).toList := by
  have hn := cells?_AR (ev_VR he x) hnew
  have hns : (a.eval x).cells.size = n := by rw [← h1, hn.1]; simp
  have hrs : rs.size = cs.length := by rw [h.1]; simp
  have hfold := fold_lay (a.eval x).cells.toList rs off 0 (by simp; omega)
  have hfold' : ((a.eval x).cells.zipIdx.foldl (fun cs (c, j) => cs.setIfInBounds (off + j) c) rs).toList = rs.toList.take off ++ (a.eval x).cells.toList ++ rs.toList.drop (off + (a.eval x).cells.toList.length) := by
    rw [← Array.foldl_toList, Array.toList_zipIdx]
    simpa using hfold
  obtain ⟨l1, l2⟩ := lay_rel (R := fun c r => CR w ι m c r ∧ r.oneCell' = true) (cs := cs) (new := new) (rc := rs.toList) (news := (a.eval x).cells.toList) (off := off) (by omega) (by simp; omega) hn.1 h.2 hn.2
  refine ⟨hns, by omega, ?_⟩
  rw [hfold']
  exact ⟨by rw [l1, h.1]; simp; omega, l2⟩

theorem fill_fields (he : EnvR w ι m env a) {fields : Array Field} {places : Array (Nat × Nat)} (hpl : ∀ (i : Nat) (f : Field) (n : Nat), fields[i]? = some f → szT P f.type = some n → places[i]? = some (f.offset, n)) : ∀ (ps : List (Nat × Operand)) (l : List (Nat × Nat × Opd)) (cs : List C) (rs : Array Value) (out : List C),
    trPairs P fields ps = some l → AR w ι m cs rs.toList → layAll env cs l = some out → ∃ rs', Instr.fill (places[·]?) rs (ps.map fun p => (p.1, a.eval p.2)) = some rs' ∧ AR w ι m out rs'.toList
  | [], l, cs, rs, out, hl, h, hs => by
    simp only [trPairs, Option.some.injEq] at hl
    subst hl
    simp only [layAll, Option.some.injEq] at hs
    subst hs
    exact ⟨rs, by simp [Instr.fill], h⟩
  | (i, x) :: ps, l, cs, rs, out, hl, h, hs => by
    simp only [trPairs, Option.bind_eq_some_iff, Option.some.injEq] at hl
    obtain ⟨f, hf, n, hn, l', hl', rfl⟩ := hl
    simp only [layAll, Option.bind_eq_some_iff] at hs
    obtain ⟨new, hnew, hs⟩ := hs
    split at hs
    · rename_i hc
      obtain ⟨g1, g2, g3⟩ := fill_one he h hnew hc.1 hc.2
      obtain ⟨rs', k1, k2⟩ := fill_fields he hpl ps l' _ _ out hl' g3 hs
      refine ⟨rs', ?_, k2⟩
      simp only [List.map_cons, Instr.fill, hpl i f n hf hn, ne_eq, g1, not_true_eq_false, decide_false, Bool.false_or, decide_eq_true_eq]
      rw [if_neg (by omega)]
      exact k1
    · cases hs

theorem zeroT_some {t : TypeId} {z : List C} (h : zeroT P t = some z) : ∃ v, (∀ w', (zeroValue t).run P w' = .ok v w') ∧ (∀ (w' : World) (i' : Nat → Nat × Nat) (m' : List Blk), AR w' i' m' z v.cells.toList) ∧ (∃ i, P.info? t = some i ∧ i.zero = some v) ∧ v.cells.all (·.oneCell') = true := by
  unfold zeroT at h
  simp only [Option.bind_eq_some_iff] at h
  obtain ⟨v, ⟨i, hi, hz⟩, h⟩ := h
  split at h
  · rename_i hall
    injection h with h; subst h
    refine ⟨v, fun w' => by simp [zeroValue, typeInfo, hi, hz], fun w' i' m' => ⟨by simp, fun j c hj => ?_⟩, ⟨i, hi, hz⟩, hall⟩
    simp only [List.getElem?_map, Option.map_eq_some_iff] at hj
    obtain ⟨r, hr, rfl⟩ := hj
    exact ⟨r, hr, cv_CR r, (Array.all_eq_true'.1 hall) r (by have := List.mem_of_getElem? hr; simpa using this)⟩
  · cases h

theorem run_places {fields : Array Field} (hall : fields.all (fun f => (szT P f.type).isSome) = true) : ∃ places : Array (Nat × Nat), (∀ (i : Nat) (f : Field) (n : Nat), fields[i]? = some f → szT P f.type = some n → places[i]? = some (f.offset, n)) ∧
    ∀ w', (fields.mapM (fun f => do pure (f.offset, ← sizeOf f.type) : Field → Sem (Nat × Nat))).run P w' = .ok places w' := by
  have key : ∀ (l : List Field), (∀ f ∈ l, (szT P f.type).isSome = true) → ∀ w', (l.mapM (fun f => do pure (f.offset, ← sizeOf f.type) : Field → Sem (Nat × Nat))).run P w' = .ok (l.map fun f => (f.offset, (szT P f.type).getD 0)) w' := by
    intro l
    induction l with
    | nil => intro _ w'; simp
    | cons f l ih =>
      intro h w'
      obtain ⟨n, hn⟩ := Option.isSome_iff_exists.1 (h f (by simp))
      simp only [List.mapM_cons, Sem.run_bind, run_sizeOf hn, Result.andThen_ok, Sem.run_pure, ih (fun g hg => h g (by simp [hg])) w', List.map_cons, hn, Option.getD_some]
  refine ⟨fields.map fun f => (f.offset, (szT P f.type).getD 0), fun i f n hf hn => by simp [hf, hn], fun w' => ?_⟩
  have hm : fields.mapM (fun f => do pure (f.offset, ← sizeOf f.type) : Field → Sem (Nat × Nat)) = List.toArray <$> fields.toList.mapM (fun f => do pure (f.offset, ← sizeOf f.type) : Field → Sem (Nat × Nat)) := by
    rw [← List.mapM_toArray]
  rw [hm, Sem.run_map, key fields.toList (fun f hf => (Array.all_eq_true'.1 hall) f (by simpa using hf)) w', Result.andThen_ok]
  congr 1
  apply Array.ext'
  simp

theorem fill_parts (he : EnvR w ι m env a) (n : Nat) : ∀ (ps : List (Nat × Operand)) (cs : List C) (rs : Array Value) (out : List C),
    AR w ι m cs rs.toList → layAll env cs (ps.map fun (i, x) => (i * n, n, trO x)) = some out → ∃ rs', Instr.fill (fun i => some (i * n, n)) rs (ps.map fun p => (p.1, a.eval p.2)) = some rs' ∧ AR w ι m out rs'.toList
  | [], cs, rs, out, h, hs => by
    simp only [List.map_nil, layAll, Option.some.injEq] at hs
    subst hs
    exact ⟨rs, by simp [Instr.fill], h⟩
  | (i, x) :: ps, cs, rs, out, h, hs => by
    simp only [List.map_cons, layAll, Option.bind_eq_some_iff] at hs
    obtain ⟨new, hnew, hs⟩ := hs
    split at hs
    · rename_i hc
      obtain ⟨g1, g2, g3⟩ := fill_one he h hnew hc.1 hc.2
      obtain ⟨rs', k1, k2⟩ := fill_parts he n ps _ _ out g3 hs
      refine ⟨rs', ?_, k2⟩
      simp only [List.map_cons, Instr.fill, ne_eq, g1, not_true_eq_false, decide_false, Bool.false_or, decide_eq_true_eq]
      rw [if_neg (by omega)]
      exact k1
    · cases hs

theorem does_bld (he : EnvR w ι m env a) {t : TypeId} {parts : Array (Nat × Operand)} (ho : o.op = .build t parts) {i : I} (ht : trI P (.build t parts) = some i) {v : V} (hs : stepQ env m i = some v) : Does P w ι m a o v := by
  simp only [trI] at ht
  split at ht
  · rename_i fields hu
    split at ht
    · rename_i hall
      simp only [Option.bind_eq_some_iff, Option.map_eq_some_iff] at ht
      obtain ⟨z, hz, l, hl, rfl⟩ := ht
      simp only [stepQ, guard', Option.bind_eq_some_iff, Option.some.injEq] at hs
      obtain ⟨cs, hcs, rfl⟩ := hs
      obtain ⟨v0, hv0, hr, _⟩ := zeroT_some hz
      obtain ⟨places, hp1, hp2⟩ := run_places hall
      obtain ⟨rs', h1, h2⟩ := fill_fields he hp1 parts.toList l z v0.cells cs hl (hr w ι m) hcs
      refine ⟨.agg rs', .agg h2, fun w' _ => ?_⟩
      have h1' : Instr.fill (places[·]?) v0.cells (parts.map fun (i, x) => (i, a.eval x)).toList = some rs' := by
        rw [← h1]; congr 1; simp
      have hrun : (Instr.build t (parts.map fun (i, x) => (i, a.eval x))).run P w' = .ok (.agg rs') w' := by
        simp only [Instr.build, Sem.run_bind, hv0, Result.andThen_ok, run_underlying hu, hp2, h1', Sem.run_pure]
      simp [execOp, ho, hrun]
    · cases ht
  · rename_i len e hu
    simp only [Option.bind_eq_some_iff, Option.map_eq_some_iff] at ht
    obtain ⟨z, hz, n, hn, rfl⟩ := ht
    simp only [stepQ, guard', Option.bind_eq_some_iff, Option.some.injEq] at hs
    obtain ⟨cs, hcs, rfl⟩ := hs
    obtain ⟨v0, hv0, hr, _⟩ := zeroT_some hz
    obtain ⟨rs', h1, h2⟩ := fill_parts he n parts.toList z v0.cells cs (hr w ι m) hcs
    refine ⟨.agg rs', .agg h2, fun w' _ => ?_⟩
    have h1' : Instr.fill (fun i => some (i * n, n)) v0.cells (parts.map fun (i, x) => (i, a.eval x)).toList = some rs' := by
      rw [← h1]; congr 1; simp
    have hrun : (Instr.build t (parts.map fun (i, x) => (i, a.eval x))).run P w' = .ok (.agg rs') w' := by
      simp only [Instr.build, Sem.run_bind, hv0, Result.andThen_ok, run_underlying hu, run_sizeOf hn, h1', Sem.run_pure]
    simp [execOp, ho, hrun]
  · cases ht

theorem does_chk (he : EnvR w ι m env a) {x : Operand} (ho : o.op = .nilCheck x) {v : V} (hs : stepQ env m (.chk (trO x)) = some v) : Does P w ι m a o v := by
  have hx := ev_VR he x
  simp only [stepQ] at hs
  split at hs
  · rename_i b off tot hp
    simp only [Option.bind_eq_some_iff] at hs
    obtain ⟨blk, hl, hs⟩ := hs
    injection hs with hs; subst hs
    rw [hp] at hx
    refine ⟨_, ptr_in (o := off) hl (hx.pal (live_some hl).1) off, fun w' hw => ?_⟩
    simp [execOp, ho, hx.ptr hl]
  · cases hs

theorem does_cvt (he : EnvR w ι m env a) {src dst : TypeId} {x : Operand} (ho : o.op = .convert src dst x) {i : I} (ht : trI P (.convert src dst x) = some i) {v : V} (hs : stepQ env m i = some v) : Does P w ι m a o v := by
  have hx := ev_VR he x
  simp only [trI] at ht
  split at ht
  · rename_i d k hu hk
    injection ht with ht; subst ht
    simp only [stepQ] at hs
    split at hs
    · rename_i k' n hp
      injection hs with hs; subst hs
      rw [hp] at hx
      refine ⟨_, .c (.int _ _), fun w' hw => ?_⟩
      simp [execOp, ho, hx.int, convert, run_underlying hu, run_underlying hk, Conv.intToInt]
    · cases hs
  · cases ht

/-- A part of a struct's or an array's value. -/
theorem part_of {cs : List C} {rs : Array Value} (h : AR w ι m cs rs.toList) {t : TypeId} {n : Nat} {ag : Bool} (hn : szT P t = some n) (ha : aggT P t = some ag) (hg : ag = true ∨ n = 1) {off : Nat} (hle : off + n ≤ cs.length) {v : V}
    (hs : (if ag then some (.agg ((cs.drop off).take n)) else (cs[off]?).bind fun c => some (V.c c)) = some v) : ∃ r, VR w ι m v r ∧ ∀ w', (part t rs off).run P w' = .ok r w' := by
  have hl : off + n ≤ rs.toList.length := by rw [← h.1]; exact hle
  cases ag with
  | true =>
    simp only [if_true, Option.some.injEq] at hs
    subst hs
    refine ⟨.agg ((rs.toList.drop off).take n).toArray, .agg (by simpa using h.cut off n), fun w' => ?_⟩
    have := run_part (P := P) hn (rs := rs.toList) hl (v := .agg ((rs.toList.drop off).take n).toArray) (by simp [valOf, ha]) w'
    simpa using this
  | false =>
    obtain rfl : n = 1 := by simpa using hg
    simp only [Bool.false_eq_true, if_false, Option.bind_eq_some_iff, Option.some.injEq] at hs
    obtain ⟨c, hc, rfl⟩ := hs
    obtain ⟨r, h1, h2, _⟩ := h.2 off c hc
    refine ⟨r, .c h2, fun w' => ?_⟩
    have htk : (rs.toList.drop off).take 1 = [r] := by
      have hlt : off < rs.toList.length := (List.getElem?_eq_some_iff.1 h1).1
      rw [List.drop_eq_getElem_cons hlt]
      have := (List.getElem?_eq_some_iff.1 h1).2
      simp [this]
    have := run_part (P := P) hn (rs := rs.toList) hl (v := r) (by rw [htk]; simp [valOf, ha]) w'
    simpa using this

theorem does_field (he : EnvR w ι m env a) {t : TypeId} {x : Operand} {f : Nat} (ho : o.op = .field t x f) {i : I} (ht : trI P (.field t x f) = some i) {v : V} (hs : stepQ env m i = some v) : Does P w ι m a o v := by
  have hx := ev_VR he x
  simp only [trI] at ht
  split at ht
  · rename_i fields hu
    simp only [Option.bind_eq_some_iff] at ht
    obtain ⟨fd, hfd, n, hn, ag, hag, ht⟩ := ht
    split at ht
    · rename_i hg
      injection ht with ht; subst ht
      simp only [stepQ] at hs
      split at hs
      · rename_i cs hp
        rw [hp] at hx
        obtain ⟨rs, h1, h2⟩ := hx.of_agg
        split at hs
        · rename_i hle
          obtain ⟨r, k1, k2⟩ := part_of (P := P) h2 hn hag hg hle hs
          refine ⟨r, k1, fun w' _ => ?_⟩
          simp [execOp, ho, h1, Instr.field, run_underlying hu, hfd, asAgg, k2 w']
        · cases hs
      · cases hs
    · cases ht
  · cases ht

theorem does_index (he : EnvR w ι m env a) {t : TypeId} {x y : Operand} (ho : o.op = .index t x y) {i : I} (ht : trI P (.index t x y) = some i) {v : V} (hs : stepQ env m i = some v) : Does P w ι m a o v := by
  have hx := ev_VR he x
  have hy := ev_VR he y
  simp only [trI] at ht
  split at ht
  · rename_i len e hu
    simp only [Option.bind_eq_some_iff] at ht
    obtain ⟨n, hn, ag, hag, ht⟩ := ht
    split at ht
    · rename_i hg
      injection ht with ht; subst ht
      simp only [stepQ] at hs
      split at hs
      · rename_i cs k q hp hq
        rw [hp] at hx
        rw [hq] at hy
        obtain ⟨rs, h1, h2⟩ := hx.of_agg
        split at hs
        · rename_i hle
          obtain ⟨r, k1, k2⟩ := part_of (P := P) h2 hn hag hg hle.2.2 hs
          refine ⟨r, k1, fun w' _ => ?_⟩
          simp [execOp, ho, h1, hy.int, Instr.index, asIntOf, run_underlying hu, run_sizeOf hn, hle.1, hle.2.1, k2 w']
        · cases hs
      · cases hs
    · cases ht
  · rename_i hu
    injection ht with ht; subst ht
    simp only [stepQ] at hs
    split at hs
    · rename_i s k q hp hq
      rw [hp] at hx
      rw [hq] at hy
      split at hs
      · rename_i h0
        simp only [Option.bind_eq_some_iff, Option.some.injEq] at hs
        obtain ⟨b, hb, rfl⟩ := hs
        refine ⟨_, .c (.int _ _), fun w' _ => ?_⟩
        simp [execOp, ho, hx.str, hy.int, Instr.index, asIntOf, run_underlying hu, h0, hb]
      · cases hs
    · cases hs
  · cases ht

theorem does_mx (he : EnvR w ι m env a) {c : Call} (ho : o.op = .call c) {lo : Bool} (hc : c.callee = .builtin (if lo then .min else .max)) {x y : Operand} (hargs : c.args.toList = [x, y]) {v : V} (hs : stepQ env m (.mxi lo (trO x) (trO y)) = some v) : Does P w ι m a o v := by
  have hx := ev_VR he x
  have hy := ev_VR he y
  have ha : c.args = #[x, y] := by apply Array.ext'; simpa using hargs
  simp only [stepQ] at hs
  split at hs
  · rename_i k p k' q hp hq
    rw [hp] at hx
    rw [hq] at hy
    split at hs
    · rename_i hk
      subst hk
      injection hs with hs; subst hs
      refine ⟨_, .c (.int _ _), fun w' _ => ?_⟩
      cases lo with
      | true =>
        simp only [if_true] at hc ⊢
        simp only [execOp, ho, resolve, hc, ha, List.map_toArray, List.map_cons, List.map_nil, hx.int, hy.int, Sem.run_bind, Sem.run_pure, Result.andThen_ok, invoke, builtin, Builtin.min_, List.foldlM_cons, List.foldlM_nil, Builtin.min2]
        congr 3
        split <;> split <;> omega
      | false =>
        simp only [Bool.false_eq_true, if_false] at hc ⊢
        simp only [execOp, ho, resolve, hc, ha, List.map_toArray, List.map_cons, List.map_nil, hx.int, hy.int, Sem.run_bind, Sem.run_pure, Result.andThen_ok, invoke, builtin, Builtin.max_, List.foldlM_cons, List.foldlM_nil, Builtin.max2]
        congr 3
        split <;> split <;> omega
    · cases hs
  · cases hs

theorem capt_VR : ∀ {l : List Operand} {ns : List (IntKind × Int)}, EnvR w ι m env a → capt ((l.map trO).map (·.ev env)) = some ns → l.map a.eval = ns.map fun p => Value.int p.1 p.2
  | [], ns, _, h => by
    simp only [List.map_nil, capt, Option.some.injEq] at h
    subst h; rfl
  | x :: l, ns, he, h => by
    have hx := ev_VR he x
    simp only [List.map_cons] at h
    unfold capt at h
    split at h
    · rename_i h1; cases h1
    · rename_i k n r h1
      injection h1 with h1 h2
      subst h2
      simp only [Option.bind_eq_some_iff, Option.some.injEq] at h
      obtain ⟨l', hl, rfl⟩ := h
      rw [h1] at hx
      rw [List.map_cons, hx.int, capt_VR he hl]
      rfl
    · cases h
theorem does_mkc (he : EnvR w ι m env a) {fn : Fn} {first captured : Array Operand} (ho : o.op = .makeFunc fn first captured) {i : I} (ht : trI P (.makeFunc fn first captured) = some i) {v : V} (hs : stepQ env m i = some v) : Does P w ι m a o v := by
  simp only [trI] at ht
  split at ht
  · split at ht
    · rename_i f hf
      injection ht with ht; subst ht
      have hfirst : first = #[] := by simpa using hf
      simp only [stepQ] at hs
      unfold mkcV at hs
      split at hs
      · rename_i b off tot hl
        injection hs with hs
        subst hs
        obtain ⟨x, hx⟩ : ∃ x, captured.toList = [x] := by
          cases hcl : captured.toList with
          | nil => rw [hcl] at hl; simp at hl
          | cons x r =>
            cases r with
            | nil => exact ⟨x, rfl⟩
            | cons y r => rw [hcl] at hl; simp at hl
        rw [hx] at hl
        simp only [List.map_cons, List.map_nil, List.cons.injEq, and_true] at hl
        have hv := ev_VR he x
        rw [hl] at hv
        have hcap : captured.map a.eval = #[a.eval x] := by
          apply Array.ext'
          simp [hx]
        refine ⟨.func (.func f) #[] #[a.eval x], ?_, fun w' hw => ?_⟩
        · cases hv.of_c with
          | ptr h0 hb ht ha hv => exact .c (.clp f h0 hb ht ha hv)
        · simp [execOp, ho, hfirst, Instr.makeFunc, hcap]
      · simp only [Option.bind_eq_some_iff, Option.some.injEq] at hs
        obtain ⟨ns, hn, rfl⟩ := hs
        have hc := capt_VR he hn
        have hcap : captured.map a.eval = (ns.map fun p => Value.int p.1 p.2).toArray := by
          apply Array.ext'
          simpa using hc
        refine ⟨_, .c (.clo _ _), fun w' hw => ?_⟩
        simp [execOp, ho, hfirst, Instr.makeFunc, hcap]
    · cases ht
  · cases ht

theorem stepQ_sound (s : Sim base w ι m) (he : EnvR w ι m env a) {i : I} (ht : trI P o.op = some i) {v : V} (hs : stepQ env m i = some v) : Does P w ι m a o v := by
  cases hop : o.op with
  | move x => rw [hop] at ht; simp only [trI, Option.some.injEq] at ht; subst ht; simp only [stepQ, guard', Option.some.injEq] at hs; subst hs; exact does_mov he (.inl hop)
  | assign x => rw [hop] at ht; simp only [trI, Option.some.injEq] at ht; subst ht; simp only [stepQ, guard', Option.some.injEq] at hs; subst hs; exact does_mov he (.inr hop)
  | pick c x y => rw [hop] at ht; simp only [trI, Option.some.injEq] at ht; subst ht; exact does_pick he hop hs
  | load t x => rw [hop] at ht; exact does_load s he hop ht hs
  | fieldAddr t x f => rw [hop] at ht; exact does_fld he hop ht hs
  | indexAddr t x y => rw [hop] at ht; exact does_ixa he hop ht hs
  | extract x k => rw [hop] at ht; simp only [trI, Option.some.injEq] at ht; subst ht; exact does_ext he hop hs
  | binOp op t x y u => rw [hop] at ht; exact does_bin he hop ht hs
  | unOp op t x => rw [hop] at ht; simp only [trI, Option.some.injEq] at ht; subst ht; exact does_un he hop hs
  | slice t x lo hi mx => rw [hop] at ht; exact does_slice he hop ht hs
  | build t parts => rw [hop] at ht; exact does_bld he hop ht hs
  | nilCheck x => rw [hop] at ht; simp only [trI, Option.some.injEq] at ht; subst ht; exact does_chk he hop hs
  | convert src dst x => rw [hop] at ht; exact does_cvt he hop ht hs
  | makeFunc fn first captured => rw [hop] at ht; exact does_mkc he hop ht hs
  | field t x f => rw [hop] at ht; exact does_field he hop ht hs
  | index t x y => rw [hop] at ht; exact does_index he hop ht hs
  | call c =>
    rw [hop] at ht
    by_cases hl : c.callee = .builtin .len
    · exact does_len he hop hl ht hs
    by_cases h1 : c.callee = .builtin .max
    · simp only [trI, h1] at ht
      split at ht
      · rename_i x y hargs
        injection ht with ht; subst ht
        exact does_mx he hop (lo := false) h1 hargs hs
      · cases ht
    by_cases h2 : c.callee = .builtin .min
    · simp only [trI, h2] at ht
      split at ht
      · rename_i x y hargs
        injection ht with ht; subst ht
        exact does_mx he hop (lo := true) h2 hargs hs
      · cases ht
    · exfalso
      simp only [trI] at ht
      (repeat' split at ht) <;> simp_all [Option.bind_eq_some_iff, Option.map_eq_some_iff]
      all_goals (first | (subst ht; simp [stepQ] at hs; done) | (obtain ⟨_, _, _, _, _, rfl⟩ := ht; simp [stepQ] at hs; done) | (obtain ⟨_, _, rfl⟩ := ht; simp [stepQ] at hs; done) | skip)
  | _ =>
    exfalso
    rw [hop] at ht
    simp only [trI] at ht
    (repeat' split at ht) <;> simp_all [Option.bind_eq_some_iff, Option.map_eq_some_iff]
    all_goals (first | (obtain ⟨_, _, rfl⟩ := ht; simp [stepQ] at hs; done) | (obtain ⟨_, _, _, _, _, rfl⟩ := ht; simp [stepQ] at hs; done) | (subst ht; simp [stepQ] at hs; done) | skip)
end
end Go.Proofs.Ytkoloapgeilbdaa
