/-
 The abstract machine is sound: literals of structs; every quiet operation.
-/
import Derived.Test.YtfbeplbcaanimaaGreatMA
import Derived.Great.BuildSlice
import Derived.Maps.AppendAt
set_option linter.unusedVariables false
set_option linter.unusedSimpArgs false
namespace Go.Proofs.YtfbeplbcaanimaaGreat
open Go.RowKit
section
variable {P : Program} {w : World} {ι : Nat → Nat × Nat} {m : List Blk} {base : Nat} {env : List (Nat × V)} {a : Act} {o : Oper}
theorem CR.firm {m : List Blk} {c : C} {r : Value} (h : CR w ι m c r) (hf : c.firm = true) : r.oneCell' = true := by
 cases h with
 | junk => cases hf
 | undef => cases hf
 | ptr h0 _ _ _ _ => exact h0
 | sl h0 _ _ _ _ => exact h0
 | flat _ h => exact h
 | _ => rfl
theorem cells?_AR {m : List Blk} {v : V} {r : Value} {cs : List C} (h : VR w ι m v r) (hc : v.cells? = some cs) : AR w ι m cs r.cells.toList := by
 cases h with
 | tup hl hh => cases hc
 | one h =>
  cases h with
  | @c x r h =>
   simp only [V.cells?] at hc
   split at hc
   ·rename_i hf
    injection hc with hc; subst hc
    have h1 := h.firm hf
    have : r.cells = #[r] := by cases r <;> first | rfl | (simp [Value.oneCell'] at h1)
    rw [this]
    refine ⟨rfl, fun j c hj => ?_⟩
    cases j with
    | zero => simp at hj; subst hj; exact ⟨r, rfl, h, h1⟩
    | succ j => simp at hj
   ·cases hc
  | agg h =>
   simp only [V.cells?, Option.some.injEq] at hc
   subst hc
   exact h
theorem lay_rel {R : C → Value → Prop} {cs new : List C} {rc : List Value} {news : List Value} {off : Nat} (hl : off + new.length ≤ cs.length) (hc : cs.length ≤ rc.length) (hn : new.length = news.length)
  (h1 : ∀ (j : Nat) (c : C), cs[j]? = some c → ∃ r, rc[j]? = some r ∧ R c r) (h2 : ∀ (j : Nat) (c : C), new[j]? = some c → ∃ r, news[j]? = some r ∧ R c r) :
  (lay cs off new).length = cs.length ∧ ∀ (j : Nat) (c : C), (lay cs off new)[j]? = some c → ∃ r, (rc.take off ++ news ++ rc.drop (off + news.length))[j]? = some r ∧ R c r := by
 refine ⟨by simp [lay]; omega, fun j c hj => ?_⟩
 unfold lay at hj
 rw [List.append_assoc] at hj ⊢
 rw [List.getElem?_append] at hj ⊢
 have e1 : (cs.take off).length = off := by simp; omega
 have e2 : (rc.take off).length = off := by simp; omega
 rw [e1] at hj
 rw [e2]
 split at hj
 ·rename_i hlt
  rw [if_pos hlt]
  rw [List.getElem?_take, if_pos hlt] at hj ⊢
  exact h1 j c hj
 ·rename_i hge
  rw [if_neg hge]
  rw [List.getElem?_append] at hj ⊢
  split at hj
  ·rename_i hlt
   rw [if_pos (by omega)]
   exact h2 _ c hj
  ·rename_i hge2
   rw [if_neg (by omega)]
   rw [List.getElem?_drop] at hj ⊢
   rw [← hn]
   exact h1 _ c hj
theorem fold_lay : ∀ (news : List Value) (cells : Array Value) (off k : Nat), off + k + news.length ≤ cells.size →
  ((news.zipIdx k).foldl (fun cs (p : Value × Nat) => cs.setIfInBounds (off + p.2) p.1) cells).toList = cells.toList.take (off + k) ++ news ++ cells.toList.drop (off + k + news.length)
 | [], cells, off, k, h => by simp
 | v :: r, cells, off, k, h => by
  simp only [List.zipIdx_cons, List.foldl_cons]
  rw [fold_lay r (cells.setIfInBounds (off + k) v) off (k + 1) (by simp at h ⊢; omega)]
  simp only [List.length_cons] at h
  simp only [Array.toList_setIfInBounds, List.length_cons]
  have e1 : (cells.toList.set (off + k) v).take (off + (k + 1)) = cells.toList.take (off + k) ++ [v] := by
   have hlt : off + k < cells.toList.length := by simp; omega
   rw [show off + (k + 1) = (off + k) + 1 by omega, List.take_succ_eq_append_getElem (by simp; omega)]
   simp [List.take_set_of_le]
  have e2 : (cells.toList.set (off + k) v).drop (off + (k + 1) + r.length) = cells.toList.drop (off + k + (r.length + 1)) := by
   rw [List.drop_set_of_lt (by omega)]
   congr 1
   omega
  rw [e1, e2]
  simp
theorem fill_one (he : EnvR w ι m env a) {cs new : List C} {rs : Array Value} (h : AR w ι m cs rs.toList) {x : Operand} (hnew : ((trO x).ev env).cells? = some new) {off n : Nat} (h1 : new.length = n) (h2 : off + n ≤ cs.length) :
  (a.eval x).cells.size = n ∧ off + n ≤ rs.size ∧ AR w ι m (lay cs off new) ((a.eval x).cells.zipIdx.foldl (fun cs (c, j) => cs.setIfInBounds (off + j) c) rs).toList := by
 have hn := cells?_AR (ev_VR he x) hnew
 have hns : (a.eval x).cells.size = n := by rw [← h1, hn.1]; simp
 have hrs : rs.size = cs.length := by rw [h.1]; simp
 have hfold := fold_lay (a.eval x).cells.toList rs off 0 (by simp; omega)
 have hfold' : ((a.eval x).cells.zipIdx.foldl (fun cs (c, j) => cs.setIfInBounds (off + j) c) rs).toList = rs.toList.take off ++ (a.eval x).cells.toList ++ rs.toList.drop (off + (a.eval x).cells.toList.length) := by
  rw [← Array.foldl_toList, Array.toList_zipIdx]
  simpa using hfold
 obtain ⟨l1, l2⟩ := lay_rel (R := fun c r => CR w ι m c r ∧ r.oneCell' = true) (cs := cs) (new := new) (rc := rs.toList) (news := (a.eval x).cells.toList) (off := off) (by omega) (by simp; omega) hn.1 h.2 hn.2
 refine ⟨hns, by omega, ?_⟩
 rw [hfold']
 exact ⟨by rw [l1, h.1]; simp; omega, l2⟩
theorem fill_fields (he : EnvR w ι m env a) {fields : Array Field} {places : Array (Nat × Nat)} (hpl : ∀ (i : Nat) (f : Field) (n : Nat), fields[i]? = some f → szT P f.type = some n → places[i]? = some (f.offset, n)) : ∀ (ps : List (Nat × Operand)) (l : List (Nat × Nat × Opd)) (cs : List C) (rs : Array Value) (out : List C),
  trPairs P fields ps = some l → AR w ι m cs rs.toList → layAll env cs l = some out → ∃ rs', Instr.fill (places[·]?) rs (ps.map fun p => (p.1, a.eval p.2)) = some rs' ∧ AR w ι m out rs'.toList
 | [], l, cs, rs, out, hl, h, hs => by
  simp only [trPairs, Option.some.injEq] at hl
  subst hl
  simp only [layAll, Option.some.injEq] at hs
  subst hs
  exact ⟨rs, by simp [Instr.fill], h⟩
 | (i, x) :: ps, l, cs, rs, out, hl, h, hs => by
  simp only [trPairs, Option.bind_eq_some_iff, Option.some.injEq] at hl
  obtain ⟨f, hf, n, hn, l', hl', rfl⟩ := hl
  simp only [layAll, Option.bind_eq_some_iff] at hs
  obtain ⟨new, hnew, hs⟩ := hs
  split at hs
  ·rename_i hc
   obtain ⟨g1, g2, g3⟩ := fill_one he h hnew hc.1 hc.2
   obtain ⟨rs', k1, k2⟩ := fill_fields he hpl ps l' _ _ out hl' g3 hs
   refine ⟨rs', ?_, k2⟩
   simp only [List.map_cons, Instr.fill, hpl i f n hf hn, ne_eq, g1, not_true_eq_false, decide_false, Bool.false_or, decide_eq_true_eq]
   rw [if_neg (by omega)]
   exact k1
  ·cases hs
theorem zeroT_some {t : TypeId} {z : List C} (h : zeroT P t = some z) : ∃ v, (∀ w', (zeroValue t).run P w' = .ok v w') ∧ (∀ (w' : World) (i' : Nat → Nat × Nat) (m' : List Blk), AR w' i' m' z v.cells.toList) ∧ (∃ i, P.info? t = some i ∧ i.zero = some v) ∧ v.cells.all (·.oneCell') = true := by
 unfold zeroT at h
 simp only [Option.bind_eq_some_iff] at h
 obtain ⟨v, ⟨i, hi, hz⟩, h⟩ := h
 split at h
 ·rename_i hall
  injection h with h; subst h
  refine ⟨v, fun w' => by simp [zeroValue, typeInfo, hi, hz], fun w' i' m' => ⟨by simp, fun j c hj => ?_⟩, ⟨i, hi, hz⟩, hall⟩
  simp only [List.getElem?_map, Option.map_eq_some_iff] at hj
  obtain ⟨r, hr, rfl⟩ := hj
  exact ⟨r, hr, cv_CR r, (Array.all_eq_true'.1 hall) r (by have := List.mem_of_getElem? hr; simpa using this)⟩
 ·cases h
theorem run_places {fields : Array Field} (hall : fields.all (fun f => (szT P f.type).isSome) = true) : ∃ places : Array (Nat × Nat), (∀ (i : Nat) (f : Field) (n : Nat), fields[i]? = some f → szT P f.type = some n → places[i]? = some (f.offset, n)) ∧
  ∀ w', (fields.mapM (fun f => do pure (f.offset, ← sizeOf f.type) : Field → Sem (Nat × Nat))).run P w' = .ok places w' := by
 have key : ∀ (l : List Field), (∀ f ∈ l, (szT P f.type).isSome = true) → ∀ w', (l.mapM (fun f => do pure (f.offset, ← sizeOf f.type) : Field → Sem (Nat × Nat))).run P w' = .ok (l.map fun f => (f.offset, (szT P f.type).getD 0)) w' := by
  intro l
  induction l with
  | nil => intro _ w'; simp
  | cons f l ih =>
   intro h w'
   obtain ⟨n, hn⟩ := Option.isSome_iff_exists.1 (h f (by simp))
   simp only [List.mapM_cons, Sem.run_bind, run_sizeOf hn, Result.andThen_ok, Sem.run_pure, ih (fun g hg => h g (by simp [hg])) w', List.map_cons, hn, Option.getD_some]
 refine ⟨fields.map fun f => (f.offset, (szT P f.type).getD 0), fun i f n hf hn => by simp [hf, hn], fun w' => ?_⟩
 have hm : fields.mapM (fun f => do pure (f.offset, ← sizeOf f.type) : Field → Sem (Nat × Nat)) = List.toArray <$> fields.toList.mapM (fun f => do pure (f.offset, ← sizeOf f.type) : Field → Sem (Nat × Nat)) := by
  rw [← List.mapM_toArray]
 rw [hm, Sem.run_map, key fields.toList (fun f hf => (Array.all_eq_true'.1 hall) f (by simpa using hf)) w', Result.andThen_ok]
 congr 1
 apply Array.ext'
 simp
theorem fill_parts (he : EnvR w ι m env a) (n : Nat) : ∀ (ps : List (Nat × Operand)) (cs : List C) (rs : Array Value) (out : List C),
  AR w ι m cs rs.toList → layAll env cs (ps.map fun (i, x) => (i * n, n, trO x)) = some out → ∃ rs', Instr.fill (fun i => some (i * n, n)) rs (ps.map fun p => (p.1, a.eval p.2)) = some rs' ∧ AR w ι m out rs'.toList
 | [], cs, rs, out, h, hs => by
  simp only [List.map_nil, layAll, Option.some.injEq] at hs
  subst hs
  exact ⟨rs, by simp [Instr.fill], h⟩
 | (i, x) :: ps, cs, rs, out, h, hs => by
  simp only [List.map_cons, layAll, Option.bind_eq_some_iff] at hs
  obtain ⟨new, hnew, hs⟩ := hs
  split at hs
  ·rename_i hc
   obtain ⟨g1, g2, g3⟩ := fill_one he h hnew hc.1 hc.2
   obtain ⟨rs', k1, k2⟩ := fill_parts he n ps _ _ out g3 hs
   refine ⟨rs', ?_, k2⟩
   simp only [List.map_cons, Instr.fill, ne_eq, g1, not_true_eq_false, decide_false, Bool.false_or, decide_eq_true_eq]
   rw [if_neg (by omega)]
   exact k1
  ·cases hs
theorem does_bld (he : EnvR w ι m env a) {t : TypeId} {parts : Array (Nat × Operand)} (ho : o.op = .build t parts) {i : I} (ht : trI P (.build t parts) = some i) {v : V} (hs : stepQ env m i = some v) : Does P w ι m a o v := by
 simp only [trI] at ht
 split at ht
 ·rename_i fields hu
  split at ht
  ·rename_i hall
   simp only [Option.bind_eq_some_iff, Option.map_eq_some_iff] at ht
   obtain ⟨z, hz, l, hl, rfl⟩ := ht
   simp only [stepQ, guard', Option.bind_eq_some_iff, Option.some.injEq] at hs
   obtain ⟨cs, hcs, rfl⟩ := hs
   obtain ⟨v0, hv0, hr, _⟩ := zeroT_some hz
   obtain ⟨places, hp1, hp2⟩ := run_places hall
   obtain ⟨rs', h1, h2⟩ := fill_fields he hp1 parts.toList l z v0.cells cs hl (hr w ι m) hcs
   refine ⟨.agg rs', .agg h2, fun w' _ => ?_⟩
   have h1' : Instr.fill (places[·]?) v0.cells (parts.map fun (i, x) => (i, a.eval x)).toList = some rs' := by
    rw [← h1]; congr 1; simp
   have hrun : (Instr.build t (parts.map fun (i, x) => (i, a.eval x))).run P w' = .ok (.agg rs') w' := by
    simp only [Instr.build, Sem.run_bind, hv0, Result.andThen_ok, run_underlying hu, hp2, h1', Sem.run_pure]
   simp [execOp, ho, hrun]
  ·cases ht
 ·rename_i len e hu
  simp only [Option.bind_eq_some_iff, Option.map_eq_some_iff] at ht
  obtain ⟨z, hz, n, hn, rfl⟩ := ht
  simp only [stepQ, guard', Option.bind_eq_some_iff, Option.some.injEq] at hs
  obtain ⟨cs, hcs, rfl⟩ := hs
  obtain ⟨v0, hv0, hr, _⟩ := zeroT_some hz
  obtain ⟨rs', h1, h2⟩ := fill_parts he n parts.toList z v0.cells cs (hr w ι m) hcs
  refine ⟨.agg rs', .agg h2, fun w' _ => ?_⟩
  have h1' : Instr.fill (fun i => some (i * n, n)) v0.cells (parts.map fun (i, x) => (i, a.eval x)).toList = some rs' := by
   rw [← h1]; congr 1; simp
  have hrun : (Instr.build t (parts.map fun (i, x) => (i, a.eval x))).run P w' = .ok (.agg rs') w' := by
   simp only [Instr.build, Sem.run_bind, hv0, Result.andThen_ok, run_underlying hu, run_sizeOf hn, h1', Sem.run_pure]
  simp [execOp, ho, hrun]
 ·cases ht
theorem does_chk (he : EnvR w ι m env a) {x : Operand} (ho : o.op = .nilCheck x) {v : V} (hs : stepQ env m (.chk (trO x)) = some v) : Does P w ι m a o v := by
 have hx := ev_VR he x
 simp only [stepQ] at hs
 split at hs
 ·rename_i b off tot hp
  simp only [Option.bind_eq_some_iff] at hs
  obtain ⟨blk, hl, hs⟩ := hs
  injection hs with hs; subst hs
  rw [hp] at hx
  refine ⟨_, ptr_in (o := off) hl (hx.pal (live_some hl).1) off, fun w' hw => ?_⟩
  simp [execOp, ho, hx.ptr hl]
 ·cases hs
theorem does_cvt (he : EnvR w ι m env a) {src dst : TypeId} {x : Operand} (ho : o.op = .convert src dst x) {i : I} (ht : trI P (.convert src dst x) = some i) {v : V} (hs : stepQ env m i = some v) : Does P w ι m a o v := by
 have hx := ev_VR he x
 simp only [trI] at ht
 split at ht
 ·rename_i d k hu hk
  injection ht with ht; subst ht
  simp only [stepQ] at hs
  split at hs
  ·rename_i k' n hp
   injection hs with hs; subst hs
   rw [hp] at hx
   refine ⟨_, .c (.int _ _), fun w' hw => ?_⟩
   simp [execOp, ho, hx.int, convert, run_underlying hu, run_underlying hk, Conv.intToInt]
  ·cases hs
 ·cases ht
theorem part_of {cs : List C} {rs : Array Value} (h : AR w ι m cs rs.toList) {t : TypeId} {n : Nat} {ag : Bool} (hn : szT P t = some n) (ha : aggT P t = some ag) (hg : ag = true ∨ n = 1) {off : Nat} (hle : off + n ≤ cs.length) {v : V}
  (hs : (if ag then some (.agg ((cs.drop off).take n)) else (cs[off]?).bind fun c => some (V.c c)) = some v) : ∃ r, VR w ι m v r ∧ ∀ w', (part t rs off).run P w' = .ok r w' := by
 have hl : off + n ≤ rs.toList.length := by rw [← h.1]; exact hle
 cases ag with
 | true =>
  simp only [if_true, Option.some.injEq] at hs
  subst hs
  refine ⟨.agg ((rs.toList.drop off).take n).toArray, .agg (by simpa using h.cut off n), fun w' => ?_⟩
  have := run_part (P := P) hn (rs := rs.toList) hl (v := .agg ((rs.toList.drop off).take n).toArray) (by simp [valOf, ha]) w'
  simpa using this
 | false =>
  obtain rfl : n = 1 := by simpa using hg
  simp only [Bool.false_eq_true, if_false, Option.bind_eq_some_iff, Option.some.injEq] at hs
  obtain ⟨c, hc, rfl⟩ := hs
  obtain ⟨r, h1, h2, _⟩ := h.2 off c hc
  refine ⟨r, .c h2, fun w' => ?_⟩
  have htk : (rs.toList.drop off).take 1 = [r] := by
   have hlt : off < rs.toList.length := (List.getElem?_eq_some_iff.1 h1).1
   rw [List.drop_eq_getElem_cons hlt]
   have := (List.getElem?_eq_some_iff.1 h1).2
   simp [this]
  have := run_part (P := P) hn (rs := rs.toList) hl (v := r) (by rw [htk]; simp [valOf, ha]) w'
  simpa using this
theorem does_field (he : EnvR w ι m env a) {t : TypeId} {x : Operand} {f : Nat} (ho : o.op = .field t x f) {i : I} (ht : trI P (.field t x f) = some i) {v : V} (hs : stepQ env m i = some v) : Does P w ι m a o v := by
 have hx := ev_VR he x
 simp only [trI] at ht
 split at ht
 ·rename_i fields hu
  simp only [Option.bind_eq_some_iff] at ht
  obtain ⟨fd, hfd, n, hn, ag, hag, ht⟩ := ht
  split at ht
  ·rename_i hg
   injection ht with ht; subst ht
   simp only [stepQ] at hs
   split at hs
   ·rename_i cs hp
    rw [hp] at hx
    obtain ⟨rs, h1, h2⟩ := hx.of_agg
    split at hs
    ·rename_i hle
     obtain ⟨r, k1, k2⟩ := part_of (P := P) h2 hn hag hg hle hs
     refine ⟨r, k1, fun w' _ => ?_⟩
     simp [execOp, ho, h1, Instr.field, run_underlying hu, hfd, asAgg, k2 w']
    ·cases hs
   ·cases hs
  ·cases ht
 ·cases ht
theorem does_index (he : EnvR w ι m env a) {t : TypeId} {x y : Operand} (ho : o.op = .index t x y) {i : I} (ht : trI P (.index t x y) = some i) {v : V} (hs : stepQ env m i = some v) : Does P w ι m a o v := by
 have hx := ev_VR he x
 have hy := ev_VR he y
 simp only [trI] at ht
 split at ht
 ·rename_i len e hu
  simp only [Option.bind_eq_some_iff] at ht
  obtain ⟨n, hn, ag, hag, ht⟩ := ht
  split at ht
  ·rename_i hg
   injection ht with ht; subst ht
   simp only [stepQ] at hs
   split at hs
   ·rename_i cs k q hp hq
    rw [hp] at hx
    rw [hq] at hy
    obtain ⟨rs, h1, h2⟩ := hx.of_agg
    split at hs
    ·rename_i hle
     obtain ⟨r, k1, k2⟩ := part_of (P := P) h2 hn hag hg hle.2.2 hs
     refine ⟨r, k1, fun w' _ => ?_⟩
     simp [execOp, ho, h1, hy.int, Instr.index, asIntOf, run_underlying hu, run_sizeOf hn, hle.1, hle.2.1, k2 w']
    ·cases hs
   ·cases hs
  ·cases ht
 ·rename_i hu
  injection ht with ht; subst ht
  simp only [stepQ] at hs
  split at hs
  ·rename_i s k q hp hq
   rw [hp] at hx
   rw [hq] at hy
   split at hs
   ·rename_i h0
    simp only [Option.bind_eq_some_iff, Option.some.injEq] at hs
    obtain ⟨b, hb, rfl⟩ := hs
    refine ⟨_, .c (.int _ _), fun w' _ => ?_⟩
    simp [execOp, ho, hx.str, hy.int, Instr.index, asIntOf, run_underlying hu, h0, hb]
   ·cases hs
  ·cases hs
 ·cases ht
theorem does_mx (he : EnvR w ι m env a) {c : Call} (ho : o.op = .call c) {lo : Bool} (hc : c.callee = .builtin (if lo then .min else .max)) {x y : Operand} (hargs : c.args.toList = [x, y]) {v : V} (hs : stepQ env m (.mxi lo (trO x) (trO y)) = some v) : Does P w ι m a o v := by
 have hx := ev_VR he x
 have hy := ev_VR he y
 have ha : c.args = #[x, y] := by apply Array.ext'; simpa using hargs
 simp only [stepQ] at hs
 split at hs
 ·rename_i k p k' q hp hq
  rw [hp] at hx
  rw [hq] at hy
  split at hs
  ·rename_i hk
   subst hk
   injection hs with hs; subst hs
   refine ⟨_, .c (.int _ _), fun w' _ => ?_⟩
   cases lo with
   | true =>
    simp only [if_true] at hc ⊢
    simp only [execOp, ho, resolve, hc, ha, List.map_toArray, List.map_cons, List.map_nil, hx.int, hy.int, Sem.run_bind, Sem.run_pure, Result.andThen_ok, invoke, builtin, Builtin.min_, List.foldlM_cons, List.foldlM_nil, Builtin.min2]
    congr 3
    split <;> split <;> omega
   | false =>
    simp only [Bool.false_eq_true, if_false] at hc ⊢
    simp only [execOp, ho, resolve, hc, ha, List.map_toArray, List.map_cons, List.map_nil, hx.int, hy.int, Sem.run_bind, Sem.run_pure, Result.andThen_ok, invoke, builtin, Builtin.max_, List.foldlM_cons, List.foldlM_nil, Builtin.max2]
    congr 3
    split <;> split <;> omega
  ·cases hs
 ·cases hs
theorem capt_VR : ∀ {l : List Operand} {ns : List (IntKind × Int)}, EnvR w ι m env a → capt ((l.map trO).map (·.ev env)) = some ns → l.map a.eval = ns.map fun p => Value.int p.1 p.2
 | [], ns, _, h => by
  simp only [List.map_nil, capt, Option.some.injEq] at h
  subst h; rfl
 | x :: l, ns, he, h => by
  have hx := ev_VR he x
  simp only [List.map_cons] at h
  unfold capt at h
  split at h
  ·rename_i h1; cases h1
  ·rename_i k n r h1
   injection h1 with h1 h2
   subst h2
   simp only [Option.bind_eq_some_iff, Option.some.injEq] at h
   obtain ⟨l', hl, rfl⟩ := h
   rw [h1] at hx
   rw [List.map_cons, hx.int, capt_VR he hl]
   rfl
  ·cases h
theorem does_mkc (he : EnvR w ι m env a) {fn : Fn} {first captured : Array Operand} (ho : o.op = .makeFunc fn first captured) {i : I} (ht : trI P (.makeFunc fn first captured) = some i) {v : V} (hs : stepQ env m i = some v) : Does P w ι m a o v := by
 simp only [trI] at ht
 split at ht
 ·split at ht
  ·rename_i f hf
   injection ht with ht; subst ht
   have hfirst : first = #[] := by simpa using hf
   simp only [stepQ] at hs
   unfold mkcV at hs
   split at hs
   ·rename_i b off tot hl
    injection hs with hs
    subst hs
    obtain ⟨x, hx⟩ : ∃ x, captured.toList = [x] := by
     cases hcl : captured.toList with
     | nil => rw [hcl] at hl; simp at hl
     | cons x r =>
      cases r with
      | nil => exact ⟨x, rfl⟩
      | cons y r => rw [hcl] at hl; simp at hl
    rw [hx] at hl
    simp only [List.map_cons, List.map_nil, List.cons.injEq, and_true] at hl
    have hv := ev_VR he x
    rw [hl] at hv
    have hcap : captured.map a.eval = #[a.eval x] := by
     apply Array.ext'
     simp [hx]
    refine ⟨.func (.func f) #[] #[a.eval x], ?_, fun w' hw => ?_⟩
    ·cases hv.of_c with
     | ptr h0 hb ht ha hv => exact .c (.clp f h0 hb ht ha hv)
    ·simp [execOp, ho, hfirst, Instr.makeFunc, hcap]
   ·simp only [Option.bind_eq_some_iff, Option.some.injEq] at hs
    obtain ⟨ns, hn, rfl⟩ := hs
    have hc := capt_VR he hn
    have hcap : captured.map a.eval = (ns.map fun p => Value.int p.1 p.2).toArray := by
     apply Array.ext'
     simpa using hc
    refine ⟨_, .c (.clo _ _), fun w' hw => ?_⟩
    simp [execOp, ho, hfirst, Instr.makeFunc, hcap]
  ·cases ht
 ·cases ht
theorem stepQ_sound (s : Sim base w ι m) (he : EnvR w ι m env a) {i : I} (ht : trI P o.op = some i) {v : V} (hs : stepQ env m i = some v) : Does P w ι m a o v := by
 cases hop : o.op with
 | move x => rw [hop] at ht; simp only [trI, Option.some.injEq] at ht; subst ht; simp only [stepQ, guard', Option.some.injEq] at hs; subst hs; exact does_mov he (.inl hop)
 | assign x => rw [hop] at ht; simp only [trI, Option.some.injEq] at ht; subst ht; simp only [stepQ, guard', Option.some.injEq] at hs; subst hs; exact does_mov he (.inr hop)
 | pick c x y => rw [hop] at ht; simp only [trI, Option.some.injEq] at ht; subst ht; exact does_pick he hop hs
 | load t x => rw [hop] at ht; exact does_load s he hop ht hs
 | fieldAddr t x f => rw [hop] at ht; exact does_fld he hop ht hs
 | indexAddr t x y => rw [hop] at ht; exact does_ixa he hop ht hs
 | extract x k => rw [hop] at ht; simp only [trI, Option.some.injEq] at ht; subst ht; exact does_ext he hop hs
 | binOp op t x y u => rw [hop] at ht; exact does_bin he hop ht hs
 | unOp op t x => rw [hop] at ht; simp only [trI, Option.some.injEq] at ht; subst ht; exact does_un he hop hs
 | slice t x lo hi mx => rw [hop] at ht; exact does_slice he hop ht hs
 | build t parts => rw [hop] at ht; exact does_bld he hop ht hs
 | nilCheck x => rw [hop] at ht; simp only [trI, Option.some.injEq] at ht; subst ht; exact does_chk he hop hs
 | convert src dst x => rw [hop] at ht; exact does_cvt he hop ht hs
 | makeFunc fn first captured => rw [hop] at ht; exact does_mkc he hop ht hs
 | field t x f => rw [hop] at ht; exact does_field he hop ht hs
 | index t x y => rw [hop] at ht; exact does_index he hop ht hs
 | call c =>
  rw [hop] at ht
  by_cases hl : c.callee = .builtin .len
  ·exact does_len he hop hl ht hs
  by_cases h1 : c.callee = .builtin .max
  ·simp only [trI, h1] at ht
   split at ht
   ·rename_i x y hargs
    injection ht with ht; subst ht
    exact does_mx he hop (lo := false) h1 hargs hs
   ·cases ht
  by_cases h2 : c.callee = .builtin .min
  ·simp only [trI, h2] at ht
   split at ht
   ·rename_i x y hargs
    injection ht with ht; subst ht
    exact does_mx he hop (lo := true) h2 hargs hs
   ·cases ht
  ·exfalso
   simp only [trI] at ht
   (repeat' split at ht) <;> simp_all [Option.bind_eq_some_iff, Option.map_eq_some_iff]
   all_goals (first | (subst ht; simp [stepQ] at hs; done) | (obtain ⟨_, _, _, _, _, rfl⟩ := ht; simp [stepQ] at hs; done) | (obtain ⟨_, _, rfl⟩ := ht; simp [stepQ] at hs; done) | skip)
 | _ =>
  exfalso
  rw [hop] at ht
  simp only [trI] at ht
  (repeat' split at ht) <;> simp_all [Option.bind_eq_some_iff, Option.map_eq_some_iff]
  all_goals (first | (obtain ⟨_, _, rfl⟩ := ht; simp [stepQ] at hs; done) | (obtain ⟨_, _, _, _, _, rfl⟩ := ht; simp [stepQ] at hs; done) | (subst ht; simp [stepQ] at hs; done) | skip)
end
end Go.Proofs.YtfbeplbcaanimaaGreat
set_option linter.unusedVariables false
set_option linter.unusedSimpArgs false
namespace Go.Proofs.YtfbeplbcaanimaaGreat
open Go.RowKit
structure MR (base : Nat) (w0 : World) (i0 : Nat → Nat × Nat) (m0 : List Blk) (w : World) (i : Nat → Nat × Nat) (m : List Blk) (esc : Nat) (wr : Nat) : Prop where
 sim : Sim base w i m
 evo : Evo w0 i0 m0 w i m
 fr : Fr w0 i0 m0 w
 fresh : Fresh w0 i0 m0 i m
 bel : (∀ b, b < m0.length - wr → m[b]? = m0[b]?) ∧ ∀ g, g < w0.heap.size → (∀ b blk, m0.length - wr ≤ b → m0[b]? = some blk → blk.own = true → (i0 b).1 ≠ g) → w.heap[g]? = w0.heap[g]?
 refs0 : ∀ (b : Nat) (blk : Blk) (c : C), m0[b]? = some blk → c ∈ blk.cs → c.refs ≤ m0.length
 esc : ∀ (b : Nat) (blk : Blk) (c : C), m[b]? = some blk → c ∈ blk.cs → c.refs ≤ esc ∨ ∃ blk0, m0[b]? = some blk0 ∧ c ∈ blk0.cs
section
variable {base : Nat} {w0 w w' : World} {i0 i : Nat → Nat × Nat} {m0 m m' : List Blk} {e : Nat} {wr : Nat}
theorem CR.refs_le {c : C} {r : Value} (h : CR w i m c r) : c.refs ≤ m.length := by
 cases h with
 | ptr _ hb _ _ => exact (List.getElem?_eq_some_iff.1 hb).1
 | sl _ hb _ _ => exact (List.getElem?_eq_some_iff.1 hb).1
 | clp _ _ hb _ _ => exact (List.getElem?_eq_some_iff.1 hb).1
 | _ => exact Nat.zero_le _
theorem AR.refs_le {cs : List C} {rs : List Value} (h : AR w i m cs rs) : refsL cs ≤ m.length := by
 rw [refsL_le]
 intro c hc
 obtain ⟨j, hj⟩ := List.getElem?_of_mem hc
 obtain ⟨r, _, h2, _⟩ := h.2 j c hj
 exact h2.refs_le
theorem Sim.refs_le (s : Sim base w i m) {b : Nat} {blk : Blk} {c : C} (hb : m[b]? = some blk) (hc : c ∈ blk.cs) : c.refs ≤ m.length := by
 obtain ⟨j, hj⟩ := List.getElem?_of_mem hc
 obtain ⟨r, _, h2, _⟩ := s.cell hb hj
 exact h2.refs_le
theorem MR.start (s : Sim base w i m) : MR base w i m w i m 0 0 where
 sim := s
 evo := Evo.refl _ _ _
 fr := Fr.refl _ _ _
 fresh := Fresh.refl _ _ _
 bel := ⟨fun _ _ => rfl, fun _ _ _ => rfl⟩
 refs0 b blk c hb hc := s.refs_le hb hc
 esc b blk c hb hc := .inr ⟨blk, hb, hc⟩
theorem Evo.len (h : Evo w0 i0 m0 w i m) : m0.length ≤ m.length := by
 rcases Nat.eq_zero_or_pos m0.length with h0 | h0
 ·omega
 ·obtain ⟨blk', h1, _⟩ := h (m0.length - 1) m0[m0.length - 1] (by simp)
  have := (List.getElem?_eq_some_iff.1 h1).1
  omega
theorem MR.later (h : MR base w0 i0 m0 w i m e wr) (hw : Below w.heap.size w w') : MR base w0 i0 m0 w' i m e wr where
 sim := h.sim.below hw
 evo := h.evo.trans (Evo.below hw h.sim)
 fr := h.fr.trans h.fresh (Fr.of_below hw)
 fresh := h.fresh
 bel := ⟨h.bel.1, fun g hg hn => (hw.block g (Nat.lt_of_lt_of_le hg h.fr.size)).trans (h.bel.2 g hg hn)⟩
 refs0 := h.refs0
 esc := h.esc
theorem MR.upd (h : MR base w0 i0 m0 w i m e wr) {b g : Nat} {blk' : Blk} {rc : Array Value} {e' : Nat} {wr' : Nat}
  (hm : ∀ j : Nat, m'[j]? = if j = b then some blk' else m[j]?)
  (hos : w'.os = w.os) (htape : w'.tape = w.tape) (hout : w'.output = w.output) (hsize : w.heap.size ≤ w'.heap.size)
  (hblk : ∀ q, q < w.heap.size → w'.heap[q]? = w.heap[q]? ∨ ∃ blk, m[b]? = some blk ∧ blk.own = true ∧ (i b).1 = q)
  (hb : b = m.length ∨ ∃ blk, m[b]? = some blk ∧ blk.own = true ∧ blk'.esz = blk.esz ∧ blk.cs.length ≤ blk'.cs.length ∧ (blk.cs.length = blk'.cs.length → g = (i b).1 ∧ sizeAt w' g = sizeAt w g))
  (hown : blk'.own = true) (hg : g = (i b).1 ∧ b < m.length ∨ w.heap.size ≤ g) (hrc : w'.heap[g]? = some (.cells rc blk'.ty (0, 0))) (hl : blk'.cs.length ≤ rc.size)
  (hcells : ∀ (w'' : World) (i' : Nat → Nat × Nat) (m'' : List Blk), Evo w i m w'' i' m'' → ∀ (j : Nat) (c : C), blk'.cs[j]? = some c → ∃ r, rc[j]? = some r ∧ CR w'' i' m'' c r ∧ r.oneCell' = true)
  (hwr : wr ≤ wr' ∧ m0.length ≤ b + wr') (he : ∀ c ∈ blk'.cs, c.refs ≤ e' ∨ ∃ blk, m[b]? = some blk ∧ c ∈ blk.cs) (hee : e ≤ e') :
  ∃ i', i' b = (g, 0) ∧ (∀ j, j ≠ b → i' j = i j) ∧ Evo w i m w' i' m' ∧ MR base w0 i0 m0 w' i' m' e' wr' := by
 have hble : b ≤ m.length := by
  rcases hb with hb | ⟨blk, hb, _⟩
  ·omega
  ·have := (List.getElem?_eq_some_iff.1 hb).1; omega
 refine ⟨fun j => if j = b then (g, 0) else i j, by simp, fun j hj => by simp [hj], ?_⟩
 have hbase : base ≤ g := by
  rcases hg with ⟨hg, hlt⟩ | hg
  ·rcases hb with hb | ⟨blk, hb, ho, _⟩
   ·omega
   ·rw [hg]; exact (h.sim.own b blk hb ho).1
  ·exact Nat.le_trans h.sim.le hg
 have heq : ∀ q, q < w.heap.size → (∀ blk, m[b]? = some blk → blk.own = true → (i b).1 ≠ q) → w'.heap[q]? = w.heap[q]? := by
  intro q hq hn
  rcases hblk q hq with h1 | ⟨blk, h1, h2, h3⟩
  ·exact h1
  ·exact absurd h3 (hn blk h1 h2)
 -- another block's place is not touched
 have hother : ∀ j blk, j ≠ b → m[j]? = some blk → blk.alive → (blk.own = true ∨ blk.cs ≠ []) → w'.heap[(i j).1]? = w.heap[(i j).1]? := by
  intro j blk hj hjm ha hne
  refine heq _ (h.sim.block_lt hjm ha hne) fun blk0 h0 ho e0 => ?_
  cases hjo : blk.own with
  | true => exact hj (h.sim.inj j b blk blk0 hjm h0 hjo ho e0.symm)
  | false =>
   have ha' : blk.esz = 0 := by
    rcases ha.or with ha | ha
    ·rw [hjo] at ha; cases ha
    ·exact ha
   have h1 := (h.sim.ro j blk hjm hjo ha').1 (hne.resolve_left (by simp [hjo]))
   have h2 := (h.sim.own b blk0 h0 ho).1
   omega
 have evo : Evo w i m w' (fun j => if j = b then (g, 0) else i j) m' := by
  intro j blk hj
  by_cases hjb : j = b
  ·subst hjb
   rcases hb with hb | ⟨blk0, hb, ho, he0, hl0, hs0⟩
   ·have := (List.getElem?_eq_some_iff.1 hj).1; omega
   ·rw [hb] at hj
    injection hj with hj
    subst hj
    refine ⟨blk', by rw [hm]; simp, fun _ => ⟨hown.trans ho.symm, he0, hl0, fun e1 => ?_⟩⟩
    obtain ⟨g1, g2⟩ := hs0 e1
    have h2 := (h.sim.own j blk0 hb ho).2.1
    refine ⟨?_, fun _ => ?_⟩
    ·simp only [if_true]
     rw [g1]
     exact Prod.ext rfl h2.symm
    ·rw [← g1]
     exact g2
  ·refine ⟨blk, by rw [hm]; simp [hjb, hj], fun ha => ⟨rfl, rfl, Nat.le_refl _, fun _ => ⟨by simp [hjb], fun hz => ?_⟩⟩⟩
   unfold sizeAt
   rw [hother j blk hjb hj ha (ha.or.imp id fun e => by omega)]
 have hmem : ∀ j blk, j ≠ b → m'[j]? = some blk → m[j]? = some blk := by
  intro j blk hj h1
  rw [hm] at h1
  simpa [hj] using h1
 have hmb : ∀ blk, m'[b]? = some blk → blk = blk' := by
  intro blk h1
  rw [hm] at h1
  simp only [if_true] at h1
  injection h1 with h1
  exact h1.symm
 have hglt : g < w'.heap.size := (Array.getElem?_eq_some_iff.1 hrc).1
 have sim : Sim base w' (fun j => if j = b then (g, 0) else i j) m' := by
  refine ⟨Nat.le_trans h.sim.le hsize, ?_, ?_, ?_, ?_⟩
  ·intro j blk hj ho
   by_cases hjb : j = b
   ·subst hjb
    obtain rfl := hmb blk hj
    simp only [if_true]
    exact ⟨hbase, trivial, rc, hrc, hl, hcells _ _ _ evo⟩
   ·have hj' := hmem j blk hjb hj
    obtain ⟨h1, h2, rc', h3, h4, h5⟩ := h.sim.own j blk hj' ho
    simp only [if_neg hjb]
    refine ⟨h1, h2, rc', (hother j blk hjb hj' ⟨.inl ho⟩ (.inl ho)).trans h3, h4, fun k c hk => ?_⟩
    obtain ⟨r, g1, g2, g3⟩ := h5 k c hk
    exact ⟨r, g1, g2.evo evo, g3⟩
  ·intro j blk hj ho hz
   by_cases hjb : j = b
   ·subst hjb
    obtain rfl := hmb blk hj
    rw [hown] at ho
    cases ho
   ·have hj' := hmem j blk hjb hj
    obtain ⟨h1, h2⟩ := h.sim.ro j blk hj' ho hz
    simp only [if_neg hjb]
    refine ⟨h1, fun k c hk => ?_⟩
    obtain ⟨r, g1, g2, g3⟩ := h2 k c hk
    refine ⟨r, ?_, g2.evo evo, g3⟩
    simp only [atA, if_neg hjb] at *
    rw [← g1]
    unfold World.cell?
    rw [hother j blk hjb hj' ⟨.inr hz⟩ (.inr fun e => by rw [e] at hk; cases hk)]
  ·intro j blk hj ho hz
   by_cases hjb : j = b
   ·subst hjb
    obtain rfl := hmb blk hj
    rw [hown] at ho
    cases ho
   ·exact h.sim.non j blk (hmem j blk hjb hj) ho hz
  ·intro j j' blk blk1 hj hj' ho ho' e0
   by_cases hjb : j = b
   ·by_cases hjb' : j' = b
    ·omega
    ·exfalso
     have hj1 := hmem j' blk1 hjb' hj'
     simp only [hjb, if_true, if_neg hjb'] at e0
     rcases hg with ⟨hg, hlt⟩ | hg
     ·rcases hb with hb | ⟨blk0, hb, hbo, _⟩
      ·omega
      ·exact hjb' (h.sim.inj j' b blk1 blk0 hj1 hb ho' hbo (by omega))
     ·have := h.sim.block_lt hj1 ⟨.inl ‹_›⟩ (.inl ‹_›)
      omega
   ·by_cases hjb' : j' = b
    ·exfalso
     have hj1 := hmem j blk hjb hj
     simp only [hjb', if_true, if_neg hjb] at e0
     rcases hg with ⟨hg, hlt⟩ | hg
     ·rcases hb with hb | ⟨blk0, hb, hbo, _⟩
      ·omega
      ·exact hjb (h.sim.inj j b blk blk0 hj1 hb ho hbo (by omega))
     ·have := h.sim.block_lt hj1 ⟨.inl ‹_›⟩ (.inl ‹_›)
      omega
    ·simp only [if_neg hjb, if_neg hjb'] at e0
     exact h.sim.inj j j' blk blk1 (hmem j blk hjb hj) (hmem j' blk1 hjb' hj') ho ho' e0
 refine ⟨evo, sim, h.evo.trans evo, ?_, ?_, ?_, h.refs0, ?_⟩
 ·refine h.fr.trans h.fresh ⟨hos, htape, hout, hsize, fun q hq hn => heq q hq fun blk h1 h2 => hn b blk h1 h2⟩
 ·refine Fresh.trans h.fr.size h.fresh fun j blk hj ho hlt => ?_
  by_cases hjb : j = b
  ·subst hjb
   simp only [if_true] at hlt ⊢
   rcases hg with ⟨hg, hlt'⟩ | hg
   ·rcases hb with hb | ⟨blk0, hb, hbo, _⟩
    ·omega
    ·exact ⟨j, blk0, hb, hbo, hg.symm⟩
   ·omega
  ·simp only [if_neg hjb] at hlt ⊢
   exact ⟨j, blk, hmem j blk hjb hj, ho, rfl⟩
 ·refine ⟨fun j hj => ?_, fun q hq hn => ?_⟩
  ·rw [hm, if_neg (by omega)]
   exact h.bel.1 j (by omega)
  ·rw [← h.bel.2 q hq fun b' blk hb' hm' ho => hn b' blk (by omega) hm' ho]
   refine heq q (Nat.lt_of_lt_of_le hq h.fr.size) fun blk h1 h2 h3 => ?_
   obtain ⟨b1, blk1, g1, g2, g3⟩ := h.fresh b blk h1 h2 (by omega)
   have hb1 : b1 < m0.length := (List.getElem?_eq_some_iff.1 g1).1
   have hlt : b1 < m0.length - wr' := Classical.byContradiction fun hc => hn b1 blk1 (by omega) g1 g2 (by omega)
   have hm1 : m[b1]? = some blk1 := (h.bel.1 b1 (by omega)).trans g1
   obtain ⟨blk2, k1, k⟩ := h.evo b1 blk1 g1
   obtain ⟨k2, k3, k4, k5⟩ := k ⟨.inl g2⟩
   rw [hm1] at k1
   injection k1 with k1
   subst k1
   have k6 := (k5 rfl).1
   have := h.sim.inj b1 b blk1 blk hm1 h1 g2 h2 (by rw [k6]; exact g3)
   omega
 ·intro j blk c hj hc
  by_cases hjb : j = b
  ·subst hjb
   obtain rfl := hmb blk hj
   rcases he c hc with h1 | ⟨blk1, h1, h2⟩
   ·exact .inl h1
   ·rcases h.esc j blk1 c h1 h2 with h3 | h3
    ·exact .inl (by omega)
    ·exact .inr h3
  ·rcases h.esc j blk c (hmem j blk hjb hj) hc with h3 | h3
   ·exact .inl (by omega)
   ·exact .inr h3
theorem MR.below (h : MR base w0 i0 m0 w i m e 0) : Below w0.heap.size w0 w ∧ m.take m0.length = m0 := by
 refine ⟨⟨h.fr.os, h.fr.tape, h.fr.output, h.fr.size, fun g hg => h.bel.2 g hg fun b blk hb hm _ => absurd (List.getElem?_eq_some_iff.1 hm).1 (by omega)⟩, ?_⟩
 apply List.ext_getElem?
 intro j
 rw [List.getElem?_take]
 split
 ·exact h.bel.1 j (by omega)
 ·exact (List.getElem?_eq_none (by omega)).symm
theorem MR.escM (h : MR base w0 i0 m0 w i m e wr) {b : Nat} {blk : Blk} {c : C} (hb : m[b]? = some blk) (hc : c ∈ blk.cs) : c.refs ≤ max m0.length e := by
 rcases h.esc b blk c hb hc with h1 | ⟨blk0, h1, h2⟩
 ·omega
 ·have := h.refs0 b blk0 c h1 h2
  omega
end
end Go.Proofs.YtfbeplbcaanimaaGreat
set_option linter.unusedVariables false
set_option linter.unusedSimpArgs false
namespace Go.Proofs.YtfbeplbcaanimaaGreat
open Go.RowKit
section
variable {P : Program} {base : Nat} {w0 w : World} {ι0 ι : Nat → Nat × Nat} {m0 : List Blk} {a : Act} {o : Oper} {st : St}
theorem AR.evo' {m : List Blk} {cs : List C} {rs : List Value} (h : AR w ι m cs rs) : ∀ (w'' : World) (i' : Nat → Nat × Nat) (m'' : List Blk), Evo w ι m w'' i' m'' → ∀ (j : Nat) (c : C), cs[j]? = some c → ∃ r, rs[j]? = some r ∧ CR w'' i' m'' c r ∧ r.oneCell' = true :=
 fun w'' i' m'' he => (h.evo he).2
def DoesL (P : Program) (base : Nat) (w0 : World) (ι0 : Nat → Nat × Nat) (m0 : List Blk) (w : World) (ι : Nat → Nat × Nat) (m : List Blk) (a : Act) (o : Oper) (v : V) (st' : St) : Prop :=
 ∃ w' ι' r, ((execOp a.eval o).run P w = .ok (.value r) w' ∨ ((execOp a.eval o).run P w = .ok .skip w' ∧ r = undef)) ∧ VR w' ι' st'.mem v r ∧ MR base w0 ι0 m0 w' ι' st'.mem st'.esc st'.wr ∧ Evo w ι m w' ι' st'.mem
theorem get_append_one {m : List Blk} {blk : Blk} (j : Nat) : (m ++ [blk])[j]? = if j = m.length then some blk else m[j]? := by
 rw [List.getElem?_append]
 split
 ·rw [if_neg (by omega)]
 ·rename_i h
  split
  ·rename_i e; subst e; simp
  ·rw [List.getElem?_eq_none (by simp; omega), List.getElem?_eq_none (by omega)]
theorem MR.new (h : MR base w0 ι0 m0 w ι st.mem st.esc st.wr) {cs : List C} {rs : List Value} (hr : AR w ι st.mem cs rs) (ty : TypeId) (esz : Nat) :
  ∃ ι', ι' st.mem.length = (w.heap.size, 0) ∧ Evo w ι st.mem (w.alloc (.cells rs.toArray ty)) ι' (st.mem ++ [⟨cs, ty, esz, true⟩]) ∧
   MR base w0 ι0 m0 (w.alloc (.cells rs.toArray ty)) ι' (st.mem ++ [⟨cs, ty, esz, true⟩]) (mx st.esc (refsL cs)) st.wr := by
 obtain ⟨ι', h1, _, h2, h3⟩ := h.upd (w' := w.alloc (.cells rs.toArray ty)) (m' := st.mem ++ [⟨cs, ty, esz, true⟩]) (b := st.mem.length) (g := w.heap.size) (blk' := ⟨cs, ty, esz, true⟩) (rc := rs.toArray) (e' := mx st.esc (refsL cs)) (wr' := st.wr)
  (fun j => get_append_one j) rfl rfl rfl (by simp) (fun q hq => .inl (Below.heap_alloc w _ q hq)) (.inl rfl) rfl (.inr (Nat.le_refl _)) (heap_alloc_new w _) (by simp [hr.1])
  (fun w'' i' m'' he j c hj => by simpa using hr.evo' w'' i' m'' he j c hj) ⟨Nat.le_refl _, Nat.le_add_right_of_le h.evo.len⟩ (fun c hc => .inl (refsL_le.1 (le_mx_r st.esc (refsL cs)) c hc)) (le_mx_l _ _)
 exact ⟨ι', h1, h2, h3⟩
theorem ptr_new {m : List Blk} {cs : List C} {ty : TypeId} {esz : Nat} {w' : World} {ι' : Nat → Nat × Nat} {g : Nat} (h : ι' m.length = (g, 0)) : VR w' ι' (m ++ [⟨cs, ty, esz, true⟩]) (.c (.ptr m.length 0 cs.length)) (.pointer (some ⟨g, 0, none⟩)) :=
 .c (.ptr rfl (blk := ⟨cs, ty, esz, true⟩) (by simp) (Nat.le_refl _) ⟨.inl rfl⟩ fun _ => by simp [atA, h])
theorem does_alloc (h : MR base w0 ι0 m0 w ι st.mem st.esc st.wr) {t : TypeId} (ho : o.op = .alloc t) {z : List C} (hz : zeroT P t = some z) :
  DoesL P base w0 ι0 m0 w ι st.mem a o (.c (.ptr st.mem.length 0 z.length)) { st with mem := st.mem ++ [⟨z, t, 0, true⟩], esc := mx st.esc (refsL z) } := by
 obtain ⟨v, hv, hr, _⟩ := zeroT_some hz
 obtain ⟨ι', h1, h2, h3⟩ := h.new (hr w ι st.mem) t 0
 refine ⟨_, ι', _, .inl ?_, ptr_new h1, h3, h2⟩
 simp [execOp, ho, Instr.alloc, hv, newVar, newRow]
theorem does_box (h : MR base w0 ι0 m0 w ι st.mem st.esc st.wr) (he : EnvR w ι st.mem st.env a) {t : TypeId} {x : Operand} (ho : o.op = .box t x) {z : List C} (hz : ((trO x).ev st.env).cells? = some z) :
  DoesL P base w0 ι0 m0 w ι st.mem a o (.c (.ptr st.mem.length 0 z.length)) { st with mem := st.mem ++ [⟨z, t, 0, true⟩], esc := mx st.esc (refsL z) } := by
 obtain ⟨ι', h1, h2, h3⟩ := h.new (cells?_AR (ev_VR he x) hz) t 0
 refine ⟨_, ι', _, .inl ?_, ptr_new h1, h3, h2⟩
 simp [execOp, ho, Instr.box, newVar, newRow]
theorem get_set_one {m : List Blk} {b : Nat} {blk : Blk} (hb : b < m.length) (j : Nat) : (m.set b blk)[j]? = if j = b then some blk else m[j]? := by
 rw [List.getElem?_set]
 by_cases h : b = j
 ·subst h; simp [hb]
 ·rw [if_neg h, if_neg (fun e => h e.symm)]
theorem lay_mem {cs new : List C} {off : Nat} {c : C} (h : c ∈ lay cs off new) : c ∈ cs ∨ c ∈ new := by
 unfold lay at h
 simp only [List.mem_append] at h
 rcases h with (h | h) | h
 ·exact .inl (List.mem_of_mem_take h)
 ·exact .inr h
 ·exact .inl (List.mem_of_mem_drop h)
theorem does_store (h : MR base w0 ι0 m0 w ι st.mem st.esc st.wr) (he : EnvR w ι st.mem st.env a) {t : TypeId} {x y : Operand} (ho : o.op = .store t x y) {n : Nat} (hz : szT P t = some n)
  {b off tot : Nat} (hx : (trO x).ev st.env = .c (.ptr b off tot)) {cs : List C} (hy : ((trO y).ev st.env).cells? = some cs) (hn : cs.length = n) {st' : St} (hw : wrt st m0.length b off tot cs = some st') :
  DoesL P base w0 ι0 m0 w ι st.mem a o (.c .undef) st' := by
 unfold wrt guard' at hw
 simp only [Option.bind_eq_some_iff] at hw
 obtain ⟨blk, hl, hw⟩ := hw
 split at hw
 ·rename_i hc
  obtain ⟨hown, hle⟩ := hc
  injection hw with hw
  subst hw
  obtain ⟨hb, ht⟩ := live_some hl
  have hp := (ev_VR he x)
  rw [hx] at hp
  have hp := hp.ptr hl
  have har := cells?_AR (ev_VR he y) hy
  obtain ⟨g1, g2, rc, g3, g4, g5⟩ := h.sim.own b blk hb hown
  have hblt : b < st.mem.length := (List.getElem?_eq_some_iff.1 hb).1
  have hat : atA ι b off = ⟨(ι b).1, off, none⟩ := by simp [atA, g2]
  have hlen : (a.eval y).cells.toList.length = cs.length := har.1.symm
  have hlen2 : (a.eval y).cells.size = cs.length := by rw [← hlen]; simp
  have hone : ∀ v ∈ (a.eval y).cells.toList, v.oneCell' = true := by
   intro v hv
   obtain ⟨j, hj⟩ := List.getElem?_of_mem hv
   have hj' : j < cs.length := by rw [← hlen]; exact (List.getElem?_eq_some_iff.1 hj).1
   obtain ⟨r, r1, _, r3⟩ := har.2 j cs[j] (by simp [hj'])
   rw [hj] at r1
   injection r1 with r1
   rw [r1]; exact r3
  have hst := run_storeCells_at (P := P) (ι b).1 off blk.ty (a.eval y).cells.toList 0 rc w g3 (by omega) hone
  simp only [Nat.add_zero] at hst
  have hrun : (execOp a.eval o).run P w = .ok .skip (w.setRow (ι b).1 (rc.toList.take off ++ (a.eval y).cells.toList ++ rc.toList.drop (off + (a.eval y).cells.toList.length)).toArray) := by
   have hsz : (a.eval y).cells.size = n := by rw [← hn, ← hlen]; simp
   have hst' := hst
   simp only [execOp, ho, hp, hat, Instr.storeAt, Instr.sureAddr, storeVar, Sem.run_bind, Sem.run_pure, Result.andThen_ok, run_sizeOf hz, Sem.run_ite]
   rw [if_neg (by omega)]
   rw [hst']
   simp
  obtain ⟨l1, l2⟩ := lay_rel (R := fun c r => CR w ι st.mem c r ∧ r.oneCell' = true) (cs := blk.cs) (new := cs) (rc := rc.toList) (news := (a.eval y).cells.toList) (off := off) hle (by simpa using g4) har.1
   (fun j c hj => by obtain ⟨r, r1, r2⟩ := g5 j c hj; exact ⟨r, by simpa using r1, r2⟩) har.2
  have hsame : sizeAt (w.setRow (ι b).1 (rc.toList.take off ++ (a.eval y).cells.toList ++ rc.toList.drop (off + (a.eval y).cells.toList.length)).toArray) (ι b).1 = sizeAt w (ι b).1 := by
   unfold sizeAt
   rw [setRow_heap w _ rc _ _ _ g3, g3]
   simp
   omega
  obtain ⟨ι', i1, _, i2, i3⟩ := h.upd (w' := w.setRow (ι b).1 (rc.toList.take off ++ (a.eval y).cells.toList ++ rc.toList.drop (off + (a.eval y).cells.toList.length)).toArray) (m' := st.mem.set b { blk with cs := lay blk.cs off cs }) (b := b) (g := (ι b).1)
   (blk' := { blk with cs := lay blk.cs off cs }) (e' := mx st.esc (refsL cs)) (wr' := mx st.wr (m0.length - b))
   (fun j => get_set_one hblt j) rfl rfl rfl (by simp) (fun q hq => by
    by_cases e : q = (ι b).1
    ·exact .inr ⟨blk, hb, hown, e.symm⟩
    ·exact .inl (setRow_other w _ q _ e))
   (.inr ⟨blk, hb, hown, rfl, by simp [l1], fun _ => ⟨rfl, hsame⟩⟩) hown (.inl ⟨rfl, hblt⟩) (setRow_heap w _ rc _ _ _ g3) (by simp only [l1]; simp; omega)
   (fun w'' i' m'' hev j c hj => by
    obtain ⟨r, r1, r2, r3⟩ := l2 j c hj
    exact ⟨r, by rw [← List.getElem?_toArray] at r1; exact r1, r2.evo hev, r3⟩)
   ⟨le_mx_l _ _, by rw [mx_eq]; omega⟩
   (fun c hc => by
    rcases lay_mem hc with hc | hc
    ·exact .inr ⟨blk, hb, hc⟩
    ·exact .inl (refsL_le.1 (le_mx_r st.esc (refsL cs)) c hc)) (le_mx_l _ _)
  exact ⟨_, ι', undef, .inr ⟨hrun, rfl⟩, .c .undef, i3, i2⟩
 ·cases hw
end
end Go.Proofs.YtfbeplbcaanimaaGreat
set_option linter.unusedVariables false
set_option linter.unusedSimpArgs false
namespace Go.Proofs.YtfbeplbcaanimaaGreat
open Go.RowKit
section
variable {P : Program} {base : Nat} {w0 w : World} {ι0 ι : Nat → Nat × Nat} {m0 : List Blk} {a : Act} {o : Oper} {st : St}
theorem rep_length (n : Nat) (z : List C) : (rep n z).length = n * z.length := by
 induction n with
 | zero => simp [rep]
 | succ n ih =>
  have : rep (n + 1) z = z ++ rep n z := by simp [rep, List.replicate_succ]
  rw [this, List.length_append, ih, Nat.succ_mul, Nat.add_comm]
theorem rep_get (n : Nat) (z : List C) (j : Nat) (hj : j < n * z.length) : (rep n z)[j]? = z[j % z.length]? := by
 induction n generalizing j with
 | zero => simp at hj
 | succ n ih =>
  have : rep (n + 1) z = z ++ rep n z := by simp [rep, List.replicate_succ]
  rw [this]
  rcases Nat.lt_or_ge j z.length with h | h
  ·rw [List.getElem?_append_left h, Nat.mod_eq_of_lt h]
  ·rw [List.getElem?_append_right h, ih _ (by rw [Nat.succ_mul] at hj; omega)]
   congr 1
   rw [Nat.mod_eq_sub_mod h]
theorem rep_refs (n : Nat) (z : List C) : refsL (rep n z) ≤ refsL z := by
 rw [refsL_le]
 intro c hc
 unfold rep at hc
 simp only [List.mem_flatten, List.mem_replicate] at hc
 obtain ⟨l, ⟨_, rfl⟩, hc⟩ := hc
 exact refsL_le.1 (Nat.le_refl _) c hc
theorem rep_AR {z : List C} {rs : Array Value} {m : List Blk} (h : AR w ι m z rs.toList) (n : Nat) : AR w ι m (rep n z) (madeCells rs (n * rs.size)).toList := by
 have hz : z.length = rs.size := by rw [h.1]; simp
 refine ⟨by rw [rep_length]; simp [madeCells, hz], fun j c hj => ?_⟩
 have hlt : j < n * z.length := by rw [← rep_length]; exact (List.getElem?_eq_some_iff.1 hj).1
 rw [rep_get n z j hlt] at hj
 obtain ⟨r, h1, h2, h3⟩ := h.2 _ c hj
 refine ⟨r, ?_, h2, h3⟩
 have hlt' : j < n * rs.size := by rw [← hz]; exact hlt
 have hpos : 0 < rs.size := by
  rcases Nat.eq_zero_or_pos rs.size with h0 | h0
  ·rw [h0] at hlt'; simp at hlt'
  ·exact h0
 simp only [madeCells]
 rw [hz] at h1
 have h1' : rs[j % rs.size]? = some r := by simpa using h1
 have h4 : rs[j % rs.size]! = r := by
  rw [getElem!_def, h1']
 simp [hlt', h4]
theorem MR.new' (h : MR base w0 ι0 m0 w ι st.mem st.esc st.wr) {cs : List C} {rs : Array Value} (hr : AR w ι st.mem cs rs.toList) (ty : TypeId) (esz : Nat) {q : Nat} (hq : refsL cs ≤ q) :
  ∃ ι', ι' st.mem.length = (w.heap.size, 0) ∧ Evo w ι st.mem (w.alloc (.cells rs ty)) ι' (st.mem ++ [⟨cs, ty, esz, true⟩]) ∧
   MR base w0 ι0 m0 (w.alloc (.cells rs ty)) ι' (st.mem ++ [⟨cs, ty, esz, true⟩]) (mx st.esc q) st.wr := by
 obtain ⟨ι', h1, _, h2, h3⟩ := h.upd (w' := w.alloc (.cells rs ty)) (m' := st.mem ++ [⟨cs, ty, esz, true⟩]) (b := st.mem.length) (g := w.heap.size) (blk' := ⟨cs, ty, esz, true⟩) (rc := rs) (e' := mx st.esc q) (wr' := st.wr)
  (fun j => get_append_one j) rfl rfl rfl (by simp) (fun q hq => .inl (Below.heap_alloc w _ q hq)) (.inl rfl) rfl (.inr (Nat.le_refl _)) (heap_alloc_new w _) (by simp [hr.1])
  (fun w'' i' m'' he j c hj => by simpa using hr.evo' w'' i' m'' he j c hj) ⟨Nat.le_refl _, Nat.le_add_right_of_le h.evo.len⟩ (fun c hc => .inl (refsL_le.1 (Nat.le_trans hq (le_mx_r st.esc q)) c hc)) (le_mx_l _ _)
 exact ⟨ι', h1, h2, h3⟩
theorem sl_new {m : List Blk} {cs : List C} {ty : TypeId} {esz n : Nat} {w' : World} {ι' : Nat → Nat × Nat} {g : Nat} (h : ι' m.length = (g, 0)) (hn : cs.length = n * esz) (hm : n ≤ maxLen) (hs : sizeAt w' g = some (n * esz)) :
  VR w' ι' (m ++ [⟨cs, ty, esz, true⟩]) (.c (.sl m.length 0 n (n * esz))) (.slice (some ⟨g, 0, none⟩) n n) :=
 .c (.sl rfl (blk := ⟨cs, ty, esz, true⟩) (by simp) (by simp [hn]) ⟨.inl rfl⟩ fun _ => ⟨_, n, rfl, fun _ => by simp [atA, h], Nat.le_refl _, hm, fun _ _ => by rw [h]; exact hs⟩)
theorem does_mks (h : MR base w0 ι0 m0 w ι st.mem st.esc st.wr) (he : EnvR w ι st.mem st.env a) {t e : TypeId} {tm : Nat} (ho : o.op = .makeSlice t (.tmp tm) (.tmp tm)) (hu : P.underlying t = some (.slice e)) {i : TypeInfo} (hi : P.info? e = some i)
  {z : List C} (hz : zeroT P e = some z) (hsz : i.size = z.length) {l : Int} (hl : (get st.env tm).int? = some l) (h0 : 0 ≤ l) (hb : l * i.bytes ≤ 140737488355328) (hb0 : 0 < i.bytes) :
  DoesL P base w0 ι0 m0 w ι st.mem a o (.c (.sl st.mem.length 0 l.toNat (l.toNat * z.length))) { st with mem := st.mem ++ [⟨rep l.toNat z, e, z.length, true⟩], esc := mx st.esc (refsL z) } := by
 obtain ⟨v, hv, hr, ⟨i', hi', hiz⟩, _⟩ := zeroT_some hz
 rw [hi] at hi'
 injection hi' with hi'
 subst hi'
 obtain ⟨k, hk⟩ := int?_some hl
 have hx := he tm
 rw [hk] at hx
 have hx := hx.int
 have har := rep_AR (hr w ι st.mem) l.toNat
 have hzs : z.length = v.cells.size := by rw [(hr w ι st.mem).1]; simp
 obtain ⟨ι', h1, h2, h3⟩ := h.new' har e z.length (rep_refs l.toNat z)
 have hlb : l ≤ 140737488355328 := by
  have : l * 1 ≤ l * (i.bytes : Int) := Int.mul_le_mul_of_nonneg_left (by omega) h0
  omega
 refine ⟨_, ι', .slice (some ⟨w.heap.size, 0, none⟩) l.toNat l.toNat, .inl ?_, ?_, h3, h2⟩
 ·have := run_make (P := P) w t e i v hu hi hiz k k l l h0 (Int.le_refl _) (by rw [Int.mul_comm]; omega) (by omega)
  rw [hsz, hzs] at this
  simp [execOp, ho, Act.eval, hx, this]
 ·refine sl_new h1 (rep_length _ _) (by unfold maxLen; omega) ?_
  unfold sizeAt
  rw [heap_alloc_new]
  simp [madeCells, hzs]
theorem fill_AR {m : List Blk} (he : EnvR w ι m st.env a) (esz : Nat) : ∀ (ps : List (Nat × Operand)) (cs : List C) (rs : Array Value) (out : List C), AR w ι m cs rs.toList →
  layAll st.env cs (ps.map fun p => (p.1 * esz, esz, trO p.2)) = some out →
  ∃ rs', Instr.fill (fun i => some (i * esz, esz)) rs (ps.map fun p => (p.1, a.eval p.2)) = some rs' ∧ AR w ι m out rs'.toList
 | [], cs, rs, out, h, hl => by
  simp only [List.map_nil, layAll, Option.some.injEq] at hl
  subst hl
  exact ⟨rs, by simp [Instr.fill], h⟩
 | p :: ps, cs, rs, out, h, hl => by
  simp only [List.map_cons, layAll, Option.bind_eq_some_iff] at hl
  obtain ⟨new, hnew, hl⟩ := hl
  split at hl
  ·rename_i hc
   obtain ⟨hc1, hc2⟩ := hc
   have hn := cells?_AR (ev_VR he p.2) hnew
   have hns : (a.eval p.2).cells.size = esz := by rw [← hc1, hn.1]; simp
   have hrs : rs.size = cs.length := by rw [h.1]; simp
   have hfold := fold_lay (a.eval p.2).cells.toList rs (p.1 * esz) 0 (by simp; omega)
   have har : AR w ι m (lay cs (p.1 * esz) new) (rs.toList.take (p.1 * esz) ++ (a.eval p.2).cells.toList ++ rs.toList.drop (p.1 * esz + (a.eval p.2).cells.toList.length)) := by
    obtain ⟨l1, l2⟩ := lay_rel (R := fun c r => CR w ι m c r ∧ r.oneCell' = true) (cs := cs) (new := new) (rc := rs.toList) (news := (a.eval p.2).cells.toList) (off := p.1 * esz) (by omega) (by simp; omega) hn.1 h.2 hn.2
    refine ⟨by rw [l1, h.1]; simp; omega, l2⟩
   have hfold' : ((a.eval p.2).cells.zipIdx.foldl (fun cs (c, j) => cs.setIfInBounds (p.1 * esz + j) c) rs).toList = rs.toList.take (p.1 * esz) ++ (a.eval p.2).cells.toList ++ rs.toList.drop (p.1 * esz + (a.eval p.2).cells.toList.length) := by
    rw [← Array.foldl_toList, Array.toList_zipIdx]
    simpa using hfold
   obtain ⟨rs', h1, h2⟩ := fill_AR he esz ps (lay cs (p.1 * esz) new) ((a.eval p.2).cells.zipIdx.foldl (fun cs (c, j) => cs.setIfInBounds (p.1 * esz + j) c) rs) out (by rw [hfold']; exact har) hl
   refine ⟨rs', ?_, h2⟩
   simp only [List.map_cons, Instr.fill]
   have hno : ((a.eval p.2).cells.size ≠ esz || decide (p.1 * esz + (a.eval p.2).cells.size > rs.size)) = false := by
    simp [hns]; omega
   simp only [ne_eq, hns, not_true_eq_false, decide_false, Bool.false_or, decide_eq_true_eq]
   rw [if_neg (by omega)]
   exact h1
  ·cases hl
theorem does_lit (h : MR base w0 ι0 m0 w ι st.mem st.esc st.wr) (he : EnvR w ι st.mem st.env a) {t e : TypeId} {n : Nat} {parts : Array (Nat × Operand)} (ho : o.op = .buildSlice t n parts) (hu : P.underlying t = some (.slice e)) {i : TypeInfo} (hi : P.info? e = some i)
  {z : List C} (hz : zeroT P e = some z) (hsz : i.size = z.length) (hsmall : n * i.size ≤ 16777216) (hpos : 0 < i.size) {cs : List C} (hl : layAll st.env (rep n z) (parts.toList.map fun p => (p.1 * i.size, i.size, trO p.2)) = some cs) (hcs : cs.length = n * i.size) :
  DoesL P base w0 ι0 m0 w ι st.mem a o (.c (.sl st.mem.length 0 n (n * i.size))) { st with mem := st.mem ++ [⟨cs, e, i.size, true⟩], esc := mx st.esc (refsL cs) } := by
 obtain ⟨v, hv, hr, ⟨i', hi', hiz⟩, _⟩ := zeroT_some hz
 rw [hi] at hi'
 injection hi' with hi'
 subst hi'
 have hzs : z.length = v.cells.size := by rw [(hr w ι st.mem).1]; simp
 have har := rep_AR (hr w ι st.mem) n
 obtain ⟨rs', f1, f2⟩ := fill_AR he i.size parts.toList (rep n z) (madeCells v.cells (n * v.cells.size)) cs har hl
 obtain ⟨ι', h1, h2, h3⟩ := h.new' f2 e i.size (Nat.le_refl _)
 have hnb : n ≤ 16777216 := by
  have : n * 1 ≤ n * i.size := Nat.mul_le_mul_left _ hpos
  omega
 refine ⟨_, ι', .slice (some ⟨w.heap.size, 0, none⟩) n n, .inl ?_, ?_, h3, h2⟩
 ·have hf : Instr.fill (fun j => some (j * i.size, i.size)) ((Array.range (n * i.size)).map (v.cells[· % v.cells.size]!)) (parts.map fun (j, x) => (j, a.eval x)).toList = some rs' := by
   rw [← f1]
   congr 1
   ·rw [hsz, hzs]; rfl
   ·simp
  have hrun : (Instr.buildSlice t n (parts.map fun (j, x) => (j, a.eval x))).run P w = .ok (.slice (some ⟨w.heap.size, 0, none⟩) n n) (w.alloc (.cells rs' e)) := by
   by_cases hn0 : n * i.size = 0
   ·have hf' := hf
    rw [hn0] at hf'
    have hn : n = 0 := by
     rcases Nat.mul_eq_zero.1 hn0 with h | h
     ·exact h
     ·omega
    subst hn
    simp [Array.range_zero'] at hf'
    simp [Instr.buildSlice, run_underlying hu, sizeOf, typeInfo, hi, newRow, Array.range_zero', hf']
   ·exact run_buildSlice w t e n _ rs' i v hu hi hiz (by omega) hn0 hf
  simp [execOp, ho, hrun]
 ·refine sl_new h1 hcs (by unfold maxLen; omega) ?_
  unfold sizeAt
  rw [heap_alloc_new]
  have := f2.1
  simp at this ⊢
  omega
end
end Go.Proofs.YtfbeplbcaanimaaGreat
set_option linter.unusedVariables false
set_option linter.unusedSimpArgs false
namespace Go.Proofs.YtfbeplbcaanimaaGreat
open Go.RowKit
section
variable {P : Program} {base : Nat} {w0 w : World} {ι0 ι : Nat → Nat × Nat} {m0 : List Blk} {a : Act} {o : Oper} {st : St}
theorem AR.append {m : List Blk} {cs ds : List C} {rs qs : List Value} (h : AR w ι m cs rs) (k : AR w ι m ds qs) : AR w ι m (cs ++ ds) (rs ++ qs) := by
 refine ⟨by simp [h.1, k.1], fun j c hj => ?_⟩
 rw [List.getElem?_append] at hj ⊢
 rw [← h.1]
 split at hj
 ·rename_i hlt
  rw [if_pos hlt]
  exact h.2 j c hj
 ·rename_i hlt
  rw [if_neg hlt]
  exact k.2 _ c hj
theorem AR.ones {m : List Blk} {cs : List C} {rs : List Value} (h : AR w ι m cs rs) : ∀ v ∈ rs, v.oneCell' = true := by
 intro v hv
 obtain ⟨j, hj⟩ := List.getElem?_of_mem hv
 have hj' : j < cs.length := by rw [h.1]; exact (List.getElem?_eq_some_iff.1 hj).1
 obtain ⟨r, r1, _, r3⟩ := h.2 j cs[j] (by simp [hj'])
 rw [hj] at r1
 injection r1 with r1
 rw [r1]; exact r3
theorem zeroCells_one (u : Value) (n : Nat) : (Builtin.zeroCells #[u] n).toList = List.replicate n u := by
 simp [Builtin.zeroCells]
 apply List.ext_getElem
 ·simp
 ·intro i h1 h2
  simp [Nat.mod_one]
theorem rep_flat (n : Nat) (z : C) : rep n [z] = List.replicate n z := by
 unfold rep
 induction n with
 | zero => rfl
 | succ n ih => rw [List.replicate_succ, List.flatten_cons, ih, List.replicate_succ]; rfl
theorem does_clr (h : MR base w0 ι0 m0 w ι st.mem st.esc st.wr) (he : EnvR w ι st.mem st.env a) {c : Call} (ho : o.op = .call c) (hc : c.callee = .builtin .clear) {x : Operand} (ha : c.args = #[x]) {t e : TypeId} (hat : c.argTypes = #[t]) (hu : P.underlying t = some (.slice e))
  {z : C} (hz : zeroT P e = some [z]) {b off n tot : Nat} (hx : (trO x).ev st.env = .c (.sl b off n tot)) (hn : n ≠ 0) {st' : St} (hw : wrt st m0.length b off tot (rep n [z]) = some st') :
  DoesL P base w0 ι0 m0 w ι st.mem a o (.c .undef) st' := by
 rw [rep_flat] at hw
 unfold wrt guard' at hw
 simp only [Option.bind_eq_some_iff] at hw
 obtain ⟨blk, hl, hw⟩ := hw
 split at hw
 ·rename_i hcd
  obtain ⟨hown, hle⟩ := hcd
  injection hw with hw
  subst hw
  obtain ⟨hb, ht⟩ := live_some hl
  have hp := (ev_VR he x)
  rw [hx] at hp
  obtain ⟨ad, cap, x1, x5, x2, x3, x4⟩ := hp.sl hl
  have x5 := x5 (.inl (by omega))
  subst x5
  obtain ⟨v0, hv0, hr, ⟨i, hi, hiz⟩, hall⟩ := zeroT_some hz
  have hr0 := hr w ι st.mem
  have hlen1 : v0.cells.toList.length = 1 := hr0.1.symm
  obtain ⟨u, hu0⟩ : ∃ u, v0.cells = #[u] := by
   cases hq : v0.cells with
   | mk l =>
    rw [hq] at hlen1
    match l, hlen1 with
    | [u], _ => exact ⟨u, rfl⟩
  rw [hu0] at hr0
  obtain ⟨r0, k1, k2, k3⟩ := hr0.2 0 z rfl
  simp only [List.getElem?_cons_zero, Option.some.injEq] at k1
  subst k1
  have har : AR w ι st.mem (List.replicate n z) (List.replicate n u) := by
   refine ⟨by simp, fun j c hj => ?_⟩
   have hj' : j < n := by have := (List.getElem?_eq_some_iff.1 hj).1; simpa using this
   rw [List.getElem?_replicate_of_lt hj', Option.some.injEq] at hj
   subst hj
   exact ⟨u, List.getElem?_replicate_of_lt hj', k2, k3⟩
  obtain ⟨g1, g2, rc, g3, g4, g5⟩ := h.sim.own b blk hb hown
  have hblt : b < st.mem.length := (List.getElem?_eq_some_iff.1 hb).1
  have hat2 : atA ι b off = ⟨(ι b).1, off, none⟩ := by simp [atA, g2]
  have hle' : off + n ≤ blk.cs.length := by simpa using hle
  have hst := run_storeCells_at (P := P) (ι b).1 off blk.ty (List.replicate n u) 0 rc w g3 (by simp; omega) (by intro v hv; rw [List.eq_of_mem_replicate hv]; exact k3)
  simp only [Nat.add_zero] at hst
  obtain ⟨q, rfl⟩ : ∃ q, n = q + 1 := ⟨n - 1, by omega⟩
  have hrun : (execOp a.eval o).run P w = .ok (.value undef) (w.setRow (ι b).1 (rc.toList.take off ++ (List.replicate (q + 1) u) ++ rc.toList.drop (off + (List.replicate (q + 1) u).length)).toArray) := by
   simp [execOp, ho, resolve, hc, ha, hat, invoke, builtin, x1, hat2, Builtin.clear_, run_underlying hu, hv0, hu0, zeroCells_one, hst, undef]
  obtain ⟨l1, l2⟩ := lay_rel (R := fun c r => CR w ι st.mem c r ∧ r.oneCell' = true) (cs := blk.cs) (new := List.replicate (q + 1) z) (rc := rc.toList) (news := List.replicate (q + 1) u) (off := off) hle (by simpa using g4) har.1
   (fun j c hj => by obtain ⟨r, r1, r2⟩ := g5 j c hj; exact ⟨r, by simpa using r1, r2⟩) har.2
  have hsame : sizeAt (w.setRow (ι b).1 (rc.toList.take off ++ (List.replicate (q + 1) u) ++ rc.toList.drop (off + (List.replicate (q + 1) u).length)).toArray) (ι b).1 = sizeAt w (ι b).1 := by
   unfold sizeAt
   rw [setRow_heap w _ rc _ _ _ g3, g3]
   simp
   omega
  obtain ⟨ι', i1, _, i2, i3⟩ := h.upd (w' := w.setRow (ι b).1 (rc.toList.take off ++ (List.replicate (q + 1) u) ++ rc.toList.drop (off + (List.replicate (q + 1) u).length)).toArray) (m' := st.mem.set b { blk with cs := lay blk.cs off (List.replicate (q + 1) z) }) (b := b) (g := (ι b).1)
   (blk' := { blk with cs := lay blk.cs off (List.replicate (q + 1) z) }) (e' := mx st.esc (refsL (List.replicate (q + 1) z))) (wr' := mx st.wr (m0.length - b))
   (fun j => get_set_one hblt j) rfl rfl rfl (by simp) (fun q hq => by
    by_cases e : q = (ι b).1
    ·exact .inr ⟨blk, hb, hown, e.symm⟩
    ·exact .inl (setRow_other w _ q _ e))
   (.inr ⟨blk, hb, hown, rfl, by simp [l1], fun _ => ⟨rfl, hsame⟩⟩) hown (.inl ⟨rfl, hblt⟩) (setRow_heap w _ rc _ _ _ g3) (by simp only [l1]; simp; omega)
   (fun w'' i' m'' hev j c hj => by
    obtain ⟨r, r1, r2, r3⟩ := l2 j c hj
    exact ⟨r, by rw [← List.getElem?_toArray] at r1; exact r1, r2.evo hev, r3⟩)
   ⟨le_mx_l _ _, by rw [mx_eq]; omega⟩
   (fun c hc => by
    rcases lay_mem hc with hc | hc
    ·exact .inr ⟨blk, hb, hc⟩
    ·exact .inl (refsL_le.1 (le_mx_r st.esc (refsL (List.replicate (q + 1) z))) c hc)) (le_mx_l _ _)
  exact ⟨_, ι', undef, .inl hrun, .c .undef, i3, i2⟩
 ·cases hw
theorem src_some (h : MR base w0 ι0 m0 w ι st.mem st.esc st.wr) (he : EnvR w ι st.mem st.env a) {esz n : Nat} {x : Operand} {new : List C} (hs : src st.env st.mem esz (trO x) = some (n, new)) :
  new.length = n * esz ∧ n ≤ maxLen ∧ ((n = 0 ∧ new = [] ∧ a.eval x = .slice none 0 0) ∨ ∃ ad cap news, a.eval x = .slice (some ad) n cap ∧ AR w ι st.mem new news ∧ ∀ j u, news[j]? = some u → w.cell? (ad.add j) = some u) := by
 have hx := ev_VR he x
 unfold src guard' at hs
 split at hs
 ·rename_i hp
  rw [hp] at hx
  injection hs with hs
  simp only [Prod.mk.injEq] at hs
  obtain ⟨rfl, rfl⟩ := hs
  exact ⟨by simp, by unfold maxLen; omega, .inl ⟨rfl, rfl, hx.nils⟩⟩
 ·rename_i b off k tot hp
  rw [hp] at hx
  simp only [Option.bind_eq_some_iff] at hs
  obtain ⟨blk, hl, hs⟩ := hs
  split at hs
  ·rename_i hle
   injection hs with hs
   simp only [Prod.mk.injEq] at hs
   obtain ⟨rfl, rfl⟩ := hs
   obtain ⟨ad, cap, c1, c4, c2, c3, _⟩ := hx.sl hl
   obtain ⟨news, n1, n2⟩ := h.sim.cells (live_some hl).1 off (k * esz) hle
   refine ⟨by simp; omega, by omega, .inr ⟨_, cap, news, c1, n1, fun j u hj => ?_⟩⟩
   have hk : 0 < k := by
    rcases Nat.eq_zero_or_pos k with h0 | h0
    ·subst h0
     have hlen := n1.1
     simp at hlen
     have := (List.getElem?_eq_some_iff.1 hj).1
     omega
    ·exact h0
   rw [c4 (.inl hk)]
   exact n2 j u hj
  ·cases hs
 ·cases hs
theorem run_append_nil (t ty e : TypeId) (i : TypeInfo) (ht : P.underlying t = some (.slice e)) (hi : P.info? e = some i) (b : Option Addr) (n cap : Nat) (h : n ≤ cap) (w : World) :
  (Builtin.append_ #[t, t] ty #[.slice b n cap, .slice none 0 0]).run P w = .ok (.slice b n cap) w := by
 cases b with
 | none => simp [Builtin.append_, run_underlying ht, sizeOf, typeInfo, hi, Builtin.lenOf, Builtin.firstCells, h]
 | some ad => simp [Builtin.append_, run_underlying ht, sizeOf, typeInfo, hi, Builtin.lenOf, Builtin.firstCells, h, storeCells]
theorem run_append_none (t ty e : TypeId) (i : TypeInfo) (ht : P.underlying t = some (.slice e)) (hi : P.info? e = some i) (b : Option Addr) (n cap : Nat) (h : n ≤ cap) (y : Option Addr) (c : Nat) (w : World) :
  (Builtin.append_ #[t, t] ty #[.slice b n cap, .slice y 0 c]).run P w = .ok (.slice b n cap) w := by
 cases b <;> cases y <;> simp [Builtin.append_, run_underlying ht, sizeOf, typeInfo, hi, Builtin.lenOf, Builtin.firstCells, h, loadCells, loadCellsFrom, storeCells]
theorem does_app (h : MR base w0 ι0 m0 w ι st.mem st.esc st.wr) (he : EnvR w ι st.mem st.env a) {t e : TypeId} {x y : Operand} {c : Call} (ho : o.op = .call c) (hc : c.callee = .builtin .append) (ha : c.args = #[x, y]) (hat : c.argTypes = #[t, t])
  (hu : P.underlying t = some (.slice e)) {i : TypeInfo} (hi : P.info? e = some i) (hz : ∃ z, i.zero = some z ∧ z.cells.size = i.size) {v : V} {st' : St}
  (call : FuncId → List V → List Blk → Option Ret) (hs : stepL call m0.length st (.app (trO x) (trO y) e i.size i.bytes) = some (v, st')) :
  DoesL P base w0 ι0 m0 w ι st.mem a o v st' := by
 obtain ⟨z, hz1, hz2⟩ := hz
 simp only [stepL, guard', Option.bind_eq_some_iff] at hs
 obtain ⟨⟨n, new⟩, hsrc, hs⟩ := hs
 obtain ⟨hnl, hnm, hsr⟩ := src_some h he hsrc
 have hx := ev_VR he x
 have hexec : ∀ r w', (Builtin.append_ #[t, t] o.type #[a.eval x, a.eval y]).run P w = .ok r w' → (execOp a.eval o).run P w = .ok (.value r) w' := by
  intro r w' hr
  simp [execOp, ho, resolve, hc, ha, hat, invoke, builtin, hr]
 split at hs
 ·-- onto nil
  rename_i hp
  rw [hp] at hx
  have hx := hx.nils
  split at hs
  ·rename_i hn0
   injection hs with hs
   simp only [Prod.mk.injEq] at hs
   obtain ⟨rfl, rfl⟩ := hs
   have hn0 : n = 0 := hn0
   subst hn0
   have hr : (Builtin.append_ #[t, t] o.type #[a.eval x, a.eval y]).run P w = .ok (.slice none 0 0) w := by
    rw [hx]
    rcases hsr with ⟨_, _, h3⟩ | ⟨ad, cap, news, h1, h2, h3⟩
    ·rw [h3]; exact run_append_nil t o.type e i hu hi none 0 0 (Nat.le_refl _) w
    ·rw [h1]
     simp [Builtin.append_, run_underlying hu, sizeOf, typeInfo, hi, Builtin.lenOf, Builtin.firstCells, loadCells, loadCellsFrom]
   exact ⟨w, ι, _, .inl (hexec _ _ hr), .c .nils, h, Evo.refl _ _ _⟩
  ·rename_i hn0
   split at hs
   ·rename_i hb
    obtain ⟨hb, hez, _⟩ := hb
    injection hs with hs
    simp only [Prod.mk.injEq] at hs
    obtain ⟨rfl, rfl⟩ := hs
    rcases hsr with ⟨h1, _, _⟩ | ⟨ad, cap, news, h1, h2, h3⟩
    ·exact absurd h1 hn0
    ·have hnews : news.length = n * i.size := by rw [← hnl, h2.1]
     obtain ⟨v', w1, r1, r2, r3, r4, r5⟩ := run_append_own_at (P := P) w w.heap.size t o.type e i z i.size i.bytes hu hi hz1 rfl rfl hz2 hez (.slice none 0 0) 0 [] ⟨by simp, .inl ⟨rfl, rfl⟩⟩ ad n cap news hnews h3 h2.ones (by omega) (by simpa using hb) (Nat.le_refl _)
     simp only [Nat.zero_add, List.nil_append] at r2
     obtain ⟨hlen, r2⟩ := r2
     rcases r2 with ⟨hv', hn'⟩ | ⟨g, cp, cur, hv', hg, hh, hle, hmx, hcs, htk⟩
     ·exact absurd hn' hn0
     ·subst hv'
      have hcurl : news.length ≤ cur.toList.length := by
       rw [hnews]; simp; rw [hcs]; exact Nat.mul_le_mul_right _ hle
      obtain ⟨ι', i1, _, i2, i3⟩ := h.upd (w' := w1) (m' := st.mem ++ [⟨new, e, i.size, true⟩]) (b := st.mem.length) (g := g) (blk' := ⟨new, e, i.size, true⟩) (rc := cur) (e' := mx st.esc (refsL new)) (wr' := st.wr)
       (fun j => get_append_one j) r3.os r3.tape r3.output r3.size (fun q hq => .inl (r3.block q hq (by simp [Value.ownBlock]))) (.inl rfl) rfl (.inr hg) hh (by rw [h2.1]; simpa using hcurl)
       (fun w'' i' m'' hev j c hj => by
        obtain ⟨r, q1, q2, q3⟩ := (h2.evo hev).2 j c hj
        refine ⟨r, ?_, q2, q3⟩
        have hjl : j < n * i.size := by rw [← hnl]; exact (List.getElem?_eq_some_iff.1 hj).1
        rw [← htk, List.getElem?_take, if_pos hjl] at q1
        simpa using q1)
       ⟨Nat.le_refl _, Nat.le_add_right_of_le h.evo.len⟩ (fun c hc => .inl (refsL_le.1 (le_mx_r st.esc (refsL new)) c hc)) (le_mx_l _ _)
      refine ⟨w1, ι', _, .inl (hexec _ _ (by rw [hx, h1]; exact r1)), ?_, i3, i2⟩
      refine .c (.sl rfl (blk := ⟨new, e, i.size, true⟩) (by simp) (by simp [hnl]) ⟨.inl rfl⟩ fun _ => ⟨_, cp, rfl, fun _ => by simp [atA, i1], hle, hmx, fun _ _ => ?_⟩)
      rw [i1]
      simp [sizeAt, hh, hcs]
   ·cases hs
 ·-- onto a slice of its own
  rename_i b off len tot hp
  rw [hp] at hx
  simp only [Option.bind_eq_some_iff] at hs
  obtain ⟨blk, hl, hs⟩ := hs
  split at hs
  ·rename_i hcond
   obtain ⟨hown, hesz, hez, hty, rfl, htot, hbytes, hb0⟩ := hcond
   injection hs with hs
   simp only [Prod.mk.injEq] at hs
   obtain ⟨rfl, rfl⟩ := hs
   obtain ⟨hb, ht⟩ := live_some hl
   obtain ⟨ad0, cap0, x1, x5, x2, x3, x4⟩ := hx.sl hl
   have x5 := x5 (.inr rfl)
   subst x5
   have hcapsz := x4 (by omega) rfl
   obtain ⟨g1, g2, rc, g3, g4, g5⟩ := h.sim.own b blk hb hown
   have hblt : b < st.mem.length := (List.getElem?_eq_some_iff.1 hb).1
   have hat0 : atA ι b 0 = ⟨(ι b).1, 0, none⟩ := by simp [atA, g2]
   have hrcs : rc.size = cap0 * i.size := by
    unfold sizeAt at hcapsz
    rw [g3] at hcapsz
    injection hcapsz with hcapsz
    rw [hcapsz, hesz]
   have hcsl : blk.cs.length = len * i.size := by rw [← ht, htot]
   -- the cells that are there
   have hold : AR w ι st.mem blk.cs (rc.toList.take (len * i.size)) := by
    refine ⟨by rw [hcsl]; simp; omega, fun j c hj => ?_⟩
    obtain ⟨r, q1, q2, q3⟩ := g5 j c hj
    have hjl : j < len * i.size := by rw [← hcsl]; exact (List.getElem?_eq_some_iff.1 hj).1
    exact ⟨r, by rw [List.getElem?_take, if_pos hjl]; simpa using q1, q2, q3⟩
   have hownrow : w.ownsRow base e i.size (a.eval x) len (rc.toList.take (len * i.size)) := by
    refine ⟨by simp; omega, .inr ⟨(ι b).1, cap0, rc, by rw [x1, hat0], g1, by rw [g3, hty], x2, x3, hrcs, rfl⟩⟩
   by_cases hnone : n = 0
   ·-- nothing is added
    subst hnone
    obtain rfl : new = [] := List.eq_nil_of_length_eq_zero (by simpa using hnl)
    have hy0 : ∃ yb yc, a.eval y = .slice yb 0 yc := by
     rcases hsr with ⟨q1, q2, q3⟩ | ⟨ad, cap, news, q1, _, _⟩
     ·exact ⟨_, _, q3⟩
     ·exact ⟨_, _, q1⟩
    obtain ⟨yb, yc, hy0⟩ := hy0
    have hset : st.mem.set b { blk with cs := blk.cs ++ [] } = st.mem := by
     rw [List.append_nil]
     apply List.ext_getElem?
     intro j
     rw [get_set_one hblt]
     split
     ·rename_i e0; subst e0; exact hb.symm
     ·rfl
    have hmr : MR base w0 ι0 m0 w ι (st.mem.set b { blk with cs := blk.cs ++ [] }) (mx st.esc (refsL [])) (mx st.wr (m0.length - b)) := by
     rw [hset]
     have hl := le_mx_l st.wr (m0.length - b)
     refine ⟨h.sim, h.evo, h.fr, h.fresh, ⟨fun j hj => h.bel.1 j (by omega), fun g hg hn => h.bel.2 g hg fun j blk hj => hn j blk (by omega)⟩, h.refs0, fun j blk0 c q1 q2 => ?_⟩
     have := le_mx_l st.esc (refsL [])
     exact (h.esc j blk0 c q1 q2).imp (fun h => by omega) id
    refine ⟨w, ι, a.eval x, .inl (hexec _ _ ?_), ?_, hmr, by show Evo w ι st.mem w ι (st.mem.set b { blk with cs := blk.cs ++ [] }); rw [hset]; exact Evo.refl _ _ _⟩
    ·rw [hy0, x1]
     exact run_append_none t o.type e i hu hi _ len cap0 x2 yb yc w
    ·show VR w ι (st.mem.set b { blk with cs := blk.cs ++ [] }) _ _
     rw [hset]
     simpa using hx
   ·rcases hsr with ⟨q3, _, _⟩ | ⟨ad, cap, news, q1, q2, q3⟩
    ·exact absurd q3 hnone
    ·have hnews : news.length = n * i.size := by rw [← hnl, q2.1]
     have h63 : len + n ≤ maxLen := by
      have := Nat.mul_le_mul_left (len + n) hb0
      unfold maxLen
      omega
     obtain ⟨v', w1, r1, r2, r3, r4, r5⟩ := run_append_own_at (P := P) w base t o.type e i z i.size i.bytes hu hi hz1 rfl rfl hz2 hez (a.eval x) len _ hownrow ad n cap news hnews q3 q2.ones h63 hbytes h.sim.le
     obtain ⟨hlen, r2⟩ := r2
     rcases r2 with ⟨hv', hn'⟩ | ⟨g, cp, cur, hv', hg, hh, hle, hmx, hcs, htk⟩
     ·exfalso
      have := (r4.1 hv').1
      rw [x1] at this
      cases this
     ·have hob : (a.eval x).ownBlock = some (ι b).1 := by rw [x1, hat0]; rfl
      rw [hob] at r3 r5
      rw [hv'] at r5
      simp only [Value.ownBlock, Option.some.injEq] at r5
      have hlt : (ι b).1 < w.heap.size := h.sim.block_lt hb ⟨.inl ‹_›⟩ (.inl ‹_›)
      have hall : AR w ι st.mem (blk.cs ++ new) (rc.toList.take (len * i.size) ++ news) := hold.append q2
      have s1 : blk.cs.length = (blk.cs ++ new).length → g = (ι b).1 ∧ sizeAt w1 g = sizeAt w g := fun e0 => by
       exfalso
       simp only [List.length_append, hnl] at e0
       have : 0 < n * i.size := Nat.mul_pos (by omega) hez
       omega
      have s2 : g = (ι b).1 ∧ b < st.mem.length ∨ w.heap.size ≤ g := by
       rcases r5 with r5 | r5
       ·exact .inl ⟨r5, hblt⟩
       ·exact .inr (by omega)
      have s3 : (blk.cs ++ new).length ≤ cur.size := by
       simp only [List.length_append, hcsl, hnl, hcs]
       rw [← Nat.add_mul]
       exact Nat.mul_le_mul_right _ hle
      obtain ⟨ι', i1, _, i2, i3⟩ := h.upd (w' := w1) (m' := st.mem.set b { blk with cs := blk.cs ++ new }) (b := b) (g := g) (blk' := { blk with cs := blk.cs ++ new }) (rc := cur) (e' := mx st.esc (refsL new)) (wr' := mx st.wr (m0.length - b))
       (fun j => get_set_one hblt j) r3.os r3.tape r3.output r3.size (fun q hq => by
        by_cases e0 : q = (ι b).1
        ·exact .inr ⟨blk, hb, hown, e0.symm⟩
        ·exact .inl (r3.block q hq (by simpa using e0)))
       (.inr ⟨blk, hb, hown, rfl, by simp, s1⟩) hown s2 (by rw [hh, hty]) s3
       (fun w'' i' m'' hev j c hj => by
        obtain ⟨r, p1, p2, p3⟩ := (hall.evo hev).2 j c hj
        refine ⟨r, ?_, p2, p3⟩
        have hjl : j < (len + n) * i.size := by
         have := (List.getElem?_eq_some_iff.1 hj).1
         simp [hcsl, hnl] at this
         rw [Nat.add_mul]; exact this
        rw [← htk, List.getElem?_take, if_pos hjl] at p1
        simpa using p1)
       ⟨le_mx_l _ _, by rw [mx_eq]; omega⟩
       (fun c hc => by
        simp only [List.mem_append] at hc
        rcases hc with hc | hc
        ·exact .inr ⟨blk, hb, hc⟩
        ·left
         have := refsL_le.1 (le_mx_r st.esc (refsL new)) c hc
         omega) (le_mx_l _ _)
      refine ⟨w1, ι', v', .inl (hexec _ _ (by rw [q1]; exact r1)), ?_, i3, i2⟩
      subst hv'
      refine .c (.sl rfl (blk := { blk with cs := blk.cs ++ new }) (by simp [get_set_one hblt]) (by simp [hnl, ht]) ⟨.inl ‹_›⟩ fun _ => ⟨_, cp, rfl, fun _ => by simp [atA, i1], hle, hmx, fun _ _ => ?_⟩)
      rw [i1]
      simp [sizeAt, hh, hcs, hesz]
  ·cases hs
 ·cases hs
end
end Go.Proofs.YtfbeplbcaanimaaGreat
set_option linter.unusedVariables false
set_option linter.unusedSimpArgs false
namespace Go.Proofs.YtfbeplbcaanimaaGreat
open Go.RowKit
section
variable {P : Program} {base : Nat} {w0 w w' : World} {ι0 ι ι' : Nat → Nat × Nat} {m0 m m' : List Blk} {a : Act} {o : Oper} {st : St} {e : Nat} {wr : Nat}
def C.real : C → Value
 | .bool b => .bool b
 | .int k n => .int k n
 | .str s => .string s
 | .nilp => .pointer none
 | .nils => .slice none 0 0
 | .fn f => .func (.func f) #[] #[]
 | .clo f ns => .func (.func f) #[] (ns.map fun p => Value.int p.1 p.2).toArray
 | _ => Go.undef
def V.real1 : V → Value
 | .c x => x.real
 | .agg cs => .agg (cs.map (·.real)).toArray
 | .tup _ => Go.undef
def V.real : V → Value
 | .c x => x.real
 | .agg cs => .agg (cs.map (·.real)).toArray
 | .tup vs => .tuple (vs.map V.real1).toArray
theorem C.hard_CR {c : C} (h : c.hard = true) : CR w ι m c c.real := by
 cases c <;> first | (cases h; done) | constructor
theorem C.hard_one {c : C} (h : c.hard = true) : c.real.oneCell' = true := by
 cases c <;> first | (cases h; done) | rfl
theorem C.hard_eq {c : C} (h : c.hard = true) {r : Value} (hr : CR w ι m c r) : r = c.real := by
 cases hr <;> first | (cases h; done) | rfl
theorem L.hard_AR {cs : List C} (h : cs.all (·.hard) = true) : AR w ι m cs (cs.map (·.real)) := by
 refine ⟨by simp, fun j c hj => ?_⟩
 have hc : c.hard = true := List.all_eq_true.1 h c (List.mem_of_getElem? hj)
 exact ⟨c.real, by simp [hj], C.hard_CR hc, C.hard_one hc⟩
theorem L.hard_eq {cs : List C} (h : cs.all (·.hard) = true) {rs : List Value} (hr : AR w ι m cs rs) : rs = cs.map (·.real) := by
 apply List.ext_getElem?
 intro j
 rcases Nat.lt_or_ge j cs.length with hj | hj
 ·obtain ⟨r, h1, h2, _⟩ := hr.2 j cs[j] (by simp [hj])
  have hc : cs[j].hard = true := List.all_eq_true.1 h _ (by simp)
  rw [h1, C.hard_eq hc h2]
  simp [hj]
 ·rw [List.getElem?_eq_none (by rw [← hr.1]; exact hj), List.getElem?_eq_none (by simpa using hj)]
theorem V.hard_WR {v : V} (h : v.hard = true) (hn : ∀ vs, v ≠ .tup vs) : WR w ι m v v.real1 := by
 cases v with
 | c x => exact .c (C.hard_CR h)
 | agg cs => exact .agg (by simpa using L.hard_AR h)
 | tup vs => exact absurd rfl (hn vs)
theorem V.hard1_eq {v : V} (h : v.hard = true) {r : Value} (hr : WR w ι m v r) : r = v.real1 := by
 cases hr with
 | c hr => exact C.hard_eq h hr
 | agg hr =>
  have := L.hard_eq h hr
  simp only [V.real1, ← this]
theorem V.tup_hard {vs : List V} (h : (V.tup vs).hard = true) : ∀ v ∈ vs, v.hard = true ∧ ∀ us, v ≠ .tup us := by
 intro v hv
 have := List.all_eq_true.1 h v hv
 cases v with
 | c x => exact ⟨this, by simp⟩
 | agg cs => exact ⟨this, by simp⟩
 | tup us => simp at this
theorem V.hard_VR {v : V} (h : v.hard = true) : VR w ι m v v.real := by
 cases v with
 | c x => exact .c (C.hard_CR h)
 | agg cs => exact .agg (by simpa using L.hard_AR h)
 | tup vs =>
  refine .tup (by simp) fun j v hj => ?_
  obtain ⟨h1, h2⟩ := V.tup_hard h v (List.mem_of_getElem? hj)
  exact ⟨v.real1, by simp [hj], V.hard_WR h1 h2⟩
theorem V.hard_eq {v : V} (h : v.hard = true) {r : Value} (hr : VR w ι m v r) : r = v.real := by
 cases hr with
 | one hr =>
  have := V.hard1_eq h hr
  cases v with
  | c x => exact this
  | agg cs => exact this
  | tup vs => cases hr
 | @tup vs rs hl hh =>
  simp only [V.real]
  congr 1
  apply Array.ext_getElem?
  intro j
  rcases Nat.lt_or_ge j vs.length with hj | hj
  ·obtain ⟨r, h1, h2⟩ := hh j vs[j] (by simp [hj])
   rw [h1, V.hard1_eq (V.tup_hard h _ (by simp)).1 h2]
   simp [hj]
  ·rw [Array.getElem?_eq_none (by omega), Array.getElem?_eq_none (by simpa using hj)]
theorem CR.take {k : Nat} {c : C} {r : Value} (h : CR w ι m c r) (hk : c.refs ≤ k) : CR w ι (m.take k) c r := by
 cases h with
 | junk => exact .junk _
 | undef => exact .undef
 | bool => exact .bool _
 | int => exact .int _ _
 | str => exact .str _
 | nilp => exact .nilp
 | nils => exact .nils
 | fn => exact .fn _
 | clo => exact .clo _ _
 | flat _ hv => exact .flat _ hv
 | ptr h0 hb ht ha hv => exact .ptr h0 (by rw [List.getElem?_take, if_pos (by simp only [C.refs] at hk; omega)]; exact hb) ht ha hv
 | clp f h0 hb ht ha hv => exact .clp f h0 (by rw [List.getElem?_take, if_pos (by simp only [C.refs] at hk; omega)]; exact hb) ht ha hv
 | sl h0 hb ht ha hv => exact .sl h0 (by rw [List.getElem?_take, if_pos (by simp only [C.refs] at hk; omega)]; exact hb) ht ha hv
theorem AR.take {k : Nat} {cs : List C} {rs : List Value} (h : AR w ι m cs rs) (hk : refsL cs ≤ k) : AR w ι (m.take k) cs rs :=
 ⟨h.1, fun j c hj => let ⟨r, h1, h2, h3⟩ := h.2 j c hj; ⟨r, h1, h2.take (refsL_le.1 hk c (List.mem_of_getElem? hj)), h3⟩⟩
theorem WR.take {k : Nat} {v : V} {r : Value} (h : WR w ι m v r) (hk : v.refs ≤ k) : WR w ι (m.take k) v r := by
 cases h with
 | c h => exact .c (h.take hk)
 | agg h => exact .agg (h.take hk)
theorem refsAll_le {vs : List V} {n : Nat} : V.refsAll vs ≤ n ↔ ∀ v ∈ vs, v.refs ≤ n := by
 induction vs with
 | nil => simp [V.refsAll]
 | cons v r ih => simp [V.refsAll, mx_le, ih]
theorem VR.take {k : Nat} {v : V} {r : Value} (h : VR w ι m v r) (hk : v.refs ≤ k) : VR w ι (m.take k) v r := by
 cases h with
 | one h => exact .one (h.take hk)
 | tup hl hh => exact .tup hl fun j v hj => let ⟨r, h1, h2⟩ := hh j v hj; ⟨r, h1, h2.take (refsAll_le.1 hk v (List.mem_of_getElem? hj))⟩
theorem Sim.take {k : Nat} (s : Sim base w ι m) (hk : ∀ (b : Nat) (blk : Blk) (c : C), b < k → m[b]? = some blk → c ∈ blk.cs → c.refs ≤ k) : Sim base w ι (m.take k) := by
 have hget : ∀ b blk, (m.take k)[b]? = some blk → b < k ∧ m[b]? = some blk := by
  intro b blk hb
  rw [List.getElem?_take] at hb
  split at hb
  ·exact ⟨by assumption, hb⟩
  ·cases hb
 refine ⟨s.le, fun b blk hb ho => ?_, fun b blk hb ho hz => ?_, fun b blk hb ho hz => s.non b blk (hget b blk hb).2 ho hz, fun b b' blk blk' hb hb' ho ho' he => s.inj b b' blk blk' (hget b blk hb).2 (hget b' blk' hb').2 ho ho' he⟩
 ·obtain ⟨hlt, hb'⟩ := hget b blk hb
  obtain ⟨h1, h2, rc, h3, h4, h5⟩ := s.own b blk hb' ho
  exact ⟨h1, h2, rc, h3, h4, fun j c hj => let ⟨r, g1, g2, g3⟩ := h5 j c hj; ⟨r, g1, g2.take (hk b blk c hlt hb' (List.mem_of_getElem? hj)), g3⟩⟩
 ·obtain ⟨hlt, hb'⟩ := hget b blk hb
  obtain ⟨h1, h2⟩ := s.ro b blk hb' ho hz
  exact ⟨h1, fun j c hj => let ⟨r, g1, g2, g3⟩ := h2 j c hj; ⟨r, g1, g2.take (hk b blk c hlt hb' (List.mem_of_getElem? hj)), g3⟩⟩
theorem MR.take {k : Nat} (h : MR base w0 ι0 m0 w ι m e wr) (hk0 : m0.length ≤ k) (hk : ∀ (b : Nat) (blk : Blk) (c : C), b < k → m[b]? = some blk → c ∈ blk.cs → c.refs ≤ k) : MR base w0 ι0 m0 w ι (m.take k) e wr where
 sim := h.sim.take hk
 evo b blk hb := by
  obtain ⟨blk', h1, h2⟩ := h.evo b blk hb
  have := (List.getElem?_eq_some_iff.1 hb).1
  exact ⟨blk', by rw [List.getElem?_take, if_pos (by omega)]; exact h1, h2⟩
 fr := h.fr
 fresh b blk hb ho hl := by
  rw [List.getElem?_take] at hb
  split at hb
  ·exact h.fresh b blk hb ho hl
  ·cases hb
 bel := ⟨fun b hb => by rw [List.getElem?_take, if_pos (by omega)]; exact h.bel.1 b hb, h.bel.2⟩
 refs0 := h.refs0
 esc b blk c hb hc := by
  rw [List.getElem?_take] at hb
  split at hb
  ·exact h.esc b blk c hb hc
  ·cases hb
theorem envRefs_get {env : List (Nat × V)} {n : Nat} (h : envRefs env ≤ n) (t : Nat) : (get env t).refs ≤ n := by
 induction env with
 | nil => simp [get, V.refs, C.refs]
 | cons p r ih =>
  obtain ⟨j, v⟩ := p
  simp only [envRefs, mx_le] at h
  simp only [get]
  split
  ·exact h.1
  ·exact ih h.2
theorem get_map (env : List (Nat × V)) (ks : List Nat) (t : Nat) : get (ks.map fun k => (k, get env k)) t = if t ∈ ks then get env t else .c .junk := by
 induction ks with
 | nil => simp [get]
 | cons k r ih =>
  simp only [List.map_cons, get, List.mem_cons]
  by_cases h : k = t
  ·subst h; simp
  ·simp only [if_neg h, ih]
   have : ¬ t = k := fun e => h e.symm
   simp [this]
structure SR (P : Program) (base nt : Nat) (w0 : World) (ι0 : Nat → Nat × Nat) (m0 : List Blk) (w : World) (ι : Nat → Nat × Nat) (st : St) (a : Act) : Prop where
 mem : MR base w0 ι0 m0 w ι st.mem st.esc st.wr
 env : EnvR w ι st.mem st.env a
 defers : a.defers = []
 size : a.tmps.size = nt
theorem SR.trim {nt : Nat} (h : SR P base nt w0 ι0 m0 w ι st a) (ks : Option (List Nat)) : SR P base nt w0 ι0 m0 w ι (trim m0.length ks st) a := by
 cases ks with
 | none => exact h
 | some ks =>
  refine ⟨h.mem.take (le_mx_l _ _) fun b blk c hb hm hc => ?_, fun t => ?_, h.defers, h.size⟩
  ·have := h.mem.escM hm hc
   rw [mx_eq, mx_eq]
   omega
  ·show VR w ι (st.mem.take (mx m0.length (mx st.esc (envRefs (ks.map fun k => (k, get st.env k)))))) (get (ks.map fun k => (k, get st.env k)) t) _
   have h1 : envRefs (ks.map fun k => (k, get st.env k)) ≤ mx m0.length (mx st.esc (envRefs (ks.map fun k => (k, get st.env k)))) := Nat.le_trans (le_mx_r _ _) (le_mx_r _ _)
   refine VR.take ?_ (envRefs_get h1 t)
   rw [get_map]
   split
   ·exact h.env t
   ·exact .c (.junk _)
end
end Go.Proofs.YtfbeplbcaanimaaGreat
