/-
  The abstract machine is sound: comparisons, slices, literals of structs, and all quiet operations together.
-/
import Derived.Test.YtkoloapgeilbdaaQ2
import Derived.Laws.StructEq
import Derived.ChangeKeysEq
set_option linter.unusedVariables false
set_option linter.unusedSimpArgs false
namespace Go.Proofs.Ytkoloapgeilbdaa
open Go.RowKit

section
variable {P : Program} {w : World} {ι : Nat → Nat × Nat} {m : List Blk} {base : Nat} {env : List (Nat × V)} {a : Act} {o : Oper}

theorem eqL_len : ∀ {ks : List (Option IntKind)} {l r : List C} {b : Bool}, eqL ks l r = some b → l.length = ks.length ∧ r.length = ks.length
  | [], [], [], b, h => ⟨rfl, rfl⟩
  | k :: ks, a :: l, c :: r, b, h => by
    simp only [eqL, Option.bind_eq_some_iff] at h
    obtain ⟨t, _, u, hu, _⟩ := h
    have := eqL_len hu
    simp [this.1, this.2]
  | [], [], _ :: _, b, h => by cases h
  | [], _ :: _, _, b, h => by cases h
  | _ :: _, [], _, b, h => by cases h
  | _ :: _, _ :: _, [], b, h => by cases h
theorem eqL_app : ∀ {k1 k2 : List (Option IntKind)} {l r : List C} {b : Bool}, eqL (k1 ++ k2) l r = some b → ∃ b1 b2, eqL k1 (l.take k1.length) (r.take k1.length) = some b1 ∧ eqL k2 (l.drop k1.length) (r.drop k1.length) = some b2 ∧ b = (b1 && b2)
  | [], k2, l, r, b, h => ⟨true, b, by simp [eqL], by simpa using h, by simp⟩
  | k :: k1, k2, a :: l, c :: r, b, h => by
    simp only [List.cons_append, eqL, Option.bind_eq_some_iff, Option.some.injEq] at h
    obtain ⟨t, ht, u, hu, rfl⟩ := h
    obtain ⟨b1, b2, h1, h2, rfl⟩ := eqL_app hu
    exact ⟨t && b1, b2, by simp [eqL, ht, h1], by simpa using h2, by simp [Bool.and_assoc]⟩
  | _ :: _, _, [], _, b, h => by cases h
  | _ :: _, _, _ :: _, [], b, h => by cases h

theorem flatT_size {d : Nat} {t : TypeId} {ks : List (Option IntKind)} (hf : flatT P d t = some ks) : szT P t = some ks.length := by
  cases d with
  | zero => cases hf
  | succ d =>
    unfold flatT at hf
    split at hf
    · split at hf
      · injection hf with hf; subst hf; assumption
      · cases hf
    · split at hf
      · injection hf with hf; subst hf; assumption
      · cases hf
    · split at hf
      · cases hf
      · simp only [Option.bind_eq_some_iff] at hf
        obtain ⟨k, _, hf⟩ := hf
        split at hf
        · injection hf with hf; subst hf; assumption
        · cases hf
    · simp only [Option.bind_eq_some_iff] at hf
      obtain ⟨k, _, hf⟩ := hf
      split at hf
      · rename_i h
        injection hf with hf; subst hf
        rw [h.2]
        simp
      · cases hf
    · cases hf

/-- The cells of a flat type as a value of it. -/
theorem valOf_flat {d : Nat} {t : TypeId} {ks : List (Option IntKind)} (hf : flatT P d t = some ks) {rs : List Value} (hl : rs.length = ks.length) : ∃ v, valOf P t rs = some v := by
  cases d with
  | zero => cases hf
  | succ d =>
    unfold flatT at hf
    unfold valOf aggT
    split at hf
    · rename_i hu
      split at hf
      · injection hf with hf
        subst hf
        match rs, hl with
        | [r], _ => exact ⟨r, by simp [hu]⟩
      · cases hf
    · rename_i hu
      split at hf
      · injection hf with hf
        subst hf
        match rs, hl with
        | [r], _ => exact ⟨r, by simp [hu]⟩
      · cases hf
    · rename_i hu
      exact ⟨.agg rs.toArray, by simp [hu]⟩
    · rename_i hu
      exact ⟨.agg rs.toArray, by simp [hu]⟩
    · cases hf

theorem AR.drop {cs : List C} {rs : List Value} (h : AR w ι m cs rs) (off : Nat) : AR w ι m (cs.drop off) (rs.drop off) := by
  refine ⟨by simp [h.1], fun j c hj => ?_⟩
  rw [List.getElem?_drop] at hj ⊢
  exact h.2 _ c hj

theorem flatT_one {t : TypeId} {k : Option IntKind} {rs qs : List Value} {cs ds : List C} {b : Bool} (hr : AR w ι m cs rs) (hq : AR w ι m ds qs) (he : eqL [k] cs ds = some b)
    (hu : (k = none ∧ P.underlying t = some .bool) ∨ (∃ kd, k = some kd ∧ P.underlying t = some (.int kd))) {x y : Value} (hx : valOf P t rs = some x) (hy : valOf P t qs = some y) (D : Nat) (w' : World) : (Op.equalIn (D + 1) t x y).run P w' = .ok b w' := by
  have ha : aggT P t = some false := by
    unfold aggT
    rcases hu with ⟨_, hu⟩ | ⟨k, _, hu⟩ <;> simp [hu]
  obtain ⟨hcs, hds⟩ := eqL_len he
  match cs, ds, hcs, hds with
  | [c], [e], _, _ =>
    simp only [eqL, Option.bind_some, Option.bind_eq_some_iff, Option.some.injEq, Bool.and_true] at he
    obtain ⟨t0, h0, rfl⟩ := he
    obtain ⟨r, hr0, hr1, _⟩ := hr.2 0 c rfl
    obtain ⟨q, hq0, hq1, _⟩ := hq.2 0 e rfl
    have hrl : rs.length = 1 := hr.1.symm
    have hql : qs.length = 1 := hq.1.symm
    match rs, qs, hrl, hql with
    | [r'], [q'], _, _ =>
      simp only [List.getElem?_cons_zero, Option.some.injEq] at hr0 hq0
      subst hr0; subst hq0
      simp only [valOf, ha, Option.some.injEq] at hx hy
      subst hx; subst hy
      rcases hu with ⟨rfl, hu⟩ | ⟨kd, rfl, hu⟩
      · cases hr1 <;> simp only [eqC, reduceCtorEq] at h0
        cases hq1 <;> simp only [eqC, reduceCtorEq] at h0
        injection h0 with h0
        subst h0
        exact run_equalIn_bool' w' D t _ _ hu
      · cases hr1 <;> simp only [eqC, reduceCtorEq] at h0
        cases hq1 <;> simp only [eqC, reduceCtorEq] at h0
        split at h0
        · rename_i hk
          obtain ⟨rfl, rfl⟩ := hk
          injection h0 with h0
          subst h0
          exact run_equalIn_int w' D t _ _ _ _ hu
        · cases h0

theorem run_equalIn_flat : ∀ (d : Nat) (t : TypeId) (ks : List (Option IntKind)), flatT P d t = some ks → ∀ (D : Nat), d ≤ D → ∀ (cs ds : List C) (rs qs : List Value) (b : Bool), AR w ι m cs rs → AR w ι m ds qs → eqL ks cs ds = some b →
    ∀ x y, valOf P t rs = some x → valOf P t qs = some y → ∀ w', (Op.equalIn D t x y).run P w' = .ok b w' := by
  intro d
  induction d with
  | zero => intro t n h; cases h
  | succ d ih =>
    intro t ks hf D hD cs ds rs qs b hr hq he x y hx hy w'
    obtain ⟨D, rfl⟩ : ∃ k, D = k + 1 := ⟨D - 1, by omega⟩
    -- one part
    have one : ∀ (e : TypeId) (k1 : List (Option IntKind)), flatT P d e = some k1 → ∀ (cs ds : List C) (rs qs : List Value) (off : Nat) (b1 : Bool), AR w ι m cs rs → AR w ι m ds qs → eqL k1 ((cs.drop off).take k1.length) ((ds.drop off).take k1.length) = some b1 →
        ∃ u v, (part e rs.toArray off).run P w' = .ok u w' ∧ (part e qs.toArray off).run P w' = .ok v w' ∧ (Op.equalIn D e u v).run P w' = .ok b1 w' := by
      intro e k1 hk cs ds rs qs off b1 hr hq he
      obtain ⟨h1, h2⟩ := eqL_len he
      have l1 : ((rs.drop off).take k1.length).length = k1.length := by rw [← (hr.cut off k1.length).1]; exact h1
      have l2 : ((qs.drop off).take k1.length).length = k1.length := by rw [← (hq.cut off k1.length).1]; exact h2
      obtain ⟨u, hu⟩ := valOf_flat hk l1
      obtain ⟨v, hv⟩ := valOf_flat hk l2
      have hlen : ∀ (l : List Value), ((l.drop off).take k1.length).length = k1.length → 0 < k1.length → off + k1.length ≤ l.length := by
        intro l hl hp
        simp at hl
        omega
      rcases Nat.eq_zero_or_pos k1.length with h0 | h0
      · -- no cell at all: such a type has none
        have hz := flatT_size hk
        rw [h0] at hz l1 l2 hu hv
        have fin : ∀ (l : List Value) (z : Value), valOf P e ((l.drop off).take 0) = some z → (part e l.toArray off).run P w' = .ok z w' := by
          intro l z hz'
          unfold valOf at hz'
          split at hz'
          · rename_i ha
            injection hz' with hz'; subst hz'
            simp only [part, Sem.run_bind, run_isAgg ha, Result.andThen_ok, if_true, run_sizeOf hz, Sem.run_pure]
            congr 2
            apply Array.ext'
            simp [List.extract_eq_take_drop]
          · rename_i ha hq
            simp at hq
          · cases hz'
        exact ⟨u, v, fin rs u hu, fin qs v hv, ih e k1 hk D (by omega) _ _ _ _ b1 (hr.cut off k1.length) (hq.cut off k1.length) he u v (by rw [h0]; exact hu) (by rw [h0]; exact hv) w'⟩
      · exact ⟨u, v, run_part (flatT_size hk) (hlen rs l1 h0) hu w', run_part (flatT_size hk) (hlen qs l2 h0) hv w', ih e k1 hk D (by omega) _ _ _ _ b1 (hr.cut off k1.length) (hq.cut off k1.length) he u v hu hv w'⟩
    unfold flatT at hf
    split at hf
    · rename_i hu
      split at hf
      · injection hf with hf; subst hf
        exact flatT_one hr hq he (.inl ⟨rfl, hu⟩) hx hy D w'
      · cases hf
    · rename_i hu
      split at hf
      · injection hf with hf; subst hf
        exact flatT_one hr hq he (.inr ⟨_, rfl, hu⟩) hx hy D w'
      · cases hf
    · rename_i fields hu
      split at hf
      · cases hf
      · rename_i hsi
        simp only [Option.bind_eq_some_iff] at hf
        obtain ⟨ks', hfs, hf⟩ := hf
        split at hf
        · injection hf with hf
          subst hf
          have ha : aggT P t = some true := by simp [aggT, hu]
          simp only [valOf, ha, Option.some.injEq] at hx hy
          subst hx; subst hy
          have hfo : P.fieldsOf t = fields := by simp [Program.fieldsOf, hu]
          rw [run_equalIn_struct (P := P) w' D t _ _ (by rw [hfo]; exact hu) (by simpa using hsi), hfo]
          have go : ∀ (fs : List Field) (off : Nat) (ks : List (Option IntKind)) (b : Bool), flatFs P (flatT P d) fs off = some ks → eqL ks (cs.drop off) (ds.drop off) = some b → (Op.eqFields D rs.toArray qs.toArray fs).run P w' = .ok b w' := by
            intro fs
            induction fs with
            | nil =>
              intro off ks b h1 h2
              simp only [flatFs, Option.some.injEq] at h1
              subst h1
              obtain ⟨e1, e2⟩ := eqL_len h2
              have : cs.drop off = [] := List.eq_nil_of_length_eq_zero e1
              have h3 : ds.drop off = [] := List.eq_nil_of_length_eq_zero e2
              rw [this, h3] at h2
              simp only [eqL, Option.some.injEq] at h2
              subst h2
              simp [Op.eqFields]
            | cons f fs ihf =>
              intro off ks b h1 h2
              simp only [flatFs] at h1
              split at h1
              · rename_i hn
                simp only [Option.bind_eq_some_iff] at h1
                obtain ⟨k1, hk1, h1⟩ := h1
                split at h1
                · rename_i hsz
                  simp only [Option.bind_eq_some_iff, Option.some.injEq] at h1
                  obtain ⟨k2, hk2, rfl⟩ := h1
                  obtain ⟨b1, b2, g1, g2, rfl⟩ := eqL_app h2
                  obtain ⟨u, v, p1, p2, p3⟩ := one f.type k1 hk1 cs ds rs qs off b1 hr hq g1
                  have hrest := ihf (off + k1.length) k2 b2 hk2 (by simpa [List.drop_drop] using g2)
                  have hn1 := hn.1
                  have hn2 := hn.2
                  rw [← hn2] at p1 p2
                  simp only [Op.eqFields, if_pos hn1, Sem.run_bind, p1, p2, p3, Result.andThen_ok]
                  cases b1
                  · simp
                  · simpa using hrest
                · cases h1
              · cases h1
          exact go fields.toList 0 ks' b hfs (by simpa using he)
        · cases hf
    · rename_i len elem hu
      simp only [Option.bind_eq_some_iff] at hf
      obtain ⟨k1, hk1, hf⟩ := hf
      split at hf
      · rename_i hsz
        injection hf with hf
        subst hf
        have ha : aggT P t = some true := by simp [aggT, hu]
        simp only [valOf, ha, Option.some.injEq] at hx hy
        subst hx; subst hy
        obtain ⟨i, hi⟩ : ∃ i, P.info? elem = some i := by
          have := hsz.1
          unfold szT at this
          cases h : P.info? elem with
          | none => rw [h] at this; cases this
          | some i => exact ⟨i, rfl⟩
        have hcell : P.cellsOf elem = k1.length := by
          have := hsz.1
          unfold szT at this
          rw [hi] at this
          simp only [Option.map_some, Option.some.injEq] at this
          simp [Program.cellsOf, hi, this]
        rw [run_equalIn_array (P := P) w' D _ _ hu hi, hcell]
        have go : ∀ (n j : Nat) (b : Bool), eqL (List.replicate n k1).flatten (cs.drop (j * k1.length)) (ds.drop (j * k1.length)) = some b → (Op.eqItems D elem k1.length rs.toArray qs.toArray (List.range' j n)).run P w' = .ok b w' := by
          intro n
          induction n with
          | zero =>
            intro j b h2
            obtain ⟨e1, e2⟩ := eqL_len h2
            simp only [List.replicate_zero, List.flatten_nil, List.length_nil] at e1 e2 h2
            have : cs.drop (j * k1.length) = [] := List.eq_nil_of_length_eq_zero e1
            have h3 : ds.drop (j * k1.length) = [] := List.eq_nil_of_length_eq_zero e2
            rw [this, h3] at h2
            simp only [eqL, Option.some.injEq] at h2
            subst h2
            simp [Op.eqItems]
          | succ n ihn =>
            intro j b h2
            rw [List.replicate_succ, List.flatten_cons] at h2
            obtain ⟨b1, b2, g1, g2, rfl⟩ := eqL_app h2
            obtain ⟨u, v, p1, p2, p3⟩ := one elem k1 hk1 cs ds rs qs (j * k1.length) b1 hr hq g1
            have hrest := ihn (j + 1) b2 (by rw [Nat.succ_mul]; simpa [List.drop_drop] using g2)
            rw [List.range'_succ]
            simp only [Op.eqItems, Sem.run_bind, p1, p2, p3, Result.andThen_ok]
            cases b1
            · simp
            · simpa using hrest
        have := go len 0 b (by simpa using he)
        rwa [← List.range_eq_range'] at this
      · cases hf
    · cases hf

theorem does_eqa (he : EnvR w ι m env a) {op : BinOp} {t u : TypeId} {x y : Operand} (ho : o.op = .binOp op t x y u) (hg : ¬ P.eqGuardType P.depth t = true) {ks : List (Option IntKind)} (hks : flatT P 20 t = some ks) (ha : aggT P t = some true) {i : I}
    (hi : (op = .eql ∧ i = .eqa false ks (trO x) (trO y)) ∨ (op = .neq ∧ i = .eqa true ks (trO x) (trO y))) {v : V} (hs : stepQ env m i = some v) : Does P w ι m a o v := by
  have hx := ev_VR he x
  have hy := ev_VR he y
  have key : ∀ ne, stepQ env m (.eqa ne ks (trO x) (trO y)) = some v → ∃ rs qs t', a.eval x = .agg rs ∧ a.eval y = .agg qs ∧ v = .c (.bool (if ne then !t' else t')) ∧ ∀ w', (Op.equalIn 10000 t (.agg rs) (.agg qs)).run P w' = .ok t' w' := by
    intro ne hs
    simp only [stepQ, guard'] at hs
    split at hs
    · rename_i cs ds hp hq
      rw [hp] at hx
      rw [hq] at hy
      simp only [Option.bind_eq_some_iff, Option.some.injEq] at hs
      obtain ⟨t', ht', rfl⟩ := hs
      obtain ⟨rs, h1, h2⟩ := hx.of_agg
      obtain ⟨qs, g1, g2⟩ := hy.of_agg
      exact ⟨rs, qs, t', h1, g1, rfl, run_equalIn_flat 20 t ks hks 10000 (by omega) cs ds rs.toList qs.toList t' h2 g2 ht' _ _ (by simp [valOf, ha]) (by simp [valOf, ha])⟩
    · cases hs
  have hg' : P.eqGuardType P.depth t = false := by simpa using hg
  rcases hi with ⟨rfl, rfl⟩ | ⟨rfl, rfl⟩
  · obtain ⟨rs, qs, t', h1, h2, rfl, h3⟩ := key false hs
    exact ⟨_, .c (.bool _), fun w' hw => by simp [execOp, ho, h1, h2, run_eqGuard_agg (P := P) w' .eql t x y rs qs hg', run_eql_struct, h3 w']⟩
  · obtain ⟨rs, qs, t', h1, h2, rfl, h3⟩ := key true hs
    exact ⟨_, .c (.bool _), fun w' hw => by simp [execOp, ho, h1, h2, run_eqGuard_agg (P := P) w' .neq t x y rs qs hg', run_neq_struct, h3 w']⟩

theorem does_bin (he : EnvR w ι m env a) {op : BinOp} {t u : TypeId} {x y : Operand} (ho : o.op = .binOp op t x y u) {i : I} (ht : trI P (.binOp op t x y u) = some i) {v : V}
    (hs : stepQ env m i = some v) : Does P w ι m a o v := by
  have hx := ev_VR he x
  have hy := ev_VR he y
  simp only [trI] at ht
  split at ht
  · -- whole numbers
    split at ht
    · rename_i hop
      injection ht with ht; subst ht
      simp only [stepQ, guard'] at hs
      split at hs
      · rename_i k p k' q hp hq
        rw [hp] at hx
        rw [hq] at hy
        split at hs
        · cases hs
        · rename_i hb
          rcases hop with rfl | rfl
          · injection hs with hs; subst hs
            refine ⟨_, .c (.int _ _), fun w' hw => ?_⟩
            simp [execOp, ho, hx.int, hy.int, run_eqGuard _ _ _ _ _ _ (.inl ⟨k, p, rfl⟩), binOp, Op.shift, hb]
          · injection hs with hs; subst hs
            refine ⟨_, .c (.int _ _), fun w' hw => ?_⟩
            simp [execOp, ho, hx.int, hy.int, run_eqGuard _ _ _ _ _ _ (.inl ⟨k, p, rfl⟩), binOp, Op.shift, hb]
      · cases hs
    injection ht with ht; subst ht
    simp only [stepQ, guard'] at hs
    generalize hvx : (trO x).ev env = vx at hx hs
    generalize hvy : (trO y).ev env = vy at hy hs
    unfold bin' at hs
    split at hs
    · rename_i k p k' q
      split at hs
      · rename_i hk
        subst hk
        obtain ⟨r, h1, h2⟩ := run_binI (P := P) (w := w) (ι := ι) (m := m) hs t
        refine ⟨r, h1, fun w' hw => ?_⟩
        simp [execOp, ho, hx.int, hy.int, run_eqGuard _ _ _ _ _ _ (.inl ⟨k, p, rfl⟩), h2 w']
      · cases hs
    · cases hs
  · -- strings
    injection ht with ht; subst ht
    simp only [stepQ, guard'] at hs
    split at hs
    · rename_i p q hp hq
      rw [hp] at hx
      rw [hq] at hy
      obtain ⟨r, h1, h2⟩ := run_binS (P := P) (w := w) (ι := ι) (m := m) hs t
      refine ⟨r, h1, fun w' hw => ?_⟩
      simp [execOp, ho, hx.str, hy.str, run_eqGuard _ _ _ _ _ _ (.inr (.inr ⟨p, rfl⟩)), h2 w']
    · cases hs
  · -- bools
    rename_i hb
    have hq := run_equalIn_bool' (P := P)
    split at ht
    · injection ht with ht; subst ht
      simp only [stepQ, guard'] at hs
      split at hs
      · rename_i p q hp hq'
        rw [hp] at hx
        rw [hq'] at hy
        injection hs with hs; subst hs
        refine ⟨.bool (p == q), .c (.bool _), fun w' hw => ?_⟩
        have hr : (binOp .eql t (.bool p) (.bool q)).run P w' = .ok (.bool (p == q)) w' := by
          simp [binOp, Op.equal, Op.maxDepth, hq w' 9999 t p q hb]
        simp [execOp, ho, hx.bool, hy.bool, run_eqGuard _ _ _ _ _ _ (.inr (.inl ⟨p, rfl⟩)), hr]
      · cases hs
    · injection ht with ht; subst ht
      simp only [stepQ, guard'] at hs
      split at hs
      · rename_i p q hp hq'
        rw [hp] at hx
        rw [hq'] at hy
        injection hs with hs; subst hs
        refine ⟨.bool (!(p == q)), .c (.bool _), fun w' hw => ?_⟩
        have hr : (binOp .neq t (.bool p) (.bool q)).run P w' = .ok (.bool (!(p == q))) w' := by
          simp [binOp, Op.equal, Op.maxDepth, hq w' 9999 t p q hb]
        simp [execOp, ho, hx.bool, hy.bool, run_eqGuard _ _ _ _ _ _ (.inr (.inl ⟨p, rfl⟩)), hr]
      · cases hs
    · cases ht
  · -- structs
    rename_i fields hu
    split at ht
    · cases ht
    · rename_i hg
      simp only [Option.bind_eq_some_iff] at ht
      obtain ⟨ks, hks, ht⟩ := ht
      exact does_eqa he ho hg hks (by simp [aggT, hu]) (by
        split at ht
        · injection ht with ht; exact .inl ⟨rfl, ht.symm⟩
        · injection ht with ht; exact .inr ⟨rfl, ht.symm⟩
        · cases ht) hs
  · -- arrays
    rename_i len elem hu
    split at ht
    · cases ht
    · rename_i hg
      simp only [Option.bind_eq_some_iff] at ht
      obtain ⟨ks, hks, ht⟩ := ht
      exact does_eqa he ho hg hks (by simp [aggT, hu]) (by
        split at ht
        · injection ht with ht; exact .inl ⟨rfl, ht.symm⟩
        · injection ht with ht; exact .inr ⟨rfl, ht.symm⟩
        · cases ht) hs
  · cases ht


theorem does_len (he : EnvR w ι m env a) {c : Call} (ho : o.op = .call c) (hc : c.callee = .builtin .len) {i : I} (ht : trI P (.call c) = some i) {v : V} (hs : stepQ env m i = some v) : Does P w ι m a o v := by
  simp only [trI, hc] at ht
  split at ht
  · rename_i x t hargs htys
    have ha : c.args = #[x] := by apply Array.ext'; simpa using hargs
    have hty : c.argTypes = #[t] := by apply Array.ext'; simpa using htys
    have hx := ev_VR he x
    have hexec : ∀ r w', (Builtin.len_ #[t] o.type #[a.eval x]).run P w' = .ok r w' → (execOp a.eval o).run P w' = .ok (.value r) w' := by
      intro r w' hr
      simp [execOp, ho, resolve, hc, ha, hty, invoke, builtin, hr]
    split at ht
    · rename_i e hu
      injection ht with ht; subst ht
      simp only [stepQ, guard'] at hs
      split at hs
      · rename_i hp
        rw [hp] at hx
        injection hs with hs; subst hs
        exact ⟨_, .c (.int _ _), fun w' _ => hexec _ w' (by rw [hx.nils]; simp [Builtin.len_, run_underlying hu, goInt])⟩
      · rename_i b off n tot hp
        rw [hp] at hx
        simp only [Option.bind_eq_some_iff, Option.some.injEq] at hs
        obtain ⟨blk, hl, rfl⟩ := hs
        obtain ⟨ad, cap, h1, _⟩ := hx.sl hl
        exact ⟨_, .c (.int _ _), fun w' _ => hexec _ w' (by rw [h1]; simp [Builtin.len_, run_underlying hu, goInt])⟩
      · cases hs
    · rename_i hu
      injection ht with ht; subst ht
      simp only [stepQ, guard'] at hs
      split at hs
      · rename_i s hp
        rw [hp] at hx
        injection hs with hs; subst hs
        exact ⟨_, .c (.int _ _), fun w' _ => hexec _ w' (by rw [hx.str]; simp [Builtin.len_, run_underlying hu, goInt])⟩
      · cases hs
    · rename_i n e hu
      injection ht with ht; subst ht
      simp only [stepQ, guard', Option.some.injEq, Opd.ev] at hs
      subst hs
      exact ⟨_, .c (.int _ _), fun w' _ => hexec _ w' (by simp [Builtin.len_, run_underlying hu, goInt])⟩
    · cases ht
  · cases ht

theorem run_sliceBound {x : Value} {k : IntKind} {i : Int} (hx : x = .int k i) {y : Nat} (h0 : 0 ≤ i) (h1 : i ≤ y) (code : BoundsCode) (w : World) : (Instr.sliceBound x y code).run P w = .ok i.toNat w := by
  subst hx
  simp [Instr.sliceBound, asIntOf, h0, h1]

/-- The bounds of a slice expression. -/
theorem run_bounds (he : EnvR w ι m env a) {lo hi : Option Operand} {len cap : Nat} {l h : Int} (hlo : lo' env (lo.map trO) = some l) (hhi : hi' env len (hi.map trO) = some h) (h0 : 0 ≤ l) (h1 : l ≤ h) (h2 : h ≤ cap) (sl : Bool) (w' : World) :
    (Instr.sliceBounds sl len cap (lo.map a.eval) (hi.map a.eval) none).run P w' = .ok (l.toNat, h.toNat, cap) w' := by
  have hH : ∀ (code : BoundsCode), (match hi.map a.eval with | some v => Instr.sliceBound v cap code | none => pure len : Sem Nat).run P w' = .ok h.toNat w' := by
    intro code
    cases hi with
    | none =>
      simp only [Option.map_none, hi', Option.some.injEq] at hhi
      simp [← hhi]
    | some x =>
      simp only [Option.map_some, hi'] at hhi
      obtain ⟨k, hk⟩ := int?_some hhi
      have hx := ev_VR he x
      rw [hk] at hx
      simp only [Option.map_some]
      exact run_sliceBound hx.int (by omega) h2 code w'
  have hL : ∀ (code : BoundsCode), (match lo.map a.eval with | some v => Instr.sliceBound v h.toNat code | none => pure 0 : Sem Nat).run P w' = .ok l.toNat w' := by
    intro code
    cases lo with
    | none =>
      simp only [Option.map_none, lo', Option.some.injEq] at hlo
      simp [← hlo]
    | some x =>
      simp only [Option.map_some, lo'] at hlo
      obtain ⟨k, hk⟩ := int?_some hlo
      have hx := ev_VR he x
      rw [hk] at hx
      simp only [Option.map_some]
      exact run_sliceBound hx.int h0 (by omega) code w'
  unfold Instr.sliceBounds
  cases hi with
  | none =>
    have hH' := hH .index
    simp only [Option.map_none] at hH' ⊢
    simp only [Sem.run_bind, Sem.run_pure, Result.andThen_ok]
    have hh : len = h.toNat := by simpa using hH'
    rw [hh]
    cases lo with
    | none =>
      have := hL .index
      simp only [Option.map_none] at this ⊢
      have hl : 0 = l.toNat := by simpa using this
      simp [← hl]
    | some y =>
      have := hL (if (none : Option Value).isSome then .slice3C else .sliceB)
      simp only [Option.map_some] at this
      simp at this
      simp [this]
  | some x =>
    have hH' := hH (if sl then .sliceAcap else .sliceAlen)
    simp only [Option.map_some] at hH' ⊢
    simp only [Sem.run_bind, Sem.run_pure, Result.andThen_ok, hH']
    cases lo with
    | none =>
      have := hL .index
      simp only [Option.map_none] at this ⊢
      have hl : 0 = l.toNat := by simpa using this
      simp [← hl]
    | some y =>
      have := hL (if (none : Option Value).isSome then .slice3C else .sliceB)
      simp only [Option.map_some] at this
      simp at this
      simp [this]

theorem does_slice (he : EnvR w ι m env a) {t : TypeId} {x : Operand} {lo hi mx : Option Operand} (ho : o.op = .slice t x lo hi mx) {i : I} (ht : trI P (.slice t x lo hi mx) = some i) {v : V} (hs : stepQ env m i = some v) : Does P w ι m a o v := by
  have hx := ev_VR he x
  simp only [trI] at ht
  split at ht
  · -- an array's
    rename_i n elem hu
    simp only [Option.map_eq_some_iff] at ht
    obtain ⟨esz, hsz, rfl⟩ := ht
    simp only [stepQ, guard'] at hs
    split at hs
    · rename_i b o' tot hp
      rw [hp] at hx
      simp only [Option.bind_eq_some_iff] at hs
      obtain ⟨blk, hl, hs⟩ := hs
      split at hs
      · rename_i hz
        simp only [Option.bind_eq_some_iff] at hs
        obtain ⟨l, hlo, h, hhi, hs⟩ := hs
        split at hs
        · rename_i hb
          obtain ⟨h0, h1, h2, h3⟩ := hb
          injection hs with hs; subst hs
          refine ⟨.slice (some (atA ι b (o' + l.toNat * esz))) (h.toNat - l.toNat) (n - l.toNat), .c (.sl rfl (live_some hl).1 (by rw [(live_some hl).2]; exact Nat.le_refl _) (hx.pal (live_some hl).1) fun _ => ⟨_, n - l.toNat, by congr 1; omega, fun _ => rfl, by omega, by unfold maxLen; omega, fun hq => by omega⟩), fun w' hw => ?_⟩
          have hne : ¬ (n = l.toNat) := by omega
          simp [execOp, ho, hx.ptr hl, Instr.sliceAt, run_underlying hu, Instr.sureAddr, run_bounds (P := P) he hlo hhi h0 h1 h2 false w', run_sizeOf hsz, hne, atA_add]
        · cases hs
      · cases hs
    · cases hs
  · -- a slice's
    rename_i elem hu
    simp only [Option.map_eq_some_iff] at ht
    obtain ⟨esz, hsz, rfl⟩ := ht
    simp only [stepQ, guard'] at hs
    split at hs
    · rename_i b o' len tot hp
      rw [hp] at hx
      simp only [Option.bind_eq_some_iff] at hs
      obtain ⟨blk, hl, hs⟩ := hs
      split at hs
      · rename_i hz
        simp only [Option.bind_eq_some_iff] at hs
        obtain ⟨l, hlo, h, hhi, hs⟩ := hs
        split at hs
        · rename_i hb
          obtain ⟨h0, h1, h2⟩ := hb
          injection hs with hs; subst hs
          obtain ⟨ad, cap, c1, c2, c3, c4, c5⟩ := hx.sl hl
          refine ⟨.slice (if cap = l.toNat then some ad else some (ad.add (l.toNat * esz))) (h.toNat - l.toNat) (cap - l.toNat), .c (.sl (by split <;> rfl) (live_some hl).1 (by rw [(live_some hl).2]; exact Nat.le_refl _) (hx.sal (live_some hl).1) fun _ => ⟨if cap = l.toNat then ad else ad.add (l.toNat * esz), cap - l.toNat, by split <;> (congr 1; omega), fun hq => ?_, by omega, by omega, fun hq hz' => ?_⟩), fun w' hw => ?_⟩
          · have hlen : 0 < len ∨ o' = 0 := by
              rcases hq with hq | hq
              · left; omega
              · right
                exact Nat.eq_zero_of_add_eq_zero_right hq
            rw [c2 hlen]
            split
            · rename_i hcl
              rcases hq with hq | hq
              · omega
              · have : l.toNat * esz = 0 := Nat.eq_zero_of_add_eq_zero_left hq
                rw [this, Nat.add_zero]
            · exact atA_add b o' _
          · have ho' : o' = 0 := Nat.eq_zero_of_add_eq_zero_right hz'
            have hle : l.toNat * esz = 0 := Nat.eq_zero_of_add_eq_zero_left hz'
            have hes : esz = blk.esz := by
              rcases hz with hz | hz
              · omega
              · exact hz
            have hl0 : l.toNat = 0 := by
              rcases Nat.mul_eq_zero.1 hle with h | h
              · exact h
              · omega
            rw [hl0, Nat.sub_zero]
            exact c5 hq ho'
          · have hb' := run_bounds (P := P) (cap := cap) he hlo hhi h0 h1 (by omega) true w'
            simp [execOp, ho, c1, Instr.sliceAt, Instr.slice, run_underlying hu, hb', run_sizeOf hsz]
        · cases hs
      · cases hs
    · rename_i hp
      rw [hp] at hx
      simp only [Option.bind_eq_some_iff] at hs
      obtain ⟨l, hlo, h, hhi, hs⟩ := hs
      split at hs
      · rename_i hb
        obtain ⟨rfl, rfl⟩ := hb
        injection hs with hs; subst hs
        have hb' := run_bounds (P := P) (cap := 0) he hlo hhi (by omega) (by omega) (by omega) true
        refine ⟨_, .c .nils, fun w' hw => ?_⟩
        have hb2 := hb' w'
        simp at hb2
        simp [execOp, ho, hx.nils, Instr.sliceAt, Instr.slice, run_underlying hu, hb2, run_sizeOf hsz]
      · cases hs
    · cases hs
  · cases ht
end
end Go.Proofs.Ytkoloapgeilbdaa
