/-
  The abstract machine is sound: make, slice literals, append.
-/
import Derived.Test.YtkoloapgeilbdaaL2
import Derived.Great.BuildSlice
set_option linter.unusedVariables false
set_option linter.unusedSimpArgs false
namespace Go.Proofs.Ytkoloapgeilbdaa
open Go.RowKit

section
variable {P : Program} {base : Nat} {w0 w : World} {ι0 ι : Nat → Nat × Nat} {m0 : List Blk} {a : Act} {o : Oper} {st : St}

theorem rep_length (n : Nat) (z : List C) : (rep n z).length = n * z.length := by
  induction n with
  | zero => simp [rep]
  | succ n ih =>
    have : rep (n + 1) z = z ++ rep n z := by simp [rep, List.replicate_succ]
    rw [this, List.length_append, ih, Nat.succ_mul, Nat.add_comm]
theorem rep_get (n : Nat) (z : List C) (j : Nat) (hj : j < n * z.length) : (rep n z)[j]? = z[j % z.length]? := by
  induction n generalizing j with
  | zero => simp at hj
  | succ n ih =>
    have : rep (n + 1) z = z ++ rep n z := by simp [rep, List.replicate_succ]
    rw [this]
    rcases Nat.lt_or_ge j z.length with h | h
    · rw [List.getElem?_append_left h, Nat.mod_eq_of_lt h]
    · rw [List.getElem?_append_right h, ih _ (by rw [Nat.succ_mul] at hj; omega)]
      congr 1
      rw [Nat.mod_eq_sub_mod h]
theorem rep_refs (n : Nat) (z : List C) : refsL (rep n z) ≤ refsL z := by
  rw [refsL_le]
  intro c hc
  unfold rep at hc
  simp only [List.mem_flatten, List.mem_replicate] at hc
  obtain ⟨l, ⟨_, rfl⟩, hc⟩ := hc
  exact refsL_le.1 (Nat.le_refl _) c hc

/-- Rows of zero values. -/
theorem rep_AR {z : List C} {rs : Array Value} {m : List Blk} (h : AR w ι m z rs.toList) (n : Nat) : AR w ι m (rep n z) (madeCells rs (n * rs.size)).toList := by
  have hz : z.length = rs.size := by rw [h.1]; simp
  refine ⟨by rw [rep_length]; simp [madeCells, hz], fun j c hj => ?_⟩
  have hlt : j < n * z.length := by rw [← rep_length]; exact (List.getElem?_eq_some_iff.1 hj).1
  rw [rep_get n z j hlt] at hj
  obtain ⟨r, h1, h2, h3⟩ := h.2 _ c hj
  refine ⟨r, ?_, h2, h3⟩
  have hlt' : j < n * rs.size := by rw [← hz]; exact hlt
  have hpos : 0 < rs.size := by
    rcases Nat.eq_zero_or_pos rs.size with h0 | h0
    · rw [h0] at hlt'; simp at hlt'
    · exact h0
  simp only [madeCells]
  rw [hz] at h1
  have h1' : rs[j % rs.size]? = some r := by simpa using h1
  have h4 : rs[j % rs.size]! = r := by
    rw [getElem!_def, h1']
  simp [hlt', h4]

theorem MR.new' (h : MR base w0 ι0 m0 w ι st.mem st.esc st.wr) {cs : List C} {rs : Array Value} (hr : AR w ι st.mem cs rs.toList) (ty : TypeId) (esz : Nat) {q : Nat} (hq : refsL cs ≤ q) :
    ∃ ι', ι' st.mem.length = (w.heap.size, 0) ∧ Evo w ι st.mem (w.alloc (.cells rs ty)) ι' (st.mem ++ [⟨cs, ty, esz, true⟩]) ∧
      MR base w0 ι0 m0 (w.alloc (.cells rs ty)) ι' (st.mem ++ [⟨cs, ty, esz, true⟩]) (mx st.esc q) st.wr := by
  obtain ⟨ι', h1, _, h2, h3⟩ := h.upd (w' := w.alloc (.cells rs ty)) (m' := st.mem ++ [⟨cs, ty, esz, true⟩]) (b := st.mem.length) (g := w.heap.size) (blk' := ⟨cs, ty, esz, true⟩) (rc := rs) (e' := mx st.esc q) (wr' := st.wr)
    (fun j => get_append_one j) rfl rfl rfl (by simp) (fun q hq => .inl (Below.heap_alloc w _ q hq)) (.inl rfl) rfl (.inr (Nat.le_refl _)) (heap_alloc_new w _) (by simp [hr.1])
    (fun w'' i' m'' he j c hj => by simpa using hr.evo' w'' i' m'' he j c hj) ⟨Nat.le_refl _, Nat.le_add_right_of_le h.evo.len⟩ (fun c hc => .inl (refsL_le.1 (Nat.le_trans hq (le_mx_r st.esc q)) c hc)) (le_mx_l _ _)
  exact ⟨ι', h1, h2, h3⟩

theorem sl_new {m : List Blk} {cs : List C} {ty : TypeId} {esz n : Nat} {w' : World} {ι' : Nat → Nat × Nat} {g : Nat} (h : ι' m.length = (g, 0)) (hn : cs.length = n * esz) (hm : n ≤ maxLen) (hs : sizeAt w' g = some (n * esz)) :
    VR w' ι' (m ++ [⟨cs, ty, esz, true⟩]) (.c (.sl m.length 0 n (n * esz))) (.slice (some ⟨g, 0, none⟩) n n) :=
  .c (.sl rfl (blk := ⟨cs, ty, esz, true⟩) (by simp) (by simp [hn]) ⟨.inl rfl⟩ fun _ => ⟨_, n, rfl, fun _ => by simp [atA, h], Nat.le_refl _, hm, fun _ _ => by rw [h]; exact hs⟩)

theorem does_mks (h : MR base w0 ι0 m0 w ι st.mem st.esc st.wr) (he : EnvR w ι st.mem st.env a) {t e : TypeId} {tm : Nat} (ho : o.op = .makeSlice t (.tmp tm) (.tmp tm)) (hu : P.underlying t = some (.slice e)) {i : TypeInfo} (hi : P.info? e = some i)
    {z : List C} (hz : zeroT P e = some z) (hsz : i.size = z.length) {l : Int} (hl : (get st.env tm).int? = some l) (h0 : 0 ≤ l) (hb : l * i.bytes ≤ 140737488355328) (hb0 : 0 < i.bytes) :
    DoesL P base w0 ι0 m0 w ι st.mem a o (.c (.sl st.mem.length 0 l.toNat (l.toNat * z.length))) { st with mem := st.mem ++ [⟨rep l.toNat z, e, z.length, true⟩], esc := mx st.esc (refsL z) } := by
  obtain ⟨v, hv, hr, ⟨i', hi', hiz⟩, _⟩ := zeroT_some hz
  rw [hi] at hi'
  injection hi' with hi'
  subst hi'
  obtain ⟨k, hk⟩ := int?_some hl
  have hx := he tm
  rw [hk] at hx
  have hx := hx.int
  have har := rep_AR (hr w ι st.mem) l.toNat
  have hzs : z.length = v.cells.size := by rw [(hr w ι st.mem).1]; simp
  obtain ⟨ι', h1, h2, h3⟩ := h.new' har e z.length (rep_refs l.toNat z)
  have hlb : l ≤ 140737488355328 := by
    have : l * 1 ≤ l * (i.bytes : Int) := Int.mul_le_mul_of_nonneg_left (by omega) h0
    omega
  refine ⟨_, ι', .slice (some ⟨w.heap.size, 0, none⟩) l.toNat l.toNat, .inl ?_, ?_, h3, h2⟩
  · have := run_make (P := P) w t e i v hu hi hiz k k l l h0 (Int.le_refl _) (by rw [Int.mul_comm]; omega) (by omega)
    rw [hsz, hzs] at this
    simp [execOp, ho, Act.eval, hx, this]
  · refine sl_new h1 (rep_length _ _) (by unfold maxLen; omega) ?_
    unfold sizeAt
    rw [heap_alloc_new]
    simp [madeCells, hzs]

/-! Literals. -/
theorem fill_AR {m : List Blk} (he : EnvR w ι m st.env a) (esz : Nat) : ∀ (ps : List (Nat × Operand)) (cs : List C) (rs : Array Value) (out : List C), AR w ι m cs rs.toList →
    layAll st.env cs (ps.map fun p => (p.1 * esz, esz, trO p.2)) = some out →
    ∃ rs', Instr.fill (fun i => some (i * esz, esz)) rs (ps.map fun p => (p.1, a.eval p.2)) = some rs' ∧ AR w ι m out rs'.toList
  | [], cs, rs, out, h, hl => by
    simp only [List.map_nil, layAll, Option.some.injEq] at hl
    subst hl
    exact ⟨rs, by simp [Instr.fill], h⟩
  | p :: ps, cs, rs, out, h, hl => by
    simp only [List.map_cons, layAll, Option.bind_eq_some_iff] at hl
    obtain ⟨new, hnew, hl⟩ := hl
    split at hl
    · rename_i hc
      obtain ⟨hc1, hc2⟩ := hc
      have hn := cells?_AR (ev_VR he p.2) hnew
      have hns : (a.eval p.2).cells.size = esz := by rw [← hc1, hn.1]; simp
      have hrs : rs.size = cs.length := by rw [h.1]; simp
      have hfold := fold_lay (a.eval p.2).cells.toList rs (p.1 * esz) 0 (by simp; omega)
      have har : AR w ι m (lay cs (p.1 * esz) new) (rs.toList.take (p.1 * esz) ++ (a.eval p.2).cells.toList ++ rs.toList.drop (p.1 * esz + (a.eval p.2).cells.toList.length)) := by
        obtain ⟨l1, l2⟩ := lay_rel (R := fun c r => CR w ι m c r ∧ r.oneCell' = true) (cs := cs) (new := new) (rc := rs.toList) (news := (a.eval p.2).cells.toList) (off := p.1 * esz) (by omega) (by simp; omega) hn.1 h.2 hn.2
        refine ⟨by rw [l1, h.1]; simp; omega, l2⟩
      have hfold' : ((a.eval p.2).cells.zipIdx.foldl (fun cs (c, j) => cs.setIfInBounds (p.1 * esz + j) c) rs).toList = rs.toList.take (p.1 * esz) ++ (a.eval p.2).cells.toList ++ rs.toList.drop (p.1 * esz + (a.eval p.2).cells.toList.length) := by
        rw [← Array.foldl_toList, Array.toList_zipIdx]
        simpa using hfold
      obtain ⟨rs', h1, h2⟩ := fill_AR he esz ps (lay cs (p.1 * esz) new) ((a.eval p.2).cells.zipIdx.foldl (fun cs (c, j) => cs.setIfInBounds (p.1 * esz + j) c) rs) out (by rw [hfold']; exact har) hl
      refine ⟨rs', ?_, h2⟩
      simp only [List.map_cons, Instr.fill]
      have hno : ((a.eval p.2).cells.size ≠ esz || decide (p.1 * esz + (a.eval p.2).cells.size > rs.size)) = false := by
        simp [hns]; omega
      simp only [ne_eq, hns, not_true_eq_false, decide_false, Bool.false_or, decide_eq_true_eq]
      rw [if_neg (by omega)]
      exact h1
    · cases hl

theorem does_lit (h : MR base w0 ι0 m0 w ι st.mem st.esc st.wr) (he : EnvR w ι st.mem st.env a) {t e : TypeId} {n : Nat} {parts : Array (Nat × Operand)} (ho : o.op = .buildSlice t n parts) (hu : P.underlying t = some (.slice e)) {i : TypeInfo} (hi : P.info? e = some i)
    {z : List C} (hz : zeroT P e = some z) (hsz : i.size = z.length) (hsmall : n * i.size ≤ 16777216) (hpos : 0 < i.size) {cs : List C} (hl : layAll st.env (rep n z) (parts.toList.map fun p => (p.1 * i.size, i.size, trO p.2)) = some cs) (hcs : cs.length = n * i.size) :
    DoesL P base w0 ι0 m0 w ι st.mem a o (.c (.sl st.mem.length 0 n (n * i.size))) { st with mem := st.mem ++ [⟨cs, e, i.size, true⟩], esc := mx st.esc (refsL cs) } := by
  obtain ⟨v, hv, hr, ⟨i', hi', hiz⟩, _⟩ := zeroT_some hz
  rw [hi] at hi'
  injection hi' with hi'
  subst hi'
  have hzs : z.length = v.cells.size := by rw [(hr w ι st.mem).1]; simp
  have har := rep_AR (hr w ι st.mem) n
  obtain ⟨rs', f1, f2⟩ := fill_AR he i.size parts.toList (rep n z) (madeCells v.cells (n * v.cells.size)) cs har hl
  obtain ⟨ι', h1, h2, h3⟩ := h.new' f2 e i.size (Nat.le_refl _)
  have hnb : n ≤ 16777216 := by
    have : n * 1 ≤ n * i.size := Nat.mul_le_mul_left _ hpos
    omega
  refine ⟨_, ι', .slice (some ⟨w.heap.size, 0, none⟩) n n, .inl ?_, ?_, h3, h2⟩
  · have hf : Instr.fill (fun j => some (j * i.size, i.size)) ((Array.range (n * i.size)).map (v.cells[· % v.cells.size]!)) (parts.map fun (j, x) => (j, a.eval x)).toList = some rs' := by
      rw [← f1]
      congr 1
      · rw [hsz, hzs]; rfl
      · simp
    have hrun : (Instr.buildSlice t n (parts.map fun (j, x) => (j, a.eval x))).run P w = .ok (.slice (some ⟨w.heap.size, 0, none⟩) n n) (w.alloc (.cells rs' e)) := by
      by_cases hn0 : n * i.size = 0
      · have hf' := hf
        rw [hn0] at hf'
        have hn : n = 0 := by
          rcases Nat.mul_eq_zero.1 hn0 with h | h
          · exact h
          · omega
        subst hn
        simp [Array.range_zero'] at hf'
        simp [Instr.buildSlice, run_underlying hu, sizeOf, typeInfo, hi, newRow, Array.range_zero', hf']
      · exact run_buildSlice w t e n _ rs' i v hu hi hiz (by omega) hn0 hf
    simp [execOp, ho, hrun]
  · refine sl_new h1 hcs (by unfold maxLen; omega) ?_
    unfold sizeAt
    rw [heap_alloc_new]
    have := f2.1
    simp at this ⊢
    omega
end
end Go.Proofs.Ytkoloapgeilbdaa
