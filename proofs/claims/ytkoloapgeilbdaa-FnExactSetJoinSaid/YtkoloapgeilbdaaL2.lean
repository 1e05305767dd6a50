/-
  The abstract machine is sound: operations that make or write memory.
-/
import Derived.Test.YtkoloapgeilbdaaL
set_option linter.unusedVariables false
set_option linter.unusedSimpArgs false
namespace Go.Proofs.Ytkoloapgeilbdaa
open Go.RowKit

section
variable {P : Program} {base : Nat} {w0 w : World} {ι0 ι : Nat → Nat × Nat} {m0 : List Blk} {a : Act} {o : Oper} {st : St}

theorem AR.evo' {m : List Blk} {cs : List C} {rs : List Value} (h : AR w ι m cs rs) : ∀ (w'' : World) (i' : Nat → Nat × Nat) (m'' : List Blk), Evo w ι m w'' i' m'' → ∀ (j : Nat) (c : C), cs[j]? = some c → ∃ r, rs[j]? = some r ∧ CR w'' i' m'' c r ∧ r.oneCell' = true :=
  fun w'' i' m'' he => (h.evo he).2

/-- What an operation that makes or writes memory comes to. -/
def DoesL (P : Program) (base : Nat) (w0 : World) (ι0 : Nat → Nat × Nat) (m0 : List Blk) (w : World) (ι : Nat → Nat × Nat) (m : List Blk) (a : Act) (o : Oper) (v : V) (st' : St) : Prop :=
  ∃ w' ι' r, ((execOp a.eval o).run P w = .ok (.value r) w' ∨ ((execOp a.eval o).run P w = .ok .skip w' ∧ r = undef)) ∧ VR w' ι' st'.mem v r ∧ MR base w0 ι0 m0 w' ι' st'.mem st'.esc st'.wr ∧ Evo w ι m w' ι' st'.mem

theorem get_append_one {m : List Blk} {blk : Blk} (j : Nat) : (m ++ [blk])[j]? = if j = m.length then some blk else m[j]? := by
  rw [List.getElem?_append]
  split
  · rw [if_neg (by omega)]
  · rename_i h
    split
    · rename_i e; subst e; simp
    · rw [List.getElem?_eq_none (by simp; omega), List.getElem?_eq_none (by omega)]

/-- A new block. -/
theorem MR.new (h : MR base w0 ι0 m0 w ι st.mem st.esc st.wr) {cs : List C} {rs : List Value} (hr : AR w ι st.mem cs rs) (ty : TypeId) (esz : Nat) :
    ∃ ι', ι' st.mem.length = (w.heap.size, 0) ∧ Evo w ι st.mem (w.alloc (.cells rs.toArray ty)) ι' (st.mem ++ [⟨cs, ty, esz, true⟩]) ∧
      MR base w0 ι0 m0 (w.alloc (.cells rs.toArray ty)) ι' (st.mem ++ [⟨cs, ty, esz, true⟩]) (mx st.esc (refsL cs)) st.wr := by
  obtain ⟨ι', h1, _, h2, h3⟩ := h.upd (w' := w.alloc (.cells rs.toArray ty)) (m' := st.mem ++ [⟨cs, ty, esz, true⟩]) (b := st.mem.length) (g := w.heap.size) (blk' := ⟨cs, ty, esz, true⟩) (rc := rs.toArray) (e' := mx st.esc (refsL cs)) (wr' := st.wr)
    (fun j => get_append_one j) rfl rfl rfl (by simp) (fun q hq => .inl (Below.heap_alloc w _ q hq)) (.inl rfl) rfl (.inr (Nat.le_refl _)) (heap_alloc_new w _) (by simp [hr.1])
    (fun w'' i' m'' he j c hj => by simpa using hr.evo' w'' i' m'' he j c hj) ⟨Nat.le_refl _, Nat.le_add_right_of_le h.evo.len⟩ (fun c hc => .inl (refsL_le.1 (le_mx_r st.esc (refsL cs)) c hc)) (le_mx_l _ _)
  exact ⟨ι', h1, h2, h3⟩

theorem ptr_new {m : List Blk} {cs : List C} {ty : TypeId} {esz : Nat} {w' : World} {ι' : Nat → Nat × Nat} {g : Nat} (h : ι' m.length = (g, 0)) : VR w' ι' (m ++ [⟨cs, ty, esz, true⟩]) (.c (.ptr m.length 0 cs.length)) (.pointer (some ⟨g, 0, none⟩)) :=
  .c (.ptr rfl (blk := ⟨cs, ty, esz, true⟩) (by simp) (Nat.le_refl _) ⟨.inl rfl⟩ fun _ => by simp [atA, h])

theorem does_alloc (h : MR base w0 ι0 m0 w ι st.mem st.esc st.wr) {t : TypeId} (ho : o.op = .alloc t) {z : List C} (hz : zeroT P t = some z) :
    DoesL P base w0 ι0 m0 w ι st.mem a o (.c (.ptr st.mem.length 0 z.length)) { st with mem := st.mem ++ [⟨z, t, 0, true⟩], esc := mx st.esc (refsL z) } := by
  obtain ⟨v, hv, hr, _⟩ := zeroT_some hz
  obtain ⟨ι', h1, h2, h3⟩ := h.new (hr w ι st.mem) t 0
  refine ⟨_, ι', _, .inl ?_, ptr_new h1, h3, h2⟩
  simp [execOp, ho, Instr.alloc, hv, newVar, newRow]

theorem does_box (h : MR base w0 ι0 m0 w ι st.mem st.esc st.wr) (he : EnvR w ι st.mem st.env a) {t : TypeId} {x : Operand} (ho : o.op = .box t x) {z : List C} (hz : ((trO x).ev st.env).cells? = some z) :
    DoesL P base w0 ι0 m0 w ι st.mem a o (.c (.ptr st.mem.length 0 z.length)) { st with mem := st.mem ++ [⟨z, t, 0, true⟩], esc := mx st.esc (refsL z) } := by
  obtain ⟨ι', h1, h2, h3⟩ := h.new (cells?_AR (ev_VR he x) hz) t 0
  refine ⟨_, ι', _, .inl ?_, ptr_new h1, h3, h2⟩
  simp [execOp, ho, Instr.box, newVar, newRow]

theorem get_set_one {m : List Blk} {b : Nat} {blk : Blk} (hb : b < m.length) (j : Nat) : (m.set b blk)[j]? = if j = b then some blk else m[j]? := by
  rw [List.getElem?_set]
  by_cases h : b = j
  · subst h; simp [hb]
  · rw [if_neg h, if_neg (fun e => h e.symm)]

theorem lay_mem {cs new : List C} {off : Nat} {c : C} (h : c ∈ lay cs off new) : c ∈ cs ∨ c ∈ new := by
  unfold lay at h
  simp only [List.mem_append] at h
  rcases h with (h | h) | h
  · exact .inl (List.mem_of_mem_take h)
  · exact .inr h
  · exact .inl (List.mem_of_mem_drop h)

theorem does_store (h : MR base w0 ι0 m0 w ι st.mem st.esc st.wr) (he : EnvR w ι st.mem st.env a) {t : TypeId} {x y : Operand} (ho : o.op = .store t x y) {n : Nat} (hz : szT P t = some n)
    {b off tot : Nat} (hx : (trO x).ev st.env = .c (.ptr b off tot)) {cs : List C} (hy : ((trO y).ev st.env).cells? = some cs) (hn : cs.length = n) {st' : St} (hw : wrt st m0.length b off tot cs = some st') :
    DoesL P base w0 ι0 m0 w ι st.mem a o (.c .undef) st' := by
  unfold wrt guard' at hw
  simp only [Option.bind_eq_some_iff] at hw
  obtain ⟨blk, hl, hw⟩ := hw
  split at hw
  · rename_i hc
    obtain ⟨hown, hle⟩ := hc
    injection hw with hw
    subst hw
    obtain ⟨hb, ht⟩ := live_some hl
    have hp := (ev_VR he x)
    rw [hx] at hp
    have hp := hp.ptr hl
    have har := cells?_AR (ev_VR he y) hy
    obtain ⟨g1, g2, rc, g3, g4, g5⟩ := h.sim.own b blk hb hown
    have hblt : b < st.mem.length := (List.getElem?_eq_some_iff.1 hb).1
    have hat : atA ι b off = ⟨(ι b).1, off, none⟩ := by simp [atA, g2]
    have hlen : (a.eval y).cells.toList.length = cs.length := har.1.symm
    have hlen2 : (a.eval y).cells.size = cs.length := by rw [← hlen]; simp
    have hone : ∀ v ∈ (a.eval y).cells.toList, v.oneCell' = true := by
      intro v hv
      obtain ⟨j, hj⟩ := List.getElem?_of_mem hv
      have hj' : j < cs.length := by rw [← hlen]; exact (List.getElem?_eq_some_iff.1 hj).1
      obtain ⟨r, r1, _, r3⟩ := har.2 j cs[j] (by simp [hj'])
      rw [hj] at r1
      injection r1 with r1
      rw [r1]; exact r3
    have hst := run_storeCells_at (P := P) (ι b).1 off blk.ty (a.eval y).cells.toList 0 rc w g3 (by omega) hone
    simp only [Nat.add_zero] at hst
    have hrun : (execOp a.eval o).run P w = .ok .skip (w.setRow (ι b).1 (rc.toList.take off ++ (a.eval y).cells.toList ++ rc.toList.drop (off + (a.eval y).cells.toList.length)).toArray) := by
      have hsz : (a.eval y).cells.size = n := by rw [← hn, ← hlen]; simp
      have hst' := hst
      simp only [execOp, ho, hp, hat, Instr.storeAt, Instr.sureAddr, storeVar, Sem.run_bind, Sem.run_pure, Result.andThen_ok, run_sizeOf hz, Sem.run_ite]
      rw [if_neg (by omega)]
      rw [hst']
      simp
    obtain ⟨l1, l2⟩ := lay_rel (R := fun c r => CR w ι st.mem c r ∧ r.oneCell' = true) (cs := blk.cs) (new := cs) (rc := rc.toList) (news := (a.eval y).cells.toList) (off := off) hle (by simpa using g4) har.1
      (fun j c hj => by obtain ⟨r, r1, r2⟩ := g5 j c hj; exact ⟨r, by simpa using r1, r2⟩) har.2
    have hsame : sizeAt (w.setRow (ι b).1 (rc.toList.take off ++ (a.eval y).cells.toList ++ rc.toList.drop (off + (a.eval y).cells.toList.length)).toArray) (ι b).1 = sizeAt w (ι b).1 := by
      unfold sizeAt
      rw [setRow_heap w _ rc _ _ _ g3, g3]
      simp
      omega
    obtain ⟨ι', i1, _, i2, i3⟩ := h.upd (w' := w.setRow (ι b).1 (rc.toList.take off ++ (a.eval y).cells.toList ++ rc.toList.drop (off + (a.eval y).cells.toList.length)).toArray) (m' := st.mem.set b { blk with cs := lay blk.cs off cs }) (b := b) (g := (ι b).1)
      (blk' := { blk with cs := lay blk.cs off cs }) (e' := mx st.esc (refsL cs)) (wr' := mx st.wr (m0.length - b))
      (fun j => get_set_one hblt j) rfl rfl rfl (by simp) (fun q hq => by
        by_cases e : q = (ι b).1
        · exact .inr ⟨blk, hb, hown, e.symm⟩
        · exact .inl (setRow_other w _ q _ e))
      (.inr ⟨blk, hb, hown, rfl, by simp [l1], fun _ => ⟨rfl, hsame⟩⟩) hown (.inl ⟨rfl, hblt⟩) (setRow_heap w _ rc _ _ _ g3) (by simp only [l1]; simp; omega)
      (fun w'' i' m'' hev j c hj => by
        obtain ⟨r, r1, r2, r3⟩ := l2 j c hj
        exact ⟨r, by rw [← List.getElem?_toArray] at r1; exact r1, r2.evo hev, r3⟩)
      ⟨le_mx_l _ _, by rw [mx_eq]; omega⟩
      (fun c hc => by
        rcases lay_mem hc with hc | hc
        · exact .inr ⟨blk, hb, hc⟩
        · exact .inl (refsL_le.1 (le_mx_r st.esc (refsL cs)) c hc)) (le_mx_l _ _)
    exact ⟨_, ι', undef, .inr ⟨hrun, rfl⟩, .c .undef, i3, i2⟩
  · cases hw
end
end Go.Proofs.Ytkoloapgeilbdaa
