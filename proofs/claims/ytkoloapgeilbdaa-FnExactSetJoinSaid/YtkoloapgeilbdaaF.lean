/-
  The abstract machine is sound: operations, regions, code, functions, calls.
-/
import Derived.Test.YtkoloapgeilbdaaE
set_option linter.unusedVariables false
set_option linter.unusedSimpArgs false
namespace Go.Proofs.Ytkoloapgeilbdaa
open Go.RowKit

section
variable {P : Program} {base nt : Nat} {w0 w w' : World} {ι0 ι ι' : Nat → Nat × Nat} {m0 m m' : List Blk} {a : Act} {o : Oper} {st : St} {e : Nat} {wr : Nat}
  {call : FuncId → List V → List Blk → Option Ret} {env : List (Nat × V)}

/-- What a function's abstract run says of its calls. -/
def RetOk (base : Nat) (w : World) (ι : Nat → Nat × Nat) (m : List Blk) (ret : Ret) (e : Ending) (w' : World) : Prop :=
  ∃ r ι', e = .returned r ∧ VR w' ι' ret.mem ret.v r ∧ MR base w ι m w' ι' ret.mem ret.esc ret.wr
/-- A function with a text of its own. -/
def FnOk (P : Program) (f : FuncId) : Prop := ∃ fn, P.funcs[f]? = some fn ∧ fn.body ≠ none ∧ fn.name ≠ "runtime.NumGoroutine"
def CallOk (P : Program) (call : FuncId → List V → List Blk → Option Ret) : Prop :=
  ∀ (f : FuncId) (args : List V) (m : List Blk) (ret : Ret), call f args m = some ret → FnOk P f ∧ ∀ (base : Nat) (w : World) (ι : Nat → Nat × Nat) (ras : List Value), Sim base w ι m → args.length = ras.length →
    (∀ (j : Nat) (v : V), args[j]? = some v → ∃ r, ras[j]? = some r ∧ VR w ι m v r) → Calls P f ras.toArray w (RetOk base w ι m ret)

theorem args_VR (he : EnvR w ι m env a) (l : List Operand) : ((l.map trO).map (·.ev env)).length = (l.map a.eval).length ∧ ∀ (j : Nat) (v : V), ((l.map trO).map (·.ev env))[j]? = some v → ∃ r, (l.map a.eval)[j]? = some r ∧ VR w ι m v r := by
  refine ⟨by simp, fun j v hj => ?_⟩
  simp only [List.getElem?_map, Option.map_eq_some_iff] at hj
  obtain ⟨y, ⟨x, hx, rfl⟩, rfl⟩ := hj
  exact ⟨a.eval x, by simp [hx], ev_VR he x⟩

/-- A call of a function of the program: the operation enters it. -/
theorem run_call {c : Call} {f : FuncId} (ho : o.op = .call c) {x : Operand} (hx : c.callee = .value x) (hv : a.eval x = .func (.func f) #[] #[]) (hb : FnOk P f) (w : World) :
    (execOp a.eval o).run P w = .ok (.enter f (c.args.map a.eval)) w := by
  obtain ⟨fn, h1, h2, h3⟩ := hb
  simp [execOp, ho, resolve, hx, hv, Deferred.ofValue, invoke, callFunc, h1, h2, h3]

/-- The same, of a function's literal that keeps numbers. -/
theorem run_callc {c : Call} {f : FuncId} (ho : o.op = .call c) {x : Operand} (hx : c.callee = .value x) {cs : Array Value} (hv : a.eval x = .func (.func f) #[] cs) (hb : FnOk P f) (w : World) :
    (execOp a.eval o).run P w = .ok (.enter f (c.args.map a.eval ++ cs)) w := by
  obtain ⟨fn, h1, h2, h3⟩ := hb
  simp [execOp, ho, resolve, hx, hv, Deferred.ofValue, invoke, callFunc, h1, h2, h3]
theorem args_VRc (he : EnvR w ι m env a) (l : List Operand) (ns : List (IntKind × Int)) : ((l.map trO).map (·.ev env) ++ capV ns).length = (l.map a.eval ++ ns.map fun p => Value.int p.1 p.2).length ∧
    ∀ (j : Nat) (v : V), ((l.map trO).map (·.ev env) ++ capV ns)[j]? = some v → ∃ r, (l.map a.eval ++ ns.map fun p => Value.int p.1 p.2)[j]? = some r ∧ VR w ι m v r := by
  obtain ⟨h1, h2⟩ := args_VR he l
  refine ⟨by simp [capV], fun j v hj => ?_⟩
  by_cases hl : j < l.length
  · rw [List.getElem?_append_left (by simpa using hl)] at hj ⊢
    exact h2 j v hj
  · rw [List.getElem?_append_right (by simpa using Nat.le_of_not_lt hl)] at hj ⊢
    simp only [List.length_map] at hj ⊢
    simp only [capV, List.getElem?_map, Option.map_eq_some_iff] at hj
    obtain ⟨p, hp, rfl⟩ := hj
    exact ⟨_, by rw [List.getElem?_map, hp]; rfl, .c (.int _ _)⟩

/-- What stands behind a call of one's own. -/
theorem MR.called {ret : Ret} (h : MR base w0 ι0 m0 w ι m e wr) (k : MR base w ι m w' ι' ret.mem ret.esc ret.wr) :
    MR base w0 ι0 m0 w' ι' ret.mem (mx e ret.esc) (mx wr (ret.wr - (m.length - m0.length))) where
  sim := k.sim
  evo := h.evo.trans k.evo
  fr := h.fr.trans h.fresh k.fr
  fresh := Fresh.trans h.fr.size h.fresh k.fresh
  refs0 := h.refs0
  bel := by
    have hl := h.evo.len
    rw [mx_eq]
    refine ⟨fun b hb => (k.bel.1 b (by omega)).trans (h.bel.1 b (by omega)), fun g hg hn => ?_⟩
    rw [← h.bel.2 g hg fun b blk hb hm ho => hn b blk (by omega) hm ho]
    refine k.bel.2 g (Nat.lt_of_lt_of_le hg h.fr.size) fun b blk hb hm ho he => ?_
    obtain ⟨b1, blk1, g1, g2, g3⟩ := h.fresh b blk hm ho (by omega)
    have hlt : b1 < m0.length - max wr (ret.wr - (m.length - m0.length)) := Classical.byContradiction fun hc => hn b1 blk1 (by omega) g1 g2 (by omega)
    have hm1 : m[b1]? = some blk1 := (h.bel.1 b1 (by omega)).trans g1
    obtain ⟨blk2, k1, k'⟩ := h.evo b1 blk1 g1
    obtain ⟨k2, k3, k4, k5⟩ := k' ⟨.inl g2⟩
    rw [hm1] at k1
    injection k1 with k1
    subst k1
    have k6 := (k5 rfl).1
    have := h.sim.inj b1 b blk1 blk hm1 hm g2 ho (by rw [k6]; exact g3)
    omega
  esc b blk c hb hc := by
    rw [mx_eq]
    rcases k.esc b blk c hb hc with h1 | ⟨blk0, h1, h2⟩
    · exact .inl (by omega)
    · rcases h.esc b blk0 c h1 h2 with h3 | h3
      · exact .inl (by omega)
      · exact .inr h3

theorem wp_call (hC : CallOk P call) (h : SR P base nt w0 ι0 m0 w ι st a) {c : Call} {f : FuncId} (ho : o.op = .call c) {x : Operand} (hx : c.callee = .value x) (hv : a.eval x = .func (.func f) #[] #[]) {ret : Ret}
    (hr : call f ((c.args.toList.map trO).map (·.ev st.env)) st.mem = some ret) {K : Act → World → Prop} {Q : Exit → Act → World → Prop}
    (hK : ∀ w' ι' r, VR w' ι' ret.mem ret.v r → MR base w0 ι0 m0 w' ι' ret.mem (mx st.esc ret.esc) (mx st.wr (ret.wr - (st.mem.length - m0.length))) → Evo w ι st.mem w' ι' ret.mem → K (a.put o.dst r) w') : o.wp P a w K Q := by
  obtain ⟨hf, hcall⟩ := hC f _ st.mem ret hr
  obtain ⟨h1, h2⟩ := args_VR h.env c.args.toList
  have hc := hcall base w ι (c.args.toList.map a.eval) h.mem.sim h1 h2
  unfold Oper.wp
  rw [run_call ho hx hv hf w, Oper.upon_enter]
  have ha : (c.args.toList.map a.eval).toArray = c.args.map a.eval := by apply Array.ext'; simp
  rw [← ha]
  refine hc.mono fun e w' ⟨r, ι', he, hv', hm⟩ => ?_
  subst he
  exact hK w' ι' r hv' (h.mem.called hm) hm.evo

theorem wp_callc (hC : CallOk P call) (h : SR P base nt w0 ι0 m0 w ι st a) {c : Call} {f : FuncId} (ho : o.op = .call c) {x : Operand} (hx : c.callee = .value x) {ns : List (IntKind × Int)} (hv : a.eval x = .func (.func f) #[] (ns.map fun p => Value.int p.1 p.2).toArray) {ret : Ret}
    (hr : call f ((c.args.toList.map trO).map (·.ev st.env) ++ capV ns) st.mem = some ret) {K : Act → World → Prop} {Q : Exit → Act → World → Prop}
    (hK : ∀ w' ι' r, VR w' ι' ret.mem ret.v r → MR base w0 ι0 m0 w' ι' ret.mem (mx st.esc ret.esc) (mx st.wr (ret.wr - (st.mem.length - m0.length))) → Evo w ι st.mem w' ι' ret.mem → K (a.put o.dst r) w') : o.wp P a w K Q := by
  obtain ⟨hf, hcall⟩ := hC f _ st.mem ret hr
  obtain ⟨h1, h2⟩ := args_VRc h.env c.args.toList ns
  have hc := hcall base w ι (c.args.toList.map a.eval ++ ns.map fun p => Value.int p.1 p.2) h.mem.sim h1 h2
  unfold Oper.wp
  rw [run_callc ho hx hv hf w, Oper.upon_enter]
  have ha : (c.args.toList.map a.eval ++ ns.map fun p => Value.int p.1 p.2).toArray = c.args.map a.eval ++ (ns.map fun p => Value.int p.1 p.2).toArray := by apply Array.ext'; simp
  rw [← ha]
  refine hc.mono fun e w' ⟨r, ι', he, hv', hm⟩ => ?_
  subst he
  exact hK w' ι' r hv' (h.mem.called hm) hm.evo

theorem args_VRp (he : EnvR w ι m env a) (l : List Operand) {c : C} {r : Value} (hc : CR w ι m c r) : ((l.map trO).map (·.ev env) ++ [V.c c]).length = (l.map a.eval ++ [r]).length ∧
    ∀ (j : Nat) (v : V), ((l.map trO).map (·.ev env) ++ [V.c c])[j]? = some v → ∃ r', (l.map a.eval ++ [r])[j]? = some r' ∧ VR w ι m v r' := by
  obtain ⟨h1, h2⟩ := args_VR he l
  refine ⟨by simp, fun j v hj => ?_⟩
  by_cases hl : j < l.length
  · rw [List.getElem?_append_left (by simpa using hl)] at hj ⊢
    exact h2 j v hj
  · rw [List.getElem?_append_right (by simpa using Nat.le_of_not_lt hl)] at hj ⊢
    simp only [List.length_map] at hj ⊢
    have h0 : j - l.length = 0 := by
      have := List.getElem?_eq_some_iff.1 hj
      obtain ⟨h, _⟩ := this
      simpa using h
    rw [h0] at hj ⊢
    simp only [List.getElem?_cons_zero, Option.some.injEq] at hj
    subst hj
    exact ⟨r, rfl, .c hc⟩
theorem wp_callp (hC : CallOk P call) (h : SR P base nt w0 ι0 m0 w ι st a) {c : Call} {f : FuncId} (ho : o.op = .call c) {x : Operand} (hx : c.callee = .value x) {cc : C} {rc : Value} (hcc : CR w ι st.mem cc rc) (hv : a.eval x = .func (.func f) #[] #[rc]) {ret : Ret}
    (hr : call f ((c.args.toList.map trO).map (·.ev st.env) ++ [.c cc]) st.mem = some ret) {K : Act → World → Prop} {Q : Exit → Act → World → Prop}
    (hK : ∀ w' ι' r, VR w' ι' ret.mem ret.v r → MR base w0 ι0 m0 w' ι' ret.mem (mx st.esc ret.esc) (mx st.wr (ret.wr - (st.mem.length - m0.length))) → Evo w ι st.mem w' ι' ret.mem → K (a.put o.dst r) w') : o.wp P a w K Q := by
  obtain ⟨hf, hcall⟩ := hC f _ st.mem ret hr
  obtain ⟨h1, h2⟩ := args_VRp h.env c.args.toList hcc
  have hc := hcall base w ι (c.args.toList.map a.eval ++ [rc]) h.mem.sim h1 h2
  unfold Oper.wp
  rw [run_callc ho hx hv hf w, Oper.upon_enter]
  have ha : (c.args.toList.map a.eval ++ [rc]).toArray = c.args.map a.eval ++ #[rc] := by apply Array.ext'; simp
  rw [← ha]
  refine hc.mono fun e w' ⟨r, ι', he, hv', hm⟩ => ?_
  subst he
  exact hK w' ι' r hv' (h.mem.called hm) hm.evo

theorem wp_doesL {v : V} {st' : St} (hd : DoesL P base w0 ι0 m0 w ι st.mem a o v st') {K : Act → World → Prop} {Q : Exit → Act → World → Prop}
    (hK : ∀ w' ι' r, VR w' ι' st'.mem v r → MR base w0 ι0 m0 w' ι' st'.mem st'.esc st'.wr → Evo w ι st.mem w' ι' st'.mem → K (a.put o.dst r) w') : o.wp P a w K Q := by
  obtain ⟨w', ι', r, h1, h2, h3, h4⟩ := hd
  unfold Oper.wp
  rcases h1 with h1 | ⟨h1, rfl⟩
  · rw [h1, Oper.upon_value]; exact hK w' ι' r h2 h3 h4
  · rw [h1, Oper.upon_skip]; exact hK w' ι' _ h2 h3 h4

theorem wp_does {v : V} (h : SR P base nt w0 ι0 m0 w ι st a) (hd : Does P w ι st.mem a o v) {K : Act → World → Prop} {Q : Exit → Act → World → Prop}
    (hK : ∀ w' ι' r, VR w' ι' st.mem v r → MR base w0 ι0 m0 w' ι' st.mem st.esc st.wr → Evo w ι st.mem w' ι' st.mem → K (a.put o.dst r) w') : o.wp P a w K Q := by
  obtain ⟨r, h1, h2⟩ := hd
  unfold Oper.wp
  rw [h2 w (Below.refl _ _), Oper.upon_value]
  exact hK w ι r h1 h.mem (Evo.refl _ _ _)

end
section
variable {P : Program} {op : Op}
theorem inv_alloc {z : List C} {ty : TypeId} (ht : trI P op = some (.alloc z ty)) : op = .alloc ty ∧ zeroT P ty = some z := by
  cases op <;> simp only [trI] at ht <;> (repeat' split at ht) <;> simp_all [Option.bind_eq_some_iff, Option.map_eq_some_iff]
  obtain ⟨_, h, rfl, rfl⟩ := ht
  exact ⟨rfl, h⟩
theorem inv_box {x : Opd} {ty : TypeId} (ht : trI P op = some (.box x ty)) : ∃ y, op = .box ty y ∧ x = trO y := by
  cases op <;> simp only [trI] at ht <;> (repeat' split at ht) <;> simp_all [Option.bind_eq_some_iff, Option.map_eq_some_iff]
theorem inv_store {x y : Opd} {n : Nat} (ht : trI P op = some (.store x y n)) : ∃ t x' y', op = .store t x' y' ∧ szT P t = some n ∧ x = trO x' ∧ y = trO y' := by
  cases op <;> simp only [trI] at ht <;> (repeat' split at ht) <;> simp_all [Option.bind_eq_some_iff, Option.map_eq_some_iff]
  obtain ⟨_, h, rfl, rfl, rfl⟩ := ht
  exact ⟨_, _, _, ⟨rfl, rfl, rfl⟩, h, rfl, rfl⟩
theorem inv_call {f : FuncId} {l : List Opd} (ht : trI P op = some (.call f l)) : ∃ c, op = .call c ∧ c.callee = .value (.func f) ∧ l = c.args.toList.map trO := by
  cases op <;> simp only [trI] at ht <;> (repeat' split at ht) <;> simp_all [Option.bind_eq_some_iff, Option.map_eq_some_iff]
theorem trO_t {x : Operand} {b : Nat} (h : trO x = .t b) : x = .tmp b := by
  cases x <;> simp_all [trO]
theorem inv_mks {x : Opd} {z : List C} {e : TypeId} {b : Nat} (ht : trI P op = some (.mks x z e b)) : ∃ t tm i, op = .makeSlice t (.tmp tm) (.tmp tm) ∧ x = .t tm ∧ P.underlying t = some (.slice e) ∧ P.info? e = some i ∧ zeroT P e = some z ∧ i.size = z.length ∧ b = i.bytes := by
  cases op <;> simp only [trI] at ht <;> (repeat' split at ht) <;> simp_all [Option.bind_eq_some_iff, Option.map_eq_some_iff]
  rename_i h1 h2 h3 _
  obtain ⟨i, g1, z', g2, g3, rfl, rfl, rfl, rfl⟩ := ht
  exact ⟨_, _, ⟨rfl, trO_t h2, trO_t h3⟩, rfl, h1, i, g1, g2, g3, rfl⟩
theorem inv_lit {n esz : Nat} {z : List C} {ps : List (Nat × Opd)} {e : TypeId} (ht : trI P op = some (.lit n esz z ps e)) : ∃ t parts i, op = .buildSlice t n parts ∧ P.underlying t = some (.slice e) ∧ P.info? e = some i ∧ zeroT P e = some z ∧ i.size = z.length ∧ esz = i.size ∧ ps = parts.toList.map fun p => (p.1, trO p.2) := by
  cases op <;> simp only [trI] at ht <;> (repeat' split at ht) <;> simp_all [Option.bind_eq_some_iff, Option.map_eq_some_iff]
  rename_i h1
  obtain ⟨i, g1, z', g2, g3, rfl, rfl, rfl, rfl, rfl⟩ := ht
  exact ⟨_, _, ⟨rfl, rfl, rfl⟩, h1, i, g1, g2, g3, g3.symm, rfl⟩
theorem inv_app {x y : Opd} {e : TypeId} {esz bytes : Nat} (ht : trI P op = some (.app x y e esz bytes)) : ∃ c t x' y' i, op = .call c ∧ c.callee = .builtin .append ∧ c.args = #[x', y'] ∧ c.argTypes = #[t, t] ∧ P.underlying t = some (.slice e) ∧ P.info? e = some i ∧ esz = i.size ∧ bytes = i.bytes ∧ x = trO x' ∧ y = trO y' ∧ ∃ z, zeroT P e = some z ∧ i.size = z.length := by
  cases op <;> simp only [trI] at ht <;> (repeat' split at ht) <;> simp_all [Option.bind_eq_some_iff, Option.map_eq_some_iff]
  rename_i h1 _ _ _ _ h2 _ _ _ _ h3 h4 h5
  obtain ⟨i, g1, z', g2, g3, rfl, rfl, rfl, rfl, rfl⟩ := ht
  exact ⟨_, _, _, by apply Array.ext'; simpa using h2, by apply Array.ext'; simpa using h3, h4, i, g1, g3.symm, rfl, rfl, rfl, _, g2, g3⟩
theorem one?_some {l : List C} {z : C} (h : one? l = some z) : l = [z] := by
  match l, h with
  | [z'], h => simp only [one?, Option.some.injEq] at h; rw [h]
theorem inv_clr {x : Opd} {z : C} (ht : trI P op = some (.clr x z)) : ∃ c x' t e, op = .call c ∧ c.callee = .builtin .clear ∧ c.args = #[x'] ∧ c.argTypes = #[t] ∧ P.underlying t = some (.slice e) ∧ zeroT P e = some [z] ∧ x = trO x' := by
  cases op <;> simp only [trI] at ht <;> (repeat' split at ht) <;> simp_all [Option.bind_eq_some_iff, Option.map_eq_some_iff]
  rename_i h1 h2 h3 _ _ h4
  obtain ⟨l, g2, g3, rfl⟩ := ht
  rw [one?_some g3] at g2
  exact ⟨_, by apply Array.ext'; simpa using h2, _, by apply Array.ext'; simpa using h3, _, h4, g2, rfl⟩
theorem inv_callv {x : Opd} {l : List Opd} (ht : trI P op = some (.callv x l)) : ∃ c t, op = .call c ∧ c.callee = .value (.tmp t) ∧ x = .t t ∧ l = c.args.toList.map trO := by
  cases op <;> simp only [trI] at ht <;> (repeat' split at ht) <;> simp_all [Option.bind_eq_some_iff, Option.map_eq_some_iff]
end

section
variable {P : Program} {base nt : Nat} {w0 w w' : World} {ι0 ι ι' : Nat → Nat × Nat} {m0 m m' : List Blk} {a : Act} {o : Oper} {st : St} {e : Nat} {wr : Nat}
  {call : FuncId → List V → List Blk → Option Ret} {env : List (Nat × V)}
/-- One operation, in the text's order. -/
theorem step_sound (hC : CallOk P call) (h : SR P base nt w0 ι0 m0 w ι st a) {i : I} (ht : trI P o.op = some i) {v : V} {st' : St} (hs : stepL call m0.length st i = some (v, st')) {K : Act → World → Prop} {Q : Exit → Act → World → Prop}
    (hK : ∀ w' ι' r, VR w' ι' st'.mem v r → MR base w0 ι0 m0 w' ι' st'.mem st'.esc st'.wr → Evo w ι st.mem w' ι' st'.mem → K (a.put o.dst r) w') : st'.env = st.env ∧ o.wp P a w K Q := by
  have quiet : (stepQ st.env st.mem i).bind (fun v => some (v, st)) = some (v, st') → st'.env = st.env ∧ o.wp P a w K Q := by
    intro hs
    simp only [Option.bind_eq_some_iff, Option.some.injEq, Prod.mk.injEq] at hs
    obtain ⟨v', hq, rfl, rfl⟩ := hs
    exact ⟨rfl, wp_does h (stepQ_sound h.mem.sim h.env ht hq) hK⟩
  cases i with
  | alloc z ty =>
    obtain ⟨hop, hz⟩ := inv_alloc ht
    simp only [stepL, guard', Option.some.injEq, Prod.mk.injEq] at hs
    obtain ⟨rfl, rfl⟩ := hs
    exact ⟨rfl, wp_doesL (does_alloc h.mem hop hz) hK⟩
  | box x ty =>
    obtain ⟨y, hop, rfl⟩ := inv_box ht
    simp only [stepL, guard', Option.bind_eq_some_iff, Option.some.injEq, Prod.mk.injEq] at hs
    obtain ⟨z, hz, rfl, rfl⟩ := hs
    exact ⟨rfl, wp_doesL (does_box h.mem h.env hop hz) hK⟩
  | store x y n =>
    obtain ⟨t, x', y', hop, hz, rfl, rfl⟩ := inv_store ht
    simp only [stepL, guard'] at hs
    split at hs
    · rename_i b off tot hp
      simp only [Option.bind_eq_some_iff] at hs
      obtain ⟨cs, hcs, hs⟩ := hs
      split at hs
      · rename_i hn
        simp only [Option.bind_eq_some_iff, Option.some.injEq, Prod.mk.injEq] at hs
        obtain ⟨st1, hw, rfl, rfl⟩ := hs
        have henv : st1.env = st.env := by
          unfold wrt guard' at hw
          simp only [Option.bind_eq_some_iff] at hw
          obtain ⟨blk, _, hw⟩ := hw
          split at hw
          · injection hw with hw; subst hw; rfl
          · cases hw
        exact ⟨henv, wp_doesL (does_store h.mem h.env hop hz hp hcs hn hw) hK⟩
      · cases hs
    · cases hs
  | mks x z e b =>
    obtain ⟨t, tm, i, hop, rfl, hu, hi, hz, hsz, rfl⟩ := inv_mks ht
    simp only [stepL, guard', Option.bind_eq_some_iff] at hs
    obtain ⟨l, hl, hs⟩ := hs
    split at hs
    · rename_i hc
      simp only [Option.some.injEq, Prod.mk.injEq] at hs
      obtain ⟨rfl, rfl⟩ := hs
      exact ⟨rfl, wp_doesL (does_mks h.mem h.env hop hu hi hz hsz hl hc.1 hc.2.1 hc.2.2.1) hK⟩
    · cases hs
  | lit n esz z ps e =>
    obtain ⟨t, parts, i, hop, hu, hi, hz, hsz, rfl, rfl⟩ := inv_lit ht
    simp only [stepL, guard'] at hs
    split at hs
    · rename_i hc
      simp only [Option.bind_eq_some_iff] at hs
      obtain ⟨cs, hcs, hs⟩ := hs
      split at hs
      · rename_i hl
        simp only [Option.some.injEq, Prod.mk.injEq] at hs
        obtain ⟨rfl, rfl⟩ := hs
        exact ⟨rfl, wp_doesL (does_lit h.mem h.env hop hu hi hz hsz hc.1 hc.2.2 (by simpa [List.map_map, Function.comp_def] using hcs) hl) hK⟩
      · cases hs
    · cases hs
  | app x y e esz bytes =>
    obtain ⟨c, t, x', y', i, hop, hc, ha, hat, hu, hi, rfl, rfl, rfl, rfl, z, hz, hsz⟩ := inv_app ht
    have henv : st'.env = st.env := by
      simp only [stepL, guard', Option.bind_eq_some_iff] at hs
      obtain ⟨p, _, hs⟩ := hs
      split at hs
      · split at hs
        · simp only [Option.some.injEq, Prod.mk.injEq] at hs; rw [← hs.2]
        · split at hs
          · simp only [Option.some.injEq, Prod.mk.injEq] at hs; rw [← hs.2]
          · cases hs
      · simp only [Option.bind_eq_some_iff] at hs
        obtain ⟨blk, _, hs⟩ := hs
        split at hs
        · simp only [Option.some.injEq, Prod.mk.injEq] at hs; rw [← hs.2]
        · cases hs
      · cases hs
    obtain ⟨v0, _, hr, ⟨i', hi', hiz⟩, _⟩ := zeroT_some hz
    rw [hi] at hi'
    injection hi' with hi'
    subst hi'
    have hzc : v0.cells.size = i.size := by rw [hsz, (hr w ι st.mem).1]; simp
    exact ⟨henv, wp_doesL (does_app h.mem h.env hop hc ha hat hu hi ⟨v0, hiz, hzc⟩ call hs) hK⟩
  | clr x z =>
    obtain ⟨c, x', t, e, hop, hc, ha, hat, hu, hz, rfl⟩ := inv_clr ht
    simp only [stepL] at hs
    split at hs
    · rename_i hp
      simp only [Option.some.injEq, Prod.mk.injEq] at hs
      obtain ⟨rfl, rfl⟩ := hs
      have hv := ev_VR h.env x'
      rw [hp] at hv
      refine ⟨rfl, wp_does h ⟨undef, .c .undef, fun w' hw => ?_⟩ hK⟩
      simp [execOp, hop, resolve, hc, ha, hat, invoke, builtin, hv.nils, Builtin.clear_, run_underlying hu, undef]
    · rename_i b off n tot hp
      simp only [Option.bind_eq_some_iff] at hs
      obtain ⟨blk, hl, hs⟩ := hs
      split at hs
      · rename_i h0
        simp only [Option.some.injEq, Prod.mk.injEq] at hs
        obtain ⟨rfl, rfl⟩ := hs
        have hv := ev_VR h.env x'
        rw [hp] at hv
        obtain ⟨ad, cap, x1, _⟩ := hv.sl hl
        subst h0
        refine ⟨rfl, wp_does h ⟨undef, .c .undef, fun w' hw => ?_⟩ hK⟩
        simp [execOp, hop, resolve, hc, ha, hat, invoke, builtin, x1, Builtin.clear_, run_underlying hu, undef]
      · rename_i h0
        simp only [Option.bind_eq_some_iff, Option.some.injEq, Prod.mk.injEq] at hs
        obtain ⟨st1, hw, rfl, rfl⟩ := hs
        have henv : st1.env = st.env := by
          unfold wrt guard' at hw
          simp only [Option.bind_eq_some_iff] at hw
          obtain ⟨blk, _, hw⟩ := hw
          split at hw
          · injection hw with hw; subst hw; rfl
          · cases hw
        exact ⟨henv, wp_doesL (does_clr h.mem h.env hop hc ha hat hu hz hp h0 hw) hK⟩
    · cases hs
  | call f l =>
    obtain ⟨c, hop, hc, rfl⟩ := inv_call ht
    simp only [stepL, guard', Option.bind_eq_some_iff, Option.some.injEq, Prod.mk.injEq] at hs
    obtain ⟨r, hr, rfl, rfl⟩ := hs
    exact ⟨rfl, wp_call hC h hop hc rfl hr hK⟩
  | callv x l =>
    obtain ⟨c, t, hop, hc, rfl, rfl⟩ := inv_callv ht
    simp only [stepL, guard'] at hs
    split at hs
    · rename_i f hp
      simp only [Option.bind_eq_some_iff, Option.some.injEq, Prod.mk.injEq] at hs
      obtain ⟨r, hr, rfl, rfl⟩ := hs
      have hv := h.env t
      have hp' : get st.env t = .c (.fn f) := hp
      rw [hp'] at hv
      exact ⟨rfl, wp_call hC h hop hc hv.fn hr hK⟩
    · rename_i f ns hp
      simp only [Option.bind_eq_some_iff, Option.some.injEq, Prod.mk.injEq] at hs
      obtain ⟨r, hr, rfl, rfl⟩ := hs
      have hv := h.env t
      have hp' : get st.env t = .c (.clo f ns) := hp
      rw [hp'] at hv
      exact ⟨rfl, wp_callc hC h hop hc hv.clo hr hK⟩
    · rename_i f b off tot hp
      simp only [Option.bind_eq_some_iff, Option.some.injEq, Prod.mk.injEq] at hs
      obtain ⟨r, hr, rfl, rfl⟩ := hs
      have hv := h.env t
      have hp' : get st.env t = .c (.clp f b off tot) := hp
      rw [hp'] at hv
      obtain ⟨rc, hv1, hv2⟩ := hv.clp
      exact ⟨rfl, wp_callp hC h hop hc hv2 hv1 hr hK⟩
    · cases hs
  | _ => exact quiet hs
end
end Go.Proofs.Ytkoloapgeilbdaa
